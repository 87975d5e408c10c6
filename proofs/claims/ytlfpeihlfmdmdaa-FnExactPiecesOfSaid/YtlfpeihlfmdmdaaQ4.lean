/- contracts of functions, each walked once -/
import Derived.Test.YtlfpeihlfmdmdaaQ3
namespace Go.Proofs.Ytlfpeihlfmdmdaa
open Go Go.RowKit
set_option maxRecDepth 100000
set_option maxHeartbeats 3200000
set_option linter.unusedVariables false
set_option linter.unusedSimpArgs false

/- laws.eqMesh -/
theorem c_laws_eqMesh (a : List Value) (A_a : MeshT) (b : List Value) (A_b : MeshT) (w : World) (hv_a : RMeshT w A_a a) (hv_b : RMeshT w A_b b) : Gives Try.prog 10 #[(.agg a.toArray), (.agg b.toArray)] w (fun v w' => v = (Bo (sameMesh A_a A_b))) := by
  obtain ⟨y1, y3, rfl, h2, h4⟩ := hv_a
  obtain ⟨y5, y7, rfl, h6, h8⟩ := hv_b
  have hs11 := h2; have hs11l := Sl.len h2; obtain ⟨p9, q10, rfl⟩ := Sl.shape h2
  have hs14 := h4; have hs14l := Sl.len h4; obtain ⟨p12, q13, rfl⟩ := Sl.shape h4
  have hs17 := h6; have hs17l := Sl.len h6; obtain ⟨p15, q16, rfl⟩ := Sl.shape h6
  have hs20 := h8; have hs20l := Sl.len h8; obtain ⟨p18, q19, rfl⟩ := Sl.shape h8
  refine enter [(.agg #[(.slice p9 A_a.places.length q10), (.slice p12 A_a.tris.length q13)]), (.agg #[(.slice p15 A_b.places.length q16), (.slice p18 A_b.tris.length q19)]), Ud, Ud, Ud, Ud, Ud, Ud, Ud, Ud, Ud, Ud, Ud, Ud, Ud, Ud, Ud] Try.func10 rfl Try.ntmps10 rfl ?_
  refine wp_seq_k fun K21 hK21 => ?_
  refine wp_region_lit ?_
  refine seqd rfl rfl (does_box (u := (.agg #[(.slice p9 A_a.places.length q10), (.slice p12 A_a.tris.length q13)])) (ev rfl)) ?_; rintro _ w26 ⟨b22, rfl, hb23, hB24, E25⟩
  have g27 : w.heap.size ≤ b22 := Nat.le_trans (Below.size (Ext.refl w)) hb23
  change Blk _ _ [(.slice p9 A_a.places.length q10), (.slice p12 A_a.tris.length q13)] at hB24
  have X28 := Ext.gr (Ext.refl w) E25
  show wpList _ _ _ _ (fr [(.agg #[(.slice p9 A_a.places.length q10), (.slice p12 A_a.tris.length q13)]), (.agg #[(.slice p15 A_b.places.length q16), (.slice p18 A_b.tris.length q19)]), (Pt b22 0), Ud, Ud, Ud, Ud, Ud, Ud, Ud, Ud, Ud, Ud, Ud, Ud, Ud, Ud]) _
  refine seqd rfl rfl (does_box (u := (.agg #[(.slice p15 A_b.places.length q16), (.slice p18 A_b.tris.length q19)])) (ev rfl)) ?_; rintro _ w33 ⟨b29, rfl, hb30, hB31, E32⟩
  have n34 : b22 < b29 := Nat.lt_of_lt_of_le (Blk.lt hB24) hb30
  have g35 : w.heap.size ≤ b29 := Nat.le_trans (Below.size X28) hb30
  change Blk _ _ [(.slice p15 A_b.places.length q16), (.slice p18 A_b.tris.length q19)] at hB31
  have X36 := Ext.gr X28 E32
  show wpList _ _ _ _ (fr [(.agg #[(.slice p9 A_a.places.length q10), (.slice p12 A_a.tris.length q13)]), (.agg #[(.slice p15 A_b.places.length q16), (.slice p18 A_b.tris.length q19)]), (Pt b22 0), (Pt b29 0), Ud, Ud, Ud, Ud, Ud, Ud, Ud, Ud, Ud, Ud, Ud, Ud, Ud]) _
  refine q_is (l' := [(.agg #[(.slice p9 A_a.places.length q10), (.slice p12 A_a.tris.length q13)]), (.agg #[(.slice p15 A_b.places.length q16), (.slice p18 A_b.tris.length q19)]), (Pt b22 0), (Pt b29 0), (Bo false), Ud, Ud, Ud, Ud, Ud, Ud, Ud, Ud, Ud, Ud, Ud, Ud]) rfl rfl (does_assign (u := (Bo false)) (ev rfl)) rfl ?_
  refine wpList_nil (hK21 _ _ ?_)
  refine wp_seq_k fun K37 hK37 => ?_
  refine wp_seq_k fun K38 hK38 => ?_
  refine wp_region_lit ?_
  refine q_is (l' := [(.agg #[(.slice p9 A_a.places.length q10), (.slice p12 A_a.tris.length q13)]), (.agg #[(.slice p15 A_b.places.length q16), (.slice p18 A_b.tris.length q19)]), (Pt b22 0), (Pt b29 0), (Bo false), (Pt b22 0), Ud, Ud, Ud, Ud, Ud, Ud, Ud, Ud, Ud, Ud, Ud]) rfl rfl (does_fieldAddr (ev rfl) fa32_0) rfl ?_
  refine q_is (l' := [(.agg #[(.slice p9 A_a.places.length q10), (.slice p12 A_a.tris.length q13)]), (.agg #[(.slice p15 A_b.places.length q16), (.slice p18 A_b.tris.length q19)]), (Pt b22 0), (Pt b29 0), (Bo false), (Pt b22 0), (.slice p9 A_a.places.length q10), Ud, Ud, Ud, Ud, Ud, Ud, Ud, Ud, Ud, Ud]) rfl rfl (does_load (u := (.slice p9 A_a.places.length q10)) (ev rfl) Try.isAgg30 (Cells.at (Blk.cells (hB24.ext E32)) 0 rfl)) rfl ?_
  refine q_is (l' := [(.agg #[(.slice p9 A_a.places.length q10), (.slice p12 A_a.tris.length q13)]), (.agg #[(.slice p15 A_b.places.length q16), (.slice p18 A_b.tris.length q19)]), (Pt b22 0), (Pt b29 0), (Bo false), (Pt b22 0), (.slice p9 A_a.places.length q10), (Pt b29 0), Ud, Ud, Ud, Ud, Ud, Ud, Ud, Ud, Ud]) rfl rfl (does_fieldAddr (ev rfl) fa32_0) rfl ?_
  refine q_is (l' := [(.agg #[(.slice p9 A_a.places.length q10), (.slice p12 A_a.tris.length q13)]), (.agg #[(.slice p15 A_b.places.length q16), (.slice p18 A_b.tris.length q19)]), (Pt b22 0), (Pt b29 0), (Bo false), (Pt b22 0), (.slice p9 A_a.places.length q10), (Pt b29 0), (.slice p15 A_b.places.length q16), Ud, Ud, Ud, Ud, Ud, Ud, Ud, Ud]) rfl rfl (does_load (u := (.slice p15 A_b.places.length q16)) (ev rfl) Try.isAgg30 (Cells.at (Blk.cells hB31) 0 rfl)) rfl ?_
  refine seqd rfl rfl (does_call (args := #[(.slice p9 A_a.places.length q10), (.slice p15 A_b.places.length q16)]) cal30 (evs rfl) (c_laws_eqVectorS (.slice p9 A_a.places.length q10) A_a.places (.slice p15 A_b.places.length q16) A_b.places _ (Sl.ext hs11 RV3.mono X36) (Sl.ext hs17 RV3.mono X36))) ?_; rintro _ w40 ⟨E39, rfl⟩
  have X41 := Ext.gr X36 E39
  show wpList _ _ _ _ (fr [(.agg #[(.slice p9 A_a.places.length q10), (.slice p12 A_a.tris.length q13)]), (.agg #[(.slice p15 A_b.places.length q16), (.slice p18 A_b.tris.length q19)]), (Pt b22 0), (Pt b29 0), (Bo false), (Pt b22 0), (.slice p9 A_a.places.length q10), (Pt b29 0), (.slice p15 A_b.places.length q16), (Bo (sameX sameV A_a.places A_b.places)), Ud, Ud, Ud, Ud, Ud, Ud, Ud]) _
  refine q_is (l' := [(.agg #[(.slice p9 A_a.places.length q10), (.slice p12 A_a.tris.length q13)]), (.agg #[(.slice p15 A_b.places.length q16), (.slice p18 A_b.tris.length q19)]), (Pt b22 0), (Pt b29 0), (Bo false), (Pt b22 0), (.slice p9 A_a.places.length q10), (Pt b29 0), (.slice p15 A_b.places.length q16), (Bo (sameX sameV A_a.places A_b.places)), (Bo (!(sameX sameV A_a.places A_b.places))), Ud, Ud, Ud, Ud, Ud, Ud]) rfl rfl (does_not (ev rfl)) rfl ?_
  refine wpList_nil (hK38 _ _ ?_)
  refine wp_cond_split (t := !(sameX sameV A_a.places A_b.places)) (ev rfl) (fun c42 => ?_) (fun c42 => ?_)
  · rw [Bool.not_eq_true'] at c42
    have c42' := c42
    refine wp_seq_k fun K43 hK43 => ?_
    refine wp_region_lit ?_
    refine q_is (l' := [(.agg #[(.slice p9 A_a.places.length q10), (.slice p12 A_a.tris.length q13)]), (.agg #[(.slice p15 A_b.places.length q16), (.slice p18 A_b.tris.length q19)]), (Pt b22 0), (Pt b29 0), (Bo false), (Pt b22 0), (.slice p9 A_a.places.length q10), (Pt b29 0), (.slice p15 A_b.places.length q16), (Bo (sameX sameV A_a.places A_b.places)), (Bo (!(sameX sameV A_a.places A_b.places))), Ud, Ud, Ud, Ud, Ud, Ud]) rfl rfl (does_assign (u := (Bo false)) (ev rfl)) rfl ?_
    refine wpList_nil (hK43 _ _ ?_)
    refine wp_ret ?_
    dsimp only [Exit.then, Exit.inBlock]
    refine ret_val (v := (Bo false)) (res_T rfl (slot rfl)) X41 ?_
    have x44 : (sameMesh A_a A_b) = false := by first | with_reducible rfl | (simp only [sameMesh, c42]; done) | (simp [sameMesh, c42]; done) | (revert c42; simp +contextual [sameMesh]; done) | (rcases c42' with hh | hh <;> simp only [hh, sameMesh, c42]; done) | (rcases c42' with hh | hh <;> simp_all [sameMesh]; done) | (rcases c42' with hh | hh | hh <;> simp_all [sameMesh]; done) | (rcases c42' with hh | hh | hh | hh <;> simp_all [sameMesh]; done) | (simp_all [sameMesh]; done) | rfl
    exact (by first | with_reducible rfl | rw [x44] | rfl)
  rw [Bool.not_eq_false'] at c42
  have c42' := c42
  refine wp_skip (hK37 _ _ ?_)
  refine wp_seq_k fun K45 hK45 => ?_
  refine wp_seq_k fun K46 hK46 => ?_
  refine wp_region_lit ?_
  refine q_is (l' := [(.agg #[(.slice p9 A_a.places.length q10), (.slice p12 A_a.tris.length q13)]), (.agg #[(.slice p15 A_b.places.length q16), (.slice p18 A_b.tris.length q19)]), (Pt b22 0), (Pt b29 0), (Bo false), (Pt b22 0), (.slice p9 A_a.places.length q10), (Pt b29 0), (.slice p15 A_b.places.length q16), (Bo (sameX sameV A_a.places A_b.places)), (Bo (!(sameX sameV A_a.places A_b.places))), (Pt b22 1), Ud, Ud, Ud, Ud, Ud]) rfl rfl (does_fieldAddr (ev rfl) fa32_1) rfl ?_
  refine q_is (l' := [(.agg #[(.slice p9 A_a.places.length q10), (.slice p12 A_a.tris.length q13)]), (.agg #[(.slice p15 A_b.places.length q16), (.slice p18 A_b.tris.length q19)]), (Pt b22 0), (Pt b29 0), (Bo false), (Pt b22 0), (.slice p9 A_a.places.length q10), (Pt b29 0), (.slice p15 A_b.places.length q16), (Bo (sameX sameV A_a.places A_b.places)), (Bo (!(sameX sameV A_a.places A_b.places))), (Pt b22 1), (.slice p12 A_a.tris.length q13), Ud, Ud, Ud, Ud]) rfl rfl (does_load (u := (.slice p12 A_a.tris.length q13)) (ev rfl) Try.isAgg23 (Cells.at (Blk.cells ((hB24.ext E32).ext E39)) 1 rfl)) rfl ?_
  refine q_is (l' := [(.agg #[(.slice p9 A_a.places.length q10), (.slice p12 A_a.tris.length q13)]), (.agg #[(.slice p15 A_b.places.length q16), (.slice p18 A_b.tris.length q19)]), (Pt b22 0), (Pt b29 0), (Bo false), (Pt b22 0), (.slice p9 A_a.places.length q10), (Pt b29 0), (.slice p15 A_b.places.length q16), (Bo (sameX sameV A_a.places A_b.places)), (Bo (!(sameX sameV A_a.places A_b.places))), (Pt b22 1), (.slice p12 A_a.tris.length q13), (Pt b29 1), Ud, Ud, Ud]) rfl rfl (does_fieldAddr (ev rfl) fa32_1) rfl ?_
  refine q_is (l' := [(.agg #[(.slice p9 A_a.places.length q10), (.slice p12 A_a.tris.length q13)]), (.agg #[(.slice p15 A_b.places.length q16), (.slice p18 A_b.tris.length q19)]), (Pt b22 0), (Pt b29 0), (Bo false), (Pt b22 0), (.slice p9 A_a.places.length q10), (Pt b29 0), (.slice p15 A_b.places.length q16), (Bo (sameX sameV A_a.places A_b.places)), (Bo (!(sameX sameV A_a.places A_b.places))), (Pt b22 1), (.slice p12 A_a.tris.length q13), (Pt b29 1), (.slice p18 A_b.tris.length q19), Ud, Ud]) rfl rfl (does_load (u := (.slice p18 A_b.tris.length q19)) (ev rfl) Try.isAgg23 (Cells.at (Blk.cells (hB31.ext E39)) 1 rfl)) rfl ?_
  refine seqd rfl rfl (does_call (args := #[(.slice p12 A_a.tris.length q13), (.slice p18 A_b.tris.length q19)]) cal31 (evs rfl) (c_laws_eqInt64SS (.slice p12 A_a.tris.length q13) A_a.tris (.slice p18 A_b.tris.length q19) A_b.tris _ (Sl.ext hs14 (RS.mono RI.mono) X41) (Sl.ext hs20 (RS.mono RI.mono) X41))) ?_; rintro _ w48 ⟨E47, rfl⟩
  have X49 := Ext.gr X41 E47
  show wpList _ _ _ _ (fr [(.agg #[(.slice p9 A_a.places.length q10), (.slice p12 A_a.tris.length q13)]), (.agg #[(.slice p15 A_b.places.length q16), (.slice p18 A_b.tris.length q19)]), (Pt b22 0), (Pt b29 0), (Bo false), (Pt b22 0), (.slice p9 A_a.places.length q10), (Pt b29 0), (.slice p15 A_b.places.length q16), (Bo (sameX sameV A_a.places A_b.places)), (Bo (!(sameX sameV A_a.places A_b.places))), (Pt b22 1), (.slice p12 A_a.tris.length q13), (Pt b29 1), (.slice p18 A_b.tris.length q19), (Bo (sameX eqIs A_a.tris A_b.tris)), Ud]) _
  refine q_is (l' := [(.agg #[(.slice p9 A_a.places.length q10), (.slice p12 A_a.tris.length q13)]), (.agg #[(.slice p15 A_b.places.length q16), (.slice p18 A_b.tris.length q19)]), (Pt b22 0), (Pt b29 0), (Bo false), (Pt b22 0), (.slice p9 A_a.places.length q10), (Pt b29 0), (.slice p15 A_b.places.length q16), (Bo (sameX sameV A_a.places A_b.places)), (Bo (!(sameX sameV A_a.places A_b.places))), (Pt b22 1), (.slice p12 A_a.tris.length q13), (Pt b29 1), (.slice p18 A_b.tris.length q19), (Bo (sameX eqIs A_a.tris A_b.tris)), (Bo (!(sameX eqIs A_a.tris A_b.tris)))]) rfl rfl (does_not (ev rfl)) rfl ?_
  refine wpList_nil (hK46 _ _ ?_)
  refine wp_cond_split (t := !(sameX eqIs A_a.tris A_b.tris)) (ev rfl) (fun c50 => ?_) (fun c50 => ?_)
  · rw [Bool.not_eq_true'] at c50
    have c50' := c50
    refine wp_seq_k fun K51 hK51 => ?_
    refine wp_region_lit ?_
    refine q_is (l' := [(.agg #[(.slice p9 A_a.places.length q10), (.slice p12 A_a.tris.length q13)]), (.agg #[(.slice p15 A_b.places.length q16), (.slice p18 A_b.tris.length q19)]), (Pt b22 0), (Pt b29 0), (Bo false), (Pt b22 0), (.slice p9 A_a.places.length q10), (Pt b29 0), (.slice p15 A_b.places.length q16), (Bo (sameX sameV A_a.places A_b.places)), (Bo (!(sameX sameV A_a.places A_b.places))), (Pt b22 1), (.slice p12 A_a.tris.length q13), (Pt b29 1), (.slice p18 A_b.tris.length q19), (Bo (sameX eqIs A_a.tris A_b.tris)), (Bo (!(sameX eqIs A_a.tris A_b.tris)))]) rfl rfl (does_assign (u := (Bo false)) (ev rfl)) rfl ?_
    refine wpList_nil (hK51 _ _ ?_)
    refine wp_ret ?_
    dsimp only [Exit.then, Exit.inBlock]
    refine ret_val (v := (Bo false)) (res_T rfl (slot rfl)) X49 ?_
    have x52 : (sameMesh A_a A_b) = false := by first | with_reducible rfl | (simp only [sameMesh, c42, c50]; done) | (simp [sameMesh, c42, c50]; done) | (revert c42 c50; simp +contextual [sameMesh]; done) | (rcases c42' with hh | hh <;> simp only [hh, sameMesh, c42, c50]; done) | (rcases c50' with hh | hh <;> simp only [hh, sameMesh, c42, c50]; done) | (rcases c50' with hh | hh <;> simp_all [sameMesh]; done) | (rcases c50' with hh | hh | hh <;> simp_all [sameMesh]; done) | (rcases c50' with hh | hh | hh | hh <;> simp_all [sameMesh]; done) | (simp_all [sameMesh]; done) | rfl
    exact (by first | with_reducible rfl | rw [x52] | rfl)
  rw [Bool.not_eq_false'] at c50
  have c50' := c50
  refine wp_skip (hK45 _ _ ?_)
  refine wp_seq_k fun K53 hK53 => ?_
  refine wp_region_lit ?_
  refine q_is (l' := [(.agg #[(.slice p9 A_a.places.length q10), (.slice p12 A_a.tris.length q13)]), (.agg #[(.slice p15 A_b.places.length q16), (.slice p18 A_b.tris.length q19)]), (Pt b22 0), (Pt b29 0), (Bo true), (Pt b22 0), (.slice p9 A_a.places.length q10), (Pt b29 0), (.slice p15 A_b.places.length q16), (Bo (sameX sameV A_a.places A_b.places)), (Bo (!(sameX sameV A_a.places A_b.places))), (Pt b22 1), (.slice p12 A_a.tris.length q13), (Pt b29 1), (.slice p18 A_b.tris.length q19), (Bo (sameX eqIs A_a.tris A_b.tris)), (Bo (!(sameX eqIs A_a.tris A_b.tris)))]) rfl rfl (does_assign (u := (Bo true)) (ev rfl)) rfl ?_
  refine wpList_nil (hK53 _ _ ?_)
  refine wp_ret ?_
  refine ret_val (v := (Bo true)) (res_T rfl (slot rfl)) X49 ?_
  have x54 : (sameMesh A_a A_b) = true := by first | with_reducible rfl | (simp only [sameMesh, c42, c50]; done) | (simp [sameMesh, c42, c50]; done) | (revert c42 c50; simp +contextual [sameMesh]; done) | (rcases c42' with hh | hh <;> simp only [hh, sameMesh, c42, c50]; done) | (rcases c50' with hh | hh <;> simp only [hh, sameMesh, c42, c50]; done) | (rcases c50' with hh | hh <;> simp_all [sameMesh]; done) | (rcases c50' with hh | hh | hh <;> simp_all [sameMesh]; done) | (rcases c50' with hh | hh | hh | hh <;> simp_all [sameMesh]; done) | (simp_all [sameMesh]; done) | rfl
  exact (by first | with_reducible rfl | rw [x54] | rfl)

theorem c_laws_markVectorS_nil (k : Int) (w : World) : Gives Try.prog 32 #[.slice none 0 0, Iv k] w (fun v _ => v = Iv k) := by
  refine enter [(.slice none 0 0), (Iv k), Ud, Ud, Ud, Ud, Ud, Ud, Ud, Ud, Ud, Ud, Ud, Ud, Ud, Ud, Ud, Ud, Ud, Ud, Ud, Ud, Ud, Ud, Ud, Ud, Ud, Ud, Ud, Ud, Ud, Ud, Ud, Ud, Ud, Ud, Ud] Try.func32 rfl Try.ntmps32 rfl ?_
  refine wp_seq_k fun K1 hK1 => ?_
  refine wp_region_lit ?_
  refine q_is rfl rfl (does_assign (u := (Iv 0)) (ev rfl)) (by dsimp only [List.set]; try rfl) ?_
  refine wpList_nil (hK1 _ _ ?_)
  refine wp_seq_k fun K2 hK2 => ?_
  refine wp_seq_k fun K3 hK3 => ?_
  refine wp_region_lit ?_
  refine q_is rfl rfl (does_assign (u := (Iv 0)) (ev rfl)) (by dsimp only [List.set]; try rfl) ?_
  refine wpList_nil (hK3 _ _ ?_)
  refine wp_block ?_
  refine loop_unroll 1 ?_
  refine un_step ?_
  refine wp_seq_k fun K4 hK4 => ?_
  refine wp_seq_k fun K5 hK5 => ?_
  refine wp_region_lit ?_
  refine q_is rfl rfl (does_move (u := (Iv 0)) (ev rfl)) (by dsimp only [List.set]; try rfl) ?_
  refine q_is rfl rfl (does_move (u := (.slice none 0 0)) (ev rfl)) (by dsimp only [List.set]; try rfl) ?_
  refine q_is rfl rfl (does_len_slice Try.underlying30 (ev rfl)) (by dsimp only [List.set]; try rfl) ?_
  refine q_is rfl rfl (does_icmp (p := 0) (q := 0) (.inr (.inr (.inl rfl))) (ev rfl) (ev rfl)) (by dsimp only [List.set]; try rfl) ?_
  refine wpList_nil (hK5 _ _ ?_)
  refine wp_cond_false (ev rfl) ?_
  refine wp_exit ?_
  refine hK2 _ _ ?_
  refine wp_seq_k fun K6 hK6 => ?_
  refine wp_region_lit ?_
  refine q_is rfl rfl (does_move (u := (Iv k)) (ev rfl)) (by dsimp only [List.set]; try rfl) ?_
  refine q_is rfl rfl (does_assign (u := (Iv k)) (ev rfl)) (by dsimp only [List.set]; try rfl) ?_
  refine wpList_nil (hK6 _ _ ?_)
  refine wp_ret ?_
  refine ret_val (v := (Iv k)) (res_T rfl (slot rfl)) (Ext.refl w) ?_
  have x7 : (k : Int) = k := by first | with_reducible rfl | (simp only []; done) | (simp []; done) | rfl
  exact (by first | with_reducible rfl | rw [x7] | rfl)

theorem c_laws_markVectorS_blk (g N n cap : Nat) (k : Int) (w : World) (hM : Mk true k w g N 0) (hn : n * 3 ≤ N) (h0 : 0 ≤ k) (h1 : k + (n : Int) * 3 ≤ 4611686018427387904) : GivesK [g] Try.prog 32 #[.slice (some ⟨g, 0, none⟩) n cap, Iv k] w (fun v w' => v = Iv (k + (n : Int) * 3) ∧ Mk true k w' g N (n * 3)) := by
  refine enterK [(.slice (some ⟨g, 0, none⟩) n cap), (Iv k), Ud, Ud, Ud, Ud, Ud, Ud, Ud, Ud, Ud, Ud, Ud, Ud, Ud, Ud, Ud, Ud, Ud, Ud, Ud, Ud, Ud, Ud, Ud, Ud, Ud, Ud, Ud, Ud, Ud, Ud, Ud, Ud, Ud, Ud, Ud] Try.func32 rfl Try.ntmps32 rfl ?_
  refine wp_seq_k fun K1 hK1 => ?_
  refine wp_region_lit ?_
  refine q_is rfl rfl (does_assign (u := (Iv 0)) (ev rfl)) (by dsimp only [List.set]; try rfl) ?_
  refine wpList_nil (hK1 _ _ ?_)
  refine wp_seq_k fun K2 hK2 => ?_
  refine wp_seq_k fun K3 hK3 => ?_
  refine wp_region_lit ?_
  refine q_is rfl rfl (does_assign (u := (Iv 0)) (ev rfl)) (by dsimp only [List.set]; try rfl) ?_
  refine wpList_nil (hK3 _ _ ?_)
  refine wp_block ?_
  refine loop_ghost (σ := Nat × Int) (fun s a w' => ∃ u4 : Nat → Value, a = fr [(.slice (some ⟨g, 0, none⟩) n cap), (Iv s.2), Ud, Ud, (Iv 0), (Iv (s.1 : Int)), (u4 6), (u4 7), (u4 8), (u4 9), (u4 10), (u4 11), (u4 12), (u4 13), (u4 14), (u4 15), (u4 16), (u4 17), (u4 18), (u4 19), (u4 20), (u4 21), (u4 22), (u4 23), (u4 24), (u4 25), (u4 26), (u4 27), (u4 28), (u4 29), (u4 30), (u4 31), (u4 32), (u4 33), (u4 34), (u4 35), Ud] ∧ KpL [g] w w' ∧ Mk true k w' g N (s.1 * 3) ∧ (s.1 ≤ n ∧ s.2 = k + (s.1 : Int) * 3)) (fun s => n - s.1) (0, k) ?_ ?_
  · refine ⟨fun t => (([(.slice (some ⟨g, 0, none⟩) n cap), (Iv k), Ud, Ud, (Iv 0), (Iv 0), Ud, Ud, Ud, Ud, Ud, Ud, Ud, Ud, Ud, Ud, Ud, Ud, Ud, Ud, Ud, Ud, Ud, Ud, Ud, Ud, Ud, Ud, Ud, Ud, Ud, Ud, Ud, Ud, Ud, Ud, Ud] : List Value)[t]?).getD undef, rfl, KpL.refl _ _, (Mk.cast hM (by simp)), ?_⟩
    exact ⟨Nat.zero_le _, by simp⟩
  · rintro s a w5 ⟨u4, rfl, E6, hF7, ⟨hk, hn2⟩⟩
    have X8 := KpL.more (KpL.refl [g] w) E6 (allS (.inl (by simp)) all0)
    refine wp_seq_k fun K9 hK9 => ?_
    refine wp_seq_k fun K10 hK10 => ?_
    refine wp_region_lit ?_
    refine q_is rfl rfl (does_move (u := (Iv (s.1 : Int))) (ev rfl)) (by dsimp only [List.set]; try rfl) ?_
    refine q_is rfl rfl (does_move (u := (.slice (some ⟨g, 0, none⟩) n cap)) (ev rfl)) (by dsimp only [List.set]; try rfl) ?_
    refine q_is rfl rfl (does_len_slice Try.underlying30 (ev rfl)) (by dsimp only [List.set]; try rfl) ?_
    refine q_is rfl rfl (does_icmp (p := (s.1 : Int)) (q := (n : Int)) (.inr (.inr (.inl rfl))) (ev rfl) (ev rfl)) (by dsimp only [List.set]; try rfl) ?_
    refine wpList_nil (hK10 _ _ ?_)
    refine wp_cond_split (t := icmp .lss (s.1 : Int) (n : Int)) (ev rfl) (fun c11 => ?_) (fun c11 => ?_)
    · have c11' := c11
      (try simp only [icmp, Bool.and_eq_true, Bool.or_eq_true, Bool.and_eq_false_iff, Bool.or_eq_false_iff, Bool.not_eq_true', Bool.not_eq_false', decide_eq_true_eq, decide_eq_false_iff_not, beq_iff_eq, bne_iff_ne, beq_eq_false_iff_ne, bne_eq_false_iff_eq] at c11')
      refine wp_skip (hK9 _ _ ?_)
      refine wp_seq_k fun K12 hK12 => ?_
      refine wp_block ?_
      refine wp_seq_k fun K13 hK13 => ?_
      refine wp_region_lit ?_
      refine q_is rfl rfl (does_move (u := (.slice (some ⟨g, 0, none⟩) n cap)) (ev rfl)) (by dsimp only [List.set]; try rfl) ?_
      refine q_is rfl rfl (does_move (u := (Iv (s.1 : Int))) (ev rfl)) (by dsimp only [List.set]; try rfl) ?_
      refine q_is rfl rfl (does_move (u := (Iv s.2)) (ev rfl)) (by dsimp only [List.set]; try rfl) ?_
      refine q_is rfl rfl (does_conv_if (k := .f32) Try.underlying3 Try.underlying39 (ev rfl)) (by dsimp only [List.set]; try rfl) ?_
      refine q_is rfl rfl (does_indexOwn (b := g) (n := n) (i := (s.1 : Int)) Try.underlying30 Try.sizeOf47 (ev rfl) (ev rfl) (by omega) (by omega)) (by dsimp only [List.set]; try rfl) ?_
      refine q_is rfl rfl (does_fieldAddr (ev rfl) fa47_0) (by dsimp only [List.set]; try rfl) ?_
      refine seqn rfl rfl (does_mark (fl := true) (k := k) (N := N) (off := s.1 * 3) (j := s.1 * 3) (u := (Fl (FloatKind.f32.nearest s.2))) (ev rfl) (ev rfl) Try.sizeOf39 (mkc_f (by first | rfl | omega)) (by omega) (by omega) hF7) ?_; rintro _ w16 ⟨rfl, W14, hM15⟩
      have X17 := KpL.more X8 (KpL.of_wr W14) (allS (.inl (by simp)) all0)
      refine wpList_nil (hK13 _ _ ?_)
      refine wp_seq_k fun K18 hK18 => ?_
      refine wp_region_lit ?_
      refine q_is rfl rfl (does_move (u := (Iv s.2)) (ev rfl)) (by dsimp only [List.set]; try rfl) ?_
      refine q_is rfl rfl (does_iarith (p := s.2) (q := 1) (r := s.2 + 1) (ev rfl) (ev rfl) (.inl ⟨rfl, (in_i64 (by omega) (by omega)).symm⟩)) (by dsimp only [List.set]; try rfl) ?_
      refine q_is rfl rfl (does_assign (u := (Iv (s.2 + 1))) (ev rfl)) (by dsimp only [List.set]; try rfl) ?_
      refine wpList_nil (hK18 _ _ ?_)
      refine wp_seq_k fun K19 hK19 => ?_
      refine wp_region_lit ?_
      refine q_is rfl rfl (does_move (u := (.slice (some ⟨g, 0, none⟩) n cap)) (ev rfl)) (by dsimp only [List.set]; try rfl) ?_
      refine q_is rfl rfl (does_move (u := (Iv (s.1 : Int))) (ev rfl)) (by dsimp only [List.set]; try rfl) ?_
      refine q_is rfl rfl (does_move (u := (Iv (s.2 + 1))) (ev rfl)) (by dsimp only [List.set]; try rfl) ?_
      refine q_is rfl rfl (does_conv_if (k := .f32) Try.underlying3 Try.underlying39 (ev rfl)) (by dsimp only [List.set]; try rfl) ?_
      refine q_is rfl rfl (does_indexOwn (b := g) (n := n) (i := (s.1 : Int)) Try.underlying30 Try.sizeOf47 (ev rfl) (ev rfl) (by omega) (by omega)) (by dsimp only [List.set]; try rfl) ?_
      refine q_is rfl rfl (does_fieldAddr (ev rfl) fa47_1) (by dsimp only [List.set]; try rfl) ?_
      refine seqn rfl rfl (does_mark (fl := true) (k := k) (N := N) (off := s.1 * 3 + 1) (j := s.1 * 3 + 1) (u := (Fl (FloatKind.f32.nearest (s.2 + 1)))) (ev rfl) (ev rfl) Try.sizeOf39 (mkc_f (by first | rfl | omega)) (by omega) (by omega) hM15) ?_; rintro _ w22 ⟨rfl, W20, hM21⟩
      have X23 := KpL.more X17 (KpL.of_wr W20) (allS (.inl (by simp)) all0)
      refine wpList_nil (hK19 _ _ ?_)
      refine wp_seq_k fun K24 hK24 => ?_
      refine wp_region_lit ?_
      refine q_is rfl rfl (does_move (u := (Iv (s.2 + 1))) (ev rfl)) (by dsimp only [List.set]; try rfl) ?_
      refine q_is rfl rfl (does_iarith (p := s.2 + 1) (q := 1) (r := (s.2 + 1) + 1) (ev rfl) (ev rfl) (.inl ⟨rfl, (in_i64 (by omega) (by omega)).symm⟩)) (by dsimp only [List.set]; try rfl) ?_
      refine q_is rfl rfl (does_assign (u := (Iv ((s.2 + 1) + 1))) (ev rfl)) (by dsimp only [List.set]; try rfl) ?_
      refine wpList_nil (hK24 _ _ ?_)
      refine wp_seq_k fun K25 hK25 => ?_
      refine wp_region_lit ?_
      refine q_is rfl rfl (does_move (u := (.slice (some ⟨g, 0, none⟩) n cap)) (ev rfl)) (by dsimp only [List.set]; try rfl) ?_
      refine q_is rfl rfl (does_move (u := (Iv (s.1 : Int))) (ev rfl)) (by dsimp only [List.set]; try rfl) ?_
      refine q_is rfl rfl (does_move (u := (Iv ((s.2 + 1) + 1))) (ev rfl)) (by dsimp only [List.set]; try rfl) ?_
      refine q_is rfl rfl (does_conv_if (k := .f32) Try.underlying3 Try.underlying39 (ev rfl)) (by dsimp only [List.set]; try rfl) ?_
      refine q_is rfl rfl (does_indexOwn (b := g) (n := n) (i := (s.1 : Int)) Try.underlying30 Try.sizeOf47 (ev rfl) (ev rfl) (by omega) (by omega)) (by dsimp only [List.set]; try rfl) ?_
      refine q_is rfl rfl (does_fieldAddr (ev rfl) fa47_2) (by dsimp only [List.set]; try rfl) ?_
      refine seqn rfl rfl (does_mark (fl := true) (k := k) (N := N) (off := s.1 * 3 + 2) (j := s.1 * 3 + 1 + 1) (u := (Fl (FloatKind.f32.nearest ((s.2 + 1) + 1)))) (ev rfl) (ev rfl) Try.sizeOf39 (mkc_f (by first | rfl | omega)) (by omega) (by omega) hM21) ?_; rintro _ w28 ⟨rfl, W26, hM27⟩
      have X29 := KpL.more X23 (KpL.of_wr W26) (allS (.inl (by simp)) all0)
      refine wpList_nil (hK25 _ _ ?_)
      refine wp_region_lit ?_
      refine q_is rfl rfl (does_move (u := (Iv ((s.2 + 1) + 1))) (ev rfl)) (by dsimp only [List.set]; try rfl) ?_
      refine q_is rfl rfl (does_iarith (p := (s.2 + 1) + 1) (q := 1) (r := ((s.2 + 1) + 1) + 1) (ev rfl) (ev rfl) (.inl ⟨rfl, (in_i64 (by omega) (by omega)).symm⟩)) (by dsimp only [List.set]; try rfl) ?_
      refine q_is rfl rfl (does_assign (u := (Iv (((s.2 + 1) + 1) + 1))) (ev rfl)) (by dsimp only [List.set]; try rfl) ?_
      refine wpList_nil (hK12 _ _ ?_)
      refine wp_region_lit ?_
      refine q_is rfl rfl (does_move (u := (Iv (s.1 : Int))) (ev rfl)) (by dsimp only [List.set]; try rfl) ?_
      refine q_is rfl rfl (does_iarith (p := (s.1 : Int)) (q := 1) (r := (s.1 : Int) + 1) (ev rfl) (ev rfl) (.inl ⟨rfl, (in_i64 (by omega) (by omega)).symm⟩)) (by dsimp only [List.set]; try rfl) ?_
      refine q_is rfl rfl (does_assign (u := (Iv ((s.1 : Int) + 1))) (ev rfl)) (by dsimp only [List.set]; try rfl) ?_
      refine wpList_nil ?_
      refine ⟨(s.1 + 1, ((s.2 + 1) + 1) + 1), ⟨fun t => (([(.slice (some ⟨g, 0, none⟩) n cap), (Iv (((s.2 + 1) + 1) + 1)), Ud, Ud, (Iv 0), (Iv ((s.1 : Int) + 1)), (Iv (s.1 : Int)), (.slice (some ⟨g, 0, none⟩) n cap), (Iv (n : Int)), (Bo (icmp .lss (s.1 : Int) (n : Int))), (Iv (s.1 : Int)), (Iv ((s.1 : Int) + 1)), (.slice (some ⟨g, 0, none⟩) n cap), (Iv (s.1 : Int)), (Iv s.2), (Fl (FloatKind.f32.nearest s.2)), (Pt g (s.1 * 3)), (Pt g (s.1 * 3)), (Iv s.2), (Iv (s.2 + 1)), (.slice (some ⟨g, 0, none⟩) n cap), (Iv (s.1 : Int)), (Iv (s.2 + 1)), (Fl (FloatKind.f32.nearest (s.2 + 1))), (Pt g (s.1 * 3)), (Pt g (s.1 * 3 + 1)), (Iv (s.2 + 1)), (Iv ((s.2 + 1) + 1)), (.slice (some ⟨g, 0, none⟩) n cap), (Iv (s.1 : Int)), (Iv ((s.2 + 1) + 1)), (Fl (FloatKind.f32.nearest ((s.2 + 1) + 1))), (Pt g (s.1 * 3)), (Pt g (s.1 * 3 + 2)), (Iv ((s.2 + 1) + 1)), (Iv (((s.2 + 1) + 1) + 1)), Ud] : List Value)[t]?).getD undef, ?_, (KpL.more (KpL.more (KpL.more E6 (KpL.of_wr W14) (allS (.inl (by simp)) all0)) (KpL.of_wr W20) (allS (.inl (by simp)) all0)) (KpL.of_wr W26) (allS (.inl (by simp)) all0)), (Mk.cast hM27 (by (try dsimp only); omega)), ?_⟩, ?_⟩
      · first | rfl | (simp only [Int.natCast_add, Int.natCast_one]; rfl)
      · (try dsimp only); exact ⟨by omega, by omega⟩
      · (try dsimp only); omega
    have c11' := c11
    (try simp only [icmp, Bool.and_eq_true, Bool.or_eq_true, Bool.and_eq_false_iff, Bool.or_eq_false_iff, Bool.not_eq_true', Bool.not_eq_false', decide_eq_true_eq, decide_eq_false_iff_not, beq_iff_eq, bne_iff_ne, beq_eq_false_iff_ne, bne_eq_false_iff_eq] at c11')
    refine wp_exit ?_
    refine hK2 _ _ ?_
    refine wp_seq_k fun K30 hK30 => ?_
    refine wp_region_lit ?_
    refine q_is rfl rfl (does_move (u := (Iv s.2)) (ev rfl)) (by dsimp only [List.set]; try rfl) ?_
    refine q_is rfl rfl (does_assign (u := (Iv s.2)) (ev rfl)) (by dsimp only [List.set]; try rfl) ?_
    refine wpList_nil (hK30 _ _ ?_)
    refine wp_ret ?_
    refine ret_valK (v := (Iv s.2)) (res_T rfl (slot rfl)) X8 ?_
    have hj : s.1 = n := by omega
    exact ⟨by first | rfl | (show Value.int _ _ = Value.int _ _; congr 1; omega), Mk.cast hF7 (by rw [hj])⟩

theorem c_laws_markVectorS (a : Value) (n : Nat) (L : List Nat) (B : Nat) (k : Int) (w : World) (ha : WL 3 B w L a n) (h0 : 0 ≤ k) (h1 : k + (n : Int) * 3 ≤ 4611686018427387904) : GivesK L Try.prog 32 #[a, Iv k] w (fun v w' => v = Iv (k + (n : Int) * 3) ∧ Hang B w' (fun u => Sl RV3 3 u a (mkL fV 3 k n))) := by
  obtain ⟨hL, ⟨rfl, rfl, rfl⟩ | ⟨g, cap, cs, rfl, rfl, hB, hn, hc⟩⟩ := ha
  · exact (Gives.toK (c_laws_markVectorS_nil k w)).mono fun v w' hv => ⟨by rw [hv]; simp, fun u _ => Sl_mk0 u⟩
  · exact (c_laws_markVectorS_blk g cs.length n cap k w (Mk.zero hB rfl) hn h0 h1).mono fun v w' ⟨hv, hM⟩ => ⟨hv, Mk.hang hM (hL g (by simp)).1 hc (by decide) (by omega) rV⟩

theorem c_laws_markVectorS_mk (a : Value) (n : Nat) (L : List Nat) (B : Nat) (k : Int) (w : World) (ha : WL 3 B w L a n) (h0 : 0 ≤ k) (h1 : k + (n : Int) * 3 ≤ 4611686018427387904) : GivesK L Try.prog 32 #[a, Iv k] w (fun v w' => v = Iv (k + (n : Int) * 3) ∧ MkS true 3 k w' L a n) := by
  obtain ⟨hL, ⟨rfl, rfl, rfl⟩ | ⟨g, cap, cs, rfl, rfl, hB, hn, hc⟩⟩ := ha
  · exact (Gives.toK (c_laws_markVectorS_nil k w)).mono fun v w' hv => ⟨by rw [hv]; simp, .inl ⟨rfl, rfl, rfl⟩⟩
  · exact (c_laws_markVectorS_blk g cs.length n cap k w (Mk.zero hB rfl) hn h0 h1).mono fun v w' ⟨hv, hM⟩ => ⟨hv, .inr ⟨g, cap, cs.length, rfl, rfl, hM, hc⟩⟩

theorem c_laws_markInt64S_nil (k : Int) (w : World) : Gives Try.prog 12 #[.slice none 0 0, Iv k] w (fun v _ => v = Iv k) := by
  refine enter [(.slice none 0 0), (Iv k), Ud, Ud, Ud, Ud, Ud, Ud, Ud, Ud, Ud, Ud, Ud, Ud, Ud, Ud, Ud, Ud, Ud] Try.func12 rfl Try.ntmps12 rfl ?_
  refine wp_seq_k fun K1 hK1 => ?_
  refine wp_region_lit ?_
  refine q_is (l' := [(.slice none 0 0), (Iv k), Ud, Ud, (Iv 0), Ud, Ud, Ud, Ud, Ud, Ud, Ud, Ud, Ud, Ud, Ud, Ud, Ud, Ud]) rfl rfl (does_assign (u := (Iv 0)) (ev rfl)) rfl ?_
  refine wpList_nil (hK1 _ _ ?_)
  refine wp_seq_k fun K2 hK2 => ?_
  refine wp_seq_k fun K3 hK3 => ?_
  refine wp_region_lit ?_
  refine q_is (l' := [(.slice none 0 0), (Iv k), Ud, Ud, (Iv 0), (Iv 0), Ud, Ud, Ud, Ud, Ud, Ud, Ud, Ud, Ud, Ud, Ud, Ud, Ud]) rfl rfl (does_assign (u := (Iv 0)) (ev rfl)) rfl ?_
  refine wpList_nil (hK3 _ _ ?_)
  refine wp_block ?_
  refine loop_unroll 1 ?_
  refine un_step ?_
  refine wp_seq_k fun K4 hK4 => ?_
  refine wp_seq_k fun K5 hK5 => ?_
  refine wp_region_lit ?_
  refine q_is (l' := [(.slice none 0 0), (Iv k), Ud, Ud, (Iv 0), (Iv 0), (Iv 0), Ud, Ud, Ud, Ud, Ud, Ud, Ud, Ud, Ud, Ud, Ud, Ud]) rfl rfl (does_move (u := (Iv 0)) (ev rfl)) rfl ?_
  refine q_is (l' := [(.slice none 0 0), (Iv k), Ud, Ud, (Iv 0), (Iv 0), (Iv 0), (.slice none 0 0), Ud, Ud, Ud, Ud, Ud, Ud, Ud, Ud, Ud, Ud, Ud]) rfl rfl (does_move (u := (.slice none 0 0)) (ev rfl)) rfl ?_
  refine q_is (l' := [(.slice none 0 0), (Iv k), Ud, Ud, (Iv 0), (Iv 0), (Iv 0), (.slice none 0 0), (Iv 0), Ud, Ud, Ud, Ud, Ud, Ud, Ud, Ud, Ud, Ud]) rfl rfl (does_len_slice Try.underlying27 (ev rfl)) rfl ?_
  refine q_is (l' := [(.slice none 0 0), (Iv k), Ud, Ud, (Iv 0), (Iv 0), (Iv 0), (.slice none 0 0), (Iv 0), (Bo false), Ud, Ud, Ud, Ud, Ud, Ud, Ud, Ud, Ud]) rfl rfl (does_icmp (p := 0) (q := 0) (.inr (.inr (.inl rfl))) (ev rfl) (ev rfl)) rfl ?_
  refine wpList_nil (hK5 _ _ ?_)
  refine wp_cond_false (ev rfl) ?_
  refine wp_exit ?_
  refine hK2 _ _ ?_
  refine wp_seq_k fun K6 hK6 => ?_
  refine wp_region_lit ?_
  refine q_is (l' := [(.slice none 0 0), (Iv k), Ud, Ud, (Iv 0), (Iv 0), (Iv 0), (.slice none 0 0), (Iv 0), (Bo false), Ud, Ud, Ud, Ud, Ud, Ud, Ud, Ud, (Iv k)]) rfl rfl (does_move (u := (Iv k)) (ev rfl)) rfl ?_
  refine q_is (l' := [(.slice none 0 0), (Iv k), Ud, Ud, (Iv k), (Iv 0), (Iv 0), (.slice none 0 0), (Iv 0), (Bo false), Ud, Ud, Ud, Ud, Ud, Ud, Ud, Ud, (Iv k)]) rfl rfl (does_assign (u := (Iv k)) (ev rfl)) rfl ?_
  refine wpList_nil (hK6 _ _ ?_)
  refine wp_ret ?_
  refine ret_val (v := (Iv k)) (res_T rfl (slot rfl)) (Ext.refl w) ?_
  have x7 : (k : Int) = k := by first | with_reducible rfl | (simp only []; done) | (simp []; done) | rfl
  exact (by first | with_reducible rfl | rw [x7] | rfl)

theorem c_laws_markInt64S_blk (g N n cap : Nat) (k : Int) (w : World) (hM : Mk false k w g N 0) (hn : n * 1 ≤ N) (h0 : 0 ≤ k) (h1 : k + (n : Int) * 1 ≤ 4611686018427387904) : GivesK [g] Try.prog 12 #[.slice (some ⟨g, 0, none⟩) n cap, Iv k] w (fun v w' => v = Iv (k + (n : Int) * 1) ∧ Mk false k w' g N (n * 1)) := by
  refine enterK [(.slice (some ⟨g, 0, none⟩) n cap), (Iv k), Ud, Ud, Ud, Ud, Ud, Ud, Ud, Ud, Ud, Ud, Ud, Ud, Ud, Ud, Ud, Ud, Ud] Try.func12 rfl Try.ntmps12 rfl ?_
  refine wp_seq_k fun K1 hK1 => ?_
  refine wp_region_lit ?_
  refine q_is (l' := [(.slice (some ⟨g, 0, none⟩) n cap), (Iv k), Ud, Ud, (Iv 0), Ud, Ud, Ud, Ud, Ud, Ud, Ud, Ud, Ud, Ud, Ud, Ud, Ud, Ud]) rfl rfl (does_assign (u := (Iv 0)) (ev rfl)) rfl ?_
  refine wpList_nil (hK1 _ _ ?_)
  refine wp_seq_k fun K2 hK2 => ?_
  refine wp_seq_k fun K3 hK3 => ?_
  refine wp_region_lit ?_
  refine q_is (l' := [(.slice (some ⟨g, 0, none⟩) n cap), (Iv k), Ud, Ud, (Iv 0), (Iv 0), Ud, Ud, Ud, Ud, Ud, Ud, Ud, Ud, Ud, Ud, Ud, Ud, Ud]) rfl rfl (does_assign (u := (Iv 0)) (ev rfl)) rfl ?_
  refine wpList_nil (hK3 _ _ ?_)
  refine wp_block ?_
  refine loop_ghost (σ := Nat × Int) (fun s a w' => ∃ u4 : Nat → Value, a = fr [(.slice (some ⟨g, 0, none⟩) n cap), (Iv s.2), Ud, Ud, (Iv 0), (Iv (s.1 : Int)), (u4 6), (u4 7), (u4 8), (u4 9), (u4 10), (u4 11), (u4 12), (u4 13), (u4 14), (u4 15), (u4 16), (u4 17), Ud] ∧ KpL [g] w w' ∧ Mk false k w' g N (s.1 * 1) ∧ (s.1 ≤ n ∧ s.2 = k + (s.1 : Int) * 1)) (fun s => n - s.1) (0, k) ?_ ?_
  · refine ⟨fun t => (([(.slice (some ⟨g, 0, none⟩) n cap), (Iv k), Ud, Ud, (Iv 0), (Iv 0), Ud, Ud, Ud, Ud, Ud, Ud, Ud, Ud, Ud, Ud, Ud, Ud, Ud] : List Value)[t]?).getD undef, rfl, KpL.refl _ _, (Mk.cast hM (by simp)), ?_⟩
    exact ⟨Nat.zero_le _, by simp⟩
  · rintro s a w5 ⟨u4, rfl, E6, hF7, ⟨hk, hn2⟩⟩
    have X8 := KpL.more (KpL.refl [g] w) E6 (allS (.inl (by simp)) all0)
    refine wp_seq_k fun K9 hK9 => ?_
    refine wp_seq_k fun K10 hK10 => ?_
    refine wp_region_lit ?_
    refine q_is (l' := [(.slice (some ⟨g, 0, none⟩) n cap), (Iv s.2), Ud, Ud, (Iv 0), (Iv (s.1 : Int)), (Iv (s.1 : Int)), (u4 7), (u4 8), (u4 9), (u4 10), (u4 11), (u4 12), (u4 13), (u4 14), (u4 15), (u4 16), (u4 17), Ud]) rfl rfl (does_move (u := (Iv (s.1 : Int))) (ev rfl)) rfl ?_
    refine q_is (l' := [(.slice (some ⟨g, 0, none⟩) n cap), (Iv s.2), Ud, Ud, (Iv 0), (Iv (s.1 : Int)), (Iv (s.1 : Int)), (.slice (some ⟨g, 0, none⟩) n cap), (u4 8), (u4 9), (u4 10), (u4 11), (u4 12), (u4 13), (u4 14), (u4 15), (u4 16), (u4 17), Ud]) rfl rfl (does_move (u := (.slice (some ⟨g, 0, none⟩) n cap)) (ev rfl)) rfl ?_
    refine q_is (l' := [(.slice (some ⟨g, 0, none⟩) n cap), (Iv s.2), Ud, Ud, (Iv 0), (Iv (s.1 : Int)), (Iv (s.1 : Int)), (.slice (some ⟨g, 0, none⟩) n cap), (Iv (n : Int)), (u4 9), (u4 10), (u4 11), (u4 12), (u4 13), (u4 14), (u4 15), (u4 16), (u4 17), Ud]) rfl rfl (does_len_slice Try.underlying27 (ev rfl)) rfl ?_
    refine q_is (l' := [(.slice (some ⟨g, 0, none⟩) n cap), (Iv s.2), Ud, Ud, (Iv 0), (Iv (s.1 : Int)), (Iv (s.1 : Int)), (.slice (some ⟨g, 0, none⟩) n cap), (Iv (n : Int)), (Bo (icmp .lss (s.1 : Int) (n : Int))), (u4 10), (u4 11), (u4 12), (u4 13), (u4 14), (u4 15), (u4 16), (u4 17), Ud]) rfl rfl (does_icmp (p := (s.1 : Int)) (q := (n : Int)) (.inr (.inr (.inl rfl))) (ev rfl) (ev rfl)) rfl ?_
    refine wpList_nil (hK10 _ _ ?_)
    refine wp_cond_split (t := icmp .lss (s.1 : Int) (n : Int)) (ev rfl) (fun c11 => ?_) (fun c11 => ?_)
    · have c11' := c11
      (try simp only [icmp, Bool.and_eq_true, Bool.or_eq_true, Bool.and_eq_false_iff, Bool.or_eq_false_iff, Bool.not_eq_true', Bool.not_eq_false', decide_eq_true_eq, decide_eq_false_iff_not, beq_iff_eq, bne_iff_ne, beq_eq_false_iff_ne, bne_eq_false_iff_eq] at c11')
      refine wp_skip (hK9 _ _ ?_)
      refine wp_seq_k fun K12 hK12 => ?_
      refine wp_block ?_
      refine wp_seq_k fun K13 hK13 => ?_
      refine wp_region_lit ?_
      refine q_is (l' := [(.slice (some ⟨g, 0, none⟩) n cap), (Iv s.2), Ud, Ud, (Iv 0), (Iv (s.1 : Int)), (Iv (s.1 : Int)), (.slice (some ⟨g, 0, none⟩) n cap), (Iv (n : Int)), (Bo (icmp .lss (s.1 : Int) (n : Int))), (u4 10), (u4 11), (.slice (some ⟨g, 0, none⟩) n cap), (u4 13), (u4 14), (u4 15), (u4 16), (u4 17), Ud]) rfl rfl (does_move (u := (.slice (some ⟨g, 0, none⟩) n cap)) (ev rfl)) rfl ?_
      refine q_is (l' := [(.slice (some ⟨g, 0, none⟩) n cap), (Iv s.2), Ud, Ud, (Iv 0), (Iv (s.1 : Int)), (Iv (s.1 : Int)), (.slice (some ⟨g, 0, none⟩) n cap), (Iv (n : Int)), (Bo (icmp .lss (s.1 : Int) (n : Int))), (u4 10), (u4 11), (.slice (some ⟨g, 0, none⟩) n cap), (Iv (s.1 : Int)), (u4 14), (u4 15), (u4 16), (u4 17), Ud]) rfl rfl (does_move (u := (Iv (s.1 : Int))) (ev rfl)) rfl ?_
      refine q_is (l' := [(.slice (some ⟨g, 0, none⟩) n cap), (Iv s.2), Ud, Ud, (Iv 0), (Iv (s.1 : Int)), (Iv (s.1 : Int)), (.slice (some ⟨g, 0, none⟩) n cap), (Iv (n : Int)), (Bo (icmp .lss (s.1 : Int) (n : Int))), (u4 10), (u4 11), (.slice (some ⟨g, 0, none⟩) n cap), (Iv (s.1 : Int)), (Iv s.2), (u4 15), (u4 16), (u4 17), Ud]) rfl rfl (does_move (u := (Iv s.2)) (ev rfl)) rfl ?_
      refine q_is (l' := [(.slice (some ⟨g, 0, none⟩) n cap), (Iv s.2), Ud, Ud, (Iv 0), (Iv (s.1 : Int)), (Iv (s.1 : Int)), (.slice (some ⟨g, 0, none⟩) n cap), (Iv (n : Int)), (Bo (icmp .lss (s.1 : Int) (n : Int))), (u4 10), (u4 11), (.slice (some ⟨g, 0, none⟩) n cap), (Iv (s.1 : Int)), (Iv s.2), (Pt g (s.1 * 1)), (u4 16), (u4 17), Ud]) rfl rfl (does_indexOwn (b := g) (n := n) (i := (s.1 : Int)) Try.underlying27 Try.sizeOf2 (ev rfl) (ev rfl) (by omega) (by omega)) rfl ?_
      refine seqn rfl rfl (does_mark (fl := false) (k := k) (N := N) (off := s.1 * 1) (j := s.1 * 1) (u := (Iv s.2)) (ev rfl) (ev rfl) Try.sizeOf2 (mkc_i (by omega)) (by omega) (by omega) hF7) ?_; rintro _ w16 ⟨rfl, W14, hM15⟩
      have X17 := KpL.more X8 (KpL.of_wr W14) (allS (.inl (by simp)) all0)
      refine wpList_nil (hK13 _ _ ?_)
      refine wp_region_lit ?_
      refine q_is (l' := [(.slice (some ⟨g, 0, none⟩) n cap), (Iv s.2), Ud, Ud, (Iv 0), (Iv (s.1 : Int)), (Iv (s.1 : Int)), (.slice (some ⟨g, 0, none⟩) n cap), (Iv (n : Int)), (Bo (icmp .lss (s.1 : Int) (n : Int))), (u4 10), (u4 11), (.slice (some ⟨g, 0, none⟩) n cap), (Iv (s.1 : Int)), (Iv s.2), (Pt g (s.1 * 1)), (Iv s.2), (u4 17), Ud]) rfl rfl (does_move (u := (Iv s.2)) (ev rfl)) rfl ?_
      refine q_is (l' := [(.slice (some ⟨g, 0, none⟩) n cap), (Iv s.2), Ud, Ud, (Iv 0), (Iv (s.1 : Int)), (Iv (s.1 : Int)), (.slice (some ⟨g, 0, none⟩) n cap), (Iv (n : Int)), (Bo (icmp .lss (s.1 : Int) (n : Int))), (u4 10), (u4 11), (.slice (some ⟨g, 0, none⟩) n cap), (Iv (s.1 : Int)), (Iv s.2), (Pt g (s.1 * 1)), (Iv s.2), (Iv (s.2 + 1)), Ud]) rfl rfl (does_iarith (p := s.2) (q := 1) (r := s.2 + 1) (ev rfl) (ev rfl) (.inl ⟨rfl, (in_i64 (by omega) (by omega)).symm⟩)) rfl ?_
      refine q_is (l' := [(.slice (some ⟨g, 0, none⟩) n cap), (Iv (s.2 + 1)), Ud, Ud, (Iv 0), (Iv (s.1 : Int)), (Iv (s.1 : Int)), (.slice (some ⟨g, 0, none⟩) n cap), (Iv (n : Int)), (Bo (icmp .lss (s.1 : Int) (n : Int))), (u4 10), (u4 11), (.slice (some ⟨g, 0, none⟩) n cap), (Iv (s.1 : Int)), (Iv s.2), (Pt g (s.1 * 1)), (Iv s.2), (Iv (s.2 + 1)), Ud]) rfl rfl (does_assign (u := (Iv (s.2 + 1))) (ev rfl)) rfl ?_
      refine wpList_nil (hK12 _ _ ?_)
      refine wp_region_lit ?_
      refine q_is (l' := [(.slice (some ⟨g, 0, none⟩) n cap), (Iv (s.2 + 1)), Ud, Ud, (Iv 0), (Iv (s.1 : Int)), (Iv (s.1 : Int)), (.slice (some ⟨g, 0, none⟩) n cap), (Iv (n : Int)), (Bo (icmp .lss (s.1 : Int) (n : Int))), (Iv (s.1 : Int)), (u4 11), (.slice (some ⟨g, 0, none⟩) n cap), (Iv (s.1 : Int)), (Iv s.2), (Pt g (s.1 * 1)), (Iv s.2), (Iv (s.2 + 1)), Ud]) rfl rfl (does_move (u := (Iv (s.1 : Int))) (ev rfl)) rfl ?_
      refine q_is (l' := [(.slice (some ⟨g, 0, none⟩) n cap), (Iv (s.2 + 1)), Ud, Ud, (Iv 0), (Iv (s.1 : Int)), (Iv (s.1 : Int)), (.slice (some ⟨g, 0, none⟩) n cap), (Iv (n : Int)), (Bo (icmp .lss (s.1 : Int) (n : Int))), (Iv (s.1 : Int)), (Iv ((s.1 : Int) + 1)), (.slice (some ⟨g, 0, none⟩) n cap), (Iv (s.1 : Int)), (Iv s.2), (Pt g (s.1 * 1)), (Iv s.2), (Iv (s.2 + 1)), Ud]) rfl rfl (does_iarith (p := (s.1 : Int)) (q := 1) (r := (s.1 : Int) + 1) (ev rfl) (ev rfl) (.inl ⟨rfl, (in_i64 (by omega) (by omega)).symm⟩)) rfl ?_
      refine q_is (l' := [(.slice (some ⟨g, 0, none⟩) n cap), (Iv (s.2 + 1)), Ud, Ud, (Iv 0), (Iv ((s.1 : Int) + 1)), (Iv (s.1 : Int)), (.slice (some ⟨g, 0, none⟩) n cap), (Iv (n : Int)), (Bo (icmp .lss (s.1 : Int) (n : Int))), (Iv (s.1 : Int)), (Iv ((s.1 : Int) + 1)), (.slice (some ⟨g, 0, none⟩) n cap), (Iv (s.1 : Int)), (Iv s.2), (Pt g (s.1 * 1)), (Iv s.2), (Iv (s.2 + 1)), Ud]) rfl rfl (does_assign (u := (Iv ((s.1 : Int) + 1))) (ev rfl)) rfl ?_
      refine wpList_nil ?_
      refine ⟨(s.1 + 1, s.2 + 1), ⟨fun t => (([(.slice (some ⟨g, 0, none⟩) n cap), (Iv (s.2 + 1)), Ud, Ud, (Iv 0), (Iv ((s.1 : Int) + 1)), (Iv (s.1 : Int)), (.slice (some ⟨g, 0, none⟩) n cap), (Iv (n : Int)), (Bo (icmp .lss (s.1 : Int) (n : Int))), (Iv (s.1 : Int)), (Iv ((s.1 : Int) + 1)), (.slice (some ⟨g, 0, none⟩) n cap), (Iv (s.1 : Int)), (Iv s.2), (Pt g (s.1 * 1)), (Iv s.2), (Iv (s.2 + 1)), Ud] : List Value)[t]?).getD undef, ?_, (KpL.more E6 (KpL.of_wr W14) (allS (.inl (by simp)) all0)), (Mk.cast hM15 (by (try dsimp only); omega)), ?_⟩, ?_⟩
      · first | rfl | (simp only [Int.natCast_add, Int.natCast_one]; rfl)
      · (try dsimp only); exact ⟨by omega, by omega⟩
      · (try dsimp only); omega
    have c11' := c11
    (try simp only [icmp, Bool.and_eq_true, Bool.or_eq_true, Bool.and_eq_false_iff, Bool.or_eq_false_iff, Bool.not_eq_true', Bool.not_eq_false', decide_eq_true_eq, decide_eq_false_iff_not, beq_iff_eq, bne_iff_ne, beq_eq_false_iff_ne, bne_eq_false_iff_eq] at c11')
    refine wp_exit ?_
    refine hK2 _ _ ?_
    refine wp_seq_k fun K18 hK18 => ?_
    refine wp_region_lit ?_
    refine q_is (l' := [(.slice (some ⟨g, 0, none⟩) n cap), (Iv s.2), Ud, Ud, (Iv 0), (Iv (s.1 : Int)), (Iv (s.1 : Int)), (.slice (some ⟨g, 0, none⟩) n cap), (Iv (n : Int)), (Bo (icmp .lss (s.1 : Int) (n : Int))), (u4 10), (u4 11), (u4 12), (u4 13), (u4 14), (u4 15), (u4 16), (u4 17), (Iv s.2)]) rfl rfl (does_move (u := (Iv s.2)) (ev rfl)) rfl ?_
    refine q_is (l' := [(.slice (some ⟨g, 0, none⟩) n cap), (Iv s.2), Ud, Ud, (Iv s.2), (Iv (s.1 : Int)), (Iv (s.1 : Int)), (.slice (some ⟨g, 0, none⟩) n cap), (Iv (n : Int)), (Bo (icmp .lss (s.1 : Int) (n : Int))), (u4 10), (u4 11), (u4 12), (u4 13), (u4 14), (u4 15), (u4 16), (u4 17), (Iv s.2)]) rfl rfl (does_assign (u := (Iv s.2)) (ev rfl)) rfl ?_
    refine wpList_nil (hK18 _ _ ?_)
    refine wp_ret ?_
    refine ret_valK (v := (Iv s.2)) (res_T rfl (slot rfl)) X8 ?_
    have hj : s.1 = n := by omega
    exact ⟨by first | rfl | (show Value.int _ _ = Value.int _ _; congr 1; omega), Mk.cast hF7 (by rw [hj])⟩

theorem c_laws_markInt64S (a : Value) (n : Nat) (L : List Nat) (B : Nat) (k : Int) (w : World) (ha : WL 1 B w L a n) (h0 : 0 ≤ k) (h1 : k + (n : Int) * 1 ≤ 4611686018427387904) : GivesK L Try.prog 12 #[a, Iv k] w (fun v w' => v = Iv (k + (n : Int) * 1) ∧ Hang B w' (fun u => Sl RI 1 u a (mkL fI 1 k n))) := by
  obtain ⟨hL, ⟨rfl, rfl, rfl⟩ | ⟨g, cap, cs, rfl, rfl, hB, hn, hc⟩⟩ := ha
  · exact (Gives.toK (c_laws_markInt64S_nil k w)).mono fun v w' hv => ⟨by rw [hv]; simp, fun u _ => Sl_mk0 u⟩
  · exact (c_laws_markInt64S_blk g cs.length n cap k w (Mk.zero hB rfl) hn h0 h1).mono fun v w' ⟨hv, hM⟩ => ⟨hv, Mk.hang hM (hL g (by simp)).1 hc (by decide) (by omega) rI⟩

theorem c_laws_markInt64S_mk (a : Value) (n : Nat) (L : List Nat) (B : Nat) (k : Int) (w : World) (ha : WL 1 B w L a n) (h0 : 0 ≤ k) (h1 : k + (n : Int) * 1 ≤ 4611686018427387904) : GivesK L Try.prog 12 #[a, Iv k] w (fun v w' => v = Iv (k + (n : Int) * 1) ∧ MkS false 1 k w' L a n) := by
  obtain ⟨hL, ⟨rfl, rfl, rfl⟩ | ⟨g, cap, cs, rfl, rfl, hB, hn, hc⟩⟩ := ha
  · exact (Gives.toK (c_laws_markInt64S_nil k w)).mono fun v w' hv => ⟨by rw [hv]; simp, .inl ⟨rfl, rfl, rfl⟩⟩
  · exact (c_laws_markInt64S_blk g cs.length n cap k w (Mk.zero hB rfl) hn h0 h1).mono fun v w' ⟨hv, hM⟩ => ⟨hv, .inr ⟨g, cap, cs.length, rfl, rfl, hM, hc⟩⟩

theorem c_laws_markInt64SS (a : Value) (xs : List (List Int)) (L : List Nat) (B : Nat) (k : Int) (w : World) (ha : WLL 1 B w L a xs) (h0 : 0 ≤ k) (h1 : k + (liSum xs xs.length : Nat) ≤ 4611686018427387904) : GivesK L Try.prog 33 #[a, Iv k] w (fun v w' => v = Iv (k + (liSum xs xs.length : Nat)) ∧ Hang B w' (fun u => Sl (RS RI 1) 1 u a (mkLL fI 1 (preK k xs) xs))) := by
  obtain ⟨vs, Ls, hst0⟩ := NMk.start (fl := false) ha
  replace hst0 := hst0 (preK k xs)
  obtain ⟨pa, qa, rfl⟩ := WLL.shape ha
  have hvl := hst0.len
  have hxm := hst0.most
  refine enterK [(.slice pa xs.length qa), (Iv k), Ud, Ud, Ud, Ud, Ud, Ud, Ud, Ud, Ud, Ud, Ud, Ud, Ud, Ud, Ud, Ud, Ud] Try.func33 rfl Try.ntmps33 rfl ?_
  refine wp_seq_k fun K1 hK1 => ?_
  refine wp_region_lit ?_
  refine q_is (l' := [(.slice pa xs.length qa), (Iv k), Ud, Ud, (Iv 0), Ud, Ud, Ud, Ud, Ud, Ud, Ud, Ud, Ud, Ud, Ud, Ud, Ud, Ud]) rfl rfl (does_assign (u := (Iv 0)) (ev rfl)) rfl ?_
  refine wpList_nil (hK1 _ _ ?_)
  refine wp_seq_k fun K2 hK2 => ?_
  refine wp_seq_k fun K3 hK3 => ?_
  refine wp_region_lit ?_
  refine q_is (l' := [(.slice pa xs.length qa), (Iv k), Ud, Ud, (Iv 0), (Iv 0), Ud, Ud, Ud, Ud, Ud, Ud, Ud, Ud, Ud, Ud, Ud, Ud, Ud]) rfl rfl (does_assign (u := (Iv 0)) (ev rfl)) rfl ?_
  refine wpList_nil (hK3 _ _ ?_)
  refine wp_block ?_
  refine loop_ghost (σ := Nat × Int) (fun s a w' => ∃ u4 : Nat → Value, a = fr [(.slice pa xs.length qa), (Iv s.2), Ud, Ud, (Iv 0), (Iv (s.1 : Int)), (u4 6), (u4 7), (u4 8), (u4 9), (u4 10), (u4 11), (u4 12), (u4 13), (u4 14), (u4 15), (u4 16), (u4 17), Ud] ∧ KpL L w w' ∧ NMk false 1 B L (.slice pa xs.length qa) vs Ls xs (preK k xs) s.1 w' ∧ (s.1 ≤ xs.length ∧ s.2 = k + (liSum xs s.1 : Nat))) (fun s => xs.length - s.1) (0, k) ?_ ?_
  · refine ⟨fun t => (([(.slice pa xs.length qa), (Iv k), Ud, Ud, (Iv 0), (Iv 0), Ud, Ud, Ud, Ud, Ud, Ud, Ud, Ud, Ud, Ud, Ud, Ud, Ud] : List Value)[t]?).getD undef, rfl, KpL.refl _ _, hst0, ?_⟩
    exact ⟨Nat.zero_le _, by simp [liSum]⟩
  · rintro s a w5 ⟨u4, rfl, E6, hst, ⟨hk, hn2⟩⟩
    have X8 := KpL.more (KpL.refl L w) E6 (fun c hc => .inl (by simp [hc]))
    refine wp_seq_k fun K9 hK9 => ?_
    refine wp_seq_k fun K10 hK10 => ?_
    refine wp_region_lit ?_
    refine q_is (l' := [(.slice pa xs.length qa), (Iv s.2), Ud, Ud, (Iv 0), (Iv (s.1 : Int)), (Iv (s.1 : Int)), (u4 7), (u4 8), (u4 9), (u4 10), (u4 11), (u4 12), (u4 13), (u4 14), (u4 15), (u4 16), (u4 17), Ud]) rfl rfl (does_move (u := (Iv (s.1 : Int))) (ev rfl)) rfl ?_
    refine q_is (l' := [(.slice pa xs.length qa), (Iv s.2), Ud, Ud, (Iv 0), (Iv (s.1 : Int)), (Iv (s.1 : Int)), (.slice pa xs.length qa), (u4 8), (u4 9), (u4 10), (u4 11), (u4 12), (u4 13), (u4 14), (u4 15), (u4 16), (u4 17), Ud]) rfl rfl (does_move (u := (.slice pa xs.length qa)) (ev rfl)) rfl ?_
    refine q_is (l' := [(.slice pa xs.length qa), (Iv s.2), Ud, Ud, (Iv 0), (Iv (s.1 : Int)), (Iv (s.1 : Int)), (.slice pa xs.length qa), (Iv (xs.length : Int)), (u4 9), (u4 10), (u4 11), (u4 12), (u4 13), (u4 14), (u4 15), (u4 16), (u4 17), Ud]) rfl rfl (does_len_slice Try.underlying23 (ev rfl)) rfl ?_
    refine q_is (l' := [(.slice pa xs.length qa), (Iv s.2), Ud, Ud, (Iv 0), (Iv (s.1 : Int)), (Iv (s.1 : Int)), (.slice pa xs.length qa), (Iv (xs.length : Int)), (Bo (icmp .lss (s.1 : Int) (xs.length : Int))), (u4 10), (u4 11), (u4 12), (u4 13), (u4 14), (u4 15), (u4 16), (u4 17), Ud]) rfl rfl (does_icmp (p := (s.1 : Int)) (q := (xs.length : Int)) (.inr (.inr (.inl rfl))) (ev rfl) (ev rfl)) rfl ?_
    refine wpList_nil (hK10 _ _ ?_)
    refine wp_cond_split (t := icmp .lss (s.1 : Int) (xs.length : Int)) (ev rfl) (fun c11 => ?_) (fun c11 => ?_)
    · have c11' := c11
      (try simp only [icmp, Bool.and_eq_true, Bool.or_eq_true, Bool.and_eq_false_iff, Bool.or_eq_false_iff, Bool.not_eq_true', Bool.not_eq_false', decide_eq_true_eq, decide_eq_false_iff_not, beq_iff_eq, bne_iff_ne, beq_eq_false_iff_ne, bne_eq_false_iff_eq] at c11')
      refine wp_skip (hK9 _ _ ?_)
      refine wp_seq_k fun K12 hK12 => ?_
      refine wp_block ?_
      refine wp_region_lit ?_
      refine q_is (l' := [(.slice pa xs.length qa), (Iv s.2), Ud, Ud, (Iv 0), (Iv (s.1 : Int)), (Iv (s.1 : Int)), (.slice pa xs.length qa), (Iv (xs.length : Int)), (Bo (icmp .lss (s.1 : Int) (xs.length : Int))), (u4 10), (u4 11), (.slice pa xs.length qa), (u4 13), (u4 14), (u4 15), (u4 16), (u4 17), Ud]) rfl rfl (does_move (u := (.slice pa xs.length qa)) (ev rfl)) rfl ?_
      refine q_is (l' := [(.slice pa xs.length qa), (Iv s.2), Ud, Ud, (Iv 0), (Iv (s.1 : Int)), (Iv (s.1 : Int)), (.slice pa xs.length qa), (Iv (xs.length : Int)), (Bo (icmp .lss (s.1 : Int) (xs.length : Int))), (u4 10), (u4 11), (.slice pa xs.length qa), (Iv (s.1 : Int)), (u4 14), (u4 15), (u4 16), (u4 17), Ud]) rfl rfl (does_move (u := (Iv (s.1 : Int))) (ev rfl)) rfl ?_
      obtain ⟨x1, hx1⟩ : ∃ x, xs[s.1]? = some x := ⟨_, List.getElem?_eq_getElem (by omega)⟩
      have hss := liSum_succ hx1
      have hmo := liSum_mono xs (j := s.1 + 1) (k := xs.length) (by omega)
      obtain ⟨el1, hel1⟩ : ∃ e, vs[s.1]? = some e := ⟨_, List.getElem?_eq_getElem (by omega)⟩
      refine seqd rfl rfl (does_indexSl (R := RVl) (i := (s.1 : Int)) (xs := vs) (e := el1) Try.underlying23 Try.sizeOf27 (ev rfl) (ev rfl) (NMk.slv hst) (by omega) hel1) ?_; rintro _ w5 ⟨b13, o14, _, rfl, hc16, rfl, rfl⟩
      show wpList _ _ _ _ (fr [(.slice pa xs.length qa), (Iv s.2), Ud, Ud, (Iv 0), (Iv (s.1 : Int)), (Iv (s.1 : Int)), (.slice pa xs.length qa), (Iv (xs.length : Int)), (Bo (icmp .lss (s.1 : Int) (xs.length : Int))), (u4 10), (u4 11), (.slice pa xs.length qa), (Iv (s.1 : Int)), (Pt b13 o14), (u4 15), (u4 16), (u4 17), Ud]) _
      refine q_is (l' := [(.slice pa xs.length qa), (Iv s.2), Ud, Ud, (Iv 0), (Iv (s.1 : Int)), (Iv (s.1 : Int)), (.slice pa xs.length qa), (Iv (xs.length : Int)), (Bo (icmp .lss (s.1 : Int) (xs.length : Int))), (u4 10), (u4 11), (.slice pa xs.length qa), (Iv (s.1 : Int)), (Pt b13 o14), el1, (u4 16), (u4 17), Ud]) rfl rfl (does_load (u := el1) (ev rfl) Try.isAgg27 (Cells.at hc16 0 rfl)) rfl ?_
      refine q_is (l' := [(.slice pa xs.length qa), (Iv s.2), Ud, Ud, (Iv 0), (Iv (s.1 : Int)), (Iv (s.1 : Int)), (.slice pa xs.length qa), (Iv (xs.length : Int)), (Bo (icmp .lss (s.1 : Int) (xs.length : Int))), (u4 10), (u4 11), (.slice pa xs.length qa), (Iv (s.1 : Int)), (Pt b13 o14), el1, (Iv s.2), (u4 17), Ud]) rfl rfl (does_move (u := (Iv s.2)) (ev rfl)) rfl ?_
      refine seqd rfl rfl (does_callK (args := #[el1, (Iv s.2)]) cal12 (evs rfl) (c_laws_markInt64S_mk el1 x1.length (Ls s.1) B s.2 _ (hst.rest s.1 _ _ (Nat.le_refl _) hel1 hx1) (by omega) (by omega))) ?_; rintro _ w17 ⟨K18, rfl, hM19⟩
      have X20 := KpL.more X8 K18 (fun c hc => .inl (hst.sub _ c hc))
      show wpList _ _ _ _ (fr [(.slice pa xs.length qa), (Iv s.2), Ud, Ud, (Iv 0), (Iv (s.1 : Int)), (Iv (s.1 : Int)), (.slice pa xs.length qa), (Iv (xs.length : Int)), (Bo (icmp .lss (s.1 : Int) (xs.length : Int))), (u4 10), (u4 11), (.slice pa xs.length qa), (Iv (s.1 : Int)), (Pt b13 o14), el1, (Iv s.2), (Iv (s.2 + (x1.length : Int) * 1)), Ud]) _
      refine q_is (l' := [(.slice pa xs.length qa), (Iv (s.2 + (x1.length : Int) * 1)), Ud, Ud, (Iv 0), (Iv (s.1 : Int)), (Iv (s.1 : Int)), (.slice pa xs.length qa), (Iv (xs.length : Int)), (Bo (icmp .lss (s.1 : Int) (xs.length : Int))), (u4 10), (u4 11), (.slice pa xs.length qa), (Iv (s.1 : Int)), (Pt b13 o14), el1, (Iv s.2), (Iv (s.2 + (x1.length : Int) * 1)), Ud]) rfl rfl (does_assign (u := (Iv (s.2 + (x1.length : Int) * 1))) (ev rfl)) rfl ?_
      refine wpList_nil (hK12 _ _ ?_)
      refine wp_region_lit ?_
      refine q_is (l' := [(.slice pa xs.length qa), (Iv (s.2 + (x1.length : Int) * 1)), Ud, Ud, (Iv 0), (Iv (s.1 : Int)), (Iv (s.1 : Int)), (.slice pa xs.length qa), (Iv (xs.length : Int)), (Bo (icmp .lss (s.1 : Int) (xs.length : Int))), (Iv (s.1 : Int)), (u4 11), (.slice pa xs.length qa), (Iv (s.1 : Int)), (Pt b13 o14), el1, (Iv s.2), (Iv (s.2 + (x1.length : Int) * 1)), Ud]) rfl rfl (does_move (u := (Iv (s.1 : Int))) (ev rfl)) rfl ?_
      refine q_is (l' := [(.slice pa xs.length qa), (Iv (s.2 + (x1.length : Int) * 1)), Ud, Ud, (Iv 0), (Iv (s.1 : Int)), (Iv (s.1 : Int)), (.slice pa xs.length qa), (Iv (xs.length : Int)), (Bo (icmp .lss (s.1 : Int) (xs.length : Int))), (Iv (s.1 : Int)), (Iv ((s.1 : Int) + 1)), (.slice pa xs.length qa), (Iv (s.1 : Int)), (Pt b13 o14), el1, (Iv s.2), (Iv (s.2 + (x1.length : Int) * 1)), Ud]) rfl rfl (does_iarith (p := (s.1 : Int)) (q := 1) (r := (s.1 : Int) + 1) (ev rfl) (ev rfl) (.inl ⟨rfl, (in_i64 (by omega) (by omega)).symm⟩)) rfl ?_
      refine q_is (l' := [(.slice pa xs.length qa), (Iv (s.2 + (x1.length : Int) * 1)), Ud, Ud, (Iv 0), (Iv ((s.1 : Int) + 1)), (Iv (s.1 : Int)), (.slice pa xs.length qa), (Iv (xs.length : Int)), (Bo (icmp .lss (s.1 : Int) (xs.length : Int))), (Iv (s.1 : Int)), (Iv ((s.1 : Int) + 1)), (.slice pa xs.length qa), (Iv (s.1 : Int)), (Pt b13 o14), el1, (Iv s.2), (Iv (s.2 + (x1.length : Int) * 1)), Ud]) rfl rfl (does_assign (u := (Iv ((s.1 : Int) + 1))) (ev rfl)) rfl ?_
      refine wpList_nil ?_
      refine ⟨(s.1 + 1, s.2 + (x1.length : Int) * 1), ⟨fun t => (([(.slice pa xs.length qa), (Iv (s.2 + (x1.length : Int) * 1)), Ud, Ud, (Iv 0), (Iv ((s.1 : Int) + 1)), (Iv (s.1 : Int)), (.slice pa xs.length qa), (Iv (xs.length : Int)), (Bo (icmp .lss (s.1 : Int) (xs.length : Int))), (Iv (s.1 : Int)), (Iv ((s.1 : Int) + 1)), (.slice pa xs.length qa), (Iv (s.1 : Int)), (Pt b13 o14), el1, (Iv s.2), (Iv (s.2 + (x1.length : Int) * 1)), Ud] : List Value)[t]?).getD undef, ?_, (KpL.more E6 K18 (fun c hc => .inl (hst.sub _ c hc))), (NMk.step hst K18 (fun y z hy hz => by rw [hel1] at hy; rw [hx1] at hz; cases hy; cases hz; rw [show preK k xs s.1 = s.2 from hn2.symm]; exact hM19)), ?_⟩, ?_⟩
      · first | rfl | (simp only [Int.natCast_add, Int.natCast_one]; rfl)
      · (try dsimp only); exact ⟨by omega, by (try dsimp only); omega⟩
      · (try dsimp only); omega
    have c11' := c11
    (try simp only [icmp, Bool.and_eq_true, Bool.or_eq_true, Bool.and_eq_false_iff, Bool.or_eq_false_iff, Bool.not_eq_true', Bool.not_eq_false', decide_eq_true_eq, decide_eq_false_iff_not, beq_iff_eq, bne_iff_ne, beq_eq_false_iff_ne, bne_eq_false_iff_eq] at c11')
    refine wp_exit ?_
    refine hK2 _ _ ?_
    refine wp_seq_k fun K21 hK21 => ?_
    refine wp_region_lit ?_
    refine q_is (l' := [(.slice pa xs.length qa), (Iv s.2), Ud, Ud, (Iv 0), (Iv (s.1 : Int)), (Iv (s.1 : Int)), (.slice pa xs.length qa), (Iv (xs.length : Int)), (Bo (icmp .lss (s.1 : Int) (xs.length : Int))), (u4 10), (u4 11), (u4 12), (u4 13), (u4 14), (u4 15), (u4 16), (u4 17), (Iv s.2)]) rfl rfl (does_move (u := (Iv s.2)) (ev rfl)) rfl ?_
    refine q_is (l' := [(.slice pa xs.length qa), (Iv s.2), Ud, Ud, (Iv s.2), (Iv (s.1 : Int)), (Iv (s.1 : Int)), (.slice pa xs.length qa), (Iv (xs.length : Int)), (Bo (icmp .lss (s.1 : Int) (xs.length : Int))), (u4 10), (u4 11), (u4 12), (u4 13), (u4 14), (u4 15), (u4 16), (u4 17), (Iv s.2)]) rfl rfl (does_assign (u := (Iv s.2)) (ev rfl)) rfl ?_
    refine wpList_nil (hK21 _ _ ?_)
    refine wp_ret ?_
    refine ret_valK (v := (Iv s.2)) (res_T rfl (slot rfl)) X8 ?_
    exact ⟨by first | rfl | (show Value.int _ _ = Value.int _ _; congr 1; rw [hn2, show s.1 = xs.length by omega]), NMk.hang hst (by omega) (by decide) (fun x hx => by have := liSum_each hx; omega) rI⟩

theorem c_laws_markMesh (p t : Value) (m : MeshT) (L : List Nat) (B : Nat) (k : Int) (w : World) (h : WLM B w L p t m) (h0 : 0 ≤ k) (h1 : k + meSz m ≤ 4611686018427387904) : GivesK L Try.prog 11 #[.agg #[p, t], Iv k] w (fun v w' => v = Iv (k + meSz m) ∧ Hang B w' (fun u => Sl RV3 3 u p (mkL fV 3 k m.places.length)) ∧ Hang B w' (fun u => Sl (RS RI 1) 1 u t (mkLL fI 1 (preK (k + (m.places.length : Int) * 3) m.tris) m.tris))) := by
  unfold meSz at h1
  obtain ⟨hL, L1, L2, hp, ht, s1, s2, hd⟩ := h
  obtain ⟨pp, qp, rfl⟩ := WL.shape' hp
  obtain ⟨pt, qt, rfl⟩ := WLL.shape ht
  refine enterK [(.agg #[(.slice pp m.places.length qp), (.slice pt m.tris.length qt)]), (Iv k), Ud, Ud, Ud, Ud, Ud, Ud, Ud, Ud, Ud, Ud, Ud, Ud] Try.func11 rfl Try.ntmps11 rfl ?_
  refine wp_seq_k fun K1 hK1 => ?_
  refine wp_region_lit ?_
  refine seqd rfl rfl (does_box (u := (.agg #[(.slice pp m.places.length qp), (.slice pt m.tris.length qt)])) (ev rfl)) ?_; rintro _ w6 ⟨b2, rfl, hb3, hB4, E5⟩
  have g7 : w.heap.size ≤ b2 := Nat.le_trans (KpL.size (KpL.refl L w)) hb3
  change Blk _ _ [(.slice pp m.places.length qp), (.slice pt m.tris.length qt)] at hB4
  have X8 := KpL.ext (KpL.refl L w) E5
  show wpList _ _ _ _ (fr [(.agg #[(.slice pp m.places.length qp), (.slice pt m.tris.length qt)]), (Iv k), (Pt b2 0), Ud, Ud, Ud, Ud, Ud, Ud, Ud, Ud, Ud, Ud, Ud]) _
  refine q_is (l' := [(.agg #[(.slice pp m.places.length qp), (.slice pt m.tris.length qt)]), (Iv k), (Pt b2 0), Ud, (Iv 0), Ud, Ud, Ud, Ud, Ud, Ud, Ud, Ud, Ud]) rfl rfl (does_assign (u := (Iv 0)) (ev rfl)) rfl ?_
  refine wpList_nil (hK1 _ _ ?_)
  refine wp_seq_k fun K9 hK9 => ?_
  refine wp_region_lit ?_
  refine q_is (l' := [(.agg #[(.slice pp m.places.length qp), (.slice pt m.tris.length qt)]), (Iv k), (Pt b2 0), Ud, (Iv 0), (Pt b2 0), Ud, Ud, Ud, Ud, Ud, Ud, Ud, Ud]) rfl rfl (does_fieldAddr (ev rfl) fa32_0) rfl ?_
  refine q_is (l' := [(.agg #[(.slice pp m.places.length qp), (.slice pt m.tris.length qt)]), (Iv k), (Pt b2 0), Ud, (Iv 0), (Pt b2 0), (.slice pp m.places.length qp), Ud, Ud, Ud, Ud, Ud, Ud, Ud]) rfl rfl (does_load (u := (.slice pp m.places.length qp)) (ev rfl) Try.isAgg30 (Cells.at (Blk.cells hB4) 0 rfl)) rfl ?_
  refine q_is (l' := [(.agg #[(.slice pp m.places.length qp), (.slice pt m.tris.length qt)]), (Iv k), (Pt b2 0), Ud, (Iv 0), (Pt b2 0), (.slice pp m.places.length qp), (Iv k), Ud, Ud, Ud, Ud, Ud, Ud]) rfl rfl (does_move (u := (Iv k)) (ev rfl)) rfl ?_
  refine seqd rfl rfl (does_callK (args := #[(.slice pp m.places.length qp), (Iv k)]) cal32 (evs rfl) (c_laws_markVectorS_mk (.slice pp m.places.length qp) m.places.length L1 B k _ (hp.same (Same.of_ext (Ext.gr (Ext.refl _) E5))) (by omega) (by omega))) ?_; rintro _ w10 ⟨K11, rfl, hM12⟩
  have X13 := KpL.more X8 K11 (fun c hc => .inl (s1 c hc))
  have ht2 := WLL.kl (ht.same (Same.of_ext (Ext.gr (Ext.refl _) E5))) K11 hd
  show wpList _ _ _ _ (fr [(.agg #[(.slice pp m.places.length qp), (.slice pt m.tris.length qt)]), (Iv k), (Pt b2 0), Ud, (Iv 0), (Pt b2 0), (.slice pp m.places.length qp), (Iv k), (Iv (k + (m.places.length : Int) * 3)), Ud, Ud, Ud, Ud, Ud]) _
  refine q_is (l' := [(.agg #[(.slice pp m.places.length qp), (.slice pt m.tris.length qt)]), (Iv (k + (m.places.length : Int) * 3)), (Pt b2 0), Ud, (Iv 0), (Pt b2 0), (.slice pp m.places.length qp), (Iv k), (Iv (k + (m.places.length : Int) * 3)), Ud, Ud, Ud, Ud, Ud]) rfl rfl (does_assign (u := (Iv (k + (m.places.length : Int) * 3))) (ev rfl)) rfl ?_
  refine wpList_nil (hK9 _ _ ?_)
  refine wp_seq_k fun K14 hK14 => ?_
  refine wp_region_lit ?_
  refine q_is (l' := [(.agg #[(.slice pp m.places.length qp), (.slice pt m.tris.length qt)]), (Iv (k + (m.places.length : Int) * 3)), (Pt b2 0), Ud, (Iv 0), (Pt b2 0), (.slice pp m.places.length qp), (Iv k), (Iv (k + (m.places.length : Int) * 3)), (Pt b2 1), Ud, Ud, Ud, Ud]) rfl rfl (does_fieldAddr (ev rfl) fa32_1) rfl ?_
  refine q_is (l' := [(.agg #[(.slice pp m.places.length qp), (.slice pt m.tris.length qt)]), (Iv (k + (m.places.length : Int) * 3)), (Pt b2 0), Ud, (Iv 0), (Pt b2 0), (.slice pp m.places.length qp), (Iv k), (Iv (k + (m.places.length : Int) * 3)), (Pt b2 1), (.slice pt m.tris.length qt), Ud, Ud, Ud]) rfl rfl (does_load (u := (.slice pt m.tris.length qt)) (ev rfl) Try.isAgg23 (Cells.at (Blk.cells (hB4.kl K11 (fun hc => absurd (Nat.lt_of_lt_of_le (hp.1 _ hc).2 (Nat.le_trans (Nat.le_refl _) hb3)) (Nat.lt_irrefl _)))) 1 rfl)) rfl ?_
  refine q_is (l' := [(.agg #[(.slice pp m.places.length qp), (.slice pt m.tris.length qt)]), (Iv (k + (m.places.length : Int) * 3)), (Pt b2 0), Ud, (Iv 0), (Pt b2 0), (.slice pp m.places.length qp), (Iv k), (Iv (k + (m.places.length : Int) * 3)), (Pt b2 1), (.slice pt m.tris.length qt), (Iv (k + (m.places.length : Int) * 3)), Ud, Ud]) rfl rfl (does_move (u := (Iv (k + (m.places.length : Int) * 3))) (ev rfl)) rfl ?_
  refine seqd rfl rfl (does_callK (args := #[(.slice pt m.tris.length qt), (Iv (k + (m.places.length : Int) * 3))]) cal33 (evs rfl) (c_laws_markInt64SS (.slice pt m.tris.length qt) m.tris L2 B (k + (m.places.length : Int) * 3) _ ht2 (by omega) (by omega))) ?_; rintro _ w15 ⟨K16, rfl, hM17⟩
  have X18 := KpL.more X13 K16 (fun c hc => .inl (s2 c hc))
  have hM2 := MkS.kl hM12 K16 (fun c hc => (hd c hc).1)
  show wpList _ _ _ _ (fr [(.agg #[(.slice pp m.places.length qp), (.slice pt m.tris.length qt)]), (Iv (k + (m.places.length : Int) * 3)), (Pt b2 0), Ud, (Iv 0), (Pt b2 0), (.slice pp m.places.length qp), (Iv k), (Iv (k + (m.places.length : Int) * 3)), (Pt b2 1), (.slice pt m.tris.length qt), (Iv (k + (m.places.length : Int) * 3)), (Iv ((k + (m.places.length : Int) * 3) + (liSum m.tris m.tris.length : Nat))), Ud]) _
  refine q_is (l' := [(.agg #[(.slice pp m.places.length qp), (.slice pt m.tris.length qt)]), (Iv ((k + (m.places.length : Int) * 3) + (liSum m.tris m.tris.length : Nat))), (Pt b2 0), Ud, (Iv 0), (Pt b2 0), (.slice pp m.places.length qp), (Iv k), (Iv (k + (m.places.length : Int) * 3)), (Pt b2 1), (.slice pt m.tris.length qt), (Iv (k + (m.places.length : Int) * 3)), (Iv ((k + (m.places.length : Int) * 3) + (liSum m.tris m.tris.length : Nat))), Ud]) rfl rfl (does_assign (u := (Iv ((k + (m.places.length : Int) * 3) + (liSum m.tris m.tris.length : Nat)))) (ev rfl)) rfl ?_
  refine wpList_nil (hK14 _ _ ?_)
  refine wp_seq_k fun K19 hK19 => ?_
  refine wp_region_lit ?_
  refine q_is (l' := [(.agg #[(.slice pp m.places.length qp), (.slice pt m.tris.length qt)]), (Iv ((k + (m.places.length : Int) * 3) + (liSum m.tris m.tris.length : Nat))), (Pt b2 0), Ud, (Iv 0), (Pt b2 0), (.slice pp m.places.length qp), (Iv k), (Iv (k + (m.places.length : Int) * 3)), (Pt b2 1), (.slice pt m.tris.length qt), (Iv (k + (m.places.length : Int) * 3)), (Iv ((k + (m.places.length : Int) * 3) + (liSum m.tris m.tris.length : Nat))), (Iv ((k + (m.places.length : Int) * 3) + (liSum m.tris m.tris.length : Nat)))]) rfl rfl (does_move (u := (Iv ((k + (m.places.length : Int) * 3) + (liSum m.tris m.tris.length : Nat)))) (ev rfl)) rfl ?_
  refine q_is (l' := [(.agg #[(.slice pp m.places.length qp), (.slice pt m.tris.length qt)]), (Iv ((k + (m.places.length : Int) * 3) + (liSum m.tris m.tris.length : Nat))), (Pt b2 0), Ud, (Iv ((k + (m.places.length : Int) * 3) + (liSum m.tris m.tris.length : Nat))), (Pt b2 0), (.slice pp m.places.length qp), (Iv k), (Iv (k + (m.places.length : Int) * 3)), (Pt b2 1), (.slice pt m.tris.length qt), (Iv (k + (m.places.length : Int) * 3)), (Iv ((k + (m.places.length : Int) * 3) + (liSum m.tris m.tris.length : Nat))), (Iv ((k + (m.places.length : Int) * 3) + (liSum m.tris m.tris.length : Nat)))]) rfl rfl (does_assign (u := (Iv ((k + (m.places.length : Int) * 3) + (liSum m.tris m.tris.length : Nat)))) (ev rfl)) rfl ?_
  refine wpList_nil (hK19 _ _ ?_)
  refine wp_ret ?_
  refine ret_valK (v := (Iv ((k + (m.places.length : Int) * 3) + (liSum m.tris m.tris.length : Nat)))) (res_T rfl (slot rfl)) X18 ?_
  exact ⟨by first | rfl | (show Value.int _ _ = Value.int _ _; congr 1; (try unfold meSz); omega), fun u hu => (hM2.same hu (fun c hc => (hp.1 c hc).1)).sl (by decide) (by omega) rV, hM17⟩

/- laws.heldInt64S -/
theorem c_laws_heldInt64S (a : Value) (L_a : List Int) (k : Int) (w : World) (hv_a : Sl RI 1 w a L_a) (hm : L_a = mkL fI 1 k L_a.length) (h0 : 0 ≤ k) (h1 : k + (L_a.length : Int) * 1 ≤ 4611686018427387904) : Gives Try.prog 13 #[a, (Iv k)] w (fun v w' => v = (Iv (k + (L_a.length : Int) * 1))) := by
  have hlen_a := Sl.len hv_a; obtain ⟨p_a, q_a, rfl⟩ := Sl.shape hv_a
  refine enter [(.slice p_a L_a.length q_a), (Iv k), Ud, Ud, Ud, Ud, Ud, Ud, Ud, Ud, Ud, Ud, Ud, Ud, Ud, Ud, Ud, Ud, Ud, Ud, Ud] Try.func13 rfl Try.ntmps13 rfl ?_
  refine wp_seq_k fun K1 hK1 => ?_
  refine wp_region_lit ?_
  refine q_is (l' := [(.slice p_a L_a.length q_a), (Iv k), Ud, Ud, (Iv 0), Ud, Ud, Ud, Ud, Ud, Ud, Ud, Ud, Ud, Ud, Ud, Ud, Ud, Ud, Ud, Ud]) rfl rfl (does_assign (u := (Iv 0)) (ev rfl)) rfl ?_
  refine wpList_nil (hK1 _ _ ?_)
  refine wp_seq_k fun K2 hK2 => ?_
  refine wp_seq_k fun K3 hK3 => ?_
  refine wp_region_lit ?_
  refine q_is (l' := [(.slice p_a L_a.length q_a), (Iv k), Ud, Ud, (Iv 0), (Iv 0), Ud, Ud, Ud, Ud, Ud, Ud, Ud, Ud, Ud, Ud, Ud, Ud, Ud, Ud, Ud]) rfl rfl (does_assign (u := (Iv 0)) (ev rfl)) rfl ?_
  refine wpList_nil (hK3 _ _ ?_)
  refine wp_block ?_
  refine loop_ghost (σ := Nat × Int) (fun s a w' => ∃ u4 : Nat → Value, a = fr [(.slice p_a L_a.length q_a), (Iv s.2), Ud, Ud, (u4 4), (Iv (s.1 : Int)), (u4 6), (u4 7), (u4 8), (u4 9), (u4 10), (u4 11), (u4 12), (u4 13), (u4 14), (u4 15), (u4 16), (u4 17), (u4 18), (u4 19), Ud] ∧ Ext w w' ∧ (s.1 ≤ L_a.length ∧ s.2 = k + (s.1 : Int) * 1)) (fun s => L_a.length - s.1) (0, k) ?_ ?_
  · refine ⟨fun t => (([(.slice p_a L_a.length q_a), (Iv k), Ud, Ud, (Iv 0), (Iv 0), Ud, Ud, Ud, Ud, Ud, Ud, Ud, Ud, Ud, Ud, Ud, Ud, Ud, Ud, Ud] : List Value)[t]?).getD undef, rfl, Ext.refl _, ?_⟩
    exact ⟨Nat.zero_le _, by simp⟩
  · rintro s a w5 ⟨u4, rfl, E6, ⟨hk, hn2⟩⟩
    have X8 := Ext.gr (Ext.refl w) E6
    refine wp_seq_k fun K9 hK9 => ?_
    refine wp_seq_k fun K10 hK10 => ?_
    refine wp_region_lit ?_
    refine q_is (l' := [(.slice p_a L_a.length q_a), (Iv s.2), Ud, Ud, (u4 4), (Iv (s.1 : Int)), (Iv (s.1 : Int)), (u4 7), (u4 8), (u4 9), (u4 10), (u4 11), (u4 12), (u4 13), (u4 14), (u4 15), (u4 16), (u4 17), (u4 18), (u4 19), Ud]) rfl rfl (does_move (u := (Iv (s.1 : Int))) (ev rfl)) rfl ?_
    refine q_is (l' := [(.slice p_a L_a.length q_a), (Iv s.2), Ud, Ud, (u4 4), (Iv (s.1 : Int)), (Iv (s.1 : Int)), (.slice p_a L_a.length q_a), (u4 8), (u4 9), (u4 10), (u4 11), (u4 12), (u4 13), (u4 14), (u4 15), (u4 16), (u4 17), (u4 18), (u4 19), Ud]) rfl rfl (does_move (u := (.slice p_a L_a.length q_a)) (ev rfl)) rfl ?_
    refine q_is (l' := [(.slice p_a L_a.length q_a), (Iv s.2), Ud, Ud, (u4 4), (Iv (s.1 : Int)), (Iv (s.1 : Int)), (.slice p_a L_a.length q_a), (Iv (L_a.length : Int)), (u4 9), (u4 10), (u4 11), (u4 12), (u4 13), (u4 14), (u4 15), (u4 16), (u4 17), (u4 18), (u4 19), Ud]) rfl rfl (does_len_slice Try.underlying27 (ev rfl)) rfl ?_
    refine q_is (l' := [(.slice p_a L_a.length q_a), (Iv s.2), Ud, Ud, (u4 4), (Iv (s.1 : Int)), (Iv (s.1 : Int)), (.slice p_a L_a.length q_a), (Iv (L_a.length : Int)), (Bo (icmp .lss (s.1 : Int) (L_a.length : Int))), (u4 10), (u4 11), (u4 12), (u4 13), (u4 14), (u4 15), (u4 16), (u4 17), (u4 18), (u4 19), Ud]) rfl rfl (does_icmp (p := (s.1 : Int)) (q := (L_a.length : Int)) (.inr (.inr (.inl rfl))) (ev rfl) (ev rfl)) rfl ?_
    refine wpList_nil (hK10 _ _ ?_)
    refine wp_cond_split (t := icmp .lss (s.1 : Int) (L_a.length : Int)) (ev rfl) (fun c11 => ?_) (fun c11 => ?_)
    · have c11' := c11
      (try simp only [icmp, Bool.and_eq_true, Bool.or_eq_true, Bool.and_eq_false_iff, Bool.or_eq_false_iff, Bool.not_eq_true', Bool.not_eq_false', decide_eq_true_eq, decide_eq_false_iff_not, beq_iff_eq, bne_iff_ne, beq_eq_false_iff_ne, bne_eq_false_iff_eq] at c11')
      refine wp_skip (hK9 _ _ ?_)
      refine wp_seq_k fun K12 hK12 => ?_
      refine wp_block ?_
      refine wp_seq_k fun K13 hK13 => ?_
      refine wp_seq_k fun K14 hK14 => ?_
      refine wp_region_lit ?_
      refine q_is (l' := [(.slice p_a L_a.length q_a), (Iv s.2), Ud, Ud, (u4 4), (Iv (s.1 : Int)), (Iv (s.1 : Int)), (.slice p_a L_a.length q_a), (Iv (L_a.length : Int)), (Bo (icmp .lss (s.1 : Int) (L_a.length : Int))), (u4 10), (u4 11), (.slice p_a L_a.length q_a), (u4 13), (u4 14), (u4 15), (u4 16), (u4 17), (u4 18), (u4 19), Ud]) rfl rfl (does_move (u := (.slice p_a L_a.length q_a)) (ev rfl)) rfl ?_
      refine q_is (l' := [(.slice p_a L_a.length q_a), (Iv s.2), Ud, Ud, (u4 4), (Iv (s.1 : Int)), (Iv (s.1 : Int)), (.slice p_a L_a.length q_a), (Iv (L_a.length : Int)), (Bo (icmp .lss (s.1 : Int) (L_a.length : Int))), (u4 10), (u4 11), (.slice p_a L_a.length q_a), (Iv (s.1 : Int)), (u4 14), (u4 15), (u4 16), (u4 17), (u4 18), (u4 19), Ud]) rfl rfl (does_move (u := (Iv (s.1 : Int))) (ev rfl)) rfl ?_
      obtain ⟨el1, hel1⟩ : ∃ e, L_a[s.1]? = some e := ⟨_, List.getElem?_eq_getElem (by omega)⟩
      refine seqd rfl rfl (does_indexSl (R := RI) (i := (s.1 : Int)) (xs := L_a) (e := el1) Try.underlying27 Try.sizeOf2 (ev rfl) (ev rfl) (Sl.ext hv_a RI.mono X8) (by omega) hel1) ?_; rintro _ w5 ⟨b15, o16, _, rfl, hc18, rfl, rfl⟩
      show wpList _ _ _ _ (fr [(.slice p_a L_a.length q_a), (Iv s.2), Ud, Ud, (u4 4), (Iv (s.1 : Int)), (Iv (s.1 : Int)), (.slice p_a L_a.length q_a), (Iv (L_a.length : Int)), (Bo (icmp .lss (s.1 : Int) (L_a.length : Int))), (u4 10), (u4 11), (.slice p_a L_a.length q_a), (Iv (s.1 : Int)), (Pt b15 o16), (u4 15), (u4 16), (u4 17), (u4 18), (u4 19), Ud]) _
      refine q_is (l' := [(.slice p_a L_a.length q_a), (Iv s.2), Ud, Ud, (u4 4), (Iv (s.1 : Int)), (Iv (s.1 : Int)), (.slice p_a L_a.length q_a), (Iv (L_a.length : Int)), (Bo (icmp .lss (s.1 : Int) (L_a.length : Int))), (u4 10), (u4 11), (.slice p_a L_a.length q_a), (Iv (s.1 : Int)), (Pt b15 o16), (Iv el1), (u4 16), (u4 17), (u4 18), (u4 19), Ud]) rfl rfl (does_load (u := (Iv el1)) (ev rfl) Try.isAgg2 (Cells.at hc18 0 rfl)) rfl ?_
      refine q_is (l' := [(.slice p_a L_a.length q_a), (Iv s.2), Ud, Ud, (u4 4), (Iv (s.1 : Int)), (Iv (s.1 : Int)), (.slice p_a L_a.length q_a), (Iv (L_a.length : Int)), (Bo (icmp .lss (s.1 : Int) (L_a.length : Int))), (u4 10), (u4 11), (.slice p_a L_a.length q_a), (Iv (s.1 : Int)), (Pt b15 o16), (Iv el1), (Iv s.2), (u4 17), (u4 18), (u4 19), Ud]) rfl rfl (does_move (u := (Iv s.2)) (ev rfl)) rfl ?_
      refine q_is (l' := [(.slice p_a L_a.length q_a), (Iv s.2), Ud, Ud, (u4 4), (Iv (s.1 : Int)), (Iv (s.1 : Int)), (.slice p_a L_a.length q_a), (Iv (L_a.length : Int)), (Bo (icmp .lss (s.1 : Int) (L_a.length : Int))), (u4 10), (u4 11), (.slice p_a L_a.length q_a), (Iv (s.1 : Int)), (Pt b15 o16), (Iv el1), (Iv s.2), (Bo (icmp .neq el1 s.2)), (u4 18), (u4 19), Ud]) rfl rfl (does_icmp (p := el1) (q := s.2) (.inr (.inl rfl)) (ev rfl) (ev rfl)) rfl ?_
      refine wpList_nil (hK14 _ _ ?_)
      refine wp_cond_split (t := icmp .neq el1 s.2) (ev rfl) (fun c19 => ?_) (fun c19 => ?_)
      · have c19' := c19
        (try simp only [icmp, Bool.and_eq_true, Bool.or_eq_true, Bool.and_eq_false_iff, Bool.or_eq_false_iff, Bool.not_eq_true', Bool.not_eq_false', decide_eq_true_eq, decide_eq_false_iff_not, beq_iff_eq, bne_iff_ne, beq_eq_false_iff_ne, bne_eq_false_iff_eq] at c19')
        exfalso; have he := mkL_at hm hel1; subst he; simp only [fI, icmp, bne_iff_ne, ne_eq] at c19; omega
      have c19' := c19
      (try simp only [icmp, Bool.and_eq_true, Bool.or_eq_true, Bool.and_eq_false_iff, Bool.or_eq_false_iff, Bool.not_eq_true', Bool.not_eq_false', decide_eq_true_eq, decide_eq_false_iff_not, beq_iff_eq, bne_iff_ne, beq_eq_false_iff_ne, bne_eq_false_iff_eq] at c19')
      refine wp_skip (hK13 _ _ ?_)
      refine wp_region_lit ?_
      refine q_is (l' := [(.slice p_a L_a.length q_a), (Iv s.2), Ud, Ud, (u4 4), (Iv (s.1 : Int)), (Iv (s.1 : Int)), (.slice p_a L_a.length q_a), (Iv (L_a.length : Int)), (Bo (icmp .lss (s.1 : Int) (L_a.length : Int))), (u4 10), (u4 11), (.slice p_a L_a.length q_a), (Iv (s.1 : Int)), (Pt b15 o16), (Iv el1), (Iv s.2), (Bo (icmp .neq el1 s.2)), (Iv s.2), (u4 19), Ud]) rfl rfl (does_move (u := (Iv s.2)) (ev rfl)) rfl ?_
      refine q_is (l' := [(.slice p_a L_a.length q_a), (Iv s.2), Ud, Ud, (u4 4), (Iv (s.1 : Int)), (Iv (s.1 : Int)), (.slice p_a L_a.length q_a), (Iv (L_a.length : Int)), (Bo (icmp .lss (s.1 : Int) (L_a.length : Int))), (u4 10), (u4 11), (.slice p_a L_a.length q_a), (Iv (s.1 : Int)), (Pt b15 o16), (Iv el1), (Iv s.2), (Bo (icmp .neq el1 s.2)), (Iv s.2), (Iv (s.2 + 1)), Ud]) rfl rfl (does_iarith (p := s.2) (q := 1) (r := s.2 + 1) (ev rfl) (ev rfl) (.inl ⟨rfl, (in_i64 (by omega) (by omega)).symm⟩)) rfl ?_
      refine q_is (l' := [(.slice p_a L_a.length q_a), (Iv (s.2 + 1)), Ud, Ud, (u4 4), (Iv (s.1 : Int)), (Iv (s.1 : Int)), (.slice p_a L_a.length q_a), (Iv (L_a.length : Int)), (Bo (icmp .lss (s.1 : Int) (L_a.length : Int))), (u4 10), (u4 11), (.slice p_a L_a.length q_a), (Iv (s.1 : Int)), (Pt b15 o16), (Iv el1), (Iv s.2), (Bo (icmp .neq el1 s.2)), (Iv s.2), (Iv (s.2 + 1)), Ud]) rfl rfl (does_assign (u := (Iv (s.2 + 1))) (ev rfl)) rfl ?_
      refine wpList_nil (hK12 _ _ ?_)
      refine wp_region_lit ?_
      refine q_is (l' := [(.slice p_a L_a.length q_a), (Iv (s.2 + 1)), Ud, Ud, (u4 4), (Iv (s.1 : Int)), (Iv (s.1 : Int)), (.slice p_a L_a.length q_a), (Iv (L_a.length : Int)), (Bo (icmp .lss (s.1 : Int) (L_a.length : Int))), (Iv (s.1 : Int)), (u4 11), (.slice p_a L_a.length q_a), (Iv (s.1 : Int)), (Pt b15 o16), (Iv el1), (Iv s.2), (Bo (icmp .neq el1 s.2)), (Iv s.2), (Iv (s.2 + 1)), Ud]) rfl rfl (does_move (u := (Iv (s.1 : Int))) (ev rfl)) rfl ?_
      refine q_is (l' := [(.slice p_a L_a.length q_a), (Iv (s.2 + 1)), Ud, Ud, (u4 4), (Iv (s.1 : Int)), (Iv (s.1 : Int)), (.slice p_a L_a.length q_a), (Iv (L_a.length : Int)), (Bo (icmp .lss (s.1 : Int) (L_a.length : Int))), (Iv (s.1 : Int)), (Iv ((s.1 : Int) + 1)), (.slice p_a L_a.length q_a), (Iv (s.1 : Int)), (Pt b15 o16), (Iv el1), (Iv s.2), (Bo (icmp .neq el1 s.2)), (Iv s.2), (Iv (s.2 + 1)), Ud]) rfl rfl (does_iarith (p := (s.1 : Int)) (q := 1) (r := (s.1 : Int) + 1) (ev rfl) (ev rfl) (.inl ⟨rfl, (in_i64 (by omega) (by omega)).symm⟩)) rfl ?_
      refine q_is (l' := [(.slice p_a L_a.length q_a), (Iv (s.2 + 1)), Ud, Ud, (u4 4), (Iv ((s.1 : Int) + 1)), (Iv (s.1 : Int)), (.slice p_a L_a.length q_a), (Iv (L_a.length : Int)), (Bo (icmp .lss (s.1 : Int) (L_a.length : Int))), (Iv (s.1 : Int)), (Iv ((s.1 : Int) + 1)), (.slice p_a L_a.length q_a), (Iv (s.1 : Int)), (Pt b15 o16), (Iv el1), (Iv s.2), (Bo (icmp .neq el1 s.2)), (Iv s.2), (Iv (s.2 + 1)), Ud]) rfl rfl (does_assign (u := (Iv ((s.1 : Int) + 1))) (ev rfl)) rfl ?_
      refine wpList_nil ?_
      refine ⟨(s.1 + 1, s.2 + 1), ⟨fun t => (([(.slice p_a L_a.length q_a), (Iv (s.2 + 1)), Ud, Ud, (u4 4), (Iv ((s.1 : Int) + 1)), (Iv (s.1 : Int)), (.slice p_a L_a.length q_a), (Iv (L_a.length : Int)), (Bo (icmp .lss (s.1 : Int) (L_a.length : Int))), (Iv (s.1 : Int)), (Iv ((s.1 : Int) + 1)), (.slice p_a L_a.length q_a), (Iv (s.1 : Int)), (Pt b15 o16), (Iv el1), (Iv s.2), (Bo (icmp .neq el1 s.2)), (Iv s.2), (Iv (s.2 + 1)), Ud] : List Value)[t]?).getD undef, ?_, E6, ?_⟩, ?_⟩
      · first | rfl | (simp only [Int.natCast_add, Int.natCast_one]; rfl)
      · (try dsimp only); exact ⟨by omega, by (try dsimp only); omega⟩
      · (try dsimp only); omega
    have c11' := c11
    (try simp only [icmp, Bool.and_eq_true, Bool.or_eq_true, Bool.and_eq_false_iff, Bool.or_eq_false_iff, Bool.not_eq_true', Bool.not_eq_false', decide_eq_true_eq, decide_eq_false_iff_not, beq_iff_eq, bne_iff_ne, beq_eq_false_iff_ne, bne_eq_false_iff_eq] at c11')
    refine wp_exit ?_
    refine hK2 _ _ ?_
    refine wp_seq_k fun K20 hK20 => ?_
    refine wp_region_lit ?_
    refine q_is (l' := [(.slice p_a L_a.length q_a), (Iv s.2), Ud, Ud, (u4 4), (Iv (s.1 : Int)), (Iv (s.1 : Int)), (.slice p_a L_a.length q_a), (Iv (L_a.length : Int)), (Bo (icmp .lss (s.1 : Int) (L_a.length : Int))), (u4 10), (u4 11), (u4 12), (u4 13), (u4 14), (u4 15), (u4 16), (u4 17), (u4 18), (u4 19), (Iv s.2)]) rfl rfl (does_move (u := (Iv s.2)) (ev rfl)) rfl ?_
    refine q_is (l' := [(.slice p_a L_a.length q_a), (Iv s.2), Ud, Ud, (Iv s.2), (Iv (s.1 : Int)), (Iv (s.1 : Int)), (.slice p_a L_a.length q_a), (Iv (L_a.length : Int)), (Bo (icmp .lss (s.1 : Int) (L_a.length : Int))), (u4 10), (u4 11), (u4 12), (u4 13), (u4 14), (u4 15), (u4 16), (u4 17), (u4 18), (u4 19), (Iv s.2)]) rfl rfl (does_assign (u := (Iv s.2)) (ev rfl)) rfl ?_
    refine wpList_nil (hK20 _ _ ?_)
    refine wp_ret ?_
    refine ret_val (v := (Iv s.2)) (res_T rfl (slot rfl)) X8 ?_
    have x21 : (k + (L_a.length : Int) * 1 : Int) = s.2 := by first | omega | (rw [hn2, show s.1 = L_a.length by omega])
    exact (by first | with_reducible rfl | rw [x21] | rfl)

/- laws.FnExactPiecesOf -/
theorem c_laws_FnExactPiecesOf (m : List Value) (A_m : MeshT) (w : World) (hv_m : RMeshT w A_m m) : Gives Try.prog 3 #[(.agg m.toArray)] w (fun v w' => v = (Bo true)) := by
  obtain ⟨y1, y3, rfl, h2, h4⟩ := hv_m
  have hs7 := h2; have hs7l := Sl.len h2; obtain ⟨p5, q6, rfl⟩ := Sl.shape h2
  have hs10 := h4; have hs10l := Sl.len h4; obtain ⟨p8, q9, rfl⟩ := Sl.shape h4
  have hgl := pcsM_le A_m
  have hms := meSz_le A_m
  refine enter [(.agg #[(.slice p5 A_m.places.length q6), (.slice p8 A_m.tris.length q9)]), Ud, Ud, Ud, Ud, Ud, Ud, Ud, Ud, Ud, Ud, Ud, Ud, Ud, Ud, Ud, Ud, Ud, Ud, Ud, Ud, Ud, Ud, Ud, Ud, Ud, Ud, Ud, Ud, Ud, Ud, Ud, Ud, Ud, Ud, Ud, Ud, Ud, Ud, Ud, Ud, Ud, Ud, Ud, Ud, Ud, Ud, Ud, Ud, Ud, Ud, Ud, Ud, Ud, Ud, Ud, Ud, Ud, Ud, Ud, Ud, Ud, Ud, Ud, Ud, Ud, Ud, Ud, Ud, Ud, Ud, Ud, Ud, Ud, Ud, Ud, Ud, Ud, Ud, Ud, Ud, Ud, Ud, Ud, Ud, Ud, Ud, Ud, Ud, Ud, Ud, Ud, Ud, Ud, Ud, Ud, Ud, Ud, Ud, Ud, Ud, Ud, Ud, Ud, Ud, Ud, Ud, Ud, Ud, Ud, Ud, Ud, Ud, Ud, Ud, Ud, Ud] Try.func3 rfl Try.ntmps3 rfl ?_
  refine wp_seq_k fun K11 hK11 => ?_
  refine wp_region_lit ?_
  refine seqd rfl rfl (does_box (u := (.agg #[(.slice p5 A_m.places.length q6), (.slice p8 A_m.tris.length q9)])) (ev rfl)) ?_; rintro _ w16 ⟨b12, rfl, hb13, hB14, E15⟩
  have g17 : w.heap.size ≤ b12 := Nat.le_trans (Below.size (Ext.refl w)) hb13
  change Blk _ _ [(.slice p5 A_m.places.length q6), (.slice p8 A_m.tris.length q9)] at hB14
  have X18 := Ext.gr (Ext.refl w) E15
  show wpList _ _ _ _ (fr [_, _, _, _, _, _, _, _, _, _, _, _, _, _, _, _, _, _, _, _, _, _, _, _, _, _, _, _, _, _, _, _, _, _, _, _, _, _, _, _, _, _, _, _, _, _, _, _, _, _, _, _, _, _, _, _, _, _, _, _, _, _, _, _, _, _, _, _, _, _, _, _, _, _, _, _, _, _, _, _, _, _, _, _, _, _, _, _, _, _, _, _, _, _, _, _, _, _, _, _, _, _, _, _, _, _, _, _, _, _, _, _, _, _, _, _, _]) _
  refine q_is rfl rfl (does_assign (u := (Bo false)) (ev rfl)) (by dsimp only [List.set]; try rfl) ?_
  refine wpList_nil (hK11 _ _ ?_)
  refine wp_seq_k fun K19 hK19 => ?_
  refine wp_region_lit ?_
  refine q_is rfl rfl (does_assign (u := (Iv 1048576)) (ev rfl)) (by dsimp only [List.set]; try rfl) ?_
  refine wpList_nil (hK19 _ _ ?_)
  refine wp_seq_k fun K20 hK20 => ?_
  refine wp_region_lit ?_
  refine q_is rfl rfl (does_loadAgg (cs := [(.slice p5 A_m.places.length q6), (.slice p8 A_m.tris.length q9)]) (ev rfl) Try.isAgg25 Try.sizeOf25 (Blk.cells hB14) rfl) (by dsimp only [List.set]; try rfl) ?_
  refine q_is rfl rfl (does_move (u := (Iv 1048576)) (ev rfl)) (by dsimp only [List.set]; try rfl) ?_
  refine seqd rfl rfl (does_call (args := #[(.agg #[(.slice p5 A_m.places.length q6), (.slice p8 A_m.tris.length q9)]), (Iv 1048576)]) cal5 (evs rfl) (c_laws_szMesh [(.slice p5 A_m.places.length q6), (.slice p8 A_m.tris.length q9)] A_m 1048576 _ ⟨(.slice p5 A_m.places.length q6), (.slice p8 A_m.tris.length q9), rfl, (Sl.ext hs7 RV3.mono X18), (Sl.ext hs10 (RS.mono RI.mono) X18)⟩ (by omega) (by omega))) ?_; rintro _ w22 ⟨E21, ⟨i23, rfl, h24⟩⟩
  have X25 := Ext.gr X18 E21
  show wpList _ _ _ _ (fr [_, _, _, _, _, _, _, _, _, _, _, _, _, _, _, _, _, _, _, _, _, _, _, _, _, _, _, _, _, _, _, _, _, _, _, _, _, _, _, _, _, _, _, _, _, _, _, _, _, _, _, _, _, _, _, _, _, _, _, _, _, _, _, _, _, _, _, _, _, _, _, _, _, _, _, _, _, _, _, _, _, _, _, _, _, _, _, _, _, _, _, _, _, _, _, _, _, _, _, _, _, _, _, _, _, _, _, _, _, _, _, _, _, _, _, _, _]) _
  refine q_is rfl rfl (does_assign (u := (Iv i23)) (ev rfl)) (by dsimp only [List.set]; try rfl) ?_
  refine wpList_nil (hK20 _ _ ?_)
  refine wp_seq_k fun K26 hK26 => ?_
  refine wp_seq_k fun K27 hK27 => ?_
  refine wp_region_lit ?_
  refine q_is rfl rfl (does_move (u := (Iv i23)) (ev rfl)) (by dsimp only [List.set]; try rfl) ?_
  refine q_is rfl rfl (does_icmp (p := i23) (q := 0) (.inr (.inr (.inl rfl))) (ev rfl) (ev rfl)) (by dsimp only [List.set]; try rfl) ?_
  refine wpList_nil (hK27 _ _ ?_)
  refine wp_cond_split (t := icmp .lss i23 0) (ev rfl) (fun c28 => ?_) (fun c28 => ?_)
  · have c28' := c28
    (try simp only [sameX_selfI, sameMesh_self, bne_self_eq_false] at c28')
    (try simp only [icmp, Bool.and_eq_true, Bool.or_eq_true, Bool.and_eq_false_iff, Bool.or_eq_false_iff, Bool.not_eq_true', Bool.not_eq_false', decide_eq_true_eq, decide_eq_false_iff_not, beq_iff_eq, bne_iff_ne, beq_eq_false_iff_ne, bne_eq_false_iff_eq] at c28')
    refine wp_seq_k fun K29 hK29 => ?_
    refine wp_region_lit ?_
    refine q_is rfl rfl (does_assign (u := (Bo true)) (ev rfl)) (by dsimp only [List.set]; try rfl) ?_
    refine wpList_nil (hK29 _ _ ?_)
    refine wp_ret ?_
    dsimp only [Exit.then, Exit.inBlock]
    refine ret_val (v := (Bo true)) (res_T rfl (slot rfl)) X25 ?_
    try simp only [sameX_selfI, sameMesh_self, bne_self_eq_false] at c28
    exact rfl
  have c28' := c28
  (try simp only [sameX_selfI, sameMesh_self, bne_self_eq_false] at c28')
  (try simp only [icmp, Bool.and_eq_true, Bool.or_eq_true, Bool.and_eq_false_iff, Bool.or_eq_false_iff, Bool.not_eq_true', Bool.not_eq_false', decide_eq_true_eq, decide_eq_false_iff_not, beq_iff_eq, bne_iff_ne, beq_eq_false_iff_ne, bne_eq_false_iff_eq] at c28')
  refine wp_skip (hK26 _ _ ?_)
  refine wp_seq_k fun K30 hK30 => ?_
  refine wp_region_lit ?_
  refine q_is rfl rfl (does_loadAgg (cs := [(.slice p5 A_m.places.length q6), (.slice p8 A_m.tris.length q9)]) (ev rfl) Try.isAgg25 Try.sizeOf25 (Blk.cells (hB14.ext E21)) rfl) (by dsimp only [List.set]; try rfl) ?_
  refine seqd rfl rfl (does_call (args := #[(.agg #[(.slice p5 A_m.places.length q6), (.slice p8 A_m.tris.length q9)])]) cal7 (evs rfl) (c_laws_toMesh [(.slice p5 A_m.places.length q6), (.slice p8 A_m.tris.length q9)] A_m _ ⟨(.slice p5 A_m.places.length q6), (.slice p8 A_m.tris.length q9), rfl, (Sl.ext hs7 RV3.mono X25), (Sl.ext hs10 (RS.mono RI.mono) X25)⟩ (by omega))) ?_; rintro _ w32 ⟨E31, ⟨cs34, Lw35, rfl, hh33, hw36⟩⟩
  have X37 := Ext.gr X25 E31
  have n38 : b12 < w22.heap.size := Blk.lt (hB14.ext E21)
  obtain ⟨y39, y41, rfl, h40, h42⟩ := hh33.get
  have h40l := Sl.len h40; obtain ⟨p43, q44, rfl⟩ := Sl.shape h40
  have hh45 : Hang w22.heap.size w32 (fun u => Sl RV3 3 u (.slice p43 A_m.places.length q44) A_m.places) := fun u hu => by obtain ⟨_, _, hq, _, _⟩ := hh33 u hu; cases hq; assumption
  have h42l := Sl.len h42; obtain ⟨p46, q47, rfl⟩ := Sl.shape h42
  have hh48 : Hang w22.heap.size w32 (fun u => Sl (RS RI 1) 1 u (.slice p46 A_m.tris.length q47) A_m.tris) := fun u hu => by obtain ⟨_, _, hq, _, _⟩ := hh33 u hu; cases hq; assumption
  have hw49 : WLM w22.heap.size w32 Lw35 (.slice p43 A_m.places.length q44) (.slice p46 A_m.tris.length q47) A_m := hw36
  show wpList _ _ _ _ (fr [_, _, _, _, _, _, _, _, _, _, _, _, _, _, _, _, _, _, _, _, _, _, _, _, _, _, _, _, _, _, _, _, _, _, _, _, _, _, _, _, _, _, _, _, _, _, _, _, _, _, _, _, _, _, _, _, _, _, _, _, _, _, _, _, _, _, _, _, _, _, _, _, _, _, _, _, _, _, _, _, _, _, _, _, _, _, _, _, _, _, _, _, _, _, _, _, _, _, _, _, _, _, _, _, _, _, _, _, _, _, _, _, _, _, _, _, _]) _
  refine seqd rfl rfl (does_call (args := #[(.agg #[(.slice p43 A_m.places.length q44), (.slice p46 A_m.tris.length q47)])]) cal6 (evs rfl) (c_spec_PiecesOf [(.slice p43 A_m.places.length q44), (.slice p46 A_m.tris.length q47)] A_m _ ⟨(.slice p43 A_m.places.length q44), (.slice p46 A_m.tris.length q47), rfl, hh45.get, hh48.get⟩)) ?_; rintro _ w51 ⟨E50, ⟨y53, rfl, hh52⟩⟩
  have X54 := Ext.gr X37 E50
  have n55 : b12 < w32.heap.size := Blk.lt ((hB14.ext E21).ext E31)
  obtain ⟨p56, q57, rfl⟩ := Sl.shape hh52.get
  show wpList _ _ _ _ (fr [_, _, _, _, _, _, _, _, _, _, _, _, _, _, _, _, _, _, _, _, _, _, _, _, _, _, _, _, _, _, _, _, _, _, _, _, _, _, _, _, _, _, _, _, _, _, _, _, _, _, _, _, _, _, _, _, _, _, _, _, _, _, _, _, _, _, _, _, _, _, _, _, _, _, _, _, _, _, _, _, _, _, _, _, _, _, _, _, _, _, _, _, _, _, _, _, _, _, _, _, _, _, _, _, _, _, _, _, _, _, _, _, _, _, _, _, _]) _
  refine q_is rfl rfl (does_move (u := (.tuple #[(.slice p56 (((pcsM A_m).1).length) q57), (Iv ((pcsM A_m).2)), (Bo (meshOk A_m))])) (ev rfl)) (by dsimp only [List.set]; try rfl) ?_
  refine q_is rfl rfl (does_extract (vs := #[(.slice p56 (((pcsM A_m).1).length) q57), (Iv ((pcsM A_m).2)), (Bo (meshOk A_m))]) (u := (.slice p56 (((pcsM A_m).1).length) q57)) (ev rfl) rfl) (by dsimp only [List.set]; try rfl) ?_
  refine q_is rfl rfl (does_extract (vs := #[(.slice p56 (((pcsM A_m).1).length) q57), (Iv ((pcsM A_m).2)), (Bo (meshOk A_m))]) (u := (Iv ((pcsM A_m).2))) (ev rfl) rfl) (by dsimp only [List.set]; try rfl) ?_
  refine q_is rfl rfl (does_extract (vs := #[(.slice p56 (((pcsM A_m).1).length) q57), (Iv ((pcsM A_m).2)), (Bo (meshOk A_m))]) (u := (Bo (meshOk A_m))) (ev rfl) rfl) (by dsimp only [List.set]; try rfl) ?_
  refine q_is rfl rfl (does_assign (u := (.slice p56 (((pcsM A_m).1).length) q57)) (ev rfl)) (by dsimp only [List.set]; try rfl) ?_
  refine q_is rfl rfl (does_assign (u := (Iv ((pcsM A_m).2))) (ev rfl)) (by dsimp only [List.set]; try rfl) ?_
  refine q_is rfl rfl (does_assign (u := (Bo (meshOk A_m))) (ev rfl)) (by dsimp only [List.set]; try rfl) ?_
  refine wpList_nil (hK30 _ _ ?_)
  refine wp_seq_k fun K58 hK58 => ?_
  refine wp_region_lit ?_
  refine q_is rfl rfl (does_loadAgg (cs := [(.slice p5 A_m.places.length q6), (.slice p8 A_m.tris.length q9)]) (ev rfl) Try.isAgg25 Try.sizeOf25 (Blk.cells (((hB14.ext E21).ext E31).ext E50)) rfl) (by dsimp only [List.set]; try rfl) ?_
  refine seqd rfl rfl (does_call (args := #[(.agg #[(.slice p5 A_m.places.length q6), (.slice p8 A_m.tris.length q9)])]) cal7 (evs rfl) (c_laws_toMesh [(.slice p5 A_m.places.length q6), (.slice p8 A_m.tris.length q9)] A_m _ ⟨(.slice p5 A_m.places.length q6), (.slice p8 A_m.tris.length q9), rfl, (Sl.ext hs7 RV3.mono X54), (Sl.ext hs10 (RS.mono RI.mono) X54)⟩ (by omega))) ?_; rintro _ w60 ⟨E59, ⟨cs62, Lw63, rfl, hh61, hw64⟩⟩
  have X65 := Ext.gr X54 E59
  have n66 : b12 < w51.heap.size := Blk.lt (((hB14.ext E21).ext E31).ext E50)
  obtain ⟨y67, y69, rfl, h68, h70⟩ := hh61.get
  have h68l := Sl.len h68; obtain ⟨p71, q72, rfl⟩ := Sl.shape h68
  have hh73 : Hang w51.heap.size w60 (fun u => Sl RV3 3 u (.slice p71 A_m.places.length q72) A_m.places) := fun u hu => by obtain ⟨_, _, hq, _, _⟩ := hh61 u hu; cases hq; assumption
  have h70l := Sl.len h70; obtain ⟨p74, q75, rfl⟩ := Sl.shape h70
  have hh76 : Hang w51.heap.size w60 (fun u => Sl (RS RI 1) 1 u (.slice p74 A_m.tris.length q75) A_m.tris) := fun u hu => by obtain ⟨_, _, hq, _, _⟩ := hh61 u hu; cases hq; assumption
  have hw77 : WLM w51.heap.size w60 Lw63 (.slice p71 A_m.places.length q72) (.slice p74 A_m.tris.length q75) A_m := hw64
  show wpList _ _ _ _ (fr [_, _, _, _, _, _, _, _, _, _, _, _, _, _, _, _, _, _, _, _, _, _, _, _, _, _, _, _, _, _, _, _, _, _, _, _, _, _, _, _, _, _, _, _, _, _, _, _, _, _, _, _, _, _, _, _, _, _, _, _, _, _, _, _, _, _, _, _, _, _, _, _, _, _, _, _, _, _, _, _, _, _, _, _, _, _, _, _, _, _, _, _, _, _, _, _, _, _, _, _, _, _, _, _, _, _, _, _, _, _, _, _, _, _, _, _, _]) _
  refine seqd rfl rfl (does_alloc z32) ?_; rintro _ w82 ⟨b78, rfl, hb79, hB80, E81⟩
  have n83 : b12 < b78 := Nat.lt_of_lt_of_le (Blk.lt ((((hB14.ext E21).ext E31).ext E50).ext E59)) hb79
  have g84 : w.heap.size ≤ b78 := Nat.le_trans (Below.size X65) hb79
  change Blk _ _ [(.slice none 0 0), (.slice none 0 0)] at hB80
  have X85 := Ext.gr X65 E81
  show wpList _ _ _ _ (fr [_, _, _, _, _, _, _, _, _, _, _, _, _, _, _, _, _, _, _, _, _, _, _, _, _, _, _, _, _, _, _, _, _, _, _, _, _, _, _, _, _, _, _, _, _, _, _, _, _, _, _, _, _, _, _, _, _, _, _, _, _, _, _, _, _, _, _, _, _, _, _, _, _, _, _, _, _, _, _, _, _, _, _, _, _, _, _, _, _, _, _, _, _, _, _, _, _, _, _, _, _, _, _, _, _, _, _, _, _, _, _, _, _, _, _, _, _]) _
  refine seqn rfl rfl (does_store (n := 2) (cs := [(.slice none 0 0), (.slice none 0 0)]) (u := (.agg #[(.slice p71 A_m.places.length q72), (.slice p74 A_m.tris.length q75)])) (ev rfl) (ev rfl) Try.sizeOf32 rfl hB80 (Nat.le_of_ble_eq_true rfl) rfl) ?_; rintro _ w88 ⟨rfl, W86, hB87⟩
  change Blk _ _ [(.slice p71 A_m.places.length q72), (.slice p74 A_m.tris.length q75)] at hB87
  have X89 := Below.wr X85 W86 g84
  refine wpList_nil (hK58 _ _ ?_)
  refine wp_seq_k fun K90 hK90 => ?_
  refine wp_region_lit ?_
  refine q_is rfl rfl (does_loadAgg (cs := [(.slice p71 A_m.places.length q72), (.slice p74 A_m.tris.length q75)]) (ev rfl) Try.isAgg32 Try.sizeOf32 (Blk.cells hB87) rfl) (by dsimp only [List.set]; try rfl) ?_
  refine seqd rfl rfl (does_call (args := #[(.agg #[(.slice p71 A_m.places.length q72), (.slice p74 A_m.tris.length q75)])]) cal8 (evs rfl) (c_impl_PiecesOf [(.slice p71 A_m.places.length q72), (.slice p74 A_m.tris.length q75)] A_m _ ⟨(.slice p71 A_m.places.length q72), (.slice p74 A_m.tris.length q75), rfl, (hh73 _ (((Same.refl _ _).ext E81).wr W86 (.inr (Nat.le_trans (Nat.le_refl _) hb79)))), (hh76 _ (((Same.refl _ _).ext E81).wr W86 (.inr (Nat.le_trans (Nat.le_refl _) hb79))))⟩)) ?_; rintro _ w92 ⟨E91, ⟨y94, Lw95, rfl, hh93, hw96⟩⟩
  have X97 := Ext.gr X89 E91
  have n98 : b12 < w88.heap.size := Blk.lt ((((((hB14.ext E21).ext E31).ext E50).ext E59).ext E81).wr W86 (Nat.ne_of_lt n83))
  have n99 : b78 < w88.heap.size := Blk.lt hB87
  obtain ⟨p100, q101, rfl⟩ := Sl.shape hh93.get
  have hw102 : WL 1 w88.heap.size w92 Lw95 (.slice p100 (((pcsM A_m).1).length) q101) ((pcsM A_m).1).length := hw96
  show wpList _ _ _ _ (fr [_, _, _, _, _, _, _, _, _, _, _, _, _, _, _, _, _, _, _, _, _, _, _, _, _, _, _, _, _, _, _, _, _, _, _, _, _, _, _, _, _, _, _, _, _, _, _, _, _, _, _, _, _, _, _, _, _, _, _, _, _, _, _, _, _, _, _, _, _, _, _, _, _, _, _, _, _, _, _, _, _, _, _, _, _, _, _, _, _, _, _, _, _, _, _, _, _, _, _, _, _, _, _, _, _, _, _, _, _, _, _, _, _, _, _, _, _]) _
  refine q_is rfl rfl (does_move (u := (.tuple #[(.slice p100 (((pcsM A_m).1).length) q101), (Iv ((pcsM A_m).2)), (Bo (meshOk A_m))])) (ev rfl)) (by dsimp only [List.set]; try rfl) ?_
  refine q_is rfl rfl (does_extract (vs := #[(.slice p100 (((pcsM A_m).1).length) q101), (Iv ((pcsM A_m).2)), (Bo (meshOk A_m))]) (u := (.slice p100 (((pcsM A_m).1).length) q101)) (ev rfl) rfl) (by dsimp only [List.set]; try rfl) ?_
  refine q_is rfl rfl (does_extract (vs := #[(.slice p100 (((pcsM A_m).1).length) q101), (Iv ((pcsM A_m).2)), (Bo (meshOk A_m))]) (u := (Iv ((pcsM A_m).2))) (ev rfl) rfl) (by dsimp only [List.set]; try rfl) ?_
  refine q_is rfl rfl (does_extract (vs := #[(.slice p100 (((pcsM A_m).1).length) q101), (Iv ((pcsM A_m).2)), (Bo (meshOk A_m))]) (u := (Bo (meshOk A_m))) (ev rfl) rfl) (by dsimp only [List.set]; try rfl) ?_
  refine q_is rfl rfl (does_assign (u := (.slice p100 (((pcsM A_m).1).length) q101)) (ev rfl)) (by dsimp only [List.set]; try rfl) ?_
  refine q_is rfl rfl (does_assign (u := (Iv ((pcsM A_m).2))) (ev rfl)) (by dsimp only [List.set]; try rfl) ?_
  refine q_is rfl rfl (does_assign (u := (Bo (meshOk A_m))) (ev rfl)) (by dsimp only [List.set]; try rfl) ?_
  refine wpList_nil (hK90 _ _ ?_)
  refine wp_seq_k fun K103 hK103 => ?_
  refine wp_seq_k fun K104 hK104 => ?_
  obtain ⟨β1, hβ1⟩ : ∃ b : Bool, b = (sameX eqI ((pcsM A_m).1) ((pcsM A_m).1)) := ⟨_, rfl⟩
  obtain ⟨β2, hβ2⟩ : ∃ b : Bool, b = (icmp .neq ((pcsM A_m).2) ((pcsM A_m).2)) := ⟨_, rfl⟩
  obtain ⟨β3, hβ3⟩ : ∃ b : Bool, b = ((meshOk A_m) != (meshOk A_m)) := ⟨_, rfl⟩
  refine region_text (
    [Fact.pure [] (fun v => v = (.slice p100 (((pcsM A_m).1).length) q101)),
    Fact.pure [] (fun v => v = (.slice p56 (((pcsM A_m).1).length) q57)),
    Fact.pure [37, 38] (fun v => v = (Bo β1)),
    Fact.pure [39] (fun v => v = (Bo (!β1))),
    Fact.pure [40] (fun v => v = (Bo (!β1))),
    Fact.pure [41] (fun v => (!β1) = false → v = (Iv ((pcsM A_m).2))),
    Fact.pure [41] (fun v => (!β1) = false → v = (Iv ((pcsM A_m).2))),
    Fact.pure [42, 43, 41] (fun v => (!β1) = false → v = (Bo β2)),
    Fact.pure [41, 44] (fun v => v = (Bo ((!β1) || β2))),
    Fact.pure [45] (fun v => v = (Bo ((!β1) || β2))),
    Fact.pure [46] (fun v => ((!β1) || β2) = false → v = (Bo (meshOk A_m))),
    Fact.pure [46] (fun v => ((!β1) || β2) = false → v = (Bo (meshOk A_m))),
    Fact.pure [47, 48, 46] (fun v => ((!β1) || β2) = false → v = (Bo β3)),
    Fact.pure [46, 49] (fun v => v = (Bo (((!β1) || β2) || β3)))]) (by simp [Fact.pure, Fact.mem]) ?_
  refine RW_d _ rfl (fun v => by dsimp only [List.set]; try rfl) (fun u hu hF => ?_) (fun v105 => ?_)
  · clear hF
    refine doesG_un rfl ?_
    refine (does_move (u := (.slice p100 (((pcsM A_m).1).length) q101)) (ev rfl)).mono ?_; rintro _ _ ⟨rfl, rfl⟩
    exact ⟨rfl, Ext.refl _⟩
  refine RW_d _ rfl (fun v => by dsimp only [List.set]; try rfl) (fun u hu hF => ?_) (fun v106 => ?_)
  · clear hF
    refine doesG_un rfl ?_
    refine (does_move (u := (.slice p56 (((pcsM A_m).1).length) q57)) (ev rfl)).mono ?_; rintro _ _ ⟨rfl, rfl⟩
    exact ⟨rfl, Ext.refl _⟩
  refine RW_d _ rfl (fun v => by dsimp only [List.set]; try rfl) (fun u hu hF => ?_) (fun v107 => ?_)
  · have h37_ : v105 = (.slice p100 (((pcsM A_m).1).length) q101) := hF.1
    have h38_ : v106 = (.slice p56 (((pcsM A_m).1).length) q57) := hF.2.1
    clear hF
    refine doesG_un rfl ?_
    obtain rfl := h37_
    obtain rfl := h38_
    refine (does_call (args := #[(.slice p100 (((pcsM A_m).1).length) q101), (.slice p56 (((pcsM A_m).1).length) q57)]) cal9 (evs rfl) (c_laws_eqInt64S (.slice p100 (((pcsM A_m).1).length) q101) ((pcsM A_m).1) (.slice p56 (((pcsM A_m).1).length) q57) ((pcsM A_m).1) _ (Sl.ext hh93.get RI.mono hu) (Sl.ext (hh52 _ (((((Same.refl _ _).ext E59).ext E81).wr W86 (.inr (Nat.le_trans (Below.size E59) hb79))).ext E91)) RI.mono hu))).mono ?_; rintro v u' ⟨hx, hv⟩
    exact ⟨hv.trans (by simp only [hβ1]), hx⟩
  refine RW_d _ rfl (fun v => by dsimp only [List.set]; try rfl) (fun u hu hF => ?_) (fun v108 => ?_)
  · have h39_ : v107 = (Bo β1) := hF.1
    clear hF
    refine doesG_un rfl ?_
    obtain rfl := h39_
    refine (does_not (ev rfl)).mono ?_; rintro _ _ ⟨rfl, rfl⟩
    exact ⟨rfl, Ext.refl _⟩
  refine RW_d _ rfl (fun v => by dsimp only [List.set]; try rfl) (fun u hu hF => ?_) (fun v109 => ?_)
  · have h40_ : v108 = (Bo (!β1)) := hF.1
    clear hF
    refine doesG_un rfl ?_
    obtain rfl := h40_
    refine (does_move (u := (Bo (!β1))) (ev rfl)).mono ?_; rintro _ _ ⟨rfl, rfl⟩
    exact ⟨rfl, Ext.refl _⟩
  refine RW_d _ rfl (fun v => by dsimp only [List.set]; try rfl) (fun u hu hF => ?_) (fun v110 => ?_)
  · have h41_ : v109 = (Bo (!β1)) := hF.1
    clear hF
    obtain rfl := h41_
    refine doesG_g (b := (!β1)) rfl (yld rfl rfl) (fun hg1 => ?_) (fun hc => ⟨fun hg1 => absurd hg1 hc, Ext.refl _⟩)
    refine (does_move (u := (Iv ((pcsM A_m).2))) (ev rfl)).mono ?_; rintro _ _ ⟨rfl, rfl⟩
    exact ⟨fun _ => rfl, Ext.refl _⟩
  refine RW_d _ rfl (fun v => by dsimp only [List.set]; try rfl) (fun u hu hF => ?_) (fun v111 => ?_)
  · have h41_ : v109 = (Bo (!β1)) := hF.1
    clear hF
    obtain rfl := h41_
    refine doesG_g (b := (!β1)) rfl (yld rfl rfl) (fun hg1 => ?_) (fun hc => ⟨fun hg1 => absurd hg1 hc, Ext.refl _⟩)
    refine (does_move (u := (Iv ((pcsM A_m).2))) (ev rfl)).mono ?_; rintro _ _ ⟨rfl, rfl⟩
    exact ⟨fun _ => rfl, Ext.refl _⟩
  refine RW_d _ rfl (fun v => by dsimp only [List.set]; try rfl) (fun u hu hF => ?_) (fun v112 => ?_)
  · have h42_ : (!β1) = false → v110 = (Iv ((pcsM A_m).2)) := hF.1
    have h43_ : (!β1) = false → v111 = (Iv ((pcsM A_m).2)) := hF.2.1
    have h41_ : v109 = (Bo (!β1)) := hF.2.2.1
    clear hF
    obtain rfl := h41_
    refine doesG_g (b := (!β1)) rfl (yld rfl rfl) (fun hg1 => ?_) (fun hc => ⟨fun hg1 => absurd hg1 hc, Ext.refl _⟩)
    obtain rfl := h42_ hg1
    obtain rfl := h43_ hg1
    refine (does_icmp (p := (pcsM A_m).2) (q := (pcsM A_m).2) (.inr (.inl rfl)) (ev rfl) (ev rfl)).mono ?_; rintro _ _ ⟨rfl, rfl⟩
    exact ⟨fun _ => (by first | rfl | (show _ = _; simp only [hβ2]; done) | (show _ = _; simp only [hβ2]; rfl)), Ext.refl _⟩
  refine RW_d _ rfl (fun v => by dsimp only [List.set]; try rfl) (fun u hu hF => ?_) (fun v113 => ?_)
  · have h41_ : v109 = (Bo (!β1)) := hF.1
    have h44_ : (!β1) = false → v112 = (Bo β2) := hF.2.1
    clear hF
    refine doesG_un rfl ?_
    skip
    obtain rfl := h41_
    refine (does_pick (b := (!β1)) (u := (Bo true)) (v := v112) (ev rfl) (ev rfl) (ev rfl)).mono ?_; rintro _ _ ⟨rfl, rfl⟩; refine ⟨?_, Ext.refl _⟩; skip
    cases hbb : (!β1)
    all_goals first | (show _ = _; simp only [↓reduceIte, Bool.true_and, Bool.false_and, Bool.true_or, Bool.false_or, Bool.false_eq_true]; done) | (have e_ := h44_ hbb; subst e_; show _ = _; simp only [↓reduceIte, Bool.true_and, Bool.false_and, Bool.true_or, Bool.false_or, Bool.false_eq_true]; done) | rfl | (have e_ := h44_ hbb; subst e_; rfl) | (simp [hbb] at h44_ ⊢; first | done | rfl | (subst h44_; rfl) | simp_all) | (simp [hbb] at h44_ ⊢; done)
  refine RW_d _ rfl (fun v => by dsimp only [List.set]; try rfl) (fun u hu hF => ?_) (fun v114 => ?_)
  · have h45_ : v113 = (Bo ((!β1) || β2)) := hF.1
    clear hF
    refine doesG_un rfl ?_
    obtain rfl := h45_
    refine (does_move (u := (Bo ((!β1) || β2))) (ev rfl)).mono ?_; rintro _ _ ⟨rfl, rfl⟩
    exact ⟨rfl, Ext.refl _⟩
  refine RW_d _ rfl (fun v => by dsimp only [List.set]; try rfl) (fun u hu hF => ?_) (fun v115 => ?_)
  · have h46_ : v114 = (Bo ((!β1) || β2)) := hF.1
    clear hF
    obtain rfl := h46_
    refine doesG_g (b := ((!β1) || β2)) rfl (yld rfl rfl) (fun hg1 => ?_) (fun hc => ⟨fun hg1 => absurd hg1 hc, Ext.refl _⟩)
    refine (does_move (u := (Bo (meshOk A_m))) (ev rfl)).mono ?_; rintro _ _ ⟨rfl, rfl⟩
    exact ⟨fun _ => rfl, Ext.refl _⟩
  refine RW_d _ rfl (fun v => by dsimp only [List.set]; try rfl) (fun u hu hF => ?_) (fun v116 => ?_)
  · have h46_ : v114 = (Bo ((!β1) || β2)) := hF.1
    clear hF
    obtain rfl := h46_
    refine doesG_g (b := ((!β1) || β2)) rfl (yld rfl rfl) (fun hg1 => ?_) (fun hc => ⟨fun hg1 => absurd hg1 hc, Ext.refl _⟩)
    refine (does_move (u := (Bo (meshOk A_m))) (ev rfl)).mono ?_; rintro _ _ ⟨rfl, rfl⟩
    exact ⟨fun _ => rfl, Ext.refl _⟩
  refine RW_d _ rfl (fun v => by dsimp only [List.set]; try rfl) (fun u hu hF => ?_) (fun v117 => ?_)
  · have h47_ : ((!β1) || β2) = false → v115 = (Bo (meshOk A_m)) := hF.1
    have h48_ : ((!β1) || β2) = false → v116 = (Bo (meshOk A_m)) := hF.2.1
    have h46_ : v114 = (Bo ((!β1) || β2)) := hF.2.2.1
    clear hF
    obtain rfl := h46_
    refine doesG_g (b := ((!β1) || β2)) rfl (yld rfl rfl) (fun hg1 => ?_) (fun hc => ⟨fun hg1 => absurd hg1 hc, Ext.refl _⟩)
    obtain rfl := h47_ hg1
    obtain rfl := h48_ hg1
    refine (does_bne (p := (meshOk A_m)) (q := (meshOk A_m)) Try.underlying4 (ev rfl) (ev rfl)).mono ?_; rintro _ _ ⟨rfl, rfl⟩
    exact ⟨fun _ => (by first | rfl | (show _ = _; simp only [hβ3]; done) | (show _ = _; simp only [hβ3]; rfl)), Ext.refl _⟩
  refine RW_d _ rfl (fun v => by dsimp only [List.set]; try rfl) (fun u hu hF => ?_) (fun v118 => ?_)
  · have h46_ : v114 = (Bo ((!β1) || β2)) := hF.1
    have h49_ : ((!β1) || β2) = false → v117 = (Bo β3) := hF.2.1
    clear hF
    refine doesG_un rfl ?_
    skip
    obtain rfl := h46_
    refine (does_pick (b := ((!β1) || β2)) (u := (Bo true)) (v := v117) (ev rfl) (ev rfl) (ev rfl)).mono ?_; rintro _ _ ⟨rfl, rfl⟩; refine ⟨?_, Ext.refl _⟩; skip
    cases hbb : ((!β1) || β2)
    all_goals first | (show _ = _; simp only [↓reduceIte, Bool.true_and, Bool.false_and, Bool.true_or, Bool.false_or, Bool.false_eq_true]; done) | (have e_ := h49_ hbb; subst e_; show _ = _; simp only [↓reduceIte, Bool.true_and, Bool.false_and, Bool.true_or, Bool.false_or, Bool.false_eq_true]; done) | rfl | (have e_ := h49_ hbb; subst e_; rfl) | (simp [hbb] at h49_ ⊢; first | done | rfl | (subst h49_; rfl) | simp_all) | (simp [hbb] at h49_ ⊢; done)
  refine RW_fin ?_; intro w119 E120 hP121
  obtain ⟨⟨⟨⟨⟨⟨⟨⟨⟨⟨⟨⟨⟨⟨-, -⟩, -⟩, -⟩, -⟩, -⟩, -⟩, -⟩, -⟩, -⟩, -⟩, -⟩, -⟩, -⟩, q122⟩ := hP121
  have X123 := Ext.gr X97 E120
  have q122 : v118 = (Bo (((!β1) || β2) || β3)) := q122
  obtain rfl := q122
  show wpList _ _ _ _ (fr [_, _, _, _, _, _, _, _, _, _, _, _, _, _, _, _, _, _, _, _, _, _, _, _, _, _, _, _, _, _, _, _, _, _, _, _, _, _, _, _, _, _, _, _, _, _, _, _, _, _, _, _, _, _, _, _, _, _, _, _, _, _, _, _, _, _, _, _, _, _, _, _, _, _, _, _, _, _, _, _, _, _, _, _, _, _, _, _, _, _, _, _, _, _, _, _, _, _, _, _, _, _, _, _, _, _, _, _, _, _, _, _, _, _, _, _, _]) _
  refine wpList_nil (hK104 _ _ ?_)
  refine wp_cond_split (t := ((!β1) || β2) || β3) (ev rfl) (fun c124 => ?_) (fun c124 => ?_)
  · have c124' := c124
    (try simp only [hβ1, hβ2, hβ3, sameX_selfI, sameMesh_self, bne_self_eq_false] at c124')
    (try simp only [hβ1, hβ2, hβ3] at c124')
    (try simp only [icmp, Bool.and_eq_true, Bool.or_eq_true, Bool.and_eq_false_iff, Bool.or_eq_false_iff, Bool.not_eq_true', Bool.not_eq_false', decide_eq_true_eq, decide_eq_false_iff_not, beq_iff_eq, bne_iff_ne, beq_eq_false_iff_ne, bne_eq_false_iff_eq] at c124')
    refine wp_seq_k fun K125 hK125 => ?_
    refine wp_region_lit ?_
    refine q_is rfl rfl (does_assign (u := (Bo false)) (ev rfl)) (by dsimp only [List.set]; try rfl) ?_
    refine wpList_nil (hK125 _ _ ?_)
    refine wp_ret ?_
    dsimp only [Exit.then, Exit.inBlock]
    refine ret_val (v := (Bo false)) (res_T rfl (slot rfl)) X123 ?_
    try simp only [hβ1, hβ2, hβ3, sameX_selfI, sameMesh_self, bne_self_eq_false] at c28 c124
    have x126 : true = false := by first | with_reducible rfl | (exfalso; omega) | (exfalso; simp only [mkL_len] at * <;> omega) | (exfalso; rcases c124' with ((hh | hh) | hh) | hh <;> first | omega | (exact Bool.noConfusion hh) | (exact absurd rfl hh)) | (exfalso; rcases c124' with (hh | hh) | hh <;> first | omega | (exact Bool.noConfusion hh)) | (exfalso; rcases c124' with hh | hh <;> first | omega | (exact Bool.noConfusion hh)) | (simp only [sameX_selfI, sameMesh_self, bne_self_eq_false, icmp, hβ1, hβ2, hβ3, c28, c124]; done) | (simp [sameX_selfI, sameMesh_self, bne_self_eq_false, icmp, hβ1, hβ2, hβ3, c28, c124]; done) | (simp_all; done) | (exfalso; simp_all; done)
    exact (by first | with_reducible rfl | rw [x126] | rfl)
  have c124' := c124
  (try simp only [hβ1, hβ2, hβ3, sameX_selfI, sameMesh_self, bne_self_eq_false] at c124')
  (try simp only [hβ1, hβ2, hβ3] at c124')
  (try simp only [icmp, Bool.and_eq_true, Bool.or_eq_true, Bool.and_eq_false_iff, Bool.or_eq_false_iff, Bool.not_eq_true', Bool.not_eq_false', decide_eq_true_eq, decide_eq_false_iff_not, beq_iff_eq, bne_iff_ne, beq_eq_false_iff_ne, bne_eq_false_iff_eq] at c124')
  refine wp_skip (hK103 _ _ ?_)
  refine wp_seq_k fun K127 hK127 => ?_
  refine wp_seq_k fun K128 hK128 => ?_
  refine region_draw (
    [Fact.pure [] (fun v => v = (.agg #[(.slice p71 A_m.places.length q72), (.slice p74 A_m.tris.length q75)])),
    Fact.pure [] (fun v => v = (.agg #[(.slice p5 A_m.places.length q6), (.slice p8 A_m.tris.length q9)])),
    Fact.mem [52] (fun v w' => ∃ cs_1 : List Value, ∃ Lw_2 : List Nat, v = (.agg cs_1.toArray) ∧ Hang w119.heap.size w' (fun u => RMeshT u A_m cs_1) ∧ WLM w119.heap.size w' Lw_2 (cellN cs_1 0) (cellN cs_1 1) A_m) (by rintro v w1 w2 hx ⟨z1, z2, rfl, k0, k1⟩; exact ⟨_, _, rfl, (k0.ext hx), (k1.same (Same.of_ext hx))⟩),
    Fact.pure [51, 53] (fun v => v = (Bo (sameMesh A_m A_m))),
    Fact.pure [54] (fun v => v = (Bo (!(sameMesh A_m A_m))))]) mixed (by kernel_rfl) (by intro _ _ d _ _ h; cases d <;> exact h) ?_
  obtain ⟨w129, hw131⟩ : ∃ w', w' = World.drew w119 := ⟨_, rfl⟩; rw [← hw131]; have E130 : Ext w119 w129 := by rw [hw131]; exact Ext.draw _
  clear hw131
  have X132 := Ext.gr X123 E130
  refine RW_d _ rfl (fun v => by dsimp only [List.set]; try rfl) (fun u hu hF => ?_) (fun v133 => ?_)
  · clear hF
    refine doesG_un rfl ?_
    refine (does_loadAgg (cs := [(.slice p71 A_m.places.length q72), (.slice p74 A_m.tris.length q75)]) (ev rfl) Try.isAgg32 Try.sizeOf32 (Blk.cells ((((hB87.ext E91).ext E120).ext E130).ext hu)) rfl).mono ?_; rintro _ _ ⟨rfl, rfl⟩
    exact ⟨rfl, Ext.refl _⟩
  refine RW_d _ rfl (fun v => by dsimp only [List.set]; try rfl) (fun u hu hF => ?_) (fun v134 => ?_)
  · clear hF
    refine doesG_un rfl ?_
    refine (does_loadAgg (cs := [(.slice p5 A_m.places.length q6), (.slice p8 A_m.tris.length q9)]) (ev rfl) Try.isAgg25 Try.sizeOf25 (Blk.cells ((((((((((hB14.ext E21).ext E31).ext E50).ext E59).ext E81).wr W86 (Nat.ne_of_lt n83)).ext E91).ext E120).ext E130).ext hu)) rfl).mono ?_; rintro _ _ ⟨rfl, rfl⟩
    exact ⟨rfl, Ext.refl _⟩
  refine RW_d _ rfl (fun v => by dsimp only [List.set]; try rfl) (fun u hu hF => ?_) (fun v135 => ?_)
  · have h52_ : v134 = (.agg #[(.slice p5 A_m.places.length q6), (.slice p8 A_m.tris.length q9)]) := hF.1
    clear hF
    refine doesG_un rfl ?_
    obtain rfl := h52_
    refine (does_call (args := #[(.agg #[(.slice p5 A_m.places.length q6), (.slice p8 A_m.tris.length q9)])]) cal7 (evs rfl) (c_laws_toMesh [(.slice p5 A_m.places.length q6), (.slice p8 A_m.tris.length q9)] A_m _ ⟨(.slice p5 A_m.places.length q6), (.slice p8 A_m.tris.length q9), rfl, (Sl.ext (Sl.ext hs7 RV3.mono (Ext.gr X123 E130)) RV3.mono hu), (Sl.ext (Sl.ext hs10 (RS.mono RI.mono) (Ext.gr X123 E130)) (RS.mono RI.mono) hu)⟩ (by omega))).mono ?_; rintro v u' ⟨hx, ⟨csn1, Lwn2, hv, k0, k1⟩⟩
    exact ⟨⟨csn1, Lwn2, hv, (Hang.le k0 (Nat.le_trans (Below.size E130) (Below.size hu))), (WLM.le k1 (Nat.le_trans (Below.size E130) (Below.size hu)))⟩, hx⟩
  refine RW_d _ rfl (fun v => by dsimp only [List.set]; try rfl) (fun u hu hF => ?_) (fun v136 => ?_)
  · have h51_ : v133 = (.agg #[(.slice p71 A_m.places.length q72), (.slice p74 A_m.tris.length q75)]) := hF.1
    have h53_ : ∃ cs_1 : List Value, ∃ Lw_2 : List Nat, v135 = (.agg cs_1.toArray) ∧ Hang w119.heap.size u (fun u => RMeshT u A_m cs_1) ∧ WLM w119.heap.size u Lw_2 (cellN cs_1 0) (cellN cs_1 1) A_m := hF.2.1
    clear hF
    refine doesG_un rfl ?_
    obtain rfl := h51_
    obtain ⟨cs53_2, Lw53_3, rfl, hh53_1, hw53_4⟩ := h53_
    obtain ⟨y53_5, y53_7, rfl, h53_6, h53_8⟩ := hh53_1.get
    have hh53_6 := h53_6; obtain ⟨p53_9, q53_10, rfl⟩ := Sl.shape h53_6
    have hh53_8 := h53_8; obtain ⟨p53_11, q53_12, rfl⟩ := Sl.shape h53_8
    refine (does_call (args := #[(.agg #[(.slice p71 A_m.places.length q72), (.slice p74 A_m.tris.length q75)]), (.agg #[(.slice p53_9 A_m.places.length q53_10), (.slice p53_11 A_m.tris.length q53_12)])]) cal10 (evs rfl) (c_laws_eqMesh [(.slice p71 A_m.places.length q72), (.slice p74 A_m.tris.length q75)] A_m [(.slice p53_9 A_m.places.length q53_10), (.slice p53_11 A_m.tris.length q53_12)] A_m _ ⟨(.slice p71 A_m.places.length q72), (.slice p74 A_m.tris.length q75), rfl, (Sl.ext (hh73 _ ((((((Same.refl _ _).ext E81).wr W86 (.inr (Nat.le_trans (Nat.le_refl _) hb79))).ext E91).ext E120).ext E130)) RV3.mono hu), (Sl.ext (hh76 _ ((((((Same.refl _ _).ext E81).wr W86 (.inr (Nat.le_trans (Nat.le_refl _) hb79))).ext E91).ext E120).ext E130)) (RS.mono RI.mono) hu)⟩ ⟨(.slice p53_9 A_m.places.length q53_10), (.slice p53_11 A_m.tris.length q53_12), rfl, hh53_6, hh53_8⟩)).mono ?_; rintro v u' ⟨hx, hv⟩
    exact ⟨hv, hx⟩
  refine RW_d _ rfl (fun v => by dsimp only [List.set]; try rfl) (fun u hu hF => ?_) (fun v137 => ?_)
  · have h54_ : v136 = (Bo (sameMesh A_m A_m)) := hF.1
    clear hF
    refine doesG_un rfl ?_
    obtain rfl := h54_
    refine (does_not (ev rfl)).mono ?_; rintro _ _ ⟨rfl, rfl⟩
    exact ⟨rfl, Ext.refl _⟩
  refine RW_fin ?_; intro w138 E139 hP140
  obtain ⟨⟨⟨⟨⟨-, -⟩, -⟩, -⟩, -⟩, q141⟩ := hP140
  have X142 := Ext.gr X132 E139
  have q141 : v137 = (Bo (!(sameMesh A_m A_m))) := q141
  obtain rfl := q141
  show wpList _ _ _ _ (fr [_, _, _, _, _, _, _, _, _, _, _, _, _, _, _, _, _, _, _, _, _, _, _, _, _, _, _, _, _, _, _, _, _, _, _, _, _, _, _, _, _, _, _, _, _, _, _, _, _, _, _, _, _, _, _, _, _, _, _, _, _, _, _, _, _, _, _, _, _, _, _, _, _, _, _, _, _, _, _, _, _, _, _, _, _, _, _, _, _, _, _, _, _, _, _, _, _, _, _, _, _, _, _, _, _, _, _, _, _, _, _, _, _, _, _, _, _]) _
  refine wpList_nil (hK128 _ _ ?_)
  refine wp_cond_split (t := !(sameMesh A_m A_m)) (ev rfl) (fun c143 => ?_) (fun c143 => ?_)
  · rw [Bool.not_eq_true'] at c143
    have c143' := c143
    (try simp only [hβ1, hβ2, hβ3, sameX_selfI, sameMesh_self, bne_self_eq_false] at c143')
    (try simp only [hβ1, hβ2, hβ3] at c143')
    (try simp only [icmp, Bool.and_eq_true, Bool.or_eq_true, Bool.and_eq_false_iff, Bool.or_eq_false_iff, Bool.not_eq_true', Bool.not_eq_false', decide_eq_true_eq, decide_eq_false_iff_not, beq_iff_eq, bne_iff_ne, beq_eq_false_iff_ne, bne_eq_false_iff_eq] at c143')
    refine wp_seq_k fun K144 hK144 => ?_
    refine wp_region_lit ?_
    refine q_is rfl rfl (does_assign (u := (Bo false)) (ev rfl)) (by dsimp only [List.set]; try rfl) ?_
    refine wpList_nil (hK144 _ _ ?_)
    refine wp_ret ?_
    dsimp only [Exit.then, Exit.inBlock]
    refine ret_val (v := (Bo false)) (res_T rfl (slot rfl)) X142 ?_
    try simp only [hβ1, hβ2, hβ3, sameX_selfI, sameMesh_self, bne_self_eq_false] at c28 c124 c143
    have x145 : true = false := by first | with_reducible rfl | (exfalso; omega) | (exfalso; simp only [mkL_len] at * <;> omega) | (exfalso; rcases c143' with ((hh | hh) | hh) | hh <;> first | omega | (exact Bool.noConfusion hh) | (exact absurd rfl hh)) | (exfalso; rcases c143' with (hh | hh) | hh <;> first | omega | (exact Bool.noConfusion hh)) | (exfalso; rcases c143' with hh | hh <;> first | omega | (exact Bool.noConfusion hh)) | (simp only [sameX_selfI, sameMesh_self, bne_self_eq_false, icmp, hβ1, hβ2, hβ3, c28, c124, c143]; done) | (simp [sameX_selfI, sameMesh_self, bne_self_eq_false, icmp, hβ1, hβ2, hβ3, c28, c124, c143]; done) | (simp_all; done) | (exfalso; simp_all; done)
    exact (by first | with_reducible rfl | rw [x145] | rfl)
  rw [Bool.not_eq_false'] at c143
  have c143' := c143
  (try simp only [hβ1, hβ2, hβ3, sameX_selfI, sameMesh_self, bne_self_eq_false] at c143')
  (try simp only [hβ1, hβ2, hβ3] at c143')
  (try simp only [icmp, Bool.and_eq_true, Bool.or_eq_true, Bool.and_eq_false_iff, Bool.or_eq_false_iff, Bool.not_eq_true', Bool.not_eq_false', decide_eq_true_eq, decide_eq_false_iff_not, beq_iff_eq, bne_iff_ne, beq_eq_false_iff_ne, bne_eq_false_iff_eq] at c143')
  refine wp_skip (hK127 _ _ ?_)
  refine wp_seq_k fun K146 hK146 => ?_
  refine wp_region_lit ?_
  refine q_is rfl rfl (does_assign (u := (Iv 1)) (ev rfl)) (by dsimp only [List.set]; try rfl) ?_
  refine wpList_nil (hK146 _ _ ?_)
  refine wp_seq_k fun K147 hK147 => ?_
  refine wp_region_lit ?_
  refine q_is rfl rfl (does_loadAgg (cs := [(.slice p71 A_m.places.length q72), (.slice p74 A_m.tris.length q75)]) (ev rfl) Try.isAgg32 Try.sizeOf32 (Blk.cells ((((hB87.ext E91).ext E120).ext E130).ext E139)) rfl) (by dsimp only [List.set]; try rfl) ?_
  refine q_is rfl rfl (does_move (u := (Iv 1)) (ev rfl)) (by dsimp only [List.set]; try rfl) ?_
  refine seqd rfl rfl (does_callK (args := #[(.agg #[(.slice p71 A_m.places.length q72), (.slice p74 A_m.tris.length q75)]), (Iv 1)]) cal11 (evs rfl) (c_laws_markMesh (.slice p71 A_m.places.length q72) (.slice p74 A_m.tris.length q75) A_m Lw63 w51.heap.size 1 _ (hw77.same (((((((Same.refl _ _).ext E81).wr W86 (.inr (Nat.le_trans (Nat.le_refl _) hb79))).ext E91).ext E120).ext E130).ext E139)) (by omega) (by first | omega | (unfold meSz; omega) | omega))) ?_; rintro _ w148 ⟨K149, rfl, hP150, hT151⟩
  have X152 := Below.kl X142 K149 (fun c hc => Nat.le_trans (Below.size (Ext.gr (Ext.gr (Ext.gr (Ext.gr (Ext.refl _) E15) E21) E31) E50)) (hw77.1 c hc).1) (Nat.le_refl _)
  show wpList _ _ _ _ (fr [_, _, _, _, _, _, _, _, _, _, _, _, _, _, _, _, _, _, _, _, _, _, _, _, _, _, _, _, _, _, _, _, _, _, _, _, _, _, _, _, _, _, _, _, _, _, _, _, _, _, _, _, _, _, _, _, _, _, _, _, _, _, _, _, _, _, _, _, _, _, _, _, _, _, _, _, _, _, _, _, _, _, _, _, _, _, _, _, _, _, _, _, _, _, _, _, _, _, _, _, _, _, _, _, _, _, _, _, _, _, _, _, _, _, _, _, _]) _
  refine q_is rfl rfl (does_assign (u := (Iv (1 + meSz A_m))) (ev rfl)) (by dsimp only [List.set]; try rfl) ?_
  refine wpList_nil (hK147 _ _ ?_)
  refine wp_seq_k fun K153 hK153 => ?_
  refine wp_seq_k fun K154 hK154 => ?_
  obtain ⟨β4, hβ4⟩ : ∃ b : Bool, b = (icmp .lss (1 + meSz A_m) 0) := ⟨_, rfl⟩
  obtain ⟨β5, hβ5⟩ : ∃ b : Bool, b = (sameX eqI ((pcsM A_m).1) ((pcsM A_m).1)) := ⟨_, rfl⟩
  obtain ⟨β6, hβ6⟩ : ∃ b : Bool, b = (icmp .neq ((pcsM A_m).2) ((pcsM A_m).2)) := ⟨_, rfl⟩
  obtain ⟨β7, hβ7⟩ : ∃ b : Bool, b = ((meshOk A_m) != (meshOk A_m)) := ⟨_, rfl⟩
  obtain ⟨β8, hβ8⟩ : ∃ b : Bool, b = (((β4 || (!β5)) || β6) || β7) := ⟨_, rfl⟩
  refine region_text (
    [Fact.pure [] (fun v => v = (Iv (1 + meSz A_m))),
    Fact.pure [59] (fun v => v = (Bo β4)),
    Fact.pure [60] (fun v => v = (Bo β4)),
    Fact.pure [61] (fun v => β4 = false → v = (.slice p100 (((pcsM A_m).1).length) q101)),
    Fact.pure [61] (fun v => β4 = false → v = (.slice p56 (((pcsM A_m).1).length) q57)),
    Fact.pure [62, 63, 61] (fun v => β4 = false → v = (Bo β5)),
    Fact.pure [64, 61] (fun v => β4 = false → v = (Bo (!β5))),
    Fact.pure [61, 65] (fun v => v = (Bo (β4 || (!β5)))),
    Fact.pure [66] (fun v => v = (Bo (β4 || (!β5)))),
    Fact.pure [67] (fun v => (β4 || (!β5)) = false → v = (Iv ((pcsM A_m).2))),
    Fact.pure [67] (fun v => (β4 || (!β5)) = false → v = (Iv ((pcsM A_m).2))),
    Fact.pure [68, 69, 67] (fun v => (β4 || (!β5)) = false → v = (Bo β6)),
    Fact.pure [67, 70] (fun v => v = (Bo ((β4 || (!β5)) || β6))),
    Fact.pure [71] (fun v => v = (Bo ((β4 || (!β5)) || β6))),
    Fact.pure [72] (fun v => ((β4 || (!β5)) || β6) = false → v = (Bo (meshOk A_m))),
    Fact.pure [72] (fun v => ((β4 || (!β5)) || β6) = false → v = (Bo (meshOk A_m))),
    Fact.pure [73, 74, 72] (fun v => ((β4 || (!β5)) || β6) = false → v = (Bo β7)),
    Fact.pure [72, 75] (fun v => v = (Bo β8))]) (by simp [Fact.pure, Fact.mem]) ?_
  refine RW_d _ rfl (fun v => by dsimp only [List.set]; try rfl) (fun u hu hF => ?_) (fun v155 => ?_)
  · clear hF
    refine doesG_un rfl ?_
    refine (does_move (u := (Iv (1 + meSz A_m))) (ev rfl)).mono ?_; rintro _ _ ⟨rfl, rfl⟩
    exact ⟨rfl, Ext.refl _⟩
  refine RW_d _ rfl (fun v => by dsimp only [List.set]; try rfl) (fun u hu hF => ?_) (fun v156 => ?_)
  · have h59_ : v155 = (Iv (1 + meSz A_m)) := hF.1
    clear hF
    refine doesG_un rfl ?_
    obtain rfl := h59_
    refine (does_icmp (p := 1 + meSz A_m) (q := 0) (.inr (.inr (.inl rfl))) (ev rfl) (ev rfl)).mono ?_; rintro _ _ ⟨rfl, rfl⟩
    exact ⟨(by first | rfl | (show _ = _; simp only [hβ4]; done) | (show _ = _; simp only [hβ4]; rfl)), Ext.refl _⟩
  refine RW_d _ rfl (fun v => by dsimp only [List.set]; try rfl) (fun u hu hF => ?_) (fun v157 => ?_)
  · have h60_ : v156 = (Bo β4) := hF.1
    clear hF
    refine doesG_un rfl ?_
    obtain rfl := h60_
    refine (does_move (u := (Bo β4)) (ev rfl)).mono ?_; rintro _ _ ⟨rfl, rfl⟩
    exact ⟨rfl, Ext.refl _⟩
  refine RW_d _ rfl (fun v => by dsimp only [List.set]; try rfl) (fun u hu hF => ?_) (fun v158 => ?_)
  · have h61_ : v157 = (Bo β4) := hF.1
    clear hF
    obtain rfl := h61_
    refine doesG_g (b := β4) rfl (yld rfl rfl) (fun hg1 => ?_) (fun hc => ⟨fun hg1 => absurd hg1 hc, Ext.refl _⟩)
    refine (does_move (u := (.slice p100 (((pcsM A_m).1).length) q101)) (ev rfl)).mono ?_; rintro _ _ ⟨rfl, rfl⟩
    exact ⟨fun _ => rfl, Ext.refl _⟩
  refine RW_d _ rfl (fun v => by dsimp only [List.set]; try rfl) (fun u hu hF => ?_) (fun v159 => ?_)
  · have h61_ : v157 = (Bo β4) := hF.1
    clear hF
    obtain rfl := h61_
    refine doesG_g (b := β4) rfl (yld rfl rfl) (fun hg1 => ?_) (fun hc => ⟨fun hg1 => absurd hg1 hc, Ext.refl _⟩)
    refine (does_move (u := (.slice p56 (((pcsM A_m).1).length) q57)) (ev rfl)).mono ?_; rintro _ _ ⟨rfl, rfl⟩
    exact ⟨fun _ => rfl, Ext.refl _⟩
  refine RW_d _ rfl (fun v => by dsimp only [List.set]; try rfl) (fun u hu hF => ?_) (fun v160 => ?_)
  · have h62_ : β4 = false → v158 = (.slice p100 (((pcsM A_m).1).length) q101) := hF.1
    have h63_ : β4 = false → v159 = (.slice p56 (((pcsM A_m).1).length) q57) := hF.2.1
    have h61_ : v157 = (Bo β4) := hF.2.2.1
    clear hF
    obtain rfl := h61_
    refine doesG_g (b := β4) rfl (yld rfl rfl) (fun hg1 => ?_) (fun hc => ⟨fun hg1 => absurd hg1 hc, Ext.refl _⟩)
    obtain rfl := h62_ hg1
    obtain rfl := h63_ hg1
    refine (does_call (args := #[(.slice p100 (((pcsM A_m).1).length) q101), (.slice p56 (((pcsM A_m).1).length) q57)]) cal9 (evs rfl) (c_laws_eqInt64S (.slice p100 (((pcsM A_m).1).length) q101) ((pcsM A_m).1) (.slice p56 (((pcsM A_m).1).length) q57) ((pcsM A_m).1) _ (Sl.ext (hh93 _ (((((Same.refl _ _).ext E120).ext E130).ext E139).kl K149 (fun c hc => .inl (Nat.lt_of_lt_of_le (hw77.1 c hc).2 (Nat.le_trans (Below.size E81) (Nat.le_of_eq (Eq.symm (Wr.size W86)))))))) RI.mono hu) (Sl.ext (hh52 _ (((((((((Same.refl _ _).ext E59).ext E81).wr W86 (.inr (Nat.le_trans (Below.size E59) hb79))).ext E91).ext E120).ext E130).ext E139).kl K149 (fun c hc => .inr (Nat.le_trans (Nat.le_refl _) (hw77.1 c hc).1)))) RI.mono hu))).mono ?_; rintro v u' ⟨hx, hv⟩
    exact ⟨fun _ => hv.trans (by simp only [hβ5]), hx⟩
  refine RW_d _ rfl (fun v => by dsimp only [List.set]; try rfl) (fun u hu hF => ?_) (fun v161 => ?_)
  · have h64_ : β4 = false → v160 = (Bo β5) := hF.1
    have h61_ : v157 = (Bo β4) := hF.2.1
    clear hF
    obtain rfl := h61_
    refine doesG_g (b := β4) rfl (yld rfl rfl) (fun hg1 => ?_) (fun hc => ⟨fun hg1 => absurd hg1 hc, Ext.refl _⟩)
    obtain rfl := h64_ hg1
    refine (does_not (ev rfl)).mono ?_; rintro _ _ ⟨rfl, rfl⟩
    exact ⟨fun _ => rfl, Ext.refl _⟩
  refine RW_d _ rfl (fun v => by dsimp only [List.set]; try rfl) (fun u hu hF => ?_) (fun v162 => ?_)
  · have h61_ : v157 = (Bo β4) := hF.1
    have h65_ : β4 = false → v161 = (Bo (!β5)) := hF.2.1
    clear hF
    refine doesG_un rfl ?_
    skip
    obtain rfl := h61_
    refine (does_pick (b := β4) (u := (Bo true)) (v := v161) (ev rfl) (ev rfl) (ev rfl)).mono ?_; rintro _ _ ⟨rfl, rfl⟩; refine ⟨?_, Ext.refl _⟩; skip
    cases hbb : β4
    all_goals first | (show _ = _; simp only [↓reduceIte, Bool.true_and, Bool.false_and, Bool.true_or, Bool.false_or, Bool.false_eq_true]; done) | (have e_ := h65_ hbb; subst e_; show _ = _; simp only [↓reduceIte, Bool.true_and, Bool.false_and, Bool.true_or, Bool.false_or, Bool.false_eq_true]; done) | rfl | (have e_ := h65_ hbb; subst e_; rfl) | (simp [hbb] at h65_ ⊢; first | done | rfl | (subst h65_; rfl) | simp_all) | (simp [hbb] at h65_ ⊢; done)
  refine RW_d _ rfl (fun v => by dsimp only [List.set]; try rfl) (fun u hu hF => ?_) (fun v163 => ?_)
  · have h66_ : v162 = (Bo (β4 || (!β5))) := hF.1
    clear hF
    refine doesG_un rfl ?_
    obtain rfl := h66_
    refine (does_move (u := (Bo (β4 || (!β5)))) (ev rfl)).mono ?_; rintro _ _ ⟨rfl, rfl⟩
    exact ⟨rfl, Ext.refl _⟩
  refine RW_d _ rfl (fun v => by dsimp only [List.set]; try rfl) (fun u hu hF => ?_) (fun v164 => ?_)
  · have h67_ : v163 = (Bo (β4 || (!β5))) := hF.1
    clear hF
    obtain rfl := h67_
    refine doesG_g (b := (β4 || (!β5))) rfl (yld rfl rfl) (fun hg1 => ?_) (fun hc => ⟨fun hg1 => absurd hg1 hc, Ext.refl _⟩)
    refine (does_move (u := (Iv ((pcsM A_m).2))) (ev rfl)).mono ?_; rintro _ _ ⟨rfl, rfl⟩
    exact ⟨fun _ => rfl, Ext.refl _⟩
  refine RW_d _ rfl (fun v => by dsimp only [List.set]; try rfl) (fun u hu hF => ?_) (fun v165 => ?_)
  · have h67_ : v163 = (Bo (β4 || (!β5))) := hF.1
    clear hF
    obtain rfl := h67_
    refine doesG_g (b := (β4 || (!β5))) rfl (yld rfl rfl) (fun hg1 => ?_) (fun hc => ⟨fun hg1 => absurd hg1 hc, Ext.refl _⟩)
    refine (does_move (u := (Iv ((pcsM A_m).2))) (ev rfl)).mono ?_; rintro _ _ ⟨rfl, rfl⟩
    exact ⟨fun _ => rfl, Ext.refl _⟩
  refine RW_d _ rfl (fun v => by dsimp only [List.set]; try rfl) (fun u hu hF => ?_) (fun v166 => ?_)
  · have h68_ : (β4 || (!β5)) = false → v164 = (Iv ((pcsM A_m).2)) := hF.1
    have h69_ : (β4 || (!β5)) = false → v165 = (Iv ((pcsM A_m).2)) := hF.2.1
    have h67_ : v163 = (Bo (β4 || (!β5))) := hF.2.2.1
    clear hF
    obtain rfl := h67_
    refine doesG_g (b := (β4 || (!β5))) rfl (yld rfl rfl) (fun hg1 => ?_) (fun hc => ⟨fun hg1 => absurd hg1 hc, Ext.refl _⟩)
    obtain rfl := h68_ hg1
    obtain rfl := h69_ hg1
    refine (does_icmp (p := (pcsM A_m).2) (q := (pcsM A_m).2) (.inr (.inl rfl)) (ev rfl) (ev rfl)).mono ?_; rintro _ _ ⟨rfl, rfl⟩
    exact ⟨fun _ => (by first | rfl | (show _ = _; simp only [hβ6]; done) | (show _ = _; simp only [hβ6]; rfl)), Ext.refl _⟩
  refine RW_d _ rfl (fun v => by dsimp only [List.set]; try rfl) (fun u hu hF => ?_) (fun v167 => ?_)
  · have h67_ : v163 = (Bo (β4 || (!β5))) := hF.1
    have h70_ : (β4 || (!β5)) = false → v166 = (Bo β6) := hF.2.1
    clear hF
    refine doesG_un rfl ?_
    skip
    obtain rfl := h67_
    refine (does_pick (b := (β4 || (!β5))) (u := (Bo true)) (v := v166) (ev rfl) (ev rfl) (ev rfl)).mono ?_; rintro _ _ ⟨rfl, rfl⟩; refine ⟨?_, Ext.refl _⟩; skip
    cases hbb : (β4 || (!β5))
    all_goals first | (show _ = _; simp only [↓reduceIte, Bool.true_and, Bool.false_and, Bool.true_or, Bool.false_or, Bool.false_eq_true]; done) | (have e_ := h70_ hbb; subst e_; show _ = _; simp only [↓reduceIte, Bool.true_and, Bool.false_and, Bool.true_or, Bool.false_or, Bool.false_eq_true]; done) | rfl | (have e_ := h70_ hbb; subst e_; rfl) | (simp [hbb] at h70_ ⊢; first | done | rfl | (subst h70_; rfl) | simp_all) | (simp [hbb] at h70_ ⊢; done)
  refine RW_d _ rfl (fun v => by dsimp only [List.set]; try rfl) (fun u hu hF => ?_) (fun v168 => ?_)
  · have h71_ : v167 = (Bo ((β4 || (!β5)) || β6)) := hF.1
    clear hF
    refine doesG_un rfl ?_
    obtain rfl := h71_
    refine (does_move (u := (Bo ((β4 || (!β5)) || β6))) (ev rfl)).mono ?_; rintro _ _ ⟨rfl, rfl⟩
    exact ⟨rfl, Ext.refl _⟩
  refine RW_d _ rfl (fun v => by dsimp only [List.set]; try rfl) (fun u hu hF => ?_) (fun v169 => ?_)
  · have h72_ : v168 = (Bo ((β4 || (!β5)) || β6)) := hF.1
    clear hF
    obtain rfl := h72_
    refine doesG_g (b := ((β4 || (!β5)) || β6)) rfl (yld rfl rfl) (fun hg1 => ?_) (fun hc => ⟨fun hg1 => absurd hg1 hc, Ext.refl _⟩)
    refine (does_move (u := (Bo (meshOk A_m))) (ev rfl)).mono ?_; rintro _ _ ⟨rfl, rfl⟩
    exact ⟨fun _ => rfl, Ext.refl _⟩
  refine RW_d _ rfl (fun v => by dsimp only [List.set]; try rfl) (fun u hu hF => ?_) (fun v170 => ?_)
  · have h72_ : v168 = (Bo ((β4 || (!β5)) || β6)) := hF.1
    clear hF
    obtain rfl := h72_
    refine doesG_g (b := ((β4 || (!β5)) || β6)) rfl (yld rfl rfl) (fun hg1 => ?_) (fun hc => ⟨fun hg1 => absurd hg1 hc, Ext.refl _⟩)
    refine (does_move (u := (Bo (meshOk A_m))) (ev rfl)).mono ?_; rintro _ _ ⟨rfl, rfl⟩
    exact ⟨fun _ => rfl, Ext.refl _⟩
  refine RW_d _ rfl (fun v => by dsimp only [List.set]; try rfl) (fun u hu hF => ?_) (fun v171 => ?_)
  · have h73_ : ((β4 || (!β5)) || β6) = false → v169 = (Bo (meshOk A_m)) := hF.1
    have h74_ : ((β4 || (!β5)) || β6) = false → v170 = (Bo (meshOk A_m)) := hF.2.1
    have h72_ : v168 = (Bo ((β4 || (!β5)) || β6)) := hF.2.2.1
    clear hF
    obtain rfl := h72_
    refine doesG_g (b := ((β4 || (!β5)) || β6)) rfl (yld rfl rfl) (fun hg1 => ?_) (fun hc => ⟨fun hg1 => absurd hg1 hc, Ext.refl _⟩)
    obtain rfl := h73_ hg1
    obtain rfl := h74_ hg1
    refine (does_bne (p := (meshOk A_m)) (q := (meshOk A_m)) Try.underlying4 (ev rfl) (ev rfl)).mono ?_; rintro _ _ ⟨rfl, rfl⟩
    exact ⟨fun _ => (by first | rfl | (show _ = _; simp only [hβ7]; done) | (show _ = _; simp only [hβ7]; rfl)), Ext.refl _⟩
  refine RW_d _ rfl (fun v => by dsimp only [List.set]; try rfl) (fun u hu hF => ?_) (fun v172 => ?_)
  · have h72_ : v168 = (Bo ((β4 || (!β5)) || β6)) := hF.1
    have h75_ : ((β4 || (!β5)) || β6) = false → v171 = (Bo β7) := hF.2.1
    clear hF
    refine doesG_un rfl ?_
    skip
    obtain rfl := h72_
    refine (does_pick (b := ((β4 || (!β5)) || β6)) (u := (Bo true)) (v := v171) (ev rfl) (ev rfl) (ev rfl)).mono ?_; rintro _ _ ⟨rfl, rfl⟩; refine ⟨?_, Ext.refl _⟩; rw [hβ8]; skip
    cases hbb : ((β4 || (!β5)) || β6)
    all_goals first | (show _ = _; simp only [↓reduceIte, Bool.true_and, Bool.false_and, Bool.true_or, Bool.false_or, Bool.false_eq_true]; done) | (have e_ := h75_ hbb; subst e_; show _ = _; simp only [↓reduceIte, Bool.true_and, Bool.false_and, Bool.true_or, Bool.false_or, Bool.false_eq_true]; done) | rfl | (have e_ := h75_ hbb; subst e_; rfl) | (simp [hbb] at h75_ ⊢; first | done | rfl | (subst h75_; rfl) | simp_all) | (simp [hbb] at h75_ ⊢; done)
  refine RW_fin ?_; intro w173 E174 hP175
  obtain ⟨⟨⟨⟨⟨⟨⟨⟨⟨⟨⟨⟨⟨⟨⟨⟨⟨⟨-, -⟩, -⟩, -⟩, -⟩, -⟩, -⟩, -⟩, -⟩, -⟩, -⟩, -⟩, -⟩, -⟩, -⟩, -⟩, -⟩, -⟩, q176⟩ := hP175
  have X177 := Ext.gr X152 E174
  have q176 : v172 = (Bo β8) := q176
  obtain rfl := q176
  show wpList _ _ _ _ (fr [_, _, _, _, _, _, _, _, _, _, _, _, _, _, _, _, _, _, _, _, _, _, _, _, _, _, _, _, _, _, _, _, _, _, _, _, _, _, _, _, _, _, _, _, _, _, _, _, _, _, _, _, _, _, _, _, _, _, _, _, _, _, _, _, _, _, _, _, _, _, _, _, _, _, _, _, _, _, _, _, _, _, _, _, _, _, _, _, _, _, _, _, _, _, _, _, _, _, _, _, _, _, _, _, _, _, _, _, _, _, _, _, _, _, _, _, _]) _
  refine wpList_nil (hK154 _ _ ?_)
  refine wp_cond_split (t := β8) (ev rfl) (fun c178 => ?_) (fun c178 => ?_)
  · have c178' := c178
    (try simp only [hβ1, hβ2, hβ3, hβ4, hβ5, hβ6, hβ7, hβ8, sameX_selfI, sameMesh_self, bne_self_eq_false] at c178')
    (try simp only [hβ1, hβ2, hβ3, hβ4, hβ5, hβ6, hβ7, hβ8] at c178')
    (try simp only [icmp, Bool.and_eq_true, Bool.or_eq_true, Bool.and_eq_false_iff, Bool.or_eq_false_iff, Bool.not_eq_true', Bool.not_eq_false', decide_eq_true_eq, decide_eq_false_iff_not, beq_iff_eq, bne_iff_ne, beq_eq_false_iff_ne, bne_eq_false_iff_eq] at c178')
    refine wp_seq_k fun K179 hK179 => ?_
    refine wp_region_lit ?_
    refine q_is rfl rfl (does_assign (u := (Bo false)) (ev rfl)) (by dsimp only [List.set]; try rfl) ?_
    refine wpList_nil (hK179 _ _ ?_)
    refine wp_ret ?_
    dsimp only [Exit.then, Exit.inBlock]
    refine ret_val (v := (Bo false)) (res_T rfl (slot rfl)) X177 ?_
    try simp only [hβ1, hβ2, hβ3, hβ4, hβ5, hβ6, hβ7, hβ8, sameX_selfI, sameMesh_self, bne_self_eq_false] at c28 c124 c143 c178
    have x180 : true = false := by first | with_reducible rfl | (exfalso; omega) | (exfalso; simp only [mkL_len] at * <;> omega) | (exfalso; rcases c178' with ((hh | hh) | hh) | hh <;> first | omega | (exact Bool.noConfusion hh) | (exact absurd rfl hh)) | (exfalso; rcases c178' with (hh | hh) | hh <;> first | omega | (exact Bool.noConfusion hh)) | (exfalso; rcases c178' with hh | hh <;> first | omega | (exact Bool.noConfusion hh)) | (simp only [sameX_selfI, sameMesh_self, bne_self_eq_false, icmp, hβ1, hβ2, hβ3, hβ4, hβ5, hβ6, hβ7, hβ8, c28, c124, c143, c178]; done) | (simp [sameX_selfI, sameMesh_self, bne_self_eq_false, icmp, hβ1, hβ2, hβ3, hβ4, hβ5, hβ6, hβ7, hβ8, c28, c124, c143, c178]; done) | (simp_all; done) | (exfalso; simp_all; done)
    exact (by first | with_reducible rfl | rw [x180] | rfl)
  have c178' := c178
  (try simp only [hβ1, hβ2, hβ3, hβ4, hβ5, hβ6, hβ7, hβ8, sameX_selfI, sameMesh_self, bne_self_eq_false] at c178')
  (try simp only [hβ1, hβ2, hβ3, hβ4, hβ5, hβ6, hβ7, hβ8] at c178')
  (try simp only [icmp, Bool.and_eq_true, Bool.or_eq_true, Bool.and_eq_false_iff, Bool.or_eq_false_iff, Bool.not_eq_true', Bool.not_eq_false', decide_eq_true_eq, decide_eq_false_iff_not, beq_iff_eq, bne_iff_ne, beq_eq_false_iff_ne, bne_eq_false_iff_eq] at c178')
  refine wp_skip (hK153 _ _ ?_)
  refine wp_seq_k fun K181 hK181 => ?_
  refine wp_region_lit ?_
  refine q_is rfl rfl (does_assign (u := (Iv 1)) (ev rfl)) (by dsimp only [List.set]; try rfl) ?_
  refine wpList_nil (hK181 _ _ ?_)
  refine wp_seq_k fun K182 hK182 => ?_
  refine wp_region_lit ?_
  refine q_is rfl rfl (does_move (u := (.slice p100 (((pcsM A_m).1).length) q101)) (ev rfl)) (by dsimp only [List.set]; try rfl) ?_
  refine q_is rfl rfl (does_move (u := (Iv 1)) (ev rfl)) (by dsimp only [List.set]; try rfl) ?_
  refine seqd rfl rfl (does_callK (args := #[(.slice p100 (((pcsM A_m).1).length) q101), (Iv 1)]) cal12 (evs rfl) (c_laws_markInt64S (.slice p100 (((pcsM A_m).1).length) q101) ((pcsM A_m).1).length Lw95 w88.heap.size 1 _ (hw102.same ((((((Same.refl _ _).ext E120).ext E130).ext E139).kl K149 (fun c hc => .inl (Nat.lt_of_lt_of_le (hw77.1 c hc).2 (Nat.le_trans (Below.size E81) (Nat.le_of_eq (Eq.symm (Wr.size W86))))))).ext E174)) (by omega) (by first | omega | omega))) ?_; rintro _ w183 ⟨K184, rfl, hM185⟩
  have X186 := Below.kl X177 K184 (fun c hc => Nat.le_trans (Below.size (Below.wr (Ext.gr (Ext.gr (Ext.gr (Ext.gr (Ext.gr (Ext.gr (Ext.refl _) E15) E21) E31) E50) E59) E81) W86 g84)) (hw102.1 c hc).1) (Nat.le_refl _)
  show wpList _ _ _ _ (fr [_, _, _, _, _, _, _, _, _, _, _, _, _, _, _, _, _, _, _, _, _, _, _, _, _, _, _, _, _, _, _, _, _, _, _, _, _, _, _, _, _, _, _, _, _, _, _, _, _, _, _, _, _, _, _, _, _, _, _, _, _, _, _, _, _, _, _, _, _, _, _, _, _, _, _, _, _, _, _, _, _, _, _, _, _, _, _, _, _, _, _, _, _, _, _, _, _, _, _, _, _, _, _, _, _, _, _, _, _, _, _, _, _, _, _, _, _]) _
  refine q_is rfl rfl (does_assign (u := (Iv (1 + (((pcsM A_m).1).length : Int) * 1))) (ev rfl)) (by dsimp only [List.set]; try rfl) ?_
  refine wpList_nil (hK182 _ _ ?_)
  refine wp_seq_k fun K189 hK189 => ?_
  refine wp_region_lit ?_
  refine q_is rfl rfl (does_assign (u := (Iv 1)) (ev rfl)) (by dsimp only [List.set]; try rfl) ?_
  refine wpList_nil (hK189 _ _ ?_)
  refine wp_seq_k fun K190 hK190 => ?_
  refine wp_region_lit ?_
  refine q_is rfl rfl (does_move (u := (.slice p100 (((pcsM A_m).1).length) q101)) (ev rfl)) (by dsimp only [List.set]; try rfl) ?_
  refine q_is rfl rfl (does_move (u := (Iv 1)) (ev rfl)) (by dsimp only [List.set]; try rfl) ?_
  refine seqd rfl rfl (does_call (args := #[(.slice p100 (((pcsM A_m).1).length) q101), (Iv 1)]) cal13 (evs rfl) (c_laws_heldInt64S (.slice p100 (((pcsM A_m).1).length) q101) (mkL fI 1 1 ((pcsM A_m).1).length) 1 _ hM185.get (by exact mkL_eq) (by omega) (by (try dsimp only); rw [mkL_len]; omega))) ?_; rintro _ w192 ⟨E191, rfl⟩
  have X193 := Ext.gr X186 E191
  show wpList _ _ _ _ (fr [_, _, _, _, _, _, _, _, _, _, _, _, _, _, _, _, _, _, _, _, _, _, _, _, _, _, _, _, _, _, _, _, _, _, _, _, _, _, _, _, _, _, _, _, _, _, _, _, _, _, _, _, _, _, _, _, _, _, _, _, _, _, _, _, _, _, _, _, _, _, _, _, _, _, _, _, _, _, _, _, _, _, _, _, _, _, _, _, _, _, _, _, _, _, _, _, _, _, _, _, _, _, _, _, _, _, _, _, _, _, _, _, _, _, _, _, _]) _
  refine q_is rfl rfl (does_assign (u := (Iv (1 + ((mkL fI 1 1 ((pcsM A_m).1).length).length : Int) * 1))) (ev rfl)) (by dsimp only [List.set]; try rfl) ?_
  refine wpList_nil (hK190 _ _ ?_)
  refine wp_seq_k fun K194 hK194 => ?_
  refine wp_seq_k fun K195 hK195 => ?_
  refine wp_region_lit ?_
  refine q_is rfl rfl (does_move (u := (Iv (1 + ((mkL fI 1 1 ((pcsM A_m).1).length).length : Int) * 1))) (ev rfl)) (by dsimp only [List.set]; try rfl) ?_
  refine q_is rfl rfl (does_icmp (p := 1 + ((mkL fI 1 1 ((pcsM A_m).1).length).length : Int) * 1) (q := 0) (.inr (.inr (.inl rfl))) (ev rfl) (ev rfl)) (by dsimp only [List.set]; try rfl) ?_
  refine wpList_nil (hK195 _ _ ?_)
  refine wp_cond_split (t := icmp .lss (1 + ((mkL fI 1 1 ((pcsM A_m).1).length).length : Int) * 1) 0) (ev rfl) (fun c196 => ?_) (fun c196 => ?_)
  · have c196' := c196
    (try simp only [hβ1, hβ2, hβ3, hβ4, hβ5, hβ6, hβ7, hβ8, sameX_selfI, sameMesh_self, bne_self_eq_false] at c196')
    (try simp only [hβ1, hβ2, hβ3, hβ4, hβ5, hβ6, hβ7, hβ8] at c196')
    (try simp only [icmp, Bool.and_eq_true, Bool.or_eq_true, Bool.and_eq_false_iff, Bool.or_eq_false_iff, Bool.not_eq_true', Bool.not_eq_false', decide_eq_true_eq, decide_eq_false_iff_not, beq_iff_eq, bne_iff_ne, beq_eq_false_iff_ne, bne_eq_false_iff_eq] at c196')
    refine wp_seq_k fun K197 hK197 => ?_
    refine wp_region_lit ?_
    refine q_is rfl rfl (does_assign (u := (Bo false)) (ev rfl)) (by dsimp only [List.set]; try rfl) ?_
    refine wpList_nil (hK197 _ _ ?_)
    refine wp_ret ?_
    dsimp only [Exit.then, Exit.inBlock]
    refine ret_val (v := (Bo false)) (res_T rfl (slot rfl)) X193 ?_
    try simp only [hβ1, hβ2, hβ3, hβ4, hβ5, hβ6, hβ7, hβ8, sameX_selfI, sameMesh_self, bne_self_eq_false] at c28 c124 c143 c178 c196
    have x198 : true = false := by first | with_reducible rfl | (exfalso; omega) | (exfalso; simp only [mkL_len] at * <;> omega) | (exfalso; rcases c196' with ((hh | hh) | hh) | hh <;> first | omega | (exact Bool.noConfusion hh) | (exact absurd rfl hh)) | (exfalso; rcases c196' with (hh | hh) | hh <;> first | omega | (exact Bool.noConfusion hh)) | (exfalso; rcases c196' with hh | hh <;> first | omega | (exact Bool.noConfusion hh)) | (simp only [sameX_selfI, sameMesh_self, bne_self_eq_false, icmp, hβ1, hβ2, hβ3, hβ4, hβ5, hβ6, hβ7, hβ8, c28, c124, c143, c178, c196]; done) | (simp [sameX_selfI, sameMesh_self, bne_self_eq_false, icmp, hβ1, hβ2, hβ3, hβ4, hβ5, hβ6, hβ7, hβ8, c28, c124, c143, c178, c196]; done) | (simp_all; done) | (exfalso; simp_all; done)
    exact (by first | with_reducible rfl | rw [x198] | rfl)
  have c196' := c196
  (try simp only [hβ1, hβ2, hβ3, hβ4, hβ5, hβ6, hβ7, hβ8, sameX_selfI, sameMesh_self, bne_self_eq_false] at c196')
  (try simp only [hβ1, hβ2, hβ3, hβ4, hβ5, hβ6, hβ7, hβ8] at c196')
  (try simp only [icmp, Bool.and_eq_true, Bool.or_eq_true, Bool.and_eq_false_iff, Bool.or_eq_false_iff, Bool.not_eq_true', Bool.not_eq_false', decide_eq_true_eq, decide_eq_false_iff_not, beq_iff_eq, bne_iff_ne, beq_eq_false_iff_ne, bne_eq_false_iff_eq] at c196')
  refine wp_skip (hK194 _ _ ?_)
  refine wp_seq_k fun K199 hK199 => ?_
  refine wp_seq_k fun K200 hK200 => ?_
  refine wp_region_lit ?_
  refine q_is rfl rfl (does_move (u := (Iv (1 + ((mkL fI 1 1 ((pcsM A_m).1).length).length : Int) * 1))) (ev rfl)) (by dsimp only [List.set]; try rfl) ?_
  refine q_is rfl rfl (does_move (u := (Iv (1 + (((pcsM A_m).1).length : Int) * 1))) (ev rfl)) (by dsimp only [List.set]; try rfl) ?_
  refine q_is rfl rfl (does_icmp (p := 1 + ((mkL fI 1 1 ((pcsM A_m).1).length).length : Int) * 1) (q := 1 + (((pcsM A_m).1).length : Int) * 1) (.inr (.inl rfl)) (ev rfl) (ev rfl)) (by dsimp only [List.set]; try rfl) ?_
  refine wpList_nil (hK200 _ _ ?_)
  refine wp_cond_split (t := icmp .neq (1 + ((mkL fI 1 1 ((pcsM A_m).1).length).length : Int) * 1) (1 + (((pcsM A_m).1).length : Int) * 1)) (ev rfl) (fun c201 => ?_) (fun c201 => ?_)
  · have c201' := c201
    (try simp only [hβ1, hβ2, hβ3, hβ4, hβ5, hβ6, hβ7, hβ8, sameX_selfI, sameMesh_self, bne_self_eq_false] at c201')
    (try simp only [hβ1, hβ2, hβ3, hβ4, hβ5, hβ6, hβ7, hβ8] at c201')
    (try simp only [icmp, Bool.and_eq_true, Bool.or_eq_true, Bool.and_eq_false_iff, Bool.or_eq_false_iff, Bool.not_eq_true', Bool.not_eq_false', decide_eq_true_eq, decide_eq_false_iff_not, beq_iff_eq, bne_iff_ne, beq_eq_false_iff_ne, bne_eq_false_iff_eq] at c201')
    refine wp_seq_k fun K202 hK202 => ?_
    refine wp_region_lit ?_
    refine q_is rfl rfl (does_assign (u := (Bo false)) (ev rfl)) (by dsimp only [List.set]; try rfl) ?_
    refine wpList_nil (hK202 _ _ ?_)
    refine wp_ret ?_
    dsimp only [Exit.then, Exit.inBlock]
    refine ret_val (v := (Bo false)) (res_T rfl (slot rfl)) X193 ?_
    try simp only [hβ1, hβ2, hβ3, hβ4, hβ5, hβ6, hβ7, hβ8, sameX_selfI, sameMesh_self, bne_self_eq_false] at c28 c124 c143 c178 c196 c201
    have x203 : true = false := by first | with_reducible rfl | (exfalso; omega) | (exfalso; simp only [mkL_len] at * <;> omega) | (exfalso; rcases c201' with ((hh | hh) | hh) | hh <;> first | omega | (exact Bool.noConfusion hh) | (exact absurd rfl hh)) | (exfalso; rcases c201' with (hh | hh) | hh <;> first | omega | (exact Bool.noConfusion hh)) | (exfalso; rcases c201' with hh | hh <;> first | omega | (exact Bool.noConfusion hh)) | (simp only [sameX_selfI, sameMesh_self, bne_self_eq_false, icmp, hβ1, hβ2, hβ3, hβ4, hβ5, hβ6, hβ7, hβ8, c28, c124, c143, c178, c196, c201]; done) | (simp [sameX_selfI, sameMesh_self, bne_self_eq_false, icmp, hβ1, hβ2, hβ3, hβ4, hβ5, hβ6, hβ7, hβ8, c28, c124, c143, c178, c196, c201]; done) | (simp_all; done) | (exfalso; simp_all; done)
    exact (by first | with_reducible rfl | rw [x203] | rfl)
  have c201' := c201
  (try simp only [hβ1, hβ2, hβ3, hβ4, hβ5, hβ6, hβ7, hβ8, sameX_selfI, sameMesh_self, bne_self_eq_false] at c201')
  (try simp only [hβ1, hβ2, hβ3, hβ4, hβ5, hβ6, hβ7, hβ8] at c201')
  (try simp only [icmp, Bool.and_eq_true, Bool.or_eq_true, Bool.and_eq_false_iff, Bool.or_eq_false_iff, Bool.not_eq_true', Bool.not_eq_false', decide_eq_true_eq, decide_eq_false_iff_not, beq_iff_eq, bne_iff_ne, beq_eq_false_iff_ne, bne_eq_false_iff_eq] at c201')
  refine wp_skip (hK199 _ _ ?_)
  refine wp_seq_k fun K204 hK204 => ?_
  refine wp_region_lit ?_
  refine q_is rfl rfl (does_loadAgg (cs := [(.slice p5 A_m.places.length q6), (.slice p8 A_m.tris.length q9)]) (ev rfl) Try.isAgg25 Try.sizeOf25 (Blk.cells ((((((((((((((hB14.ext E21).ext E31).ext E50).ext E59).ext E81).wr W86 (Nat.ne_of_lt n83)).ext E91).ext E120).ext E130).ext E139).kl K149 (fun hc => absurd (hw77.1 _ hc).1 (Nat.not_le_of_lt n66))).ext E174).kl K184 (fun hc => absurd (hw102.1 _ hc).1 (Nat.not_le_of_lt n98))).ext E191)) rfl) (by dsimp only [List.set]; try rfl) ?_
  refine seqd rfl rfl (does_call (args := #[(.agg #[(.slice p5 A_m.places.length q6), (.slice p8 A_m.tris.length q9)])]) cal7 (evs rfl) (c_laws_toMesh [(.slice p5 A_m.places.length q6), (.slice p8 A_m.tris.length q9)] A_m _ ⟨(.slice p5 A_m.places.length q6), (.slice p8 A_m.tris.length q9), rfl, (Sl.ext hs7 RV3.mono X193), (Sl.ext hs10 (RS.mono RI.mono) X193)⟩ (by omega))) ?_; rintro _ w206 ⟨E205, ⟨cs208, Lw209, rfl, hh207, hw210⟩⟩
  have X211 := Ext.gr X193 E205
  have n212 : b12 < w192.heap.size := Blk.lt ((((((((((((((hB14.ext E21).ext E31).ext E50).ext E59).ext E81).wr W86 (Nat.ne_of_lt n83)).ext E91).ext E120).ext E130).ext E139).kl K149 (fun hc => absurd (hw77.1 _ hc).1 (Nat.not_le_of_lt n66))).ext E174).kl K184 (fun hc => absurd (hw102.1 _ hc).1 (Nat.not_le_of_lt n98))).ext E191)
  have n213 : b78 < w192.heap.size := Blk.lt ((((((((hB87.ext E91).ext E120).ext E130).ext E139).kl K149 (fun hc => absurd (Nat.lt_of_lt_of_le (hw77.1 _ hc).2 (Nat.le_trans (Nat.le_refl _) hb79)) (Nat.lt_irrefl _))).ext E174).kl K184 (fun hc => absurd (hw102.1 _ hc).1 (Nat.not_le_of_lt n99))).ext E191)
  obtain ⟨y214, y216, rfl, h215, h217⟩ := hh207.get
  have h215l := Sl.len h215; obtain ⟨p218, q219, rfl⟩ := Sl.shape h215
  have hh220 : Hang w192.heap.size w206 (fun u => Sl RV3 3 u (.slice p218 A_m.places.length q219) A_m.places) := fun u hu => by obtain ⟨_, _, hq, _, _⟩ := hh207 u hu; cases hq; assumption
  have h217l := Sl.len h217; obtain ⟨p221, q222, rfl⟩ := Sl.shape h217
  have hh223 : Hang w192.heap.size w206 (fun u => Sl (RS RI 1) 1 u (.slice p221 A_m.tris.length q222) A_m.tris) := fun u hu => by obtain ⟨_, _, hq, _, _⟩ := hh207 u hu; cases hq; assumption
  have hw224 : WLM w192.heap.size w206 Lw209 (.slice p218 A_m.places.length q219) (.slice p221 A_m.tris.length q222) A_m := hw210
  show wpList _ _ _ _ (fr [_, _, _, _, _, _, _, _, _, _, _, _, _, _, _, _, _, _, _, _, _, _, _, _, _, _, _, _, _, _, _, _, _, _, _, _, _, _, _, _, _, _, _, _, _, _, _, _, _, _, _, _, _, _, _, _, _, _, _, _, _, _, _, _, _, _, _, _, _, _, _, _, _, _, _, _, _, _, _, _, _, _, _, _, _, _, _, _, _, _, _, _, _, _, _, _, _, _, _, _, _, _, _, _, _, _, _, _, _, _, _, _, _, _, _, _, _]) _
  refine seqd rfl rfl (does_call (args := #[(.agg #[(.slice p218 A_m.places.length q219), (.slice p221 A_m.tris.length q222)])]) cal8 (evs rfl) (c_impl_PiecesOf [(.slice p218 A_m.places.length q219), (.slice p221 A_m.tris.length q222)] A_m _ ⟨(.slice p218 A_m.places.length q219), (.slice p221 A_m.tris.length q222), rfl, hh220.get, hh223.get⟩)) ?_; rintro _ w226 ⟨E225, ⟨y228, Lw229, rfl, hh227, hw230⟩⟩
  have X231 := Ext.gr X211 E225
  have n232 : b12 < w206.heap.size := Blk.lt (((((((((((((((hB14.ext E21).ext E31).ext E50).ext E59).ext E81).wr W86 (Nat.ne_of_lt n83)).ext E91).ext E120).ext E130).ext E139).kl K149 (fun hc => absurd (hw77.1 _ hc).1 (Nat.not_le_of_lt n66))).ext E174).kl K184 (fun hc => absurd (hw102.1 _ hc).1 (Nat.not_le_of_lt n98))).ext E191).ext E205)
  have n233 : b78 < w206.heap.size := Blk.lt (((((((((hB87.ext E91).ext E120).ext E130).ext E139).kl K149 (fun hc => absurd (Nat.lt_of_lt_of_le (hw77.1 _ hc).2 (Nat.le_trans (Nat.le_refl _) hb79)) (Nat.lt_irrefl _))).ext E174).kl K184 (fun hc => absurd (hw102.1 _ hc).1 (Nat.not_le_of_lt n99))).ext E191).ext E205)
  obtain ⟨p234, q235, rfl⟩ := Sl.shape hh227.get
  have hw236 : WL 1 w206.heap.size w226 Lw229 (.slice p234 (((pcsM A_m).1).length) q235) ((pcsM A_m).1).length := hw230
  show wpList _ _ _ _ (fr [_, _, _, _, _, _, _, _, _, _, _, _, _, _, _, _, _, _, _, _, _, _, _, _, _, _, _, _, _, _, _, _, _, _, _, _, _, _, _, _, _, _, _, _, _, _, _, _, _, _, _, _, _, _, _, _, _, _, _, _, _, _, _, _, _, _, _, _, _, _, _, _, _, _, _, _, _, _, _, _, _, _, _, _, _, _, _, _, _, _, _, _, _, _, _, _, _, _, _, _, _, _, _, _, _, _, _, _, _, _, _, _, _, _, _, _, _]) _
  refine q_is rfl rfl (does_move (u := (.tuple #[(.slice p234 (((pcsM A_m).1).length) q235), (Iv ((pcsM A_m).2)), (Bo (meshOk A_m))])) (ev rfl)) (by dsimp only [List.set]; try rfl) ?_
  refine q_is rfl rfl (does_extract (vs := #[(.slice p234 (((pcsM A_m).1).length) q235), (Iv ((pcsM A_m).2)), (Bo (meshOk A_m))]) (u := (.slice p234 (((pcsM A_m).1).length) q235)) (ev rfl) rfl) (by dsimp only [List.set]; try rfl) ?_
  refine q_is rfl rfl (does_extract (vs := #[(.slice p234 (((pcsM A_m).1).length) q235), (Iv ((pcsM A_m).2)), (Bo (meshOk A_m))]) (u := (Iv ((pcsM A_m).2))) (ev rfl) rfl) (by dsimp only [List.set]; try rfl) ?_
  refine q_is rfl rfl (does_extract (vs := #[(.slice p234 (((pcsM A_m).1).length) q235), (Iv ((pcsM A_m).2)), (Bo (meshOk A_m))]) (u := (Bo (meshOk A_m))) (ev rfl) rfl) (by dsimp only [List.set]; try rfl) ?_
  refine q_is rfl rfl (does_assign (u := (.slice p234 (((pcsM A_m).1).length) q235)) (ev rfl)) (by dsimp only [List.set]; try rfl) ?_
  refine q_is rfl rfl (does_assign (u := (Iv ((pcsM A_m).2))) (ev rfl)) (by dsimp only [List.set]; try rfl) ?_
  refine q_is rfl rfl (does_assign (u := (Bo (meshOk A_m))) (ev rfl)) (by dsimp only [List.set]; try rfl) ?_
  refine wpList_nil (hK204 _ _ ?_)
  refine wp_seq_k fun K237 hK237 => ?_
  refine wp_seq_k fun K238 hK238 => ?_
  obtain ⟨β9, hβ9⟩ : ∃ b : Bool, b = (sameX eqI ((pcsM A_m).1) ((pcsM A_m).1)) := ⟨_, rfl⟩
  obtain ⟨β10, hβ10⟩ : ∃ b : Bool, b = (icmp .neq ((pcsM A_m).2) ((pcsM A_m).2)) := ⟨_, rfl⟩
  obtain ⟨β11, hβ11⟩ : ∃ b : Bool, b = ((meshOk A_m) != (meshOk A_m)) := ⟨_, rfl⟩
  refine region_text (
    [Fact.pure [] (fun v => v = (.slice p234 (((pcsM A_m).1).length) q235)),
    Fact.pure [] (fun v => v = (.slice p56 (((pcsM A_m).1).length) q57)),
    Fact.pure [95, 96] (fun v => v = (Bo β9)),
    Fact.pure [97] (fun v => v = (Bo (!β9))),
    Fact.pure [98] (fun v => v = (Bo (!β9))),
    Fact.pure [99] (fun v => (!β9) = false → v = (Iv ((pcsM A_m).2))),
    Fact.pure [99] (fun v => (!β9) = false → v = (Iv ((pcsM A_m).2))),
    Fact.pure [100, 101, 99] (fun v => (!β9) = false → v = (Bo β10)),
    Fact.pure [99, 102] (fun v => v = (Bo ((!β9) || β10))),
    Fact.pure [103] (fun v => v = (Bo ((!β9) || β10))),
    Fact.pure [104] (fun v => ((!β9) || β10) = false → v = (Bo (meshOk A_m))),
    Fact.pure [104] (fun v => ((!β9) || β10) = false → v = (Bo (meshOk A_m))),
    Fact.pure [105, 106, 104] (fun v => ((!β9) || β10) = false → v = (Bo β11)),
    Fact.pure [104, 107] (fun v => v = (Bo (((!β9) || β10) || β11)))]) (by simp [Fact.pure, Fact.mem]) ?_
  refine RW_d _ rfl (fun v => by dsimp only [List.set]; try rfl) (fun u hu hF => ?_) (fun v239 => ?_)
  · clear hF
    refine doesG_un rfl ?_
    refine (does_move (u := (.slice p234 (((pcsM A_m).1).length) q235)) (ev rfl)).mono ?_; rintro _ _ ⟨rfl, rfl⟩
    exact ⟨rfl, Ext.refl _⟩
  refine RW_d _ rfl (fun v => by dsimp only [List.set]; try rfl) (fun u hu hF => ?_) (fun v240 => ?_)
  · clear hF
    refine doesG_un rfl ?_
    refine (does_move (u := (.slice p56 (((pcsM A_m).1).length) q57)) (ev rfl)).mono ?_; rintro _ _ ⟨rfl, rfl⟩
    exact ⟨rfl, Ext.refl _⟩
  refine RW_d _ rfl (fun v => by dsimp only [List.set]; try rfl) (fun u hu hF => ?_) (fun v241 => ?_)
  · have h95_ : v239 = (.slice p234 (((pcsM A_m).1).length) q235) := hF.1
    have h96_ : v240 = (.slice p56 (((pcsM A_m).1).length) q57) := hF.2.1
    clear hF
    refine doesG_un rfl ?_
    obtain rfl := h95_
    obtain rfl := h96_
    refine (does_call (args := #[(.slice p234 (((pcsM A_m).1).length) q235), (.slice p56 (((pcsM A_m).1).length) q57)]) cal9 (evs rfl) (c_laws_eqInt64S (.slice p234 (((pcsM A_m).1).length) q235) ((pcsM A_m).1) (.slice p56 (((pcsM A_m).1).length) q57) ((pcsM A_m).1) _ (Sl.ext hh227.get RI.mono hu) (Sl.ext (hh52 _ ((((((((((((((Same.refl _ _).ext E59).ext E81).wr W86 (.inr (Nat.le_trans (Below.size E59) hb79))).ext E91).ext E120).ext E130).ext E139).kl K149 (fun c hc => .inr (Nat.le_trans (Nat.le_refl _) (hw77.1 c hc).1))).ext E174).kl K184 (fun c hc => .inr (Nat.le_trans (Nat.le_trans (Nat.le_trans (Below.size E59) (Below.size E81)) (Nat.le_of_eq (Eq.symm (Wr.size W86)))) (hw102.1 c hc).1))).ext E191).ext E205).ext E225)) RI.mono hu))).mono ?_; rintro v u' ⟨hx, hv⟩
    exact ⟨hv.trans (by simp only [hβ9]), hx⟩
  refine RW_d _ rfl (fun v => by dsimp only [List.set]; try rfl) (fun u hu hF => ?_) (fun v242 => ?_)
  · have h97_ : v241 = (Bo β9) := hF.1
    clear hF
    refine doesG_un rfl ?_
    obtain rfl := h97_
    refine (does_not (ev rfl)).mono ?_; rintro _ _ ⟨rfl, rfl⟩
    exact ⟨rfl, Ext.refl _⟩
  refine RW_d _ rfl (fun v => by dsimp only [List.set]; try rfl) (fun u hu hF => ?_) (fun v243 => ?_)
  · have h98_ : v242 = (Bo (!β9)) := hF.1
    clear hF
    refine doesG_un rfl ?_
    obtain rfl := h98_
    refine (does_move (u := (Bo (!β9))) (ev rfl)).mono ?_; rintro _ _ ⟨rfl, rfl⟩
    exact ⟨rfl, Ext.refl _⟩
  refine RW_d _ rfl (fun v => by dsimp only [List.set]; try rfl) (fun u hu hF => ?_) (fun v244 => ?_)
  · have h99_ : v243 = (Bo (!β9)) := hF.1
    clear hF
    obtain rfl := h99_
    refine doesG_g (b := (!β9)) rfl (yld rfl rfl) (fun hg1 => ?_) (fun hc => ⟨fun hg1 => absurd hg1 hc, Ext.refl _⟩)
    refine (does_move (u := (Iv ((pcsM A_m).2))) (ev rfl)).mono ?_; rintro _ _ ⟨rfl, rfl⟩
    exact ⟨fun _ => rfl, Ext.refl _⟩
  refine RW_d _ rfl (fun v => by dsimp only [List.set]; try rfl) (fun u hu hF => ?_) (fun v245 => ?_)
  · have h99_ : v243 = (Bo (!β9)) := hF.1
    clear hF
    obtain rfl := h99_
    refine doesG_g (b := (!β9)) rfl (yld rfl rfl) (fun hg1 => ?_) (fun hc => ⟨fun hg1 => absurd hg1 hc, Ext.refl _⟩)
    refine (does_move (u := (Iv ((pcsM A_m).2))) (ev rfl)).mono ?_; rintro _ _ ⟨rfl, rfl⟩
    exact ⟨fun _ => rfl, Ext.refl _⟩
  refine RW_d _ rfl (fun v => by dsimp only [List.set]; try rfl) (fun u hu hF => ?_) (fun v246 => ?_)
  · have h100_ : (!β9) = false → v244 = (Iv ((pcsM A_m).2)) := hF.1
    have h101_ : (!β9) = false → v245 = (Iv ((pcsM A_m).2)) := hF.2.1
    have h99_ : v243 = (Bo (!β9)) := hF.2.2.1
    clear hF
    obtain rfl := h99_
    refine doesG_g (b := (!β9)) rfl (yld rfl rfl) (fun hg1 => ?_) (fun hc => ⟨fun hg1 => absurd hg1 hc, Ext.refl _⟩)
    obtain rfl := h100_ hg1
    obtain rfl := h101_ hg1
    refine (does_icmp (p := (pcsM A_m).2) (q := (pcsM A_m).2) (.inr (.inl rfl)) (ev rfl) (ev rfl)).mono ?_; rintro _ _ ⟨rfl, rfl⟩
    exact ⟨fun _ => (by first | rfl | (show _ = _; simp only [hβ10]; done) | (show _ = _; simp only [hβ10]; rfl)), Ext.refl _⟩
  refine RW_d _ rfl (fun v => by dsimp only [List.set]; try rfl) (fun u hu hF => ?_) (fun v247 => ?_)
  · have h99_ : v243 = (Bo (!β9)) := hF.1
    have h102_ : (!β9) = false → v246 = (Bo β10) := hF.2.1
    clear hF
    refine doesG_un rfl ?_
    skip
    obtain rfl := h99_
    refine (does_pick (b := (!β9)) (u := (Bo true)) (v := v246) (ev rfl) (ev rfl) (ev rfl)).mono ?_; rintro _ _ ⟨rfl, rfl⟩; refine ⟨?_, Ext.refl _⟩; skip
    cases hbb : (!β9)
    all_goals first | (show _ = _; simp only [↓reduceIte, Bool.true_and, Bool.false_and, Bool.true_or, Bool.false_or, Bool.false_eq_true]; done) | (have e_ := h102_ hbb; subst e_; show _ = _; simp only [↓reduceIte, Bool.true_and, Bool.false_and, Bool.true_or, Bool.false_or, Bool.false_eq_true]; done) | rfl | (have e_ := h102_ hbb; subst e_; rfl) | (simp [hbb] at h102_ ⊢; first | done | rfl | (subst h102_; rfl) | simp_all) | (simp [hbb] at h102_ ⊢; done)
  refine RW_d _ rfl (fun v => by dsimp only [List.set]; try rfl) (fun u hu hF => ?_) (fun v248 => ?_)
  · have h103_ : v247 = (Bo ((!β9) || β10)) := hF.1
    clear hF
    refine doesG_un rfl ?_
    obtain rfl := h103_
    refine (does_move (u := (Bo ((!β9) || β10))) (ev rfl)).mono ?_; rintro _ _ ⟨rfl, rfl⟩
    exact ⟨rfl, Ext.refl _⟩
  refine RW_d _ rfl (fun v => by dsimp only [List.set]; try rfl) (fun u hu hF => ?_) (fun v249 => ?_)
  · have h104_ : v248 = (Bo ((!β9) || β10)) := hF.1
    clear hF
    obtain rfl := h104_
    refine doesG_g (b := ((!β9) || β10)) rfl (yld rfl rfl) (fun hg1 => ?_) (fun hc => ⟨fun hg1 => absurd hg1 hc, Ext.refl _⟩)
    refine (does_move (u := (Bo (meshOk A_m))) (ev rfl)).mono ?_; rintro _ _ ⟨rfl, rfl⟩
    exact ⟨fun _ => rfl, Ext.refl _⟩
  refine RW_d _ rfl (fun v => by dsimp only [List.set]; try rfl) (fun u hu hF => ?_) (fun v250 => ?_)
  · have h104_ : v248 = (Bo ((!β9) || β10)) := hF.1
    clear hF
    obtain rfl := h104_
    refine doesG_g (b := ((!β9) || β10)) rfl (yld rfl rfl) (fun hg1 => ?_) (fun hc => ⟨fun hg1 => absurd hg1 hc, Ext.refl _⟩)
    refine (does_move (u := (Bo (meshOk A_m))) (ev rfl)).mono ?_; rintro _ _ ⟨rfl, rfl⟩
    exact ⟨fun _ => rfl, Ext.refl _⟩
  refine RW_d _ rfl (fun v => by dsimp only [List.set]; try rfl) (fun u hu hF => ?_) (fun v251 => ?_)
  · have h105_ : ((!β9) || β10) = false → v249 = (Bo (meshOk A_m)) := hF.1
    have h106_ : ((!β9) || β10) = false → v250 = (Bo (meshOk A_m)) := hF.2.1
    have h104_ : v248 = (Bo ((!β9) || β10)) := hF.2.2.1
    clear hF
    obtain rfl := h104_
    refine doesG_g (b := ((!β9) || β10)) rfl (yld rfl rfl) (fun hg1 => ?_) (fun hc => ⟨fun hg1 => absurd hg1 hc, Ext.refl _⟩)
    obtain rfl := h105_ hg1
    obtain rfl := h106_ hg1
    refine (does_bne (p := (meshOk A_m)) (q := (meshOk A_m)) Try.underlying4 (ev rfl) (ev rfl)).mono ?_; rintro _ _ ⟨rfl, rfl⟩
    exact ⟨fun _ => (by first | rfl | (show _ = _; simp only [hβ11]; done) | (show _ = _; simp only [hβ11]; rfl)), Ext.refl _⟩
  refine RW_d _ rfl (fun v => by dsimp only [List.set]; try rfl) (fun u hu hF => ?_) (fun v252 => ?_)
  · have h104_ : v248 = (Bo ((!β9) || β10)) := hF.1
    have h107_ : ((!β9) || β10) = false → v251 = (Bo β11) := hF.2.1
    clear hF
    refine doesG_un rfl ?_
    skip
    obtain rfl := h104_
    refine (does_pick (b := ((!β9) || β10)) (u := (Bo true)) (v := v251) (ev rfl) (ev rfl) (ev rfl)).mono ?_; rintro _ _ ⟨rfl, rfl⟩; refine ⟨?_, Ext.refl _⟩; skip
    cases hbb : ((!β9) || β10)
    all_goals first | (show _ = _; simp only [↓reduceIte, Bool.true_and, Bool.false_and, Bool.true_or, Bool.false_or, Bool.false_eq_true]; done) | (have e_ := h107_ hbb; subst e_; show _ = _; simp only [↓reduceIte, Bool.true_and, Bool.false_and, Bool.true_or, Bool.false_or, Bool.false_eq_true]; done) | rfl | (have e_ := h107_ hbb; subst e_; rfl) | (simp [hbb] at h107_ ⊢; first | done | rfl | (subst h107_; rfl) | simp_all) | (simp [hbb] at h107_ ⊢; done)
  refine RW_fin ?_; intro w253 E254 hP255
  obtain ⟨⟨⟨⟨⟨⟨⟨⟨⟨⟨⟨⟨⟨⟨-, -⟩, -⟩, -⟩, -⟩, -⟩, -⟩, -⟩, -⟩, -⟩, -⟩, -⟩, -⟩, -⟩, q256⟩ := hP255
  have X257 := Ext.gr X231 E254
  have q256 : v252 = (Bo (((!β9) || β10) || β11)) := q256
  obtain rfl := q256
  show wpList _ _ _ _ (fr [_, _, _, _, _, _, _, _, _, _, _, _, _, _, _, _, _, _, _, _, _, _, _, _, _, _, _, _, _, _, _, _, _, _, _, _, _, _, _, _, _, _, _, _, _, _, _, _, _, _, _, _, _, _, _, _, _, _, _, _, _, _, _, _, _, _, _, _, _, _, _, _, _, _, _, _, _, _, _, _, _, _, _, _, _, _, _, _, _, _, _, _, _, _, _, _, _, _, _, _, _, _, _, _, _, _, _, _, _, _, _, _, _, _, _, _, _]) _
  refine wpList_nil (hK238 _ _ ?_)
  refine wp_cond_split (t := ((!β9) || β10) || β11) (ev rfl) (fun c258 => ?_) (fun c258 => ?_)
  · have c258' := c258
    (try simp only [hβ1, hβ2, hβ3, hβ4, hβ5, hβ6, hβ7, hβ8, hβ9, hβ10, hβ11, sameX_selfI, sameMesh_self, bne_self_eq_false] at c258')
    (try simp only [hβ1, hβ2, hβ3, hβ4, hβ5, hβ6, hβ7, hβ8, hβ9, hβ10, hβ11] at c258')
    (try simp only [icmp, Bool.and_eq_true, Bool.or_eq_true, Bool.and_eq_false_iff, Bool.or_eq_false_iff, Bool.not_eq_true', Bool.not_eq_false', decide_eq_true_eq, decide_eq_false_iff_not, beq_iff_eq, bne_iff_ne, beq_eq_false_iff_ne, bne_eq_false_iff_eq] at c258')
    refine wp_seq_k fun K259 hK259 => ?_
    refine wp_region_lit ?_
    refine q_is rfl rfl (does_assign (u := (Bo false)) (ev rfl)) (by dsimp only [List.set]; try rfl) ?_
    refine wpList_nil (hK259 _ _ ?_)
    refine wp_ret ?_
    dsimp only [Exit.then, Exit.inBlock]
    refine ret_val (v := (Bo false)) (res_T rfl (slot rfl)) X257 ?_
    try simp only [hβ1, hβ2, hβ3, hβ4, hβ5, hβ6, hβ7, hβ8, hβ9, hβ10, hβ11, sameX_selfI, sameMesh_self, bne_self_eq_false] at c28 c124 c143 c178 c196 c201 c258
    have x260 : true = false := by first | with_reducible rfl | (exfalso; omega) | (exfalso; simp only [mkL_len] at * <;> omega) | (exfalso; rcases c258' with ((hh | hh) | hh) | hh <;> first | omega | (exact Bool.noConfusion hh) | (exact absurd rfl hh)) | (exfalso; rcases c258' with (hh | hh) | hh <;> first | omega | (exact Bool.noConfusion hh)) | (exfalso; rcases c258' with hh | hh <;> first | omega | (exact Bool.noConfusion hh)) | (simp only [sameX_selfI, sameMesh_self, bne_self_eq_false, icmp, hβ1, hβ2, hβ3, hβ4, hβ5, hβ6, hβ7, hβ8, hβ9, hβ10, hβ11, c28, c124, c143, c178, c196, c201, c258]; done) | (simp [sameX_selfI, sameMesh_self, bne_self_eq_false, icmp, hβ1, hβ2, hβ3, hβ4, hβ5, hβ6, hβ7, hβ8, hβ9, hβ10, hβ11, c28, c124, c143, c178, c196, c201, c258]; done) | (simp_all; done) | (exfalso; simp_all; done)
    exact (by first | with_reducible rfl | rw [x260] | rfl)
  have c258' := c258
  (try simp only [hβ1, hβ2, hβ3, hβ4, hβ5, hβ6, hβ7, hβ8, hβ9, hβ10, hβ11, sameX_selfI, sameMesh_self, bne_self_eq_false] at c258')
  (try simp only [hβ1, hβ2, hβ3, hβ4, hβ5, hβ6, hβ7, hβ8, hβ9, hβ10, hβ11] at c258')
  (try simp only [icmp, Bool.and_eq_true, Bool.or_eq_true, Bool.and_eq_false_iff, Bool.or_eq_false_iff, Bool.not_eq_true', Bool.not_eq_false', decide_eq_true_eq, decide_eq_false_iff_not, beq_iff_eq, bne_iff_ne, beq_eq_false_iff_ne, bne_eq_false_iff_eq] at c258')
  refine wp_skip (hK237 _ _ ?_)
  refine wp_seq_k fun K261 hK261 => ?_
  refine wp_region_lit ?_
  refine q_is rfl rfl (does_assign (u := (Iv 1)) (ev rfl)) (by dsimp only [List.set]; try rfl) ?_
  refine wpList_nil (hK261 _ _ ?_)
  refine wp_seq_k fun K262 hK262 => ?_
  refine wp_region_lit ?_
  refine q_is rfl rfl (does_move (u := (.slice p100 (((pcsM A_m).1).length) q101)) (ev rfl)) (by dsimp only [List.set]; try rfl) ?_
  refine q_is rfl rfl (does_move (u := (Iv 1)) (ev rfl)) (by dsimp only [List.set]; try rfl) ?_
  refine seqd rfl rfl (does_call (args := #[(.slice p100 (((pcsM A_m).1).length) q101), (Iv 1)]) cal13 (evs rfl) (c_laws_heldInt64S (.slice p100 (((pcsM A_m).1).length) q101) (mkL fI 1 1 ((pcsM A_m).1).length) 1 _ (hM185 _ (((((Same.refl _ _).ext E191).ext E205).ext E225).ext E254)) (by exact mkL_eq) (by omega) (by (try dsimp only); rw [mkL_len]; omega))) ?_; rintro _ w264 ⟨E263, rfl⟩
  have X265 := Ext.gr X257 E263
  show wpList _ _ _ _ (fr [_, _, _, _, _, _, _, _, _, _, _, _, _, _, _, _, _, _, _, _, _, _, _, _, _, _, _, _, _, _, _, _, _, _, _, _, _, _, _, _, _, _, _, _, _, _, _, _, _, _, _, _, _, _, _, _, _, _, _, _, _, _, _, _, _, _, _, _, _, _, _, _, _, _, _, _, _, _, _, _, _, _, _, _, _, _, _, _, _, _, _, _, _, _, _, _, _, _, _, _, _, _, _, _, _, _, _, _, _, _, _, _, _, _, _, _, _]) _
  refine q_is rfl rfl (does_assign (u := (Iv (1 + ((mkL fI 1 1 ((pcsM A_m).1).length).length : Int) * 1))) (ev rfl)) (by dsimp only [List.set]; try rfl) ?_
  refine wpList_nil (hK262 _ _ ?_)
  refine wp_seq_k fun K266 hK266 => ?_
  refine wp_seq_k fun K267 hK267 => ?_
  refine wp_region_lit ?_
  refine q_is rfl rfl (does_move (u := (Iv (1 + ((mkL fI 1 1 ((pcsM A_m).1).length).length : Int) * 1))) (ev rfl)) (by dsimp only [List.set]; try rfl) ?_
  refine q_is rfl rfl (does_icmp (p := 1 + ((mkL fI 1 1 ((pcsM A_m).1).length).length : Int) * 1) (q := 0) (.inr (.inr (.inl rfl))) (ev rfl) (ev rfl)) (by dsimp only [List.set]; try rfl) ?_
  refine wpList_nil (hK267 _ _ ?_)
  refine wp_cond_false ((ev (rfl : evl _ _ = .bool (icmp .lss (1 + ((mkL fI 1 1 ((pcsM A_m).1).length).length : Int) * 1) 0))).trans (congrArg Value.bool c196)) ?_
  refine wp_skip (hK266 _ _ ?_)
  refine wp_seq_k fun K268 hK268 => ?_
  refine wp_seq_k fun K269 hK269 => ?_
  refine wp_region_lit ?_
  refine q_is rfl rfl (does_move (u := (Iv (1 + ((mkL fI 1 1 ((pcsM A_m).1).length).length : Int) * 1))) (ev rfl)) (by dsimp only [List.set]; try rfl) ?_
  refine q_is rfl rfl (does_move (u := (Iv (1 + (((pcsM A_m).1).length : Int) * 1))) (ev rfl)) (by dsimp only [List.set]; try rfl) ?_
  refine q_is rfl rfl (does_icmp (p := 1 + ((mkL fI 1 1 ((pcsM A_m).1).length).length : Int) * 1) (q := 1 + (((pcsM A_m).1).length : Int) * 1) (.inr (.inl rfl)) (ev rfl) (ev rfl)) (by dsimp only [List.set]; try rfl) ?_
  refine wpList_nil (hK269 _ _ ?_)
  refine wp_cond_false ((ev (rfl : evl _ _ = .bool (icmp .neq (1 + ((mkL fI 1 1 ((pcsM A_m).1).length).length : Int) * 1) (1 + (((pcsM A_m).1).length : Int) * 1)))).trans (congrArg Value.bool c201)) ?_
  refine wp_skip (hK268 _ _ ?_)
  refine wp_seq_k fun K270 hK270 => ?_
  refine wp_region_lit ?_
  refine q_is rfl rfl (does_assign (u := (Bo true)) (ev rfl)) (by dsimp only [List.set]; try rfl) ?_
  refine wpList_nil (hK270 _ _ ?_)
  refine wp_ret ?_
  refine ret_val (v := (Bo true)) (res_T rfl (slot rfl)) X265 ?_
  try simp only [hβ1, hβ2, hβ3, hβ4, hβ5, hβ6, hβ7, hβ8, hβ9, hβ10, hβ11, sameX_selfI, sameMesh_self, bne_self_eq_false] at c28 c124 c143 c178 c196 c201 c258
  exact rfl

end Go.Proofs.Ytlfpeihlfmdmdaa
