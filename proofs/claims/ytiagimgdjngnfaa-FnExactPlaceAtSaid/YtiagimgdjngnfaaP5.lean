/- contracts of functions, each walked once -/
import Derived.Test.YtiagimgdjngnfaaP4
namespace Go.Proofs.Ytiagimgdjngnfaa
open Go Go.RowKit
set_option maxRecDepth 100000
set_option maxHeartbeats 3200000
set_option linter.unusedVariables false
set_option linter.unusedSimpArgs false

/- laws.eqThing -/
theorem c_laws_eqThing (a : List Value) (A_a : ThingT) (b : List Value) (A_b : ThingT) (w : World) (hv_a : RThingT w A_a a) (hv_b : RThingT w A_b b) : Gives Try.prog 16 #[(.agg a.toArray), (.agg b.toArray)] w (fun v w' => v = (Bo (sameThing A_a A_b))) := by
  obtain ⟨y2, y4, rfl, h3, h5, hb1⟩ := hv_a
  obtain ⟨y7, y9, rfl, h8, h10, hb6⟩ := hv_b
  have hs13 := h3; have hs13l := Sl.len h3; obtain ⟨p11, q12, rfl⟩ := Sl.shape h3
  have hs16 := h5; have hs16l := Sl.len h5; obtain ⟨p14, q15, rfl⟩ := Sl.shape h5
  have hs19 := h8; have hs19l := Sl.len h8; obtain ⟨p17, q18, rfl⟩ := Sl.shape h8
  have hs22 := h10; have hs22l := Sl.len h10; obtain ⟨p20, q21, rfl⟩ := Sl.shape h10
  refine enter [(.agg #[(.string A_a.name), (.slice p11 A_a.shape.nodes.length q12), (.slice p14 A_a.keys.length q15)]), (.agg #[(.string A_b.name), (.slice p17 A_b.shape.nodes.length q18), (.slice p20 A_b.keys.length q21)]), Ud, Ud, Ud, Ud, Ud, Ud, Ud, Ud, Ud, Ud, Ud, Ud, Ud, Ud, Ud, Ud, Ud, Ud, Ud, Ud] Try.func16 rfl Try.ntmps16 rfl ?_
  refine wp_seq_k fun K23 hK23 => ?_
  refine wp_region_lit ?_
  refine seqd rfl rfl (does_box (u := (.agg #[(.string A_a.name), (.slice p11 A_a.shape.nodes.length q12), (.slice p14 A_a.keys.length q15)])) (ev rfl)) ?_; rintro _ w28 ⟨b24, rfl, hb25, hB26, E27⟩
  have g29 : w.heap.size ≤ b24 := Nat.le_trans (Below.size (Ext.refl w)) hb25
  change Blk _ _ [(.string A_a.name), (.slice p11 A_a.shape.nodes.length q12), (.slice p14 A_a.keys.length q15)] at hB26
  have X30 := Ext.gr (Ext.refl w) E27
  show wpList _ _ _ _ (fr [(.agg #[(.string A_a.name), (.slice p11 A_a.shape.nodes.length q12), (.slice p14 A_a.keys.length q15)]), (.agg #[(.string A_b.name), (.slice p17 A_b.shape.nodes.length q18), (.slice p20 A_b.keys.length q21)]), (Pt b24 0), Ud, Ud, Ud, Ud, Ud, Ud, Ud, Ud, Ud, Ud, Ud, Ud, Ud, Ud, Ud, Ud, Ud, Ud, Ud]) _
  refine seqd rfl rfl (does_box (u := (.agg #[(.string A_b.name), (.slice p17 A_b.shape.nodes.length q18), (.slice p20 A_b.keys.length q21)])) (ev rfl)) ?_; rintro _ w35 ⟨b31, rfl, hb32, hB33, E34⟩
  have n36 : b24 < b31 := Nat.lt_of_lt_of_le (Blk.lt hB26) hb32
  have g37 : w.heap.size ≤ b31 := Nat.le_trans (Below.size X30) hb32
  change Blk _ _ [(.string A_b.name), (.slice p17 A_b.shape.nodes.length q18), (.slice p20 A_b.keys.length q21)] at hB33
  have X38 := Ext.gr X30 E34
  show wpList _ _ _ _ (fr [(.agg #[(.string A_a.name), (.slice p11 A_a.shape.nodes.length q12), (.slice p14 A_a.keys.length q15)]), (.agg #[(.string A_b.name), (.slice p17 A_b.shape.nodes.length q18), (.slice p20 A_b.keys.length q21)]), (Pt b24 0), (Pt b31 0), Ud, Ud, Ud, Ud, Ud, Ud, Ud, Ud, Ud, Ud, Ud, Ud, Ud, Ud, Ud, Ud, Ud, Ud]) _
  refine q_is (l' := [(.agg #[(.string A_a.name), (.slice p11 A_a.shape.nodes.length q12), (.slice p14 A_a.keys.length q15)]), (.agg #[(.string A_b.name), (.slice p17 A_b.shape.nodes.length q18), (.slice p20 A_b.keys.length q21)]), (Pt b24 0), (Pt b31 0), (Bo false), Ud, Ud, Ud, Ud, Ud, Ud, Ud, Ud, Ud, Ud, Ud, Ud, Ud, Ud, Ud, Ud, Ud]) rfl rfl (does_assign (u := (Bo false)) (ev rfl)) rfl ?_
  refine wpList_nil (hK23 _ _ ?_)
  refine wp_seq_k fun K39 hK39 => ?_
  refine wp_seq_k fun K40 hK40 => ?_
  refine wp_region_lit ?_
  refine q_is (l' := [(.agg #[(.string A_a.name), (.slice p11 A_a.shape.nodes.length q12), (.slice p14 A_a.keys.length q15)]), (.agg #[(.string A_b.name), (.slice p17 A_b.shape.nodes.length q18), (.slice p20 A_b.keys.length q21)]), (Pt b24 0), (Pt b31 0), (Bo false), (Pt b24 0), Ud, Ud, Ud, Ud, Ud, Ud, Ud, Ud, Ud, Ud, Ud, Ud, Ud, Ud, Ud, Ud]) rfl rfl (does_fieldAddr (ev rfl) fa45_0) rfl ?_
  refine q_is (l' := [(.agg #[(.string A_a.name), (.slice p11 A_a.shape.nodes.length q12), (.slice p14 A_a.keys.length q15)]), (.agg #[(.string A_b.name), (.slice p17 A_b.shape.nodes.length q18), (.slice p20 A_b.keys.length q21)]), (Pt b24 0), (Pt b31 0), (Bo false), (Pt b24 0), (.string A_a.name), Ud, Ud, Ud, Ud, Ud, Ud, Ud, Ud, Ud, Ud, Ud, Ud, Ud, Ud, Ud]) rfl rfl (does_load (u := (.string A_a.name)) (ev rfl) Try.isAgg9 (Cells.at (Blk.cells (hB26.ext E34)) 0 rfl)) rfl ?_
  refine q_is (l' := [(.agg #[(.string A_a.name), (.slice p11 A_a.shape.nodes.length q12), (.slice p14 A_a.keys.length q15)]), (.agg #[(.string A_b.name), (.slice p17 A_b.shape.nodes.length q18), (.slice p20 A_b.keys.length q21)]), (Pt b24 0), (Pt b31 0), (Bo false), (Pt b24 0), (.string A_a.name), (Pt b31 0), Ud, Ud, Ud, Ud, Ud, Ud, Ud, Ud, Ud, Ud, Ud, Ud, Ud, Ud]) rfl rfl (does_fieldAddr (ev rfl) fa45_0) rfl ?_
  refine q_is (l' := [(.agg #[(.string A_a.name), (.slice p11 A_a.shape.nodes.length q12), (.slice p14 A_a.keys.length q15)]), (.agg #[(.string A_b.name), (.slice p17 A_b.shape.nodes.length q18), (.slice p20 A_b.keys.length q21)]), (Pt b24 0), (Pt b31 0), (Bo false), (Pt b24 0), (.string A_a.name), (Pt b31 0), (.string A_b.name), Ud, Ud, Ud, Ud, Ud, Ud, Ud, Ud, Ud, Ud, Ud, Ud, Ud]) rfl rfl (does_load (u := (.string A_b.name)) (ev rfl) Try.isAgg9 (Cells.at (Blk.cells hB33) 0 rfl)) rfl ?_
  refine q_is (l' := [(.agg #[(.string A_a.name), (.slice p11 A_a.shape.nodes.length q12), (.slice p14 A_a.keys.length q15)]), (.agg #[(.string A_b.name), (.slice p17 A_b.shape.nodes.length q18), (.slice p20 A_b.keys.length q21)]), (Pt b24 0), (Pt b31 0), (Bo false), (Pt b24 0), (.string A_a.name), (Pt b31 0), (.string A_b.name), (Bo (A_a.name.toList != A_b.name.toList)), Ud, Ud, Ud, Ud, Ud, Ud, Ud, Ud, Ud, Ud, Ud, Ud]) rfl rfl (does_sne (p := A_a.name) (q := A_b.name) Try.underlying9 (ev rfl) (ev rfl)) rfl ?_
  refine wpList_nil (hK40 _ _ ?_)
  refine wp_cond_split (t := A_a.name.toList != A_b.name.toList) (ev rfl) (fun c41 => ?_) (fun c41 => ?_)
  · have c41' := c41
    refine wp_seq_k fun K42 hK42 => ?_
    refine wp_region_lit ?_
    refine q_is (l' := [(.agg #[(.string A_a.name), (.slice p11 A_a.shape.nodes.length q12), (.slice p14 A_a.keys.length q15)]), (.agg #[(.string A_b.name), (.slice p17 A_b.shape.nodes.length q18), (.slice p20 A_b.keys.length q21)]), (Pt b24 0), (Pt b31 0), (Bo false), (Pt b24 0), (.string A_a.name), (Pt b31 0), (.string A_b.name), (Bo (A_a.name.toList != A_b.name.toList)), Ud, Ud, Ud, Ud, Ud, Ud, Ud, Ud, Ud, Ud, Ud, Ud]) rfl rfl (does_assign (u := (Bo false)) (ev rfl)) rfl ?_
    refine wpList_nil (hK42 _ _ ?_)
    refine wp_ret ?_
    dsimp only [Exit.then, Exit.inBlock]
    refine ret_val (v := (Bo false)) (res_T rfl (slot rfl)) X38 ?_
    have x43 : (sameThing A_a A_b) = false := by first | with_reducible rfl | (simp only [sameThing, c41]; done) | (simp [sameThing, c41]; done) | (revert c41; simp +contextual [sameThing]; done) | (rcases c41' with hh | hh <;> simp only [hh, sameThing, c41]; done) | (rcases c41' with hh | hh <;> simp_all [sameThing]; done) | (rcases c41' with hh | hh | hh <;> simp_all [sameThing]; done) | (rcases c41' with hh | hh | hh | hh <;> simp_all [sameThing]; done) | (simp_all [sameThing]; done) | rfl
    exact (by first | with_reducible rfl | rw [x43] | rfl)
  have c41' := c41
  refine wp_skip (hK39 _ _ ?_)
  refine wp_seq_k fun K44 hK44 => ?_
  refine wp_seq_k fun K45 hK45 => ?_
  refine wp_region_lit ?_
  refine q_is (l' := [(.agg #[(.string A_a.name), (.slice p11 A_a.shape.nodes.length q12), (.slice p14 A_a.keys.length q15)]), (.agg #[(.string A_b.name), (.slice p17 A_b.shape.nodes.length q18), (.slice p20 A_b.keys.length q21)]), (Pt b24 0), (Pt b31 0), (Bo false), (Pt b24 0), (.string A_a.name), (Pt b31 0), (.string A_b.name), (Bo (A_a.name.toList != A_b.name.toList)), (Pt b24 1), Ud, Ud, Ud, Ud, Ud, Ud, Ud, Ud, Ud, Ud, Ud]) rfl rfl (does_fieldAddr (ev rfl) fa45_1) rfl ?_
  refine q_is (l' := [(.agg #[(.string A_a.name), (.slice p11 A_a.shape.nodes.length q12), (.slice p14 A_a.keys.length q15)]), (.agg #[(.string A_b.name), (.slice p17 A_b.shape.nodes.length q18), (.slice p20 A_b.keys.length q21)]), (Pt b24 0), (Pt b31 0), (Bo false), (Pt b24 0), (.string A_a.name), (Pt b31 0), (.string A_b.name), (Bo (A_a.name.toList != A_b.name.toList)), (Pt b24 1), (.agg #[(.slice p11 A_a.shape.nodes.length q12)]), Ud, Ud, Ud, Ud, Ud, Ud, Ud, Ud, Ud, Ud]) rfl rfl (does_loadAgg (cs := [(.slice p11 A_a.shape.nodes.length q12)]) (ev rfl) Try.isAgg30 Try.sizeOf30 (Cells.sub (Blk.cells (hB26.ext E34)) 1 1) rfl) rfl ?_
  refine q_is (l' := [(.agg #[(.string A_a.name), (.slice p11 A_a.shape.nodes.length q12), (.slice p14 A_a.keys.length q15)]), (.agg #[(.string A_b.name), (.slice p17 A_b.shape.nodes.length q18), (.slice p20 A_b.keys.length q21)]), (Pt b24 0), (Pt b31 0), (Bo false), (Pt b24 0), (.string A_a.name), (Pt b31 0), (.string A_b.name), (Bo (A_a.name.toList != A_b.name.toList)), (Pt b24 1), (.agg #[(.slice p11 A_a.shape.nodes.length q12)]), (Pt b31 1), Ud, Ud, Ud, Ud, Ud, Ud, Ud, Ud, Ud]) rfl rfl (does_fieldAddr (ev rfl) fa45_1) rfl ?_
  refine q_is (l' := [(.agg #[(.string A_a.name), (.slice p11 A_a.shape.nodes.length q12), (.slice p14 A_a.keys.length q15)]), (.agg #[(.string A_b.name), (.slice p17 A_b.shape.nodes.length q18), (.slice p20 A_b.keys.length q21)]), (Pt b24 0), (Pt b31 0), (Bo false), (Pt b24 0), (.string A_a.name), (Pt b31 0), (.string A_b.name), (Bo (A_a.name.toList != A_b.name.toList)), (Pt b24 1), (.agg #[(.slice p11 A_a.shape.nodes.length q12)]), (Pt b31 1), (.agg #[(.slice p17 A_b.shape.nodes.length q18)]), Ud, Ud, Ud, Ud, Ud, Ud, Ud, Ud]) rfl rfl (does_loadAgg (cs := [(.slice p17 A_b.shape.nodes.length q18)]) (ev rfl) Try.isAgg30 Try.sizeOf30 (Cells.sub (Blk.cells hB33) 1 1) rfl) rfl ?_
  refine seqd rfl rfl (does_call (args := #[(.agg #[(.slice p11 A_a.shape.nodes.length q12)]), (.agg #[(.slice p17 A_b.shape.nodes.length q18)])]) cal10 (evs rfl) (c_laws_eqShape [(.slice p11 A_a.shape.nodes.length q12)] A_a.shape [(.slice p17 A_b.shape.nodes.length q18)] A_b.shape _ ⟨(.slice p11 A_a.shape.nodes.length q12), rfl, (Sl.ext hs13 RNodeT.mono X38)⟩ ⟨(.slice p17 A_b.shape.nodes.length q18), rfl, (Sl.ext hs19 RNodeT.mono X38)⟩)) ?_; rintro _ w47 ⟨E46, rfl⟩
  have X48 := Ext.gr X38 E46
  show wpList _ _ _ _ (fr [(.agg #[(.string A_a.name), (.slice p11 A_a.shape.nodes.length q12), (.slice p14 A_a.keys.length q15)]), (.agg #[(.string A_b.name), (.slice p17 A_b.shape.nodes.length q18), (.slice p20 A_b.keys.length q21)]), (Pt b24 0), (Pt b31 0), (Bo false), (Pt b24 0), (.string A_a.name), (Pt b31 0), (.string A_b.name), (Bo (A_a.name.toList != A_b.name.toList)), (Pt b24 1), (.agg #[(.slice p11 A_a.shape.nodes.length q12)]), (Pt b31 1), (.agg #[(.slice p17 A_b.shape.nodes.length q18)]), (Bo (sameShp A_a.shape A_b.shape)), Ud, Ud, Ud, Ud, Ud, Ud, Ud]) _
  refine q_is (l' := [(.agg #[(.string A_a.name), (.slice p11 A_a.shape.nodes.length q12), (.slice p14 A_a.keys.length q15)]), (.agg #[(.string A_b.name), (.slice p17 A_b.shape.nodes.length q18), (.slice p20 A_b.keys.length q21)]), (Pt b24 0), (Pt b31 0), (Bo false), (Pt b24 0), (.string A_a.name), (Pt b31 0), (.string A_b.name), (Bo (A_a.name.toList != A_b.name.toList)), (Pt b24 1), (.agg #[(.slice p11 A_a.shape.nodes.length q12)]), (Pt b31 1), (.agg #[(.slice p17 A_b.shape.nodes.length q18)]), (Bo (sameShp A_a.shape A_b.shape)), (Bo (!(sameShp A_a.shape A_b.shape))), Ud, Ud, Ud, Ud, Ud, Ud]) rfl rfl (does_not (ev rfl)) rfl ?_
  refine wpList_nil (hK45 _ _ ?_)
  refine wp_cond_split (t := !(sameShp A_a.shape A_b.shape)) (ev rfl) (fun c49 => ?_) (fun c49 => ?_)
  · rw [Bool.not_eq_true'] at c49
    have c49' := c49
    refine wp_seq_k fun K50 hK50 => ?_
    refine wp_region_lit ?_
    refine q_is (l' := [(.agg #[(.string A_a.name), (.slice p11 A_a.shape.nodes.length q12), (.slice p14 A_a.keys.length q15)]), (.agg #[(.string A_b.name), (.slice p17 A_b.shape.nodes.length q18), (.slice p20 A_b.keys.length q21)]), (Pt b24 0), (Pt b31 0), (Bo false), (Pt b24 0), (.string A_a.name), (Pt b31 0), (.string A_b.name), (Bo (A_a.name.toList != A_b.name.toList)), (Pt b24 1), (.agg #[(.slice p11 A_a.shape.nodes.length q12)]), (Pt b31 1), (.agg #[(.slice p17 A_b.shape.nodes.length q18)]), (Bo (sameShp A_a.shape A_b.shape)), (Bo (!(sameShp A_a.shape A_b.shape))), Ud, Ud, Ud, Ud, Ud, Ud]) rfl rfl (does_assign (u := (Bo false)) (ev rfl)) rfl ?_
    refine wpList_nil (hK50 _ _ ?_)
    refine wp_ret ?_
    dsimp only [Exit.then, Exit.inBlock]
    refine ret_val (v := (Bo false)) (res_T rfl (slot rfl)) X48 ?_
    have x51 : (sameThing A_a A_b) = false := by first | with_reducible rfl | (simp only [sameThing, c41, c49]; done) | (simp [sameThing, c41, c49]; done) | (revert c41 c49; simp +contextual [sameThing]; done) | (rcases c41' with hh | hh <;> simp only [hh, sameThing, c41, c49]; done) | (rcases c49' with hh | hh <;> simp only [hh, sameThing, c41, c49]; done) | (rcases c49' with hh | hh <;> simp_all [sameThing]; done) | (rcases c49' with hh | hh | hh <;> simp_all [sameThing]; done) | (rcases c49' with hh | hh | hh | hh <;> simp_all [sameThing]; done) | (simp_all [sameThing]; done) | rfl
    exact (by first | with_reducible rfl | rw [x51] | rfl)
  rw [Bool.not_eq_false'] at c49
  have c49' := c49
  refine wp_skip (hK44 _ _ ?_)
  refine wp_seq_k fun K52 hK52 => ?_
  refine wp_seq_k fun K53 hK53 => ?_
  refine wp_region_lit ?_
  refine q_is (l' := [(.agg #[(.string A_a.name), (.slice p11 A_a.shape.nodes.length q12), (.slice p14 A_a.keys.length q15)]), (.agg #[(.string A_b.name), (.slice p17 A_b.shape.nodes.length q18), (.slice p20 A_b.keys.length q21)]), (Pt b24 0), (Pt b31 0), (Bo false), (Pt b24 0), (.string A_a.name), (Pt b31 0), (.string A_b.name), (Bo (A_a.name.toList != A_b.name.toList)), (Pt b24 1), (.agg #[(.slice p11 A_a.shape.nodes.length q12)]), (Pt b31 1), (.agg #[(.slice p17 A_b.shape.nodes.length q18)]), (Bo (sameShp A_a.shape A_b.shape)), (Bo (!(sameShp A_a.shape A_b.shape))), (Pt b24 2), Ud, Ud, Ud, Ud, Ud]) rfl rfl (does_fieldAddr (ev rfl) fa45_2) rfl ?_
  refine q_is (l' := [(.agg #[(.string A_a.name), (.slice p11 A_a.shape.nodes.length q12), (.slice p14 A_a.keys.length q15)]), (.agg #[(.string A_b.name), (.slice p17 A_b.shape.nodes.length q18), (.slice p20 A_b.keys.length q21)]), (Pt b24 0), (Pt b31 0), (Bo false), (Pt b24 0), (.string A_a.name), (Pt b31 0), (.string A_b.name), (Bo (A_a.name.toList != A_b.name.toList)), (Pt b24 1), (.agg #[(.slice p11 A_a.shape.nodes.length q12)]), (Pt b31 1), (.agg #[(.slice p17 A_b.shape.nodes.length q18)]), (Bo (sameShp A_a.shape A_b.shape)), (Bo (!(sameShp A_a.shape A_b.shape))), (Pt b24 2), (.slice p14 A_a.keys.length q15), Ud, Ud, Ud, Ud]) rfl rfl (does_load (u := (.slice p14 A_a.keys.length q15)) (ev rfl) Try.isAgg43 (Cells.at (Blk.cells ((hB26.ext E34).ext E46)) 2 rfl)) rfl ?_
  refine q_is (l' := [(.agg #[(.string A_a.name), (.slice p11 A_a.shape.nodes.length q12), (.slice p14 A_a.keys.length q15)]), (.agg #[(.string A_b.name), (.slice p17 A_b.shape.nodes.length q18), (.slice p20 A_b.keys.length q21)]), (Pt b24 0), (Pt b31 0), (Bo false), (Pt b24 0), (.string A_a.name), (Pt b31 0), (.string A_b.name), (Bo (A_a.name.toList != A_b.name.toList)), (Pt b24 1), (.agg #[(.slice p11 A_a.shape.nodes.length q12)]), (Pt b31 1), (.agg #[(.slice p17 A_b.shape.nodes.length q18)]), (Bo (sameShp A_a.shape A_b.shape)), (Bo (!(sameShp A_a.shape A_b.shape))), (Pt b24 2), (.slice p14 A_a.keys.length q15), (Pt b31 2), Ud, Ud, Ud]) rfl rfl (does_fieldAddr (ev rfl) fa45_2) rfl ?_
  refine q_is (l' := [(.agg #[(.string A_a.name), (.slice p11 A_a.shape.nodes.length q12), (.slice p14 A_a.keys.length q15)]), (.agg #[(.string A_b.name), (.slice p17 A_b.shape.nodes.length q18), (.slice p20 A_b.keys.length q21)]), (Pt b24 0), (Pt b31 0), (Bo false), (Pt b24 0), (.string A_a.name), (Pt b31 0), (.string A_b.name), (Bo (A_a.name.toList != A_b.name.toList)), (Pt b24 1), (.agg #[(.slice p11 A_a.shape.nodes.length q12)]), (Pt b31 1), (.agg #[(.slice p17 A_b.shape.nodes.length q18)]), (Bo (sameShp A_a.shape A_b.shape)), (Bo (!(sameShp A_a.shape A_b.shape))), (Pt b24 2), (.slice p14 A_a.keys.length q15), (Pt b31 2), (.slice p20 A_b.keys.length q21), Ud, Ud]) rfl rfl (does_load (u := (.slice p20 A_b.keys.length q21)) (ev rfl) Try.isAgg43 (Cells.at (Blk.cells (hB33.ext E46)) 2 rfl)) rfl ?_
  refine seqd rfl rfl (does_call (args := #[(.slice p14 A_a.keys.length q15), (.slice p20 A_b.keys.length q21)]) cal38 (evs rfl) (c_laws_eqKeyS (.slice p14 A_a.keys.length q15) A_a.keys (.slice p20 A_b.keys.length q21) A_b.keys _ (Sl.ext hs16 RKeyT.mono X48) (Sl.ext hs22 RKeyT.mono X48))) ?_; rintro _ w55 ⟨E54, rfl⟩
  have X56 := Ext.gr X48 E54
  show wpList _ _ _ _ (fr [(.agg #[(.string A_a.name), (.slice p11 A_a.shape.nodes.length q12), (.slice p14 A_a.keys.length q15)]), (.agg #[(.string A_b.name), (.slice p17 A_b.shape.nodes.length q18), (.slice p20 A_b.keys.length q21)]), (Pt b24 0), (Pt b31 0), (Bo false), (Pt b24 0), (.string A_a.name), (Pt b31 0), (.string A_b.name), (Bo (A_a.name.toList != A_b.name.toList)), (Pt b24 1), (.agg #[(.slice p11 A_a.shape.nodes.length q12)]), (Pt b31 1), (.agg #[(.slice p17 A_b.shape.nodes.length q18)]), (Bo (sameShp A_a.shape A_b.shape)), (Bo (!(sameShp A_a.shape A_b.shape))), (Pt b24 2), (.slice p14 A_a.keys.length q15), (Pt b31 2), (.slice p20 A_b.keys.length q21), (Bo (sameX sameKey A_a.keys A_b.keys)), Ud]) _
  refine q_is (l' := [(.agg #[(.string A_a.name), (.slice p11 A_a.shape.nodes.length q12), (.slice p14 A_a.keys.length q15)]), (.agg #[(.string A_b.name), (.slice p17 A_b.shape.nodes.length q18), (.slice p20 A_b.keys.length q21)]), (Pt b24 0), (Pt b31 0), (Bo false), (Pt b24 0), (.string A_a.name), (Pt b31 0), (.string A_b.name), (Bo (A_a.name.toList != A_b.name.toList)), (Pt b24 1), (.agg #[(.slice p11 A_a.shape.nodes.length q12)]), (Pt b31 1), (.agg #[(.slice p17 A_b.shape.nodes.length q18)]), (Bo (sameShp A_a.shape A_b.shape)), (Bo (!(sameShp A_a.shape A_b.shape))), (Pt b24 2), (.slice p14 A_a.keys.length q15), (Pt b31 2), (.slice p20 A_b.keys.length q21), (Bo (sameX sameKey A_a.keys A_b.keys)), (Bo (!(sameX sameKey A_a.keys A_b.keys)))]) rfl rfl (does_not (ev rfl)) rfl ?_
  refine wpList_nil (hK53 _ _ ?_)
  refine wp_cond_split (t := !(sameX sameKey A_a.keys A_b.keys)) (ev rfl) (fun c57 => ?_) (fun c57 => ?_)
  · rw [Bool.not_eq_true'] at c57
    have c57' := c57
    refine wp_seq_k fun K58 hK58 => ?_
    refine wp_region_lit ?_
    refine q_is (l' := [(.agg #[(.string A_a.name), (.slice p11 A_a.shape.nodes.length q12), (.slice p14 A_a.keys.length q15)]), (.agg #[(.string A_b.name), (.slice p17 A_b.shape.nodes.length q18), (.slice p20 A_b.keys.length q21)]), (Pt b24 0), (Pt b31 0), (Bo false), (Pt b24 0), (.string A_a.name), (Pt b31 0), (.string A_b.name), (Bo (A_a.name.toList != A_b.name.toList)), (Pt b24 1), (.agg #[(.slice p11 A_a.shape.nodes.length q12)]), (Pt b31 1), (.agg #[(.slice p17 A_b.shape.nodes.length q18)]), (Bo (sameShp A_a.shape A_b.shape)), (Bo (!(sameShp A_a.shape A_b.shape))), (Pt b24 2), (.slice p14 A_a.keys.length q15), (Pt b31 2), (.slice p20 A_b.keys.length q21), (Bo (sameX sameKey A_a.keys A_b.keys)), (Bo (!(sameX sameKey A_a.keys A_b.keys)))]) rfl rfl (does_assign (u := (Bo false)) (ev rfl)) rfl ?_
    refine wpList_nil (hK58 _ _ ?_)
    refine wp_ret ?_
    dsimp only [Exit.then, Exit.inBlock]
    refine ret_val (v := (Bo false)) (res_T rfl (slot rfl)) X56 ?_
    have x59 : (sameThing A_a A_b) = false := by first | with_reducible rfl | (simp only [sameThing, c41, c49, c57]; done) | (simp [sameThing, c41, c49, c57]; done) | (revert c41 c49 c57; simp +contextual [sameThing]; done) | (rcases c41' with hh | hh <;> simp only [hh, sameThing, c41, c49, c57]; done) | (rcases c49' with hh | hh <;> simp only [hh, sameThing, c41, c49, c57]; done) | (rcases c57' with hh | hh <;> simp only [hh, sameThing, c41, c49, c57]; done) | (rcases c57' with hh | hh <;> simp_all [sameThing]; done) | (rcases c57' with hh | hh | hh <;> simp_all [sameThing]; done) | (rcases c57' with hh | hh | hh | hh <;> simp_all [sameThing]; done) | (simp_all [sameThing]; done) | rfl
    exact (by first | with_reducible rfl | rw [x59] | rfl)
  rw [Bool.not_eq_false'] at c57
  have c57' := c57
  refine wp_skip (hK52 _ _ ?_)
  refine wp_seq_k fun K60 hK60 => ?_
  refine wp_region_lit ?_
  refine q_is (l' := [(.agg #[(.string A_a.name), (.slice p11 A_a.shape.nodes.length q12), (.slice p14 A_a.keys.length q15)]), (.agg #[(.string A_b.name), (.slice p17 A_b.shape.nodes.length q18), (.slice p20 A_b.keys.length q21)]), (Pt b24 0), (Pt b31 0), (Bo true), (Pt b24 0), (.string A_a.name), (Pt b31 0), (.string A_b.name), (Bo (A_a.name.toList != A_b.name.toList)), (Pt b24 1), (.agg #[(.slice p11 A_a.shape.nodes.length q12)]), (Pt b31 1), (.agg #[(.slice p17 A_b.shape.nodes.length q18)]), (Bo (sameShp A_a.shape A_b.shape)), (Bo (!(sameShp A_a.shape A_b.shape))), (Pt b24 2), (.slice p14 A_a.keys.length q15), (Pt b31 2), (.slice p20 A_b.keys.length q21), (Bo (sameX sameKey A_a.keys A_b.keys)), (Bo (!(sameX sameKey A_a.keys A_b.keys)))]) rfl rfl (does_assign (u := (Bo true)) (ev rfl)) rfl ?_
  refine wpList_nil (hK60 _ _ ?_)
  refine wp_ret ?_
  refine ret_val (v := (Bo true)) (res_T rfl (slot rfl)) X56 ?_
  have x61 : (sameThing A_a A_b) = true := by first | with_reducible rfl | (simp only [sameThing, c41, c49, c57]; done) | (simp [sameThing, c41, c49, c57]; done) | (revert c41 c49 c57; simp +contextual [sameThing]; done) | (rcases c41' with hh | hh <;> simp only [hh, sameThing, c41, c49, c57]; done) | (rcases c49' with hh | hh <;> simp only [hh, sameThing, c41, c49, c57]; done) | (rcases c57' with hh | hh <;> simp only [hh, sameThing, c41, c49, c57]; done) | (rcases c57' with hh | hh <;> simp_all [sameThing]; done) | (rcases c57' with hh | hh | hh <;> simp_all [sameThing]; done) | (rcases c57' with hh | hh | hh | hh <;> simp_all [sameThing]; done) | (simp_all [sameThing]; done) | rfl
  exact (by first | with_reducible rfl | rw [x61] | rfl)

/- laws.FnExactPlaceAt -/
theorem c_laws_FnExactPlaceAt (t_ : List Value) (A_t_ : ThingT) (time : Int) (w : World) (hv_t_ : RThingT w A_t_ t_) : Gives Try.prog 4 #[(.agg t_.toArray), (Iv time)] w (fun v w' => v = (Bo true)) := by
  obtain ⟨y2, y4, rfl, h3, h5, hb1⟩ := hv_t_
  have hs8 := h3; have hs8l := Sl.len h3; obtain ⟨p6, q7, rfl⟩ := Sl.shape h3
  have hs11 := h5; have hs11l := Sl.len h5; obtain ⟨p9, q10, rfl⟩ := Sl.shape h5
  refine enter [(.agg #[(.string A_t_.name), (.slice p6 A_t_.shape.nodes.length q7), (.slice p9 A_t_.keys.length q10)]), (Iv time), Ud, Ud, Ud, Ud, Ud, Ud, Ud, Ud, Ud, Ud, Ud, Ud, Ud, Ud, Ud, Ud, Ud, Ud, Ud, Ud, Ud, Ud, Ud, Ud, Ud, Ud, Ud, Ud, Ud, Ud, Ud, Ud, Ud, Ud, Ud, Ud, Ud, Ud, Ud, Ud, Ud, Ud, Ud] Try.func4 rfl Try.ntmps4 rfl ?_
  refine wp_seq_k fun K12 hK12 => ?_
  refine wp_region_lit ?_
  refine seqd rfl rfl (does_box (u := (.agg #[(.string A_t_.name), (.slice p6 A_t_.shape.nodes.length q7), (.slice p9 A_t_.keys.length q10)])) (ev rfl)) ?_; rintro _ w17 ⟨b13, rfl, hb14, hB15, E16⟩
  have g18 : w.heap.size ≤ b13 := Nat.le_trans (Below.size (Ext.refl w)) hb14
  change Blk _ _ [(.string A_t_.name), (.slice p6 A_t_.shape.nodes.length q7), (.slice p9 A_t_.keys.length q10)] at hB15
  have X19 := Ext.gr (Ext.refl w) E16
  show wpList _ _ _ _ (fr [_, _, _, _, _, _, _, _, _, _, _, _, _, _, _, _, _, _, _, _, _, _, _, _, _, _, _, _, _, _, _, _, _, _, _, _, _, _, _, _, _, _, _, _, _]) _
  refine q_is rfl rfl (does_assign (u := (Bo false)) (ev rfl)) (by dsimp only [List.set]; try rfl) ?_
  refine wpList_nil (hK12 _ _ ?_)
  refine wp_seq_k fun K20 hK20 => ?_
  refine wp_region_lit ?_
  refine q_is rfl rfl (does_assign (u := (Iv 1048576)) (ev rfl)) (by dsimp only [List.set]; try rfl) ?_
  refine wpList_nil (hK20 _ _ ?_)
  refine wp_seq_k fun K21 hK21 => ?_
  refine wp_region_lit ?_
  refine q_is rfl rfl (does_loadAgg (cs := [(.string A_t_.name), (.slice p6 A_t_.shape.nodes.length q7), (.slice p9 A_t_.keys.length q10)]) (ev rfl) Try.isAgg36 Try.sizeOf36 (Blk.cells hB15) rfl) (by dsimp only [List.set]; try rfl) ?_
  refine q_is rfl rfl (does_move (u := (Iv 1048576)) (ev rfl)) (by dsimp only [List.set]; try rfl) ?_
  refine seqd rfl rfl (does_call (args := #[(.agg #[(.string A_t_.name), (.slice p6 A_t_.shape.nodes.length q7), (.slice p9 A_t_.keys.length q10)]), (Iv 1048576)]) cal11 (evs rfl) (c_laws_szThing [(.string A_t_.name), (.slice p6 A_t_.shape.nodes.length q7), (.slice p9 A_t_.keys.length q10)] A_t_ 1048576 _ ⟨(.slice p6 A_t_.shape.nodes.length q7), (.slice p9 A_t_.keys.length q10), rfl, (Sl.ext hs8 RNodeT.mono X19), (Sl.ext hs11 RKeyT.mono X19), (by assumption)⟩ (by omega) (by omega))) ?_; rintro _ w23 ⟨E22, ⟨i24, rfl, h25⟩⟩
  have X26 := Ext.gr X19 E22
  show wpList _ _ _ _ (fr [_, _, _, _, _, _, _, _, _, _, _, _, _, _, _, _, _, _, _, _, _, _, _, _, _, _, _, _, _, _, _, _, _, _, _, _, _, _, _, _, _, _, _, _, _]) _
  refine q_is rfl rfl (does_assign (u := (Iv i24)) (ev rfl)) (by dsimp only [List.set]; try rfl) ?_
  refine wpList_nil (hK21 _ _ ?_)
  refine wp_seq_k fun K27 hK27 => ?_
  refine wp_seq_k fun K28 hK28 => ?_
  refine wp_region_lit ?_
  refine q_is rfl rfl (does_move (u := (Iv i24)) (ev rfl)) (by dsimp only [List.set]; try rfl) ?_
  refine q_is rfl rfl (does_icmp (p := i24) (q := 0) (.inr (.inr (.inl rfl))) (ev rfl) (ev rfl)) (by dsimp only [List.set]; try rfl) ?_
  refine wpList_nil (hK28 _ _ ?_)
  refine wp_cond_split (t := icmp .lss i24 0) (ev rfl) (fun c29 => ?_) (fun c29 => ?_)
  · have c29' := c29
    (try simp only [icmp, Bool.and_eq_true, Bool.or_eq_true, Bool.and_eq_false_iff, Bool.or_eq_false_iff, Bool.not_eq_true', Bool.not_eq_false', decide_eq_true_eq, decide_eq_false_iff_not, beq_iff_eq, bne_iff_ne, beq_eq_false_iff_ne, bne_eq_false_iff_eq] at c29')
    refine wp_seq_k fun K30 hK30 => ?_
    refine wp_region_lit ?_
    refine q_is rfl rfl (does_assign (u := (Bo true)) (ev rfl)) (by dsimp only [List.set]; try rfl) ?_
    refine wpList_nil (hK30 _ _ ?_)
    refine wp_ret ?_
    dsimp only [Exit.then, Exit.inBlock]
    refine ret_val (v := (Bo true)) (res_T rfl (slot rfl)) X26 ?_
    exact rfl
  have c29' := c29
  (try simp only [icmp, Bool.and_eq_true, Bool.or_eq_true, Bool.and_eq_false_iff, Bool.or_eq_false_iff, Bool.not_eq_true', Bool.not_eq_false', decide_eq_true_eq, decide_eq_false_iff_not, beq_iff_eq, bne_iff_ne, beq_eq_false_iff_ne, bne_eq_false_iff_eq] at c29')
  refine wp_skip (hK27 _ _ ?_)
  refine wp_seq_k fun K31 hK31 => ?_
  refine wp_region_lit ?_
  refine q_is rfl rfl (does_loadAgg (cs := [(.string A_t_.name), (.slice p6 A_t_.shape.nodes.length q7), (.slice p9 A_t_.keys.length q10)]) (ev rfl) Try.isAgg36 Try.sizeOf36 (Blk.cells (hB15.ext E22)) rfl) (by dsimp only [List.set]; try rfl) ?_
  refine seqd rfl rfl (does_call (args := #[(.agg #[(.string A_t_.name), (.slice p6 A_t_.shape.nodes.length q7), (.slice p9 A_t_.keys.length q10)])]) cal13 (evs rfl) (c_laws_toThing [(.string A_t_.name), (.slice p6 A_t_.shape.nodes.length q7), (.slice p9 A_t_.keys.length q10)] A_t_ _ ⟨(.slice p6 A_t_.shape.nodes.length q7), (.slice p9 A_t_.keys.length q10), rfl, (Sl.ext hs8 RNodeT.mono X26), (Sl.ext hs11 RKeyT.mono X26), (by assumption)⟩ (by omega))) ?_; rintro _ w33 ⟨E32, ⟨cs35, rfl, hh34⟩⟩
  have X36 := Ext.gr X26 E32
  have n37 : b13 < w23.heap.size := Blk.lt (hB15.ext E22)
  obtain ⟨y39, y41, rfl, h40, h42, hb38⟩ := hh34.get
  have h40l := Sl.len h40; obtain ⟨p43, q44, rfl⟩ := Sl.shape h40
  have hh45 : Hang w23.heap.size w33 (fun u => Sl RNodeT 4 u (.slice p43 A_t_.shape.nodes.length q44) A_t_.shape.nodes) := fun u hu => by obtain ⟨_, _, hq, _, _, _⟩ := hh34 u hu; cases hq; assumption
  have h42l := Sl.len h42; obtain ⟨p46, q47, rfl⟩ := Sl.shape h42
  have hh48 : Hang w23.heap.size w33 (fun u => Sl RKeyT 4 u (.slice p46 A_t_.keys.length q47) A_t_.keys) := fun u hu => by obtain ⟨_, _, hq, _, _, _⟩ := hh34 u hu; cases hq; assumption
  show wpList _ _ _ _ (fr [_, _, _, _, _, _, _, _, _, _, _, _, _, _, _, _, _, _, _, _, _, _, _, _, _, _, _, _, _, _, _, _, _, _, _, _, _, _, _, _, _, _, _, _, _]) _
  refine q_is rfl rfl (does_move (u := (Iv time)) (ev rfl)) (by dsimp only [List.set]; try rfl) ?_
  refine seqd rfl rfl (does_call (args := #[(.agg #[(.string A_t_.name), (.slice p43 A_t_.shape.nodes.length q44), (.slice p46 A_t_.keys.length q47)]), (Iv time)]) cal12 (evs rfl) (c_spec_PlaceAt [(.string A_t_.name), (.slice p43 A_t_.shape.nodes.length q44), (.slice p46 A_t_.keys.length q47)] A_t_ time _ ⟨(.slice p43 A_t_.shape.nodes.length q44), (.slice p46 A_t_.keys.length q47), rfl, hh45.get, hh48.get, (by assumption)⟩)) ?_; rintro _ w50 ⟨E49, ⟨_, rfl, ⟨r51, r53, r55, rfl, h52, h54, h56⟩⟩⟩
  have X57 := Ext.gr X36 E49
  show wpList _ _ _ _ (fr [_, _, _, _, _, _, _, _, _, _, _, _, _, _, _, _, _, _, _, _, _, _, _, _, _, _, _, _, _, _, _, _, _, _, _, _, _, _, _, _, _, _, _, _, _]) _
  refine q_is rfl rfl (does_move (u := (.tuple #[(.agg #[(Fl r51), (Fl r53), (Fl r55)]), (Bo (plcOk A_t_ time))])) (ev rfl)) (by dsimp only [List.set]; try rfl) ?_
  refine q_is rfl rfl (does_extract (vs := #[(.agg #[(Fl r51), (Fl r53), (Fl r55)]), (Bo (plcOk A_t_ time))]) (u := (.agg #[(Fl r51), (Fl r53), (Fl r55)])) (ev rfl) rfl) (by dsimp only [List.set]; try rfl) ?_
  refine q_is rfl rfl (does_extract (vs := #[(.agg #[(Fl r51), (Fl r53), (Fl r55)]), (Bo (plcOk A_t_ time))]) (u := (Bo (plcOk A_t_ time))) (ev rfl) rfl) (by dsimp only [List.set]; try rfl) ?_
  refine seqd rfl rfl (does_alloc z40) ?_; rintro _ w62 ⟨b58, rfl, hb59, hB60, E61⟩
  have n63 : b13 < b58 := Nat.lt_of_lt_of_le (Blk.lt (((hB15.ext E22).ext E32).ext E49)) hb59
  have g64 : w.heap.size ≤ b58 := Nat.le_trans (Below.size X57) hb59
  change Blk _ _ [(Fl 0), (Fl 0), (Fl 0)] at hB60
  have X65 := Ext.gr X57 E61
  show wpList _ _ _ _ (fr [_, _, _, _, _, _, _, _, _, _, _, _, _, _, _, _, _, _, _, _, _, _, _, _, _, _, _, _, _, _, _, _, _, _, _, _, _, _, _, _, _, _, _, _, _]) _
  refine seqn rfl rfl (does_store (n := 3) (cs := [(Fl 0), (Fl 0), (Fl 0)]) (u := (.agg #[(Fl r51), (Fl r53), (Fl r55)])) (ev rfl) (ev rfl) Try.sizeOf40 rfl hB60 (Nat.le_of_ble_eq_true rfl) rfl) ?_; rintro _ w68 ⟨rfl, W66, hB67⟩
  change Blk _ _ [(Fl r51), (Fl r53), (Fl r55)] at hB67
  have X69 := Below.wr X65 W66 g64
  refine q_is rfl rfl (does_assign (u := (Bo (plcOk A_t_ time))) (ev rfl)) (by dsimp only [List.set]; try rfl) ?_
  refine wpList_nil (hK31 _ _ ?_)
  refine wp_seq_k fun K70 hK70 => ?_
  refine wp_region_lit ?_
  refine q_is rfl rfl (does_loadAgg (cs := [(.string A_t_.name), (.slice p6 A_t_.shape.nodes.length q7), (.slice p9 A_t_.keys.length q10)]) (ev rfl) Try.isAgg36 Try.sizeOf36 (Blk.cells (((((hB15.ext E22).ext E32).ext E49).ext E61).wr W66 (Nat.ne_of_lt n63))) rfl) (by dsimp only [List.set]; try rfl) ?_
  refine seqd rfl rfl (does_call (args := #[(.agg #[(.string A_t_.name), (.slice p6 A_t_.shape.nodes.length q7), (.slice p9 A_t_.keys.length q10)])]) cal13 (evs rfl) (c_laws_toThing [(.string A_t_.name), (.slice p6 A_t_.shape.nodes.length q7), (.slice p9 A_t_.keys.length q10)] A_t_ _ ⟨(.slice p6 A_t_.shape.nodes.length q7), (.slice p9 A_t_.keys.length q10), rfl, (Sl.ext hs8 RNodeT.mono X69), (Sl.ext hs11 RKeyT.mono X69), (by assumption)⟩ (by omega))) ?_; rintro _ w72 ⟨E71, ⟨cs74, rfl, hh73⟩⟩
  have X75 := Ext.gr X69 E71
  have n76 : b13 < w68.heap.size := Blk.lt (((((hB15.ext E22).ext E32).ext E49).ext E61).wr W66 (Nat.ne_of_lt n63))
  have n77 : b58 < w68.heap.size := Blk.lt hB67
  obtain ⟨y79, y81, rfl, h80, h82, hb78⟩ := hh73.get
  have h80l := Sl.len h80; obtain ⟨p83, q84, rfl⟩ := Sl.shape h80
  have hh85 : Hang w68.heap.size w72 (fun u => Sl RNodeT 4 u (.slice p83 A_t_.shape.nodes.length q84) A_t_.shape.nodes) := fun u hu => by obtain ⟨_, _, hq, _, _, _⟩ := hh73 u hu; cases hq; assumption
  have h82l := Sl.len h82; obtain ⟨p86, q87, rfl⟩ := Sl.shape h82
  have hh88 : Hang w68.heap.size w72 (fun u => Sl RKeyT 4 u (.slice p86 A_t_.keys.length q87) A_t_.keys) := fun u hu => by obtain ⟨_, _, hq, _, _, _⟩ := hh73 u hu; cases hq; assumption
  show wpList _ _ _ _ (fr [_, _, _, _, _, _, _, _, _, _, _, _, _, _, _, _, _, _, _, _, _, _, _, _, _, _, _, _, _, _, _, _, _, _, _, _, _, _, _, _, _, _, _, _, _]) _
  refine seqd rfl rfl (does_alloc z45) ?_; rintro _ w93 ⟨b89, rfl, hb90, hB91, E92⟩
  have n94 : b13 < b89 := Nat.lt_of_lt_of_le (Blk.lt ((((((hB15.ext E22).ext E32).ext E49).ext E61).wr W66 (Nat.ne_of_lt n63)).ext E71)) hb90
  have n95 : b58 < b89 := Nat.lt_of_lt_of_le (Blk.lt (hB67.ext E71)) hb90
  have g96 : w.heap.size ≤ b89 := Nat.le_trans (Below.size X75) hb90
  change Blk _ _ [(.string (⟨#[]⟩)), (.slice none 0 0), (.slice none 0 0)] at hB91
  have X97 := Ext.gr X75 E92
  show wpList _ _ _ _ (fr [_, _, _, _, _, _, _, _, _, _, _, _, _, _, _, _, _, _, _, _, _, _, _, _, _, _, _, _, _, _, _, _, _, _, _, _, _, _, _, _, _, _, _, _, _]) _
  refine seqn rfl rfl (does_store (n := 3) (cs := [(.string (⟨#[]⟩)), (.slice none 0 0), (.slice none 0 0)]) (u := (.agg #[(.string A_t_.name), (.slice p83 A_t_.shape.nodes.length q84), (.slice p86 A_t_.keys.length q87)])) (ev rfl) (ev rfl) Try.sizeOf45 rfl hB91 (Nat.le_of_ble_eq_true rfl) rfl) ?_; rintro _ w100 ⟨rfl, W98, hB99⟩
  change Blk _ _ [(.string A_t_.name), (.slice p83 A_t_.shape.nodes.length q84), (.slice p86 A_t_.keys.length q87)] at hB99
  have X101 := Below.wr X97 W98 g96
  refine wpList_nil (hK70 _ _ ?_)
  refine wp_seq_k fun K102 hK102 => ?_
  refine wp_region_lit ?_
  refine q_is rfl rfl (does_loadAgg (cs := [(.string A_t_.name), (.slice p83 A_t_.shape.nodes.length q84), (.slice p86 A_t_.keys.length q87)]) (ev rfl) Try.isAgg45 Try.sizeOf45 (Blk.cells hB99) rfl) (by dsimp only [List.set]; try rfl) ?_
  refine q_is rfl rfl (does_move (u := (Iv time)) (ev rfl)) (by dsimp only [List.set]; try rfl) ?_
  refine seqd rfl rfl (does_call (args := #[(.agg #[(.string A_t_.name), (.slice p83 A_t_.shape.nodes.length q84), (.slice p86 A_t_.keys.length q87)]), (Iv time)]) cal14 (evs rfl) (c_impl_PlaceAt [(.string A_t_.name), (.slice p83 A_t_.shape.nodes.length q84), (.slice p86 A_t_.keys.length q87)] A_t_ time _ ⟨(.slice p83 A_t_.shape.nodes.length q84), (.slice p86 A_t_.keys.length q87), rfl, (hh85 _ (((Same.refl _ _).ext E92).wr W98 (.inr (Nat.le_trans (Nat.le_refl _) hb90)))), (hh88 _ (((Same.refl _ _).ext E92).wr W98 (.inr (Nat.le_trans (Nat.le_refl _) hb90)))), (by assumption)⟩)) ?_; rintro _ w104 ⟨E103, ⟨_, rfl, ⟨r105, r107, r109, rfl, h106, h108, h110⟩⟩⟩
  have X111 := Ext.gr X101 E103
  show wpList _ _ _ _ (fr [_, _, _, _, _, _, _, _, _, _, _, _, _, _, _, _, _, _, _, _, _, _, _, _, _, _, _, _, _, _, _, _, _, _, _, _, _, _, _, _, _, _, _, _, _]) _
  refine q_is rfl rfl (does_move (u := (.tuple #[(.agg #[(Fl r105), (Fl r107), (Fl r109)]), (Bo (plcOk A_t_ time))])) (ev rfl)) (by dsimp only [List.set]; try rfl) ?_
  refine q_is rfl rfl (does_extract (vs := #[(.agg #[(Fl r105), (Fl r107), (Fl r109)]), (Bo (plcOk A_t_ time))]) (u := (.agg #[(Fl r105), (Fl r107), (Fl r109)])) (ev rfl) rfl) (by dsimp only [List.set]; try rfl) ?_
  refine q_is rfl rfl (does_extract (vs := #[(.agg #[(Fl r105), (Fl r107), (Fl r109)]), (Bo (plcOk A_t_ time))]) (u := (Bo (plcOk A_t_ time))) (ev rfl) rfl) (by dsimp only [List.set]; try rfl) ?_
  refine seqd rfl rfl (does_alloc z40) ?_; rintro _ w116 ⟨b112, rfl, hb113, hB114, E115⟩
  have n117 : b13 < b112 := Nat.lt_of_lt_of_le (Blk.lt (((((((((hB15.ext E22).ext E32).ext E49).ext E61).wr W66 (Nat.ne_of_lt n63)).ext E71).ext E92).wr W98 (Nat.ne_of_lt n94)).ext E103)) hb113
  have n118 : b58 < b112 := Nat.lt_of_lt_of_le (Blk.lt ((((hB67.ext E71).ext E92).wr W98 (Nat.ne_of_lt n95)).ext E103)) hb113
  have n119 : b89 < b112 := Nat.lt_of_lt_of_le (Blk.lt (hB99.ext E103)) hb113
  have g120 : w.heap.size ≤ b112 := Nat.le_trans (Below.size X111) hb113
  change Blk _ _ [(Fl 0), (Fl 0), (Fl 0)] at hB114
  have X121 := Ext.gr X111 E115
  show wpList _ _ _ _ (fr [_, _, _, _, _, _, _, _, _, _, _, _, _, _, _, _, _, _, _, _, _, _, _, _, _, _, _, _, _, _, _, _, _, _, _, _, _, _, _, _, _, _, _, _, _]) _
  refine seqn rfl rfl (does_store (n := 3) (cs := [(Fl 0), (Fl 0), (Fl 0)]) (u := (.agg #[(Fl r105), (Fl r107), (Fl r109)])) (ev rfl) (ev rfl) Try.sizeOf40 rfl hB114 (Nat.le_of_ble_eq_true rfl) rfl) ?_; rintro _ w124 ⟨rfl, W122, hB123⟩
  change Blk _ _ [(Fl r105), (Fl r107), (Fl r109)] at hB123
  have X125 := Below.wr X121 W122 g120
  refine q_is rfl rfl (does_assign (u := (Bo (plcOk A_t_ time))) (ev rfl)) (by dsimp only [List.set]; try rfl) ?_
  refine wpList_nil (hK102 _ _ ?_)
  refine wp_seq_k fun K126 hK126 => ?_
  refine wp_seq_k fun K127 hK127 => ?_
  obtain ⟨β1, hβ1⟩ : ∃ b : Bool, b = (sameV (gvA zV (plcOk A_t_ time) (plcF A_t_.keys time)) (gvA zV (plcOk A_t_ time) (plcF A_t_.keys time))) := ⟨_, rfl⟩
  obtain ⟨β2, hβ2⟩ : ∃ b : Bool, b = ((plcOk A_t_ time) != (plcOk A_t_ time)) := ⟨_, rfl⟩
  refine region_text (
    [Fact.pure [] (fun v => v = (.agg #[(Fl r105), (Fl r107), (Fl r109)])),
    Fact.pure [] (fun v => v = (.agg #[(Fl r51), (Fl r53), (Fl r55)])),
    Fact.pure [31, 32] (fun v => v = (Bo β1)),
    Fact.pure [33] (fun v => v = (Bo (!β1))),
    Fact.pure [34] (fun v => v = (Bo (!β1))),
    Fact.pure [35] (fun v => (!β1) = false → v = (Bo (plcOk A_t_ time))),
    Fact.pure [35] (fun v => (!β1) = false → v = (Bo (plcOk A_t_ time))),
    Fact.pure [36, 37, 35] (fun v => (!β1) = false → v = (Bo β2)),
    Fact.pure [35, 38] (fun v => v = (Bo ((!β1) || β2)))]) (by simp [Fact.pure, Fact.mem]) ?_
  refine RW_d _ rfl (fun v => by dsimp only [List.set]; try rfl) (fun u hu hF => ?_) (fun v128 => ?_)
  · clear hF
    refine doesG_un rfl ?_
    refine (does_loadAgg (cs := [(Fl r105), (Fl r107), (Fl r109)]) (ev rfl) Try.isAgg40 Try.sizeOf40 (Blk.cells (hB123.ext hu)) rfl).mono ?_; rintro _ _ ⟨rfl, rfl⟩
    exact ⟨rfl, Ext.refl _⟩
  refine RW_d _ rfl (fun v => by dsimp only [List.set]; try rfl) (fun u hu hF => ?_) (fun v129 => ?_)
  · clear hF
    refine doesG_un rfl ?_
    refine (does_loadAgg (cs := [(Fl r51), (Fl r53), (Fl r55)]) (ev rfl) Try.isAgg40 Try.sizeOf40 (Blk.cells (((((((hB67.ext E71).ext E92).wr W98 (Nat.ne_of_lt n95)).ext E103).ext E115).wr W122 (Nat.ne_of_lt n118)).ext hu)) rfl).mono ?_; rintro _ _ ⟨rfl, rfl⟩
    exact ⟨rfl, Ext.refl _⟩
  refine RW_d _ rfl (fun v => by dsimp only [List.set]; try rfl) (fun u hu hF => ?_) (fun v130 => ?_)
  · have h31_ : v128 = (.agg #[(Fl r105), (Fl r107), (Fl r109)]) := hF.1
    have h32_ : v129 = (.agg #[(Fl r51), (Fl r53), (Fl r55)]) := hF.2.1
    clear hF
    refine doesG_un rfl ?_
    obtain rfl := h31_
    obtain rfl := h32_
    refine (does_call (args := #[(.agg #[(Fl r105), (Fl r107), (Fl r109)]), (.agg #[(Fl r51), (Fl r53), (Fl r55)])]) cal15 (evs rfl) (c_laws_eqVector [(Fl r105), (Fl r107), (Fl r109)] (gvA zV (plcOk A_t_ time) (plcF A_t_.keys time)) [(Fl r51), (Fl r53), (Fl r55)] (gvA zV (plcOk A_t_ time) (plcF A_t_.keys time)) _ ⟨r105, r107, r109, rfl, h106, h108, h110⟩ ⟨r51, r53, r55, rfl, h52, h54, h56⟩)).mono ?_; rintro v u' ⟨hx, hv⟩
    exact ⟨hv.trans (by simp only [hβ1]), hx⟩
  refine RW_d _ rfl (fun v => by dsimp only [List.set]; try rfl) (fun u hu hF => ?_) (fun v131 => ?_)
  · have h33_ : v130 = (Bo β1) := hF.1
    clear hF
    refine doesG_un rfl ?_
    obtain rfl := h33_
    refine (does_not (ev rfl)).mono ?_; rintro _ _ ⟨rfl, rfl⟩
    exact ⟨rfl, Ext.refl _⟩
  refine RW_d _ rfl (fun v => by dsimp only [List.set]; try rfl) (fun u hu hF => ?_) (fun v132 => ?_)
  · have h34_ : v131 = (Bo (!β1)) := hF.1
    clear hF
    refine doesG_un rfl ?_
    obtain rfl := h34_
    refine (does_move (u := (Bo (!β1))) (ev rfl)).mono ?_; rintro _ _ ⟨rfl, rfl⟩
    exact ⟨rfl, Ext.refl _⟩
  refine RW_d _ rfl (fun v => by dsimp only [List.set]; try rfl) (fun u hu hF => ?_) (fun v133 => ?_)
  · have h35_ : v132 = (Bo (!β1)) := hF.1
    clear hF
    obtain rfl := h35_
    refine doesG_g (b := (!β1)) rfl (yld rfl rfl) (fun hg1 => ?_) (fun hc => ⟨fun hg1 => absurd hg1 hc, Ext.refl _⟩)
    refine (does_move (u := (Bo (plcOk A_t_ time))) (ev rfl)).mono ?_; rintro _ _ ⟨rfl, rfl⟩
    exact ⟨fun _ => rfl, Ext.refl _⟩
  refine RW_d _ rfl (fun v => by dsimp only [List.set]; try rfl) (fun u hu hF => ?_) (fun v134 => ?_)
  · have h35_ : v132 = (Bo (!β1)) := hF.1
    clear hF
    obtain rfl := h35_
    refine doesG_g (b := (!β1)) rfl (yld rfl rfl) (fun hg1 => ?_) (fun hc => ⟨fun hg1 => absurd hg1 hc, Ext.refl _⟩)
    refine (does_move (u := (Bo (plcOk A_t_ time))) (ev rfl)).mono ?_; rintro _ _ ⟨rfl, rfl⟩
    exact ⟨fun _ => rfl, Ext.refl _⟩
  refine RW_d _ rfl (fun v => by dsimp only [List.set]; try rfl) (fun u hu hF => ?_) (fun v135 => ?_)
  · have h36_ : (!β1) = false → v133 = (Bo (plcOk A_t_ time)) := hF.1
    have h37_ : (!β1) = false → v134 = (Bo (plcOk A_t_ time)) := hF.2.1
    have h35_ : v132 = (Bo (!β1)) := hF.2.2.1
    clear hF
    obtain rfl := h35_
    refine doesG_g (b := (!β1)) rfl (yld rfl rfl) (fun hg1 => ?_) (fun hc => ⟨fun hg1 => absurd hg1 hc, Ext.refl _⟩)
    obtain rfl := h36_ hg1
    obtain rfl := h37_ hg1
    refine (does_bne (p := (plcOk A_t_ time)) (q := (plcOk A_t_ time)) Try.underlying4 (ev rfl) (ev rfl)).mono ?_; rintro _ _ ⟨rfl, rfl⟩
    exact ⟨fun _ => (by first | rfl | (show _ = _; simp only [hβ2]; done) | (show _ = _; simp only [hβ2]; rfl)), Ext.refl _⟩
  refine RW_d _ rfl (fun v => by dsimp only [List.set]; try rfl) (fun u hu hF => ?_) (fun v136 => ?_)
  · have h35_ : v132 = (Bo (!β1)) := hF.1
    have h38_ : (!β1) = false → v135 = (Bo β2) := hF.2.1
    clear hF
    refine doesG_un rfl ?_
    skip
    obtain rfl := h35_
    refine (does_pick (b := (!β1)) (u := (Bo true)) (v := v135) (ev rfl) (ev rfl) (ev rfl)).mono ?_; rintro _ _ ⟨rfl, rfl⟩; refine ⟨?_, Ext.refl _⟩; skip
    cases hbb : (!β1)
    all_goals first | (show _ = _; simp only [↓reduceIte, Bool.true_and, Bool.false_and, Bool.true_or, Bool.false_or, Bool.false_eq_true]; done) | (have e_ := h38_ hbb; subst e_; show _ = _; simp only [↓reduceIte, Bool.true_and, Bool.false_and, Bool.true_or, Bool.false_or, Bool.false_eq_true]; done) | rfl | (have e_ := h38_ hbb; subst e_; rfl) | (simp [hbb] at h38_ ⊢; first | done | rfl | (subst h38_; rfl) | simp_all) | (simp [hbb] at h38_ ⊢; done)
  refine RW_fin ?_; intro w137 E138 hP139
  obtain ⟨⟨⟨⟨⟨⟨⟨⟨⟨-, -⟩, -⟩, -⟩, -⟩, -⟩, -⟩, -⟩, -⟩, q140⟩ := hP139
  have X141 := Ext.gr X125 E138
  have q140 : v136 = (Bo ((!β1) || β2)) := q140
  obtain rfl := q140
  show wpList _ _ _ _ (fr [_, _, _, _, _, _, _, _, _, _, _, _, _, _, _, _, _, _, _, _, _, _, _, _, _, _, _, _, _, _, _, _, _, _, _, _, _, _, _, _, _, _, _, _, _]) _
  refine wpList_nil (hK127 _ _ ?_)
  refine wp_cond_split (t := (!β1) || β2) (ev rfl) (fun c142 => ?_) (fun c142 => ?_)
  · have c142' := c142
    (try simp only [hβ1, hβ2] at c142')
    (try simp only [icmp, Bool.and_eq_true, Bool.or_eq_true, Bool.and_eq_false_iff, Bool.or_eq_false_iff, Bool.not_eq_true', Bool.not_eq_false', decide_eq_true_eq, decide_eq_false_iff_not, beq_iff_eq, bne_iff_ne, beq_eq_false_iff_ne, bne_eq_false_iff_eq] at c142')
    refine wp_seq_k fun K143 hK143 => ?_
    refine wp_region_lit ?_
    refine q_is rfl rfl (does_assign (u := (Bo false)) (ev rfl)) (by dsimp only [List.set]; try rfl) ?_
    refine wpList_nil (hK143 _ _ ?_)
    refine wp_ret ?_
    dsimp only [Exit.then, Exit.inBlock]
    refine ret_val (v := (Bo false)) (res_T rfl (slot rfl)) X141 ?_
    try simp only [h52, h54, h56, h106, h108, h110, hβ1, hβ2] at c29 c142
    have x144 : true = false := by first | with_reducible rfl | (simp only [sameThing_self, sameV_self, bne_self_eq_false, h52, h54, h56, h106, h108, h110, hβ1, hβ2, c29, c142]; done) | (simp [sameThing_self, sameV_self, bne_self_eq_false, h52, h54, h56, h106, h108, h110, hβ1, hβ2, c29, c142]; done) | (revert c29 c142; simp +contextual [sameThing_self, sameV_self, bne_self_eq_false, h52, h54, h56, h106, h108, h110, hβ1, hβ2]; done) | (rcases c29' with hh | hh <;> simp only [hh, sameThing_self, sameV_self, bne_self_eq_false, h52, h54, h56, h106, h108, h110, hβ1, hβ2, c29, c142]; done) | (rcases c142' with hh | hh <;> simp only [hh, sameThing_self, sameV_self, bne_self_eq_false, h52, h54, h56, h106, h108, h110, hβ1, hβ2, c29, c142]; done) | (rcases c142' with hh | hh <;> simp_all [sameThing_self, sameV_self, bne_self_eq_false]; done) | (rcases c142' with hh | hh | hh <;> simp_all [sameThing_self, sameV_self, bne_self_eq_false]; done) | (rcases c142' with hh | hh | hh | hh <;> simp_all [sameThing_self, sameV_self, bne_self_eq_false]; done) | (simp_all [sameThing_self, sameV_self, bne_self_eq_false]; done) | rfl
    exact (by first | with_reducible rfl | rw [x144] | rfl)
  have c142' := c142
  (try simp only [hβ1, hβ2] at c142')
  (try simp only [icmp, Bool.and_eq_true, Bool.or_eq_true, Bool.and_eq_false_iff, Bool.or_eq_false_iff, Bool.not_eq_true', Bool.not_eq_false', decide_eq_true_eq, decide_eq_false_iff_not, beq_iff_eq, bne_iff_ne, beq_eq_false_iff_ne, bne_eq_false_iff_eq] at c142')
  refine wp_skip (hK126 _ _ ?_)
  refine wp_seq_k fun K145 hK145 => ?_
  refine wp_seq_k fun K146 hK146 => ?_
  refine region_draw (
    [Fact.pure [] (fun v => v = (.agg #[(.string A_t_.name), (.slice p83 A_t_.shape.nodes.length q84), (.slice p86 A_t_.keys.length q87)])),
    Fact.pure [] (fun v => v = (.agg #[(.string A_t_.name), (.slice p6 A_t_.shape.nodes.length q7), (.slice p9 A_t_.keys.length q10)])),
    Fact.mem [41] (fun v w' => ∃ cs_1 : List Value, v = (.agg cs_1.toArray) ∧ Hang w137.heap.size w' (fun u => RThingT u A_t_ cs_1)) (by rintro v w1 w2 hx ⟨z1, rfl, k0⟩; exact ⟨_, rfl, (k0.ext hx)⟩),
    Fact.pure [40, 42] (fun v => v = (Bo (sameThing A_t_ A_t_))),
    Fact.pure [43] (fun v => v = (Bo (!(sameThing A_t_ A_t_))))]) mixed (by kernel_rfl) (by intro _ _ d _ _ h; cases d <;> exact h) ?_
  obtain ⟨w147, hw149⟩ : ∃ w', w' = World.drew w137 := ⟨_, rfl⟩; rw [← hw149]; have E148 : Ext w137 w147 := by rw [hw149]; exact Ext.draw _
  clear hw149
  have X150 := Ext.gr X141 E148
  refine RW_d _ rfl (fun v => by dsimp only [List.set]; try rfl) (fun u hu hF => ?_) (fun v151 => ?_)
  · clear hF
    refine doesG_un rfl ?_
    refine (does_loadAgg (cs := [(.string A_t_.name), (.slice p83 A_t_.shape.nodes.length q84), (.slice p86 A_t_.keys.length q87)]) (ev rfl) Try.isAgg45 Try.sizeOf45 (Blk.cells ((((((hB99.ext E103).ext E115).wr W122 (Nat.ne_of_lt n119)).ext E138).ext E148).ext hu)) rfl).mono ?_; rintro _ _ ⟨rfl, rfl⟩
    exact ⟨rfl, Ext.refl _⟩
  refine RW_d _ rfl (fun v => by dsimp only [List.set]; try rfl) (fun u hu hF => ?_) (fun v152 => ?_)
  · clear hF
    refine doesG_un rfl ?_
    refine (does_loadAgg (cs := [(.string A_t_.name), (.slice p6 A_t_.shape.nodes.length q7), (.slice p9 A_t_.keys.length q10)]) (ev rfl) Try.isAgg36 Try.sizeOf36 (Blk.cells ((((((((((((((hB15.ext E22).ext E32).ext E49).ext E61).wr W66 (Nat.ne_of_lt n63)).ext E71).ext E92).wr W98 (Nat.ne_of_lt n94)).ext E103).ext E115).wr W122 (Nat.ne_of_lt n117)).ext E138).ext E148).ext hu)) rfl).mono ?_; rintro _ _ ⟨rfl, rfl⟩
    exact ⟨rfl, Ext.refl _⟩
  refine RW_d _ rfl (fun v => by dsimp only [List.set]; try rfl) (fun u hu hF => ?_) (fun v153 => ?_)
  · have h41_ : v152 = (.agg #[(.string A_t_.name), (.slice p6 A_t_.shape.nodes.length q7), (.slice p9 A_t_.keys.length q10)]) := hF.1
    clear hF
    refine doesG_un rfl ?_
    obtain rfl := h41_
    refine (does_call (args := #[(.agg #[(.string A_t_.name), (.slice p6 A_t_.shape.nodes.length q7), (.slice p9 A_t_.keys.length q10)])]) cal13 (evs rfl) (c_laws_toThing [(.string A_t_.name), (.slice p6 A_t_.shape.nodes.length q7), (.slice p9 A_t_.keys.length q10)] A_t_ _ ⟨(.slice p6 A_t_.shape.nodes.length q7), (.slice p9 A_t_.keys.length q10), rfl, (Sl.ext (Sl.ext hs8 RNodeT.mono (Ext.gr X141 E148)) RNodeT.mono hu), (Sl.ext (Sl.ext hs11 RKeyT.mono (Ext.gr X141 E148)) RKeyT.mono hu), (by assumption)⟩ (by omega))).mono ?_; rintro v u' ⟨hx, ⟨csn1, hv, k0⟩⟩
    exact ⟨⟨csn1, hv, (Hang.le k0 (Nat.le_trans (Below.size E148) (Below.size hu)))⟩, hx⟩
  refine RW_d _ rfl (fun v => by dsimp only [List.set]; try rfl) (fun u hu hF => ?_) (fun v154 => ?_)
  · have h40_ : v151 = (.agg #[(.string A_t_.name), (.slice p83 A_t_.shape.nodes.length q84), (.slice p86 A_t_.keys.length q87)]) := hF.1
    have h42_ : ∃ cs_1 : List Value, v153 = (.agg cs_1.toArray) ∧ Hang w137.heap.size u (fun u => RThingT u A_t_ cs_1) := hF.2.1
    clear hF
    refine doesG_un rfl ?_
    obtain rfl := h40_
    obtain ⟨cs42_2, rfl, hh42_1⟩ := h42_
    obtain ⟨y42_4, y42_6, rfl, h42_5, h42_7, hb42_3⟩ := hh42_1.get
    have hh42_5 := h42_5; obtain ⟨p42_8, q42_9, rfl⟩ := Sl.shape h42_5
    have hh42_7 := h42_7; obtain ⟨p42_10, q42_11, rfl⟩ := Sl.shape h42_7
    refine (does_call (args := #[(.agg #[(.string A_t_.name), (.slice p83 A_t_.shape.nodes.length q84), (.slice p86 A_t_.keys.length q87)]), (.agg #[(.string A_t_.name), (.slice p42_8 A_t_.shape.nodes.length q42_9), (.slice p42_10 A_t_.keys.length q42_11)])]) cal16 (evs rfl) (c_laws_eqThing [(.string A_t_.name), (.slice p83 A_t_.shape.nodes.length q84), (.slice p86 A_t_.keys.length q87)] A_t_ [(.string A_t_.name), (.slice p42_8 A_t_.shape.nodes.length q42_9), (.slice p42_10 A_t_.keys.length q42_11)] A_t_ _ ⟨(.slice p83 A_t_.shape.nodes.length q84), (.slice p86 A_t_.keys.length q87), rfl, (Sl.ext (hh85 _ ((((((((Same.refl _ _).ext E92).wr W98 (.inr (Nat.le_trans (Nat.le_refl _) hb90))).ext E103).ext E115).wr W122 (.inr (Nat.le_trans (Nat.le_trans (Nat.le_trans (Below.size E92) (Nat.le_of_eq (Eq.symm (Wr.size W98)))) (Below.size E103)) hb113))).ext E138).ext E148)) RNodeT.mono hu), (Sl.ext (hh88 _ ((((((((Same.refl _ _).ext E92).wr W98 (.inr (Nat.le_trans (Nat.le_refl _) hb90))).ext E103).ext E115).wr W122 (.inr (Nat.le_trans (Nat.le_trans (Nat.le_trans (Below.size E92) (Nat.le_of_eq (Eq.symm (Wr.size W98)))) (Below.size E103)) hb113))).ext E138).ext E148)) RKeyT.mono hu), (by assumption)⟩ ⟨(.slice p42_8 A_t_.shape.nodes.length q42_9), (.slice p42_10 A_t_.keys.length q42_11), rfl, hh42_5, hh42_7, (by assumption)⟩)).mono ?_; rintro v u' ⟨hx, hv⟩
    exact ⟨hv, hx⟩
  refine RW_d _ rfl (fun v => by dsimp only [List.set]; try rfl) (fun u hu hF => ?_) (fun v155 => ?_)
  · have h43_ : v154 = (Bo (sameThing A_t_ A_t_)) := hF.1
    clear hF
    refine doesG_un rfl ?_
    obtain rfl := h43_
    refine (does_not (ev rfl)).mono ?_; rintro _ _ ⟨rfl, rfl⟩
    exact ⟨rfl, Ext.refl _⟩
  refine RW_fin ?_; intro w156 E157 hP158
  obtain ⟨⟨⟨⟨⟨-, -⟩, -⟩, -⟩, -⟩, q159⟩ := hP158
  have X160 := Ext.gr X150 E157
  have q159 : v155 = (Bo (!(sameThing A_t_ A_t_))) := q159
  obtain rfl := q159
  show wpList _ _ _ _ (fr [_, _, _, _, _, _, _, _, _, _, _, _, _, _, _, _, _, _, _, _, _, _, _, _, _, _, _, _, _, _, _, _, _, _, _, _, _, _, _, _, _, _, _, _, _]) _
  refine wpList_nil (hK146 _ _ ?_)
  refine wp_cond_split (t := !(sameThing A_t_ A_t_)) (ev rfl) (fun c161 => ?_) (fun c161 => ?_)
  · rw [Bool.not_eq_true'] at c161
    have c161' := c161
    (try simp only [hβ1, hβ2] at c161')
    (try simp only [icmp, Bool.and_eq_true, Bool.or_eq_true, Bool.and_eq_false_iff, Bool.or_eq_false_iff, Bool.not_eq_true', Bool.not_eq_false', decide_eq_true_eq, decide_eq_false_iff_not, beq_iff_eq, bne_iff_ne, beq_eq_false_iff_ne, bne_eq_false_iff_eq] at c161')
    refine wp_seq_k fun K162 hK162 => ?_
    refine wp_region_lit ?_
    refine q_is rfl rfl (does_assign (u := (Bo false)) (ev rfl)) (by dsimp only [List.set]; try rfl) ?_
    refine wpList_nil (hK162 _ _ ?_)
    refine wp_ret ?_
    dsimp only [Exit.then, Exit.inBlock]
    refine ret_val (v := (Bo false)) (res_T rfl (slot rfl)) X160 ?_
    try simp only [h52, h54, h56, h106, h108, h110, hβ1, hβ2] at c29 c142 c161
    have x163 : true = false := by first | with_reducible rfl | (simp only [sameThing_self, sameV_self, bne_self_eq_false, h52, h54, h56, h106, h108, h110, hβ1, hβ2, c29, c142, c161]; done) | (simp [sameThing_self, sameV_self, bne_self_eq_false, h52, h54, h56, h106, h108, h110, hβ1, hβ2, c29, c142, c161]; done) | (revert c29 c142 c161; simp +contextual [sameThing_self, sameV_self, bne_self_eq_false, h52, h54, h56, h106, h108, h110, hβ1, hβ2]; done) | (rcases c29' with hh | hh <;> simp only [hh, sameThing_self, sameV_self, bne_self_eq_false, h52, h54, h56, h106, h108, h110, hβ1, hβ2, c29, c142, c161]; done) | (rcases c142' with hh | hh <;> simp only [hh, sameThing_self, sameV_self, bne_self_eq_false, h52, h54, h56, h106, h108, h110, hβ1, hβ2, c29, c142, c161]; done) | (rcases c161' with hh | hh <;> simp only [hh, sameThing_self, sameV_self, bne_self_eq_false, h52, h54, h56, h106, h108, h110, hβ1, hβ2, c29, c142, c161]; done) | (rcases c161' with hh | hh <;> simp_all [sameThing_self, sameV_self, bne_self_eq_false]; done) | (rcases c161' with hh | hh | hh <;> simp_all [sameThing_self, sameV_self, bne_self_eq_false]; done) | (rcases c161' with hh | hh | hh | hh <;> simp_all [sameThing_self, sameV_self, bne_self_eq_false]; done) | (simp_all [sameThing_self, sameV_self, bne_self_eq_false]; done) | rfl
    exact (by first | with_reducible rfl | rw [x163] | rfl)
  rw [Bool.not_eq_false'] at c161
  have c161' := c161
  (try simp only [hβ1, hβ2] at c161')
  (try simp only [icmp, Bool.and_eq_true, Bool.or_eq_true, Bool.and_eq_false_iff, Bool.or_eq_false_iff, Bool.not_eq_true', Bool.not_eq_false', decide_eq_true_eq, decide_eq_false_iff_not, beq_iff_eq, bne_iff_ne, beq_eq_false_iff_ne, bne_eq_false_iff_eq] at c161')
  refine wp_skip (hK145 _ _ ?_)
  refine wp_seq_k fun K164 hK164 => ?_
  refine wp_region_lit ?_
  refine q_is rfl rfl (does_assign (u := (Bo true)) (ev rfl)) (by dsimp only [List.set]; try rfl) ?_
  refine wpList_nil (hK164 _ _ ?_)
  refine wp_ret ?_
  refine ret_val (v := (Bo true)) (res_T rfl (slot rfl)) X160 ?_
  try simp only [h52, h54, h56, h106, h108, h110, hβ1, hβ2] at c29 c142 c161
  exact rfl

end Go.Proofs.Ytiagimgdjngnfaa
