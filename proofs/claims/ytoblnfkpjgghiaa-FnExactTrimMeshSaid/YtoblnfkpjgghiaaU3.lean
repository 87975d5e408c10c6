/- contracts of functions, each walked once -/
import Derived.Test.YtoblnfkpjgghiaaU2
namespace Go.Proofs.Ytoblnfkpjgghiaa
open Go Go.RowKit
set_option maxRecDepth 100000
set_option maxHeartbeats 3200000
set_option linter.unusedVariables false
set_option linter.unusedSimpArgs false

/- laws.FnExactUsedPlaces -/
theorem c_laws_FnExactUsedPlaces (m : List Value) (A_m : MeshT) (w : World) (hv_m : RMeshT w A_m m) : Gives Try.prog 3 #[(.agg m.toArray)] w (fun v w' => v = (Bo true)) := by
  obtain ⟨y1, y3, rfl, h2, h4⟩ := hv_m
  have hs7 := h2; have hs7l := Sl.len h2; obtain ⟨p5, q6, rfl⟩ := Sl.shape h2
  have hs10 := h4; have hs10l := Sl.len h4; obtain ⟨p8, q9, rfl⟩ := Sl.shape h4
  have hgl := usedR_le A_m
  have hms := meSz_le A_m
  refine enter [(.agg #[(.slice p5 A_m.places.length q6), (.slice p8 A_m.tris.length q9)]), Ud, Ud, Ud, Ud, Ud, Ud, Ud, Ud, Ud, Ud, Ud, Ud, Ud, Ud, Ud, Ud, Ud, Ud, Ud, Ud, Ud, Ud, Ud, Ud, Ud, Ud, Ud, Ud, Ud, Ud, Ud, Ud, Ud, Ud, Ud, Ud, Ud, Ud, Ud, Ud, Ud, Ud, Ud, Ud, Ud, Ud, Ud, Ud, Ud, Ud, Ud, Ud, Ud, Ud, Ud, Ud, Ud, Ud, Ud, Ud, Ud, Ud, Ud, Ud, Ud, Ud, Ud, Ud, Ud, Ud, Ud, Ud, Ud, Ud, Ud, Ud, Ud, Ud, Ud, Ud, Ud, Ud, Ud, Ud, Ud, Ud, Ud, Ud, Ud, Ud, Ud, Ud, Ud, Ud, Ud] Try.func3 rfl Try.ntmps3 rfl ?_
  refine wp_seq_k fun K11 hK11 => ?_
  refine wp_region_lit ?_
  refine seqd rfl rfl (does_box (u := (.agg #[(.slice p5 A_m.places.length q6), (.slice p8 A_m.tris.length q9)])) (ev rfl)) ?_; rintro _ w16 ⟨b12, rfl, hb13, hB14, E15⟩
  have g17 : w.heap.size ≤ b12 := Nat.le_trans (Below.size (Ext.refl w)) hb13
  change Blk _ _ [(.slice p5 A_m.places.length q6), (.slice p8 A_m.tris.length q9)] at hB14
  have X18 := Ext.gr (Ext.refl w) E15
  show wpList _ _ _ _ (fr [_, _, _, _, _, _, _, _, _, _, _, _, _, _, _, _, _, _, _, _, _, _, _, _, _, _, _, _, _, _, _, _, _, _, _, _, _, _, _, _, _, _, _, _, _, _, _, _, _, _, _, _, _, _, _, _, _, _, _, _, _, _, _, _, _, _, _, _, _, _, _, _, _, _, _, _, _, _, _, _, _, _, _, _, _, _, _, _, _, _, _, _, _, _, _, _]) _
  refine q_is rfl rfl (does_assign (u := (Bo false)) (ev rfl)) (by dsimp only [List.set]; try rfl) ?_
  refine wpList_nil (hK11 _ _ ?_)
  refine wp_seq_k fun K19 hK19 => ?_
  refine wp_region_lit ?_
  refine q_is rfl rfl (does_assign (u := (Iv 1048576)) (ev rfl)) (by dsimp only [List.set]; try rfl) ?_
  refine wpList_nil (hK19 _ _ ?_)
  refine wp_seq_k fun K20 hK20 => ?_
  refine wp_region_lit ?_
  refine q_is rfl rfl (does_loadAgg (cs := [(.slice p5 A_m.places.length q6), (.slice p8 A_m.tris.length q9)]) (ev rfl) Try.isAgg25 Try.sizeOf25 (Blk.cells hB14) rfl) (by dsimp only [List.set]; try rfl) ?_
  refine q_is rfl rfl (does_move (u := (Iv 1048576)) (ev rfl)) (by dsimp only [List.set]; try rfl) ?_
  refine seqd rfl rfl (does_call (args := #[(.agg #[(.slice p5 A_m.places.length q6), (.slice p8 A_m.tris.length q9)]), (Iv 1048576)]) cal7 (evs rfl) (c_laws_szMesh [(.slice p5 A_m.places.length q6), (.slice p8 A_m.tris.length q9)] A_m 1048576 _ ⟨(.slice p5 A_m.places.length q6), (.slice p8 A_m.tris.length q9), rfl, (Sl.ext hs7 RV3.mono X18), (Sl.ext hs10 (RS.mono RI.mono) X18)⟩ (by omega) (by omega))) ?_; rintro _ w22 ⟨E21, ⟨i23, rfl, h24⟩⟩
  have X25 := Ext.gr X18 E21
  show wpList _ _ _ _ (fr [_, _, _, _, _, _, _, _, _, _, _, _, _, _, _, _, _, _, _, _, _, _, _, _, _, _, _, _, _, _, _, _, _, _, _, _, _, _, _, _, _, _, _, _, _, _, _, _, _, _, _, _, _, _, _, _, _, _, _, _, _, _, _, _, _, _, _, _, _, _, _, _, _, _, _, _, _, _, _, _, _, _, _, _, _, _, _, _, _, _, _, _, _, _, _, _]) _
  refine q_is rfl rfl (does_assign (u := (Iv i23)) (ev rfl)) (by dsimp only [List.set]; try rfl) ?_
  refine wpList_nil (hK20 _ _ ?_)
  refine wp_seq_k fun K26 hK26 => ?_
  refine wp_seq_k fun K27 hK27 => ?_
  refine wp_region_lit ?_
  refine q_is rfl rfl (does_move (u := (Iv i23)) (ev rfl)) (by dsimp only [List.set]; try rfl) ?_
  refine q_is rfl rfl (does_icmp (p := i23) (q := 0) (.inr (.inr (.inl rfl))) (ev rfl) (ev rfl)) (by dsimp only [List.set]; try rfl) ?_
  refine wpList_nil (hK27 _ _ ?_)
  refine wp_cond_split (t := icmp .lss i23 0) (ev rfl) (fun c28 => ?_) (fun c28 => ?_)
  · have c28' := c28
    (try simp only [sameX_selfI, sameMesh_self, bne_self_eq_false] at c28')
    (try simp only [icmp, Bool.and_eq_true, Bool.or_eq_true, Bool.and_eq_false_iff, Bool.or_eq_false_iff, Bool.not_eq_true', Bool.not_eq_false', decide_eq_true_eq, decide_eq_false_iff_not, beq_iff_eq, bne_iff_ne, beq_eq_false_iff_ne, bne_eq_false_iff_eq] at c28')
    refine wp_seq_k fun K29 hK29 => ?_
    refine wp_region_lit ?_
    refine q_is rfl rfl (does_assign (u := (Bo true)) (ev rfl)) (by dsimp only [List.set]; try rfl) ?_
    refine wpList_nil (hK29 _ _ ?_)
    refine wp_ret ?_
    dsimp only [Exit.then, Exit.inBlock]
    refine ret_val (v := (Bo true)) (res_T rfl (slot rfl)) X25 ?_
    try simp only [sameX_selfI, sameMesh_self, bne_self_eq_false] at c28
    exact rfl
  have c28' := c28
  (try simp only [sameX_selfI, sameMesh_self, bne_self_eq_false] at c28')
  (try simp only [icmp, Bool.and_eq_true, Bool.or_eq_true, Bool.and_eq_false_iff, Bool.or_eq_false_iff, Bool.not_eq_true', Bool.not_eq_false', decide_eq_true_eq, decide_eq_false_iff_not, beq_iff_eq, bne_iff_ne, beq_eq_false_iff_ne, bne_eq_false_iff_eq] at c28')
  refine wp_skip (hK26 _ _ ?_)
  refine wp_seq_k fun K30 hK30 => ?_
  refine wp_region_lit ?_
  refine q_is rfl rfl (does_loadAgg (cs := [(.slice p5 A_m.places.length q6), (.slice p8 A_m.tris.length q9)]) (ev rfl) Try.isAgg25 Try.sizeOf25 (Blk.cells (hB14.ext E21)) rfl) (by dsimp only [List.set]; try rfl) ?_
  refine seqd rfl rfl (does_call (args := #[(.agg #[(.slice p5 A_m.places.length q6), (.slice p8 A_m.tris.length q9)])]) cal9 (evs rfl) (c_laws_toMesh [(.slice p5 A_m.places.length q6), (.slice p8 A_m.tris.length q9)] A_m _ ⟨(.slice p5 A_m.places.length q6), (.slice p8 A_m.tris.length q9), rfl, (Sl.ext hs7 RV3.mono X25), (Sl.ext hs10 (RS.mono RI.mono) X25)⟩ (by omega))) ?_; rintro _ w32 ⟨E31, ⟨cs34, Lw35, rfl, hh33, hw36⟩⟩
  have X37 := Ext.gr X25 E31
  have n38 : b12 < w22.heap.size := Blk.lt (hB14.ext E21)
  obtain ⟨y39, y41, rfl, h40, h42⟩ := hh33.get
  have h40l := Sl.len h40; obtain ⟨p43, q44, rfl⟩ := Sl.shape h40
  have hh45 : Hang w22.heap.size w32 (fun u => Sl RV3 3 u (.slice p43 A_m.places.length q44) A_m.places) := fun u hu => by obtain ⟨_, _, hq, _, _⟩ := hh33 u hu; cases hq; assumption
  have h42l := Sl.len h42; obtain ⟨p46, q47, rfl⟩ := Sl.shape h42
  have hh48 : Hang w22.heap.size w32 (fun u => Sl (RS RI 1) 1 u (.slice p46 A_m.tris.length q47) A_m.tris) := fun u hu => by obtain ⟨_, _, hq, _, _⟩ := hh33 u hu; cases hq; assumption
  have hw49 : WLM w22.heap.size w32 Lw35 (.slice p43 A_m.places.length q44) (.slice p46 A_m.tris.length q47) A_m := hw36
  show wpList _ _ _ _ (fr [_, _, _, _, _, _, _, _, _, _, _, _, _, _, _, _, _, _, _, _, _, _, _, _, _, _, _, _, _, _, _, _, _, _, _, _, _, _, _, _, _, _, _, _, _, _, _, _, _, _, _, _, _, _, _, _, _, _, _, _, _, _, _, _, _, _, _, _, _, _, _, _, _, _, _, _, _, _, _, _, _, _, _, _, _, _, _, _, _, _, _, _, _, _, _, _]) _
  refine seqd rfl rfl (does_call (args := #[(.agg #[(.slice p43 A_m.places.length q44), (.slice p46 A_m.tris.length q47)])]) cal8 (evs rfl) (c_spec_UsedPlaces [(.slice p43 A_m.places.length q44), (.slice p46 A_m.tris.length q47)] A_m _ ⟨(.slice p43 A_m.places.length q44), (.slice p46 A_m.tris.length q47), rfl, hh45.get, hh48.get⟩)) ?_; rintro _ w51 ⟨E50, ⟨y53, rfl, hh52⟩⟩
  have X54 := Ext.gr X37 E50
  have n55 : b12 < w32.heap.size := Blk.lt ((hB14.ext E21).ext E31)
  obtain ⟨p56, q57, rfl⟩ := Sl.shape hh52.get
  show wpList _ _ _ _ (fr [_, _, _, _, _, _, _, _, _, _, _, _, _, _, _, _, _, _, _, _, _, _, _, _, _, _, _, _, _, _, _, _, _, _, _, _, _, _, _, _, _, _, _, _, _, _, _, _, _, _, _, _, _, _, _, _, _, _, _, _, _, _, _, _, _, _, _, _, _, _, _, _, _, _, _, _, _, _, _, _, _, _, _, _, _, _, _, _, _, _, _, _, _, _, _, _]) _
  refine q_is rfl rfl (does_move (u := (.tuple #[(.slice p56 ((usedR A_m).length) q57), (Bo (meshOk A_m))])) (ev rfl)) (by dsimp only [List.set]; try rfl) ?_
  refine q_is rfl rfl (does_extract (vs := #[(.slice p56 ((usedR A_m).length) q57), (Bo (meshOk A_m))]) (u := (.slice p56 ((usedR A_m).length) q57)) (ev rfl) rfl) (by dsimp only [List.set]; try rfl) ?_
  refine q_is rfl rfl (does_extract (vs := #[(.slice p56 ((usedR A_m).length) q57), (Bo (meshOk A_m))]) (u := (Bo (meshOk A_m))) (ev rfl) rfl) (by dsimp only [List.set]; try rfl) ?_
  refine q_is rfl rfl (does_assign (u := (.slice p56 ((usedR A_m).length) q57)) (ev rfl)) (by dsimp only [List.set]; try rfl) ?_
  refine q_is rfl rfl (does_assign (u := (Bo (meshOk A_m))) (ev rfl)) (by dsimp only [List.set]; try rfl) ?_
  refine wpList_nil (hK30 _ _ ?_)
  refine wp_seq_k fun K58 hK58 => ?_
  refine wp_region_lit ?_
  refine q_is rfl rfl (does_loadAgg (cs := [(.slice p5 A_m.places.length q6), (.slice p8 A_m.tris.length q9)]) (ev rfl) Try.isAgg25 Try.sizeOf25 (Blk.cells (((hB14.ext E21).ext E31).ext E50)) rfl) (by dsimp only [List.set]; try rfl) ?_
  refine seqd rfl rfl (does_call (args := #[(.agg #[(.slice p5 A_m.places.length q6), (.slice p8 A_m.tris.length q9)])]) cal9 (evs rfl) (c_laws_toMesh [(.slice p5 A_m.places.length q6), (.slice p8 A_m.tris.length q9)] A_m _ ⟨(.slice p5 A_m.places.length q6), (.slice p8 A_m.tris.length q9), rfl, (Sl.ext hs7 RV3.mono X54), (Sl.ext hs10 (RS.mono RI.mono) X54)⟩ (by omega))) ?_; rintro _ w60 ⟨E59, ⟨cs62, Lw63, rfl, hh61, hw64⟩⟩
  have X65 := Ext.gr X54 E59
  have n66 : b12 < w51.heap.size := Blk.lt (((hB14.ext E21).ext E31).ext E50)
  obtain ⟨y67, y69, rfl, h68, h70⟩ := hh61.get
  have h68l := Sl.len h68; obtain ⟨p71, q72, rfl⟩ := Sl.shape h68
  have hh73 : Hang w51.heap.size w60 (fun u => Sl RV3 3 u (.slice p71 A_m.places.length q72) A_m.places) := fun u hu => by obtain ⟨_, _, hq, _, _⟩ := hh61 u hu; cases hq; assumption
  have h70l := Sl.len h70; obtain ⟨p74, q75, rfl⟩ := Sl.shape h70
  have hh76 : Hang w51.heap.size w60 (fun u => Sl (RS RI 1) 1 u (.slice p74 A_m.tris.length q75) A_m.tris) := fun u hu => by obtain ⟨_, _, hq, _, _⟩ := hh61 u hu; cases hq; assumption
  have hw77 : WLM w51.heap.size w60 Lw63 (.slice p71 A_m.places.length q72) (.slice p74 A_m.tris.length q75) A_m := hw64
  show wpList _ _ _ _ (fr [_, _, _, _, _, _, _, _, _, _, _, _, _, _, _, _, _, _, _, _, _, _, _, _, _, _, _, _, _, _, _, _, _, _, _, _, _, _, _, _, _, _, _, _, _, _, _, _, _, _, _, _, _, _, _, _, _, _, _, _, _, _, _, _, _, _, _, _, _, _, _, _, _, _, _, _, _, _, _, _, _, _, _, _, _, _, _, _, _, _, _, _, _, _, _, _]) _
  refine seqd rfl rfl (does_alloc z32) ?_; rintro _ w82 ⟨b78, rfl, hb79, hB80, E81⟩
  have n83 : b12 < b78 := Nat.lt_of_lt_of_le (Blk.lt ((((hB14.ext E21).ext E31).ext E50).ext E59)) hb79
  have g84 : w.heap.size ≤ b78 := Nat.le_trans (Below.size X65) hb79
  change Blk _ _ [(.slice none 0 0), (.slice none 0 0)] at hB80
  have X85 := Ext.gr X65 E81
  show wpList _ _ _ _ (fr [_, _, _, _, _, _, _, _, _, _, _, _, _, _, _, _, _, _, _, _, _, _, _, _, _, _, _, _, _, _, _, _, _, _, _, _, _, _, _, _, _, _, _, _, _, _, _, _, _, _, _, _, _, _, _, _, _, _, _, _, _, _, _, _, _, _, _, _, _, _, _, _, _, _, _, _, _, _, _, _, _, _, _, _, _, _, _, _, _, _, _, _, _, _, _, _]) _
  refine seqn rfl rfl (does_store (n := 2) (cs := [(.slice none 0 0), (.slice none 0 0)]) (u := (.agg #[(.slice p71 A_m.places.length q72), (.slice p74 A_m.tris.length q75)])) (ev rfl) (ev rfl) Try.sizeOf32 rfl hB80 (Nat.le_of_ble_eq_true rfl) rfl) ?_; rintro _ w88 ⟨rfl, W86, hB87⟩
  change Blk _ _ [(.slice p71 A_m.places.length q72), (.slice p74 A_m.tris.length q75)] at hB87
  have X89 := Below.wr X85 W86 g84
  refine wpList_nil (hK58 _ _ ?_)
  refine wp_seq_k fun K90 hK90 => ?_
  refine wp_region_lit ?_
  refine q_is rfl rfl (does_loadAgg (cs := [(.slice p71 A_m.places.length q72), (.slice p74 A_m.tris.length q75)]) (ev rfl) Try.isAgg32 Try.sizeOf32 (Blk.cells hB87) rfl) (by dsimp only [List.set]; try rfl) ?_
  refine seqd rfl rfl (does_call (args := #[(.agg #[(.slice p71 A_m.places.length q72), (.slice p74 A_m.tris.length q75)])]) cal10 (evs rfl) (c_impl_UsedPlaces [(.slice p71 A_m.places.length q72), (.slice p74 A_m.tris.length q75)] A_m _ ⟨(.slice p71 A_m.places.length q72), (.slice p74 A_m.tris.length q75), rfl, (hh73 _ (((Same.refl _ _).ext E81).wr W86 (.inr (Nat.le_trans (Nat.le_refl _) hb79)))), (hh76 _ (((Same.refl _ _).ext E81).wr W86 (.inr (Nat.le_trans (Nat.le_refl _) hb79))))⟩)) ?_; rintro _ w92 ⟨E91, ⟨y94, Lw95, rfl, hh93, hw96⟩⟩
  have X97 := Ext.gr X89 E91
  have n98 : b12 < w88.heap.size := Blk.lt ((((((hB14.ext E21).ext E31).ext E50).ext E59).ext E81).wr W86 (Nat.ne_of_lt n83))
  have n99 : b78 < w88.heap.size := Blk.lt hB87
  obtain ⟨p100, q101, rfl⟩ := Sl.shape hh93.get
  have hw102 : WL 1 w88.heap.size w92 Lw95 (.slice p100 ((usedR A_m).length) q101) (usedR A_m).length := hw96
  show wpList _ _ _ _ (fr [_, _, _, _, _, _, _, _, _, _, _, _, _, _, _, _, _, _, _, _, _, _, _, _, _, _, _, _, _, _, _, _, _, _, _, _, _, _, _, _, _, _, _, _, _, _, _, _, _, _, _, _, _, _, _, _, _, _, _, _, _, _, _, _, _, _, _, _, _, _, _, _, _, _, _, _, _, _, _, _, _, _, _, _, _, _, _, _, _, _, _, _, _, _, _, _]) _
  refine q_is rfl rfl (does_move (u := (.tuple #[(.slice p100 ((usedR A_m).length) q101), (Bo (meshOk A_m))])) (ev rfl)) (by dsimp only [List.set]; try rfl) ?_
  refine q_is rfl rfl (does_extract (vs := #[(.slice p100 ((usedR A_m).length) q101), (Bo (meshOk A_m))]) (u := (.slice p100 ((usedR A_m).length) q101)) (ev rfl) rfl) (by dsimp only [List.set]; try rfl) ?_
  refine q_is rfl rfl (does_extract (vs := #[(.slice p100 ((usedR A_m).length) q101), (Bo (meshOk A_m))]) (u := (Bo (meshOk A_m))) (ev rfl) rfl) (by dsimp only [List.set]; try rfl) ?_
  refine q_is rfl rfl (does_assign (u := (.slice p100 ((usedR A_m).length) q101)) (ev rfl)) (by dsimp only [List.set]; try rfl) ?_
  refine q_is rfl rfl (does_assign (u := (Bo (meshOk A_m))) (ev rfl)) (by dsimp only [List.set]; try rfl) ?_
  refine wpList_nil (hK90 _ _ ?_)
  refine wp_seq_k fun K103 hK103 => ?_
  refine wp_seq_k fun K104 hK104 => ?_
  obtain ⟨β1, hβ1⟩ : ∃ b : Bool, b = (sameX eqI (usedR A_m) (usedR A_m)) := ⟨_, rfl⟩
  obtain ⟨β2, hβ2⟩ : ∃ b : Bool, b = ((meshOk A_m) != (meshOk A_m)) := ⟨_, rfl⟩
  refine region_text (
    [Fact.pure [] (fun v => v = (.slice p100 ((usedR A_m).length) q101)),
    Fact.pure [] (fun v => v = (.slice p56 ((usedR A_m).length) q57)),
    Fact.pure [32, 33] (fun v => v = (Bo β1)),
    Fact.pure [34] (fun v => v = (Bo (!β1))),
    Fact.pure [35] (fun v => v = (Bo (!β1))),
    Fact.pure [36] (fun v => (!β1) = false → v = (Bo (meshOk A_m))),
    Fact.pure [36] (fun v => (!β1) = false → v = (Bo (meshOk A_m))),
    Fact.pure [37, 38, 36] (fun v => (!β1) = false → v = (Bo β2)),
    Fact.pure [36, 39] (fun v => v = (Bo ((!β1) || β2)))]) (by simp [Fact.pure, Fact.mem]) ?_
  refine RW_d _ rfl (fun v => by dsimp only [List.set]; try rfl) (fun u hu hF => ?_) (fun v105 => ?_)
  · clear hF
    refine doesG_un rfl ?_
    refine (does_move (u := (.slice p100 ((usedR A_m).length) q101)) (ev rfl)).mono ?_; rintro _ _ ⟨rfl, rfl⟩
    exact ⟨rfl, Ext.refl _⟩
  refine RW_d _ rfl (fun v => by dsimp only [List.set]; try rfl) (fun u hu hF => ?_) (fun v106 => ?_)
  · clear hF
    refine doesG_un rfl ?_
    refine (does_move (u := (.slice p56 ((usedR A_m).length) q57)) (ev rfl)).mono ?_; rintro _ _ ⟨rfl, rfl⟩
    exact ⟨rfl, Ext.refl _⟩
  refine RW_d _ rfl (fun v => by dsimp only [List.set]; try rfl) (fun u hu hF => ?_) (fun v107 => ?_)
  · have h32_ : v105 = (.slice p100 ((usedR A_m).length) q101) := hF.1
    have h33_ : v106 = (.slice p56 ((usedR A_m).length) q57) := hF.2.1
    clear hF
    refine doesG_un rfl ?_
    obtain rfl := h32_
    obtain rfl := h33_
    refine (does_call (args := #[(.slice p100 ((usedR A_m).length) q101), (.slice p56 ((usedR A_m).length) q57)]) cal11 (evs rfl) (c_laws_eqInt64S (.slice p100 ((usedR A_m).length) q101) (usedR A_m) (.slice p56 ((usedR A_m).length) q57) (usedR A_m) _ (Sl.ext hh93.get RI.mono hu) (Sl.ext (hh52 _ (((((Same.refl _ _).ext E59).ext E81).wr W86 (.inr (Nat.le_trans (Below.size E59) hb79))).ext E91)) RI.mono hu))).mono ?_; rintro v u' ⟨hx, hv⟩
    exact ⟨hv.trans (by simp only [hβ1]), hx⟩
  refine RW_d _ rfl (fun v => by dsimp only [List.set]; try rfl) (fun u hu hF => ?_) (fun v108 => ?_)
  · have h34_ : v107 = (Bo β1) := hF.1
    clear hF
    refine doesG_un rfl ?_
    obtain rfl := h34_
    refine (does_not (ev rfl)).mono ?_; rintro _ _ ⟨rfl, rfl⟩
    exact ⟨rfl, Ext.refl _⟩
  refine RW_d _ rfl (fun v => by dsimp only [List.set]; try rfl) (fun u hu hF => ?_) (fun v109 => ?_)
  · have h35_ : v108 = (Bo (!β1)) := hF.1
    clear hF
    refine doesG_un rfl ?_
    obtain rfl := h35_
    refine (does_move (u := (Bo (!β1))) (ev rfl)).mono ?_; rintro _ _ ⟨rfl, rfl⟩
    exact ⟨rfl, Ext.refl _⟩
  refine RW_d _ rfl (fun v => by dsimp only [List.set]; try rfl) (fun u hu hF => ?_) (fun v110 => ?_)
  · have h36_ : v109 = (Bo (!β1)) := hF.1
    clear hF
    obtain rfl := h36_
    refine doesG_g (b := (!β1)) rfl (yld rfl rfl) (fun hg1 => ?_) (fun hc => ⟨fun hg1 => absurd hg1 hc, Ext.refl _⟩)
    refine (does_move (u := (Bo (meshOk A_m))) (ev rfl)).mono ?_; rintro _ _ ⟨rfl, rfl⟩
    exact ⟨fun _ => rfl, Ext.refl _⟩
  refine RW_d _ rfl (fun v => by dsimp only [List.set]; try rfl) (fun u hu hF => ?_) (fun v111 => ?_)
  · have h36_ : v109 = (Bo (!β1)) := hF.1
    clear hF
    obtain rfl := h36_
    refine doesG_g (b := (!β1)) rfl (yld rfl rfl) (fun hg1 => ?_) (fun hc => ⟨fun hg1 => absurd hg1 hc, Ext.refl _⟩)
    refine (does_move (u := (Bo (meshOk A_m))) (ev rfl)).mono ?_; rintro _ _ ⟨rfl, rfl⟩
    exact ⟨fun _ => rfl, Ext.refl _⟩
  refine RW_d _ rfl (fun v => by dsimp only [List.set]; try rfl) (fun u hu hF => ?_) (fun v112 => ?_)
  · have h37_ : (!β1) = false → v110 = (Bo (meshOk A_m)) := hF.1
    have h38_ : (!β1) = false → v111 = (Bo (meshOk A_m)) := hF.2.1
    have h36_ : v109 = (Bo (!β1)) := hF.2.2.1
    clear hF
    obtain rfl := h36_
    refine doesG_g (b := (!β1)) rfl (yld rfl rfl) (fun hg1 => ?_) (fun hc => ⟨fun hg1 => absurd hg1 hc, Ext.refl _⟩)
    obtain rfl := h37_ hg1
    obtain rfl := h38_ hg1
    refine (does_bne (p := (meshOk A_m)) (q := (meshOk A_m)) Try.underlying4 (ev rfl) (ev rfl)).mono ?_; rintro _ _ ⟨rfl, rfl⟩
    exact ⟨fun _ => (by first | rfl | (show _ = _; simp only [hβ2]; done) | (show _ = _; simp only [hβ2]; rfl)), Ext.refl _⟩
  refine RW_d _ rfl (fun v => by dsimp only [List.set]; try rfl) (fun u hu hF => ?_) (fun v113 => ?_)
  · have h36_ : v109 = (Bo (!β1)) := hF.1
    have h39_ : (!β1) = false → v112 = (Bo β2) := hF.2.1
    clear hF
    refine doesG_un rfl ?_
    skip
    obtain rfl := h36_
    refine (does_pick (b := (!β1)) (u := (Bo true)) (v := v112) (ev rfl) (ev rfl) (ev rfl)).mono ?_; rintro _ _ ⟨rfl, rfl⟩; refine ⟨?_, Ext.refl _⟩; skip
    cases hbb : (!β1)
    all_goals first | (show _ = _; simp only [↓reduceIte, Bool.true_and, Bool.false_and, Bool.true_or, Bool.false_or, Bool.false_eq_true]; done) | (have e_ := h39_ hbb; subst e_; show _ = _; simp only [↓reduceIte, Bool.true_and, Bool.false_and, Bool.true_or, Bool.false_or, Bool.false_eq_true]; done) | rfl | (have e_ := h39_ hbb; subst e_; rfl) | (simp [hbb] at h39_ ⊢; first | done | rfl | (subst h39_; rfl) | simp_all) | (simp [hbb] at h39_ ⊢; done)
  refine RW_fin ?_; intro w114 E115 hP116
  obtain ⟨⟨⟨⟨⟨⟨⟨⟨⟨-, -⟩, -⟩, -⟩, -⟩, -⟩, -⟩, -⟩, -⟩, q117⟩ := hP116
  have X118 := Ext.gr X97 E115
  have q117 : v113 = (Bo ((!β1) || β2)) := q117
  obtain rfl := q117
  show wpList _ _ _ _ (fr [_, _, _, _, _, _, _, _, _, _, _, _, _, _, _, _, _, _, _, _, _, _, _, _, _, _, _, _, _, _, _, _, _, _, _, _, _, _, _, _, _, _, _, _, _, _, _, _, _, _, _, _, _, _, _, _, _, _, _, _, _, _, _, _, _, _, _, _, _, _, _, _, _, _, _, _, _, _, _, _, _, _, _, _, _, _, _, _, _, _, _, _, _, _, _, _]) _
  refine wpList_nil (hK104 _ _ ?_)
  refine wp_cond_split (t := (!β1) || β2) (ev rfl) (fun c119 => ?_) (fun c119 => ?_)
  · have c119' := c119
    (try simp only [hβ1, hβ2, sameX_selfI, sameMesh_self, bne_self_eq_false] at c119')
    (try simp only [hβ1, hβ2] at c119')
    (try simp only [icmp, Bool.and_eq_true, Bool.or_eq_true, Bool.and_eq_false_iff, Bool.or_eq_false_iff, Bool.not_eq_true', Bool.not_eq_false', decide_eq_true_eq, decide_eq_false_iff_not, beq_iff_eq, bne_iff_ne, beq_eq_false_iff_ne, bne_eq_false_iff_eq] at c119')
    refine wp_seq_k fun K120 hK120 => ?_
    refine wp_region_lit ?_
    refine q_is rfl rfl (does_assign (u := (Bo false)) (ev rfl)) (by dsimp only [List.set]; try rfl) ?_
    refine wpList_nil (hK120 _ _ ?_)
    refine wp_ret ?_
    dsimp only [Exit.then, Exit.inBlock]
    refine ret_val (v := (Bo false)) (res_T rfl (slot rfl)) X118 ?_
    try simp only [hβ1, hβ2, sameX_selfI, sameMesh_self, bne_self_eq_false] at c28 c119
    have x121 : true = false := by first | with_reducible rfl | (exfalso; omega) | (exfalso; simp only [mkL_len] at * <;> omega) | (exfalso; rcases c119' with ((hh | hh) | hh) | hh <;> first | omega | (exact Bool.noConfusion hh) | (exact absurd rfl hh)) | (exfalso; rcases c119' with (hh | hh) | hh <;> first | omega | (exact Bool.noConfusion hh)) | (exfalso; rcases c119' with hh | hh <;> first | omega | (exact Bool.noConfusion hh)) | (simp only [sameX_selfI, sameMesh_self, bne_self_eq_false, hβ1, hβ2, c28, c119]; done) | (simp [sameX_selfI, sameMesh_self, bne_self_eq_false, hβ1, hβ2, c28, c119]; done) | (simp_all; done) | (exfalso; simp_all; done)
    exact (by first | with_reducible rfl | rw [x121] | rfl)
  have c119' := c119
  (try simp only [hβ1, hβ2, sameX_selfI, sameMesh_self, bne_self_eq_false] at c119')
  (try simp only [hβ1, hβ2] at c119')
  (try simp only [icmp, Bool.and_eq_true, Bool.or_eq_true, Bool.and_eq_false_iff, Bool.or_eq_false_iff, Bool.not_eq_true', Bool.not_eq_false', decide_eq_true_eq, decide_eq_false_iff_not, beq_iff_eq, bne_iff_ne, beq_eq_false_iff_ne, bne_eq_false_iff_eq] at c119')
  refine wp_skip (hK103 _ _ ?_)
  refine wp_seq_k fun K122 hK122 => ?_
  refine wp_seq_k fun K123 hK123 => ?_
  refine region_draw (
    [Fact.pure [] (fun v => v = (.agg #[(.slice p71 A_m.places.length q72), (.slice p74 A_m.tris.length q75)])),
    Fact.pure [] (fun v => v = (.agg #[(.slice p5 A_m.places.length q6), (.slice p8 A_m.tris.length q9)])),
    Fact.mem [42] (fun v w' => ∃ cs_1 : List Value, ∃ Lw_2 : List Nat, v = (.agg cs_1.toArray) ∧ Hang w114.heap.size w' (fun u => RMeshT u A_m cs_1) ∧ WLM w114.heap.size w' Lw_2 (cellN cs_1 0) (cellN cs_1 1) A_m) (by rintro v w1 w2 hx ⟨z1, z2, rfl, k0, k1⟩; exact ⟨_, _, rfl, (k0.ext hx), (k1.same (Same.of_ext hx))⟩),
    Fact.pure [41, 43] (fun v => v = (Bo (sameMesh A_m A_m))),
    Fact.pure [44] (fun v => v = (Bo (!(sameMesh A_m A_m))))]) mixed (by kernel_rfl) (by intro _ _ d _ _ h; cases d <;> exact h) ?_
  obtain ⟨w124, hw126⟩ : ∃ w', w' = World.drew w114 := ⟨_, rfl⟩; rw [← hw126]; have E125 : Ext w114 w124 := by rw [hw126]; exact Ext.draw _
  clear hw126
  have X127 := Ext.gr X118 E125
  refine RW_d _ rfl (fun v => by dsimp only [List.set]; try rfl) (fun u hu hF => ?_) (fun v128 => ?_)
  · clear hF
    refine doesG_un rfl ?_
    refine (does_loadAgg (cs := [(.slice p71 A_m.places.length q72), (.slice p74 A_m.tris.length q75)]) (ev rfl) Try.isAgg32 Try.sizeOf32 (Blk.cells ((((hB87.ext E91).ext E115).ext E125).ext hu)) rfl).mono ?_; rintro _ _ ⟨rfl, rfl⟩
    exact ⟨rfl, Ext.refl _⟩
  refine RW_d _ rfl (fun v => by dsimp only [List.set]; try rfl) (fun u hu hF => ?_) (fun v129 => ?_)
  · clear hF
    refine doesG_un rfl ?_
    refine (does_loadAgg (cs := [(.slice p5 A_m.places.length q6), (.slice p8 A_m.tris.length q9)]) (ev rfl) Try.isAgg25 Try.sizeOf25 (Blk.cells ((((((((((hB14.ext E21).ext E31).ext E50).ext E59).ext E81).wr W86 (Nat.ne_of_lt n83)).ext E91).ext E115).ext E125).ext hu)) rfl).mono ?_; rintro _ _ ⟨rfl, rfl⟩
    exact ⟨rfl, Ext.refl _⟩
  refine RW_d _ rfl (fun v => by dsimp only [List.set]; try rfl) (fun u hu hF => ?_) (fun v130 => ?_)
  · have h42_ : v129 = (.agg #[(.slice p5 A_m.places.length q6), (.slice p8 A_m.tris.length q9)]) := hF.1
    clear hF
    refine doesG_un rfl ?_
    obtain rfl := h42_
    refine (does_call (args := #[(.agg #[(.slice p5 A_m.places.length q6), (.slice p8 A_m.tris.length q9)])]) cal9 (evs rfl) (c_laws_toMesh [(.slice p5 A_m.places.length q6), (.slice p8 A_m.tris.length q9)] A_m _ ⟨(.slice p5 A_m.places.length q6), (.slice p8 A_m.tris.length q9), rfl, (Sl.ext (Sl.ext hs7 RV3.mono (Ext.gr X118 E125)) RV3.mono hu), (Sl.ext (Sl.ext hs10 (RS.mono RI.mono) (Ext.gr X118 E125)) (RS.mono RI.mono) hu)⟩ (by omega))).mono ?_; rintro v u' ⟨hx, ⟨csn1, Lwn2, hv, k0, k1⟩⟩
    exact ⟨⟨csn1, Lwn2, hv, (Hang.le k0 (Nat.le_trans (Below.size E125) (Below.size hu))), (WLM.le k1 (Nat.le_trans (Below.size E125) (Below.size hu)))⟩, hx⟩
  refine RW_d _ rfl (fun v => by dsimp only [List.set]; try rfl) (fun u hu hF => ?_) (fun v131 => ?_)
  · have h41_ : v128 = (.agg #[(.slice p71 A_m.places.length q72), (.slice p74 A_m.tris.length q75)]) := hF.1
    have h43_ : ∃ cs_1 : List Value, ∃ Lw_2 : List Nat, v130 = (.agg cs_1.toArray) ∧ Hang w114.heap.size u (fun u => RMeshT u A_m cs_1) ∧ WLM w114.heap.size u Lw_2 (cellN cs_1 0) (cellN cs_1 1) A_m := hF.2.1
    clear hF
    refine doesG_un rfl ?_
    obtain rfl := h41_
    obtain ⟨cs43_2, Lw43_3, rfl, hh43_1, hw43_4⟩ := h43_
    obtain ⟨y43_5, y43_7, rfl, h43_6, h43_8⟩ := hh43_1.get
    have hh43_6 := h43_6; obtain ⟨p43_9, q43_10, rfl⟩ := Sl.shape h43_6
    have hh43_8 := h43_8; obtain ⟨p43_11, q43_12, rfl⟩ := Sl.shape h43_8
    refine (does_call (args := #[(.agg #[(.slice p71 A_m.places.length q72), (.slice p74 A_m.tris.length q75)]), (.agg #[(.slice p43_9 A_m.places.length q43_10), (.slice p43_11 A_m.tris.length q43_12)])]) cal12 (evs rfl) (c_laws_eqMesh [(.slice p71 A_m.places.length q72), (.slice p74 A_m.tris.length q75)] A_m [(.slice p43_9 A_m.places.length q43_10), (.slice p43_11 A_m.tris.length q43_12)] A_m _ ⟨(.slice p71 A_m.places.length q72), (.slice p74 A_m.tris.length q75), rfl, (Sl.ext (hh73 _ ((((((Same.refl _ _).ext E81).wr W86 (.inr (Nat.le_trans (Nat.le_refl _) hb79))).ext E91).ext E115).ext E125)) RV3.mono hu), (Sl.ext (hh76 _ ((((((Same.refl _ _).ext E81).wr W86 (.inr (Nat.le_trans (Nat.le_refl _) hb79))).ext E91).ext E115).ext E125)) (RS.mono RI.mono) hu)⟩ ⟨(.slice p43_9 A_m.places.length q43_10), (.slice p43_11 A_m.tris.length q43_12), rfl, hh43_6, hh43_8⟩)).mono ?_; rintro v u' ⟨hx, hv⟩
    exact ⟨hv, hx⟩
  refine RW_d _ rfl (fun v => by dsimp only [List.set]; try rfl) (fun u hu hF => ?_) (fun v132 => ?_)
  · have h44_ : v131 = (Bo (sameMesh A_m A_m)) := hF.1
    clear hF
    refine doesG_un rfl ?_
    obtain rfl := h44_
    refine (does_not (ev rfl)).mono ?_; rintro _ _ ⟨rfl, rfl⟩
    exact ⟨rfl, Ext.refl _⟩
  refine RW_fin ?_; intro w133 E134 hP135
  obtain ⟨⟨⟨⟨⟨-, -⟩, -⟩, -⟩, -⟩, q136⟩ := hP135
  have X137 := Ext.gr X127 E134
  have q136 : v132 = (Bo (!(sameMesh A_m A_m))) := q136
  obtain rfl := q136
  show wpList _ _ _ _ (fr [_, _, _, _, _, _, _, _, _, _, _, _, _, _, _, _, _, _, _, _, _, _, _, _, _, _, _, _, _, _, _, _, _, _, _, _, _, _, _, _, _, _, _, _, _, _, _, _, _, _, _, _, _, _, _, _, _, _, _, _, _, _, _, _, _, _, _, _, _, _, _, _, _, _, _, _, _, _, _, _, _, _, _, _, _, _, _, _, _, _, _, _, _, _, _, _]) _
  refine wpList_nil (hK123 _ _ ?_)
  refine wp_cond_split (t := !(sameMesh A_m A_m)) (ev rfl) (fun c138 => ?_) (fun c138 => ?_)
  · rw [Bool.not_eq_true'] at c138
    have c138' := c138
    (try simp only [hβ1, hβ2, sameX_selfI, sameMesh_self, bne_self_eq_false] at c138')
    (try simp only [hβ1, hβ2] at c138')
    (try simp only [icmp, Bool.and_eq_true, Bool.or_eq_true, Bool.and_eq_false_iff, Bool.or_eq_false_iff, Bool.not_eq_true', Bool.not_eq_false', decide_eq_true_eq, decide_eq_false_iff_not, beq_iff_eq, bne_iff_ne, beq_eq_false_iff_ne, bne_eq_false_iff_eq] at c138')
    refine wp_seq_k fun K139 hK139 => ?_
    refine wp_region_lit ?_
    refine q_is rfl rfl (does_assign (u := (Bo false)) (ev rfl)) (by dsimp only [List.set]; try rfl) ?_
    refine wpList_nil (hK139 _ _ ?_)
    refine wp_ret ?_
    dsimp only [Exit.then, Exit.inBlock]
    refine ret_val (v := (Bo false)) (res_T rfl (slot rfl)) X137 ?_
    try simp only [hβ1, hβ2, sameX_selfI, sameMesh_self, bne_self_eq_false] at c28 c119 c138
    have x140 : true = false := by first | with_reducible rfl | (exfalso; omega) | (exfalso; simp only [mkL_len] at * <;> omega) | (exfalso; rcases c138' with ((hh | hh) | hh) | hh <;> first | omega | (exact Bool.noConfusion hh) | (exact absurd rfl hh)) | (exfalso; rcases c138' with (hh | hh) | hh <;> first | omega | (exact Bool.noConfusion hh)) | (exfalso; rcases c138' with hh | hh <;> first | omega | (exact Bool.noConfusion hh)) | (simp only [sameX_selfI, sameMesh_self, bne_self_eq_false, hβ1, hβ2, c28, c119, c138]; done) | (simp [sameX_selfI, sameMesh_self, bne_self_eq_false, hβ1, hβ2, c28, c119, c138]; done) | (simp_all; done) | (exfalso; simp_all; done)
    exact (by first | with_reducible rfl | rw [x140] | rfl)
  rw [Bool.not_eq_false'] at c138
  have c138' := c138
  (try simp only [hβ1, hβ2, sameX_selfI, sameMesh_self, bne_self_eq_false] at c138')
  (try simp only [hβ1, hβ2] at c138')
  (try simp only [icmp, Bool.and_eq_true, Bool.or_eq_true, Bool.and_eq_false_iff, Bool.or_eq_false_iff, Bool.not_eq_true', Bool.not_eq_false', decide_eq_true_eq, decide_eq_false_iff_not, beq_iff_eq, bne_iff_ne, beq_eq_false_iff_ne, bne_eq_false_iff_eq] at c138')
  refine wp_skip (hK122 _ _ ?_)
  refine wp_seq_k fun K141 hK141 => ?_
  refine wp_region_lit ?_
  refine q_is rfl rfl (does_assign (u := (Iv 1)) (ev rfl)) (by dsimp only [List.set]; try rfl) ?_
  refine wpList_nil (hK141 _ _ ?_)
  refine wp_seq_k fun K142 hK142 => ?_
  refine wp_region_lit ?_
  refine q_is rfl rfl (does_loadAgg (cs := [(.slice p71 A_m.places.length q72), (.slice p74 A_m.tris.length q75)]) (ev rfl) Try.isAgg32 Try.sizeOf32 (Blk.cells ((((hB87.ext E91).ext E115).ext E125).ext E134)) rfl) (by dsimp only [List.set]; try rfl) ?_
  refine q_is rfl rfl (does_move (u := (Iv 1)) (ev rfl)) (by dsimp only [List.set]; try rfl) ?_
  refine seqd rfl rfl (does_callK (args := #[(.agg #[(.slice p71 A_m.places.length q72), (.slice p74 A_m.tris.length q75)]), (Iv 1)]) cal13 (evs rfl) (c_laws_markMesh (.slice p71 A_m.places.length q72) (.slice p74 A_m.tris.length q75) A_m Lw63 w51.heap.size 1 _ (hw77.same (((((((Same.refl _ _).ext E81).wr W86 (.inr (Nat.le_trans (Nat.le_refl _) hb79))).ext E91).ext E115).ext E125).ext E134)) (by omega) (by first | omega | (unfold meSz; omega) | omega))) ?_; rintro _ w143 ⟨K144, rfl, hP145, hT146⟩
  have X147 := Below.kl X137 K144 (fun c hc => Nat.le_trans (Below.size (Ext.gr (Ext.gr (Ext.gr (Ext.gr (Ext.refl _) E15) E21) E31) E50)) (hw77.1 c hc).1) (Nat.le_refl _)
  show wpList _ _ _ _ (fr [_, _, _, _, _, _, _, _, _, _, _, _, _, _, _, _, _, _, _, _, _, _, _, _, _, _, _, _, _, _, _, _, _, _, _, _, _, _, _, _, _, _, _, _, _, _, _, _, _, _, _, _, _, _, _, _, _, _, _, _, _, _, _, _, _, _, _, _, _, _, _, _, _, _, _, _, _, _, _, _, _, _, _, _, _, _, _, _, _, _, _, _, _, _, _, _]) _
  refine q_is rfl rfl (does_assign (u := (Iv (1 + meSz A_m))) (ev rfl)) (by dsimp only [List.set]; try rfl) ?_
  refine wpList_nil (hK142 _ _ ?_)
  refine wp_seq_k fun K148 hK148 => ?_
  refine wp_seq_k fun K149 hK149 => ?_
  obtain ⟨β3, hβ3⟩ : ∃ b : Bool, b = (icmp .lss (1 + meSz A_m) 0) := ⟨_, rfl⟩
  obtain ⟨β4, hβ4⟩ : ∃ b : Bool, b = (sameX eqI (usedR A_m) (usedR A_m)) := ⟨_, rfl⟩
  obtain ⟨β5, hβ5⟩ : ∃ b : Bool, b = ((meshOk A_m) != (meshOk A_m)) := ⟨_, rfl⟩
  refine region_text (
    [Fact.pure [] (fun v => v = (Iv (1 + meSz A_m))),
    Fact.pure [49] (fun v => v = (Bo β3)),
    Fact.pure [50] (fun v => v = (Bo β3)),
    Fact.pure [51] (fun v => β3 = false → v = (.slice p100 ((usedR A_m).length) q101)),
    Fact.pure [51] (fun v => β3 = false → v = (.slice p56 ((usedR A_m).length) q57)),
    Fact.pure [52, 53, 51] (fun v => β3 = false → v = (Bo β4)),
    Fact.pure [54, 51] (fun v => β3 = false → v = (Bo (!β4))),
    Fact.pure [51, 55] (fun v => v = (Bo (β3 || (!β4)))),
    Fact.pure [56] (fun v => v = (Bo (β3 || (!β4)))),
    Fact.pure [57] (fun v => (β3 || (!β4)) = false → v = (Bo (meshOk A_m))),
    Fact.pure [57] (fun v => (β3 || (!β4)) = false → v = (Bo (meshOk A_m))),
    Fact.pure [58, 59, 57] (fun v => (β3 || (!β4)) = false → v = (Bo β5)),
    Fact.pure [57, 60] (fun v => v = (Bo ((β3 || (!β4)) || β5)))]) (by simp [Fact.pure, Fact.mem]) ?_
  refine RW_d _ rfl (fun v => by dsimp only [List.set]; try rfl) (fun u hu hF => ?_) (fun v150 => ?_)
  · clear hF
    refine doesG_un rfl ?_
    refine (does_move (u := (Iv (1 + meSz A_m))) (ev rfl)).mono ?_; rintro _ _ ⟨rfl, rfl⟩
    exact ⟨rfl, Ext.refl _⟩
  refine RW_d _ rfl (fun v => by dsimp only [List.set]; try rfl) (fun u hu hF => ?_) (fun v151 => ?_)
  · have h49_ : v150 = (Iv (1 + meSz A_m)) := hF.1
    clear hF
    refine doesG_un rfl ?_
    obtain rfl := h49_
    refine (does_icmp (p := 1 + meSz A_m) (q := 0) (.inr (.inr (.inl rfl))) (ev rfl) (ev rfl)).mono ?_; rintro _ _ ⟨rfl, rfl⟩
    exact ⟨(by first | rfl | (show _ = _; simp only [hβ3]; done) | (show _ = _; simp only [hβ3]; rfl)), Ext.refl _⟩
  refine RW_d _ rfl (fun v => by dsimp only [List.set]; try rfl) (fun u hu hF => ?_) (fun v152 => ?_)
  · have h50_ : v151 = (Bo β3) := hF.1
    clear hF
    refine doesG_un rfl ?_
    obtain rfl := h50_
    refine (does_move (u := (Bo β3)) (ev rfl)).mono ?_; rintro _ _ ⟨rfl, rfl⟩
    exact ⟨rfl, Ext.refl _⟩
  refine RW_d _ rfl (fun v => by dsimp only [List.set]; try rfl) (fun u hu hF => ?_) (fun v153 => ?_)
  · have h51_ : v152 = (Bo β3) := hF.1
    clear hF
    obtain rfl := h51_
    refine doesG_g (b := β3) rfl (yld rfl rfl) (fun hg1 => ?_) (fun hc => ⟨fun hg1 => absurd hg1 hc, Ext.refl _⟩)
    refine (does_move (u := (.slice p100 ((usedR A_m).length) q101)) (ev rfl)).mono ?_; rintro _ _ ⟨rfl, rfl⟩
    exact ⟨fun _ => rfl, Ext.refl _⟩
  refine RW_d _ rfl (fun v => by dsimp only [List.set]; try rfl) (fun u hu hF => ?_) (fun v154 => ?_)
  · have h51_ : v152 = (Bo β3) := hF.1
    clear hF
    obtain rfl := h51_
    refine doesG_g (b := β3) rfl (yld rfl rfl) (fun hg1 => ?_) (fun hc => ⟨fun hg1 => absurd hg1 hc, Ext.refl _⟩)
    refine (does_move (u := (.slice p56 ((usedR A_m).length) q57)) (ev rfl)).mono ?_; rintro _ _ ⟨rfl, rfl⟩
    exact ⟨fun _ => rfl, Ext.refl _⟩
  refine RW_d _ rfl (fun v => by dsimp only [List.set]; try rfl) (fun u hu hF => ?_) (fun v155 => ?_)
  · have h52_ : β3 = false → v153 = (.slice p100 ((usedR A_m).length) q101) := hF.1
    have h53_ : β3 = false → v154 = (.slice p56 ((usedR A_m).length) q57) := hF.2.1
    have h51_ : v152 = (Bo β3) := hF.2.2.1
    clear hF
    obtain rfl := h51_
    refine doesG_g (b := β3) rfl (yld rfl rfl) (fun hg1 => ?_) (fun hc => ⟨fun hg1 => absurd hg1 hc, Ext.refl _⟩)
    obtain rfl := h52_ hg1
    obtain rfl := h53_ hg1
    refine (does_call (args := #[(.slice p100 ((usedR A_m).length) q101), (.slice p56 ((usedR A_m).length) q57)]) cal11 (evs rfl) (c_laws_eqInt64S (.slice p100 ((usedR A_m).length) q101) (usedR A_m) (.slice p56 ((usedR A_m).length) q57) (usedR A_m) _ (Sl.ext (hh93 _ (((((Same.refl _ _).ext E115).ext E125).ext E134).kl K144 (fun c hc => .inl (Nat.lt_of_lt_of_le (hw77.1 c hc).2 (Nat.le_trans (Below.size E81) (Nat.le_of_eq (Eq.symm (Wr.size W86)))))))) RI.mono hu) (Sl.ext (hh52 _ (((((((((Same.refl _ _).ext E59).ext E81).wr W86 (.inr (Nat.le_trans (Below.size E59) hb79))).ext E91).ext E115).ext E125).ext E134).kl K144 (fun c hc => .inr (Nat.le_trans (Nat.le_refl _) (hw77.1 c hc).1)))) RI.mono hu))).mono ?_; rintro v u' ⟨hx, hv⟩
    exact ⟨fun _ => hv.trans (by simp only [hβ4]), hx⟩
  refine RW_d _ rfl (fun v => by dsimp only [List.set]; try rfl) (fun u hu hF => ?_) (fun v156 => ?_)
  · have h54_ : β3 = false → v155 = (Bo β4) := hF.1
    have h51_ : v152 = (Bo β3) := hF.2.1
    clear hF
    obtain rfl := h51_
    refine doesG_g (b := β3) rfl (yld rfl rfl) (fun hg1 => ?_) (fun hc => ⟨fun hg1 => absurd hg1 hc, Ext.refl _⟩)
    obtain rfl := h54_ hg1
    refine (does_not (ev rfl)).mono ?_; rintro _ _ ⟨rfl, rfl⟩
    exact ⟨fun _ => rfl, Ext.refl _⟩
  refine RW_d _ rfl (fun v => by dsimp only [List.set]; try rfl) (fun u hu hF => ?_) (fun v157 => ?_)
  · have h51_ : v152 = (Bo β3) := hF.1
    have h55_ : β3 = false → v156 = (Bo (!β4)) := hF.2.1
    clear hF
    refine doesG_un rfl ?_
    skip
    obtain rfl := h51_
    refine (does_pick (b := β3) (u := (Bo true)) (v := v156) (ev rfl) (ev rfl) (ev rfl)).mono ?_; rintro _ _ ⟨rfl, rfl⟩; refine ⟨?_, Ext.refl _⟩; skip
    cases hbb : β3
    all_goals first | (show _ = _; simp only [↓reduceIte, Bool.true_and, Bool.false_and, Bool.true_or, Bool.false_or, Bool.false_eq_true]; done) | (have e_ := h55_ hbb; subst e_; show _ = _; simp only [↓reduceIte, Bool.true_and, Bool.false_and, Bool.true_or, Bool.false_or, Bool.false_eq_true]; done) | rfl | (have e_ := h55_ hbb; subst e_; rfl) | (simp [hbb] at h55_ ⊢; first | done | rfl | (subst h55_; rfl) | simp_all) | (simp [hbb] at h55_ ⊢; done)
  refine RW_d _ rfl (fun v => by dsimp only [List.set]; try rfl) (fun u hu hF => ?_) (fun v158 => ?_)
  · have h56_ : v157 = (Bo (β3 || (!β4))) := hF.1
    clear hF
    refine doesG_un rfl ?_
    obtain rfl := h56_
    refine (does_move (u := (Bo (β3 || (!β4)))) (ev rfl)).mono ?_; rintro _ _ ⟨rfl, rfl⟩
    exact ⟨rfl, Ext.refl _⟩
  refine RW_d _ rfl (fun v => by dsimp only [List.set]; try rfl) (fun u hu hF => ?_) (fun v159 => ?_)
  · have h57_ : v158 = (Bo (β3 || (!β4))) := hF.1
    clear hF
    obtain rfl := h57_
    refine doesG_g (b := (β3 || (!β4))) rfl (yld rfl rfl) (fun hg1 => ?_) (fun hc => ⟨fun hg1 => absurd hg1 hc, Ext.refl _⟩)
    refine (does_move (u := (Bo (meshOk A_m))) (ev rfl)).mono ?_; rintro _ _ ⟨rfl, rfl⟩
    exact ⟨fun _ => rfl, Ext.refl _⟩
  refine RW_d _ rfl (fun v => by dsimp only [List.set]; try rfl) (fun u hu hF => ?_) (fun v160 => ?_)
  · have h57_ : v158 = (Bo (β3 || (!β4))) := hF.1
    clear hF
    obtain rfl := h57_
    refine doesG_g (b := (β3 || (!β4))) rfl (yld rfl rfl) (fun hg1 => ?_) (fun hc => ⟨fun hg1 => absurd hg1 hc, Ext.refl _⟩)
    refine (does_move (u := (Bo (meshOk A_m))) (ev rfl)).mono ?_; rintro _ _ ⟨rfl, rfl⟩
    exact ⟨fun _ => rfl, Ext.refl _⟩
  refine RW_d _ rfl (fun v => by dsimp only [List.set]; try rfl) (fun u hu hF => ?_) (fun v161 => ?_)
  · have h58_ : (β3 || (!β4)) = false → v159 = (Bo (meshOk A_m)) := hF.1
    have h59_ : (β3 || (!β4)) = false → v160 = (Bo (meshOk A_m)) := hF.2.1
    have h57_ : v158 = (Bo (β3 || (!β4))) := hF.2.2.1
    clear hF
    obtain rfl := h57_
    refine doesG_g (b := (β3 || (!β4))) rfl (yld rfl rfl) (fun hg1 => ?_) (fun hc => ⟨fun hg1 => absurd hg1 hc, Ext.refl _⟩)
    obtain rfl := h58_ hg1
    obtain rfl := h59_ hg1
    refine (does_bne (p := (meshOk A_m)) (q := (meshOk A_m)) Try.underlying4 (ev rfl) (ev rfl)).mono ?_; rintro _ _ ⟨rfl, rfl⟩
    exact ⟨fun _ => (by first | rfl | (show _ = _; simp only [hβ5]; done) | (show _ = _; simp only [hβ5]; rfl)), Ext.refl _⟩
  refine RW_d _ rfl (fun v => by dsimp only [List.set]; try rfl) (fun u hu hF => ?_) (fun v162 => ?_)
  · have h57_ : v158 = (Bo (β3 || (!β4))) := hF.1
    have h60_ : (β3 || (!β4)) = false → v161 = (Bo β5) := hF.2.1
    clear hF
    refine doesG_un rfl ?_
    skip
    obtain rfl := h57_
    refine (does_pick (b := (β3 || (!β4))) (u := (Bo true)) (v := v161) (ev rfl) (ev rfl) (ev rfl)).mono ?_; rintro _ _ ⟨rfl, rfl⟩; refine ⟨?_, Ext.refl _⟩; skip
    cases hbb : (β3 || (!β4))
    all_goals first | (show _ = _; simp only [↓reduceIte, Bool.true_and, Bool.false_and, Bool.true_or, Bool.false_or, Bool.false_eq_true]; done) | (have e_ := h60_ hbb; subst e_; show _ = _; simp only [↓reduceIte, Bool.true_and, Bool.false_and, Bool.true_or, Bool.false_or, Bool.false_eq_true]; done) | rfl | (have e_ := h60_ hbb; subst e_; rfl) | (simp [hbb] at h60_ ⊢; first | done | rfl | (subst h60_; rfl) | simp_all) | (simp [hbb] at h60_ ⊢; done)
  refine RW_fin ?_; intro w163 E164 hP165
  obtain ⟨⟨⟨⟨⟨⟨⟨⟨⟨⟨⟨⟨⟨-, -⟩, -⟩, -⟩, -⟩, -⟩, -⟩, -⟩, -⟩, -⟩, -⟩, -⟩, -⟩, q166⟩ := hP165
  have X167 := Ext.gr X147 E164
  have q166 : v162 = (Bo ((β3 || (!β4)) || β5)) := q166
  obtain rfl := q166
  show wpList _ _ _ _ (fr [_, _, _, _, _, _, _, _, _, _, _, _, _, _, _, _, _, _, _, _, _, _, _, _, _, _, _, _, _, _, _, _, _, _, _, _, _, _, _, _, _, _, _, _, _, _, _, _, _, _, _, _, _, _, _, _, _, _, _, _, _, _, _, _, _, _, _, _, _, _, _, _, _, _, _, _, _, _, _, _, _, _, _, _, _, _, _, _, _, _, _, _, _, _, _, _]) _
  refine wpList_nil (hK149 _ _ ?_)
  refine wp_cond_split (t := (β3 || (!β4)) || β5) (ev rfl) (fun c168 => ?_) (fun c168 => ?_)
  · have c168' := c168
    (try simp only [hβ1, hβ2, hβ3, hβ4, hβ5, sameX_selfI, sameMesh_self, bne_self_eq_false] at c168')
    (try simp only [hβ1, hβ2, hβ3, hβ4, hβ5] at c168')
    (try simp only [icmp, Bool.and_eq_true, Bool.or_eq_true, Bool.and_eq_false_iff, Bool.or_eq_false_iff, Bool.not_eq_true', Bool.not_eq_false', decide_eq_true_eq, decide_eq_false_iff_not, beq_iff_eq, bne_iff_ne, beq_eq_false_iff_ne, bne_eq_false_iff_eq] at c168')
    refine wp_seq_k fun K169 hK169 => ?_
    refine wp_region_lit ?_
    refine q_is rfl rfl (does_assign (u := (Bo false)) (ev rfl)) (by dsimp only [List.set]; try rfl) ?_
    refine wpList_nil (hK169 _ _ ?_)
    refine wp_ret ?_
    dsimp only [Exit.then, Exit.inBlock]
    refine ret_val (v := (Bo false)) (res_T rfl (slot rfl)) X167 ?_
    try simp only [hβ1, hβ2, hβ3, hβ4, hβ5, sameX_selfI, sameMesh_self, bne_self_eq_false] at c28 c119 c138 c168
    have x170 : true = false := by first | with_reducible rfl | (exfalso; omega) | (exfalso; simp only [mkL_len] at * <;> omega) | (exfalso; rcases c168' with ((hh | hh) | hh) | hh <;> first | omega | (exact Bool.noConfusion hh) | (exact absurd rfl hh)) | (exfalso; rcases c168' with (hh | hh) | hh <;> first | omega | (exact Bool.noConfusion hh)) | (exfalso; rcases c168' with hh | hh <;> first | omega | (exact Bool.noConfusion hh)) | (simp only [sameX_selfI, sameMesh_self, bne_self_eq_false, hβ1, hβ2, hβ3, hβ4, hβ5, c28, c119, c138, c168]; done) | (simp [sameX_selfI, sameMesh_self, bne_self_eq_false, hβ1, hβ2, hβ3, hβ4, hβ5, c28, c119, c138, c168]; done) | (simp_all; done) | (exfalso; simp_all; done)
    exact (by first | with_reducible rfl | rw [x170] | rfl)
  have c168' := c168
  (try simp only [hβ1, hβ2, hβ3, hβ4, hβ5, sameX_selfI, sameMesh_self, bne_self_eq_false] at c168')
  (try simp only [hβ1, hβ2, hβ3, hβ4, hβ5] at c168')
  (try simp only [icmp, Bool.and_eq_true, Bool.or_eq_true, Bool.and_eq_false_iff, Bool.or_eq_false_iff, Bool.not_eq_true', Bool.not_eq_false', decide_eq_true_eq, decide_eq_false_iff_not, beq_iff_eq, bne_iff_ne, beq_eq_false_iff_ne, bne_eq_false_iff_eq] at c168')
  refine wp_skip (hK148 _ _ ?_)
  refine wp_seq_k fun K171 hK171 => ?_
  refine wp_region_lit ?_
  refine q_is rfl rfl (does_assign (u := (Iv 1)) (ev rfl)) (by dsimp only [List.set]; try rfl) ?_
  refine wpList_nil (hK171 _ _ ?_)
  refine wp_seq_k fun K172 hK172 => ?_
  refine wp_region_lit ?_
  refine q_is rfl rfl (does_move (u := (.slice p100 ((usedR A_m).length) q101)) (ev rfl)) (by dsimp only [List.set]; try rfl) ?_
  refine q_is rfl rfl (does_move (u := (Iv 1)) (ev rfl)) (by dsimp only [List.set]; try rfl) ?_
  refine seqd rfl rfl (does_callK (args := #[(.slice p100 ((usedR A_m).length) q101), (Iv 1)]) cal14 (evs rfl) (c_laws_markInt64S (.slice p100 ((usedR A_m).length) q101) (usedR A_m).length Lw95 w88.heap.size 1 _ (hw102.same ((((((Same.refl _ _).ext E115).ext E125).ext E134).kl K144 (fun c hc => .inl (Nat.lt_of_lt_of_le (hw77.1 c hc).2 (Nat.le_trans (Below.size E81) (Nat.le_of_eq (Eq.symm (Wr.size W86))))))).ext E164)) (by omega) (by first | omega | omega))) ?_; rintro _ w173 ⟨K174, rfl, hM175⟩
  have X176 := Below.kl X167 K174 (fun c hc => Nat.le_trans (Below.size (Below.wr (Ext.gr (Ext.gr (Ext.gr (Ext.gr (Ext.gr (Ext.gr (Ext.refl _) E15) E21) E31) E50) E59) E81) W86 g84)) (hw102.1 c hc).1) (Nat.le_refl _)
  show wpList _ _ _ _ (fr [_, _, _, _, _, _, _, _, _, _, _, _, _, _, _, _, _, _, _, _, _, _, _, _, _, _, _, _, _, _, _, _, _, _, _, _, _, _, _, _, _, _, _, _, _, _, _, _, _, _, _, _, _, _, _, _, _, _, _, _, _, _, _, _, _, _, _, _, _, _, _, _, _, _, _, _, _, _, _, _, _, _, _, _, _, _, _, _, _, _, _, _, _, _, _, _]) _
  refine q_is rfl rfl (does_assign (u := (Iv (1 + ((usedR A_m).length : Int) * 1))) (ev rfl)) (by dsimp only [List.set]; try rfl) ?_
  refine wpList_nil (hK172 _ _ ?_)
  refine wp_seq_k fun K179 hK179 => ?_
  refine wp_region_lit ?_
  refine q_is rfl rfl (does_assign (u := (Iv 1)) (ev rfl)) (by dsimp only [List.set]; try rfl) ?_
  refine wpList_nil (hK179 _ _ ?_)
  refine wp_seq_k fun K180 hK180 => ?_
  refine wp_region_lit ?_
  refine q_is rfl rfl (does_move (u := (.slice p100 ((usedR A_m).length) q101)) (ev rfl)) (by dsimp only [List.set]; try rfl) ?_
  refine q_is rfl rfl (does_move (u := (Iv 1)) (ev rfl)) (by dsimp only [List.set]; try rfl) ?_
  refine seqd rfl rfl (does_call (args := #[(.slice p100 ((usedR A_m).length) q101), (Iv 1)]) cal15 (evs rfl) (c_laws_heldInt64S (.slice p100 ((usedR A_m).length) q101) (mkL fI 1 1 (usedR A_m).length) 1 _ hM175.get (by exact mkL_eq) (by omega) (by (try dsimp only); rw [mkL_len]; omega))) ?_; rintro _ w182 ⟨E181, rfl⟩
  have X183 := Ext.gr X176 E181
  show wpList _ _ _ _ (fr [_, _, _, _, _, _, _, _, _, _, _, _, _, _, _, _, _, _, _, _, _, _, _, _, _, _, _, _, _, _, _, _, _, _, _, _, _, _, _, _, _, _, _, _, _, _, _, _, _, _, _, _, _, _, _, _, _, _, _, _, _, _, _, _, _, _, _, _, _, _, _, _, _, _, _, _, _, _, _, _, _, _, _, _, _, _, _, _, _, _, _, _, _, _, _, _]) _
  refine q_is rfl rfl (does_assign (u := (Iv (1 + ((mkL fI 1 1 (usedR A_m).length).length : Int) * 1))) (ev rfl)) (by dsimp only [List.set]; try rfl) ?_
  refine wpList_nil (hK180 _ _ ?_)
  refine wp_seq_k fun K184 hK184 => ?_
  refine wp_seq_k fun K185 hK185 => ?_
  refine wp_region_lit ?_
  refine q_is rfl rfl (does_move (u := (Iv (1 + ((mkL fI 1 1 (usedR A_m).length).length : Int) * 1))) (ev rfl)) (by dsimp only [List.set]; try rfl) ?_
  refine q_is rfl rfl (does_icmp (p := 1 + ((mkL fI 1 1 (usedR A_m).length).length : Int) * 1) (q := 0) (.inr (.inr (.inl rfl))) (ev rfl) (ev rfl)) (by dsimp only [List.set]; try rfl) ?_
  refine wpList_nil (hK185 _ _ ?_)
  refine wp_cond_split (t := icmp .lss (1 + ((mkL fI 1 1 (usedR A_m).length).length : Int) * 1) 0) (ev rfl) (fun c186 => ?_) (fun c186 => ?_)
  · have c186' := c186
    (try simp only [hβ1, hβ2, hβ3, hβ4, hβ5, sameX_selfI, sameMesh_self, bne_self_eq_false] at c186')
    (try simp only [hβ1, hβ2, hβ3, hβ4, hβ5] at c186')
    (try simp only [icmp, Bool.and_eq_true, Bool.or_eq_true, Bool.and_eq_false_iff, Bool.or_eq_false_iff, Bool.not_eq_true', Bool.not_eq_false', decide_eq_true_eq, decide_eq_false_iff_not, beq_iff_eq, bne_iff_ne, beq_eq_false_iff_ne, bne_eq_false_iff_eq] at c186')
    refine wp_seq_k fun K187 hK187 => ?_
    refine wp_region_lit ?_
    refine q_is rfl rfl (does_assign (u := (Bo false)) (ev rfl)) (by dsimp only [List.set]; try rfl) ?_
    refine wpList_nil (hK187 _ _ ?_)
    refine wp_ret ?_
    dsimp only [Exit.then, Exit.inBlock]
    refine ret_val (v := (Bo false)) (res_T rfl (slot rfl)) X183 ?_
    try simp only [hβ1, hβ2, hβ3, hβ4, hβ5, sameX_selfI, sameMesh_self, bne_self_eq_false] at c28 c119 c138 c168 c186
    have x188 : true = false := by first | with_reducible rfl | (exfalso; omega) | (exfalso; simp only [mkL_len] at * <;> omega) | (exfalso; rcases c186' with ((hh | hh) | hh) | hh <;> first | omega | (exact Bool.noConfusion hh) | (exact absurd rfl hh)) | (exfalso; rcases c186' with (hh | hh) | hh <;> first | omega | (exact Bool.noConfusion hh)) | (exfalso; rcases c186' with hh | hh <;> first | omega | (exact Bool.noConfusion hh)) | (simp only [sameX_selfI, sameMesh_self, bne_self_eq_false, hβ1, hβ2, hβ3, hβ4, hβ5, c28, c119, c138, c168, c186]; done) | (simp [sameX_selfI, sameMesh_self, bne_self_eq_false, hβ1, hβ2, hβ3, hβ4, hβ5, c28, c119, c138, c168, c186]; done) | (simp_all; done) | (exfalso; simp_all; done)
    exact (by first | with_reducible rfl | rw [x188] | rfl)
  have c186' := c186
  (try simp only [hβ1, hβ2, hβ3, hβ4, hβ5, sameX_selfI, sameMesh_self, bne_self_eq_false] at c186')
  (try simp only [hβ1, hβ2, hβ3, hβ4, hβ5] at c186')
  (try simp only [icmp, Bool.and_eq_true, Bool.or_eq_true, Bool.and_eq_false_iff, Bool.or_eq_false_iff, Bool.not_eq_true', Bool.not_eq_false', decide_eq_true_eq, decide_eq_false_iff_not, beq_iff_eq, bne_iff_ne, beq_eq_false_iff_ne, bne_eq_false_iff_eq] at c186')
  refine wp_skip (hK184 _ _ ?_)
  refine wp_seq_k fun K189 hK189 => ?_
  refine wp_seq_k fun K190 hK190 => ?_
  refine wp_region_lit ?_
  refine q_is rfl rfl (does_move (u := (Iv (1 + ((mkL fI 1 1 (usedR A_m).length).length : Int) * 1))) (ev rfl)) (by dsimp only [List.set]; try rfl) ?_
  refine q_is rfl rfl (does_move (u := (Iv (1 + ((usedR A_m).length : Int) * 1))) (ev rfl)) (by dsimp only [List.set]; try rfl) ?_
  refine q_is rfl rfl (does_icmp (p := 1 + ((mkL fI 1 1 (usedR A_m).length).length : Int) * 1) (q := 1 + ((usedR A_m).length : Int) * 1) (.inr (.inl rfl)) (ev rfl) (ev rfl)) (by dsimp only [List.set]; try rfl) ?_
  refine wpList_nil (hK190 _ _ ?_)
  refine wp_cond_split (t := icmp .neq (1 + ((mkL fI 1 1 (usedR A_m).length).length : Int) * 1) (1 + ((usedR A_m).length : Int) * 1)) (ev rfl) (fun c191 => ?_) (fun c191 => ?_)
  · have c191' := c191
    (try simp only [hβ1, hβ2, hβ3, hβ4, hβ5, sameX_selfI, sameMesh_self, bne_self_eq_false] at c191')
    (try simp only [hβ1, hβ2, hβ3, hβ4, hβ5] at c191')
    (try simp only [icmp, Bool.and_eq_true, Bool.or_eq_true, Bool.and_eq_false_iff, Bool.or_eq_false_iff, Bool.not_eq_true', Bool.not_eq_false', decide_eq_true_eq, decide_eq_false_iff_not, beq_iff_eq, bne_iff_ne, beq_eq_false_iff_ne, bne_eq_false_iff_eq] at c191')
    refine wp_seq_k fun K192 hK192 => ?_
    refine wp_region_lit ?_
    refine q_is rfl rfl (does_assign (u := (Bo false)) (ev rfl)) (by dsimp only [List.set]; try rfl) ?_
    refine wpList_nil (hK192 _ _ ?_)
    refine wp_ret ?_
    dsimp only [Exit.then, Exit.inBlock]
    refine ret_val (v := (Bo false)) (res_T rfl (slot rfl)) X183 ?_
    try simp only [hβ1, hβ2, hβ3, hβ4, hβ5, sameX_selfI, sameMesh_self, bne_self_eq_false] at c28 c119 c138 c168 c186 c191
    have x193 : true = false := by first | with_reducible rfl | (exfalso; omega) | (exfalso; simp only [mkL_len] at * <;> omega) | (exfalso; rcases c191' with ((hh | hh) | hh) | hh <;> first | omega | (exact Bool.noConfusion hh) | (exact absurd rfl hh)) | (exfalso; rcases c191' with (hh | hh) | hh <;> first | omega | (exact Bool.noConfusion hh)) | (exfalso; rcases c191' with hh | hh <;> first | omega | (exact Bool.noConfusion hh)) | (simp only [sameX_selfI, sameMesh_self, bne_self_eq_false, hβ1, hβ2, hβ3, hβ4, hβ5, c28, c119, c138, c168, c186, c191]; done) | (simp [sameX_selfI, sameMesh_self, bne_self_eq_false, hβ1, hβ2, hβ3, hβ4, hβ5, c28, c119, c138, c168, c186, c191]; done) | (simp_all; done) | (exfalso; simp_all; done)
    exact (by first | with_reducible rfl | rw [x193] | rfl)
  have c191' := c191
  (try simp only [hβ1, hβ2, hβ3, hβ4, hβ5, sameX_selfI, sameMesh_self, bne_self_eq_false] at c191')
  (try simp only [hβ1, hβ2, hβ3, hβ4, hβ5] at c191')
  (try simp only [icmp, Bool.and_eq_true, Bool.or_eq_true, Bool.and_eq_false_iff, Bool.or_eq_false_iff, Bool.not_eq_true', Bool.not_eq_false', decide_eq_true_eq, decide_eq_false_iff_not, beq_iff_eq, bne_iff_ne, beq_eq_false_iff_ne, bne_eq_false_iff_eq] at c191')
  refine wp_skip (hK189 _ _ ?_)
  refine wp_seq_k fun K194 hK194 => ?_
  refine wp_region_lit ?_
  refine q_is rfl rfl (does_loadAgg (cs := [(.slice p5 A_m.places.length q6), (.slice p8 A_m.tris.length q9)]) (ev rfl) Try.isAgg25 Try.sizeOf25 (Blk.cells ((((((((((((((hB14.ext E21).ext E31).ext E50).ext E59).ext E81).wr W86 (Nat.ne_of_lt n83)).ext E91).ext E115).ext E125).ext E134).kl K144 (fun hc => absurd (hw77.1 _ hc).1 (Nat.not_le_of_lt n66))).ext E164).kl K174 (fun hc => absurd (hw102.1 _ hc).1 (Nat.not_le_of_lt n98))).ext E181)) rfl) (by dsimp only [List.set]; try rfl) ?_
  refine seqd rfl rfl (does_call (args := #[(.agg #[(.slice p5 A_m.places.length q6), (.slice p8 A_m.tris.length q9)])]) cal9 (evs rfl) (c_laws_toMesh [(.slice p5 A_m.places.length q6), (.slice p8 A_m.tris.length q9)] A_m _ ⟨(.slice p5 A_m.places.length q6), (.slice p8 A_m.tris.length q9), rfl, (Sl.ext hs7 RV3.mono X183), (Sl.ext hs10 (RS.mono RI.mono) X183)⟩ (by omega))) ?_; rintro _ w196 ⟨E195, ⟨cs198, Lw199, rfl, hh197, hw200⟩⟩
  have X201 := Ext.gr X183 E195
  have n202 : b12 < w182.heap.size := Blk.lt ((((((((((((((hB14.ext E21).ext E31).ext E50).ext E59).ext E81).wr W86 (Nat.ne_of_lt n83)).ext E91).ext E115).ext E125).ext E134).kl K144 (fun hc => absurd (hw77.1 _ hc).1 (Nat.not_le_of_lt n66))).ext E164).kl K174 (fun hc => absurd (hw102.1 _ hc).1 (Nat.not_le_of_lt n98))).ext E181)
  have n203 : b78 < w182.heap.size := Blk.lt ((((((((hB87.ext E91).ext E115).ext E125).ext E134).kl K144 (fun hc => absurd (Nat.lt_of_lt_of_le (hw77.1 _ hc).2 (Nat.le_trans (Nat.le_refl _) hb79)) (Nat.lt_irrefl _))).ext E164).kl K174 (fun hc => absurd (hw102.1 _ hc).1 (Nat.not_le_of_lt n99))).ext E181)
  obtain ⟨y204, y206, rfl, h205, h207⟩ := hh197.get
  have h205l := Sl.len h205; obtain ⟨p208, q209, rfl⟩ := Sl.shape h205
  have hh210 : Hang w182.heap.size w196 (fun u => Sl RV3 3 u (.slice p208 A_m.places.length q209) A_m.places) := fun u hu => by obtain ⟨_, _, hq, _, _⟩ := hh197 u hu; cases hq; assumption
  have h207l := Sl.len h207; obtain ⟨p211, q212, rfl⟩ := Sl.shape h207
  have hh213 : Hang w182.heap.size w196 (fun u => Sl (RS RI 1) 1 u (.slice p211 A_m.tris.length q212) A_m.tris) := fun u hu => by obtain ⟨_, _, hq, _, _⟩ := hh197 u hu; cases hq; assumption
  have hw214 : WLM w182.heap.size w196 Lw199 (.slice p208 A_m.places.length q209) (.slice p211 A_m.tris.length q212) A_m := hw200
  show wpList _ _ _ _ (fr [_, _, _, _, _, _, _, _, _, _, _, _, _, _, _, _, _, _, _, _, _, _, _, _, _, _, _, _, _, _, _, _, _, _, _, _, _, _, _, _, _, _, _, _, _, _, _, _, _, _, _, _, _, _, _, _, _, _, _, _, _, _, _, _, _, _, _, _, _, _, _, _, _, _, _, _, _, _, _, _, _, _, _, _, _, _, _, _, _, _, _, _, _, _, _, _]) _
  refine seqd rfl rfl (does_call (args := #[(.agg #[(.slice p208 A_m.places.length q209), (.slice p211 A_m.tris.length q212)])]) cal10 (evs rfl) (c_impl_UsedPlaces [(.slice p208 A_m.places.length q209), (.slice p211 A_m.tris.length q212)] A_m _ ⟨(.slice p208 A_m.places.length q209), (.slice p211 A_m.tris.length q212), rfl, hh210.get, hh213.get⟩)) ?_; rintro _ w216 ⟨E215, ⟨y218, Lw219, rfl, hh217, hw220⟩⟩
  have X221 := Ext.gr X201 E215
  have n222 : b12 < w196.heap.size := Blk.lt (((((((((((((((hB14.ext E21).ext E31).ext E50).ext E59).ext E81).wr W86 (Nat.ne_of_lt n83)).ext E91).ext E115).ext E125).ext E134).kl K144 (fun hc => absurd (hw77.1 _ hc).1 (Nat.not_le_of_lt n66))).ext E164).kl K174 (fun hc => absurd (hw102.1 _ hc).1 (Nat.not_le_of_lt n98))).ext E181).ext E195)
  have n223 : b78 < w196.heap.size := Blk.lt (((((((((hB87.ext E91).ext E115).ext E125).ext E134).kl K144 (fun hc => absurd (Nat.lt_of_lt_of_le (hw77.1 _ hc).2 (Nat.le_trans (Nat.le_refl _) hb79)) (Nat.lt_irrefl _))).ext E164).kl K174 (fun hc => absurd (hw102.1 _ hc).1 (Nat.not_le_of_lt n99))).ext E181).ext E195)
  obtain ⟨p224, q225, rfl⟩ := Sl.shape hh217.get
  have hw226 : WL 1 w196.heap.size w216 Lw219 (.slice p224 ((usedR A_m).length) q225) (usedR A_m).length := hw220
  show wpList _ _ _ _ (fr [_, _, _, _, _, _, _, _, _, _, _, _, _, _, _, _, _, _, _, _, _, _, _, _, _, _, _, _, _, _, _, _, _, _, _, _, _, _, _, _, _, _, _, _, _, _, _, _, _, _, _, _, _, _, _, _, _, _, _, _, _, _, _, _, _, _, _, _, _, _, _, _, _, _, _, _, _, _, _, _, _, _, _, _, _, _, _, _, _, _, _, _, _, _, _, _]) _
  refine q_is rfl rfl (does_move (u := (.tuple #[(.slice p224 ((usedR A_m).length) q225), (Bo (meshOk A_m))])) (ev rfl)) (by dsimp only [List.set]; try rfl) ?_
  refine q_is rfl rfl (does_extract (vs := #[(.slice p224 ((usedR A_m).length) q225), (Bo (meshOk A_m))]) (u := (.slice p224 ((usedR A_m).length) q225)) (ev rfl) rfl) (by dsimp only [List.set]; try rfl) ?_
  refine q_is rfl rfl (does_extract (vs := #[(.slice p224 ((usedR A_m).length) q225), (Bo (meshOk A_m))]) (u := (Bo (meshOk A_m))) (ev rfl) rfl) (by dsimp only [List.set]; try rfl) ?_
  refine q_is rfl rfl (does_assign (u := (.slice p224 ((usedR A_m).length) q225)) (ev rfl)) (by dsimp only [List.set]; try rfl) ?_
  refine q_is rfl rfl (does_assign (u := (Bo (meshOk A_m))) (ev rfl)) (by dsimp only [List.set]; try rfl) ?_
  refine wpList_nil (hK194 _ _ ?_)
  refine wp_seq_k fun K227 hK227 => ?_
  refine wp_seq_k fun K228 hK228 => ?_
  obtain ⟨β6, hβ6⟩ : ∃ b : Bool, b = (sameX eqI (usedR A_m) (usedR A_m)) := ⟨_, rfl⟩
  obtain ⟨β7, hβ7⟩ : ∃ b : Bool, b = ((meshOk A_m) != (meshOk A_m)) := ⟨_, rfl⟩
  refine region_text (
    [Fact.pure [] (fun v => v = (.slice p224 ((usedR A_m).length) q225)),
    Fact.pure [] (fun v => v = (.slice p56 ((usedR A_m).length) q57)),
    Fact.pure [79, 80] (fun v => v = (Bo β6)),
    Fact.pure [81] (fun v => v = (Bo (!β6))),
    Fact.pure [82] (fun v => v = (Bo (!β6))),
    Fact.pure [83] (fun v => (!β6) = false → v = (Bo (meshOk A_m))),
    Fact.pure [83] (fun v => (!β6) = false → v = (Bo (meshOk A_m))),
    Fact.pure [84, 85, 83] (fun v => (!β6) = false → v = (Bo β7)),
    Fact.pure [83, 86] (fun v => v = (Bo ((!β6) || β7)))]) (by simp [Fact.pure, Fact.mem]) ?_
  refine RW_d _ rfl (fun v => by dsimp only [List.set]; try rfl) (fun u hu hF => ?_) (fun v229 => ?_)
  · clear hF
    refine doesG_un rfl ?_
    refine (does_move (u := (.slice p224 ((usedR A_m).length) q225)) (ev rfl)).mono ?_; rintro _ _ ⟨rfl, rfl⟩
    exact ⟨rfl, Ext.refl _⟩
  refine RW_d _ rfl (fun v => by dsimp only [List.set]; try rfl) (fun u hu hF => ?_) (fun v230 => ?_)
  · clear hF
    refine doesG_un rfl ?_
    refine (does_move (u := (.slice p56 ((usedR A_m).length) q57)) (ev rfl)).mono ?_; rintro _ _ ⟨rfl, rfl⟩
    exact ⟨rfl, Ext.refl _⟩
  refine RW_d _ rfl (fun v => by dsimp only [List.set]; try rfl) (fun u hu hF => ?_) (fun v231 => ?_)
  · have h79_ : v229 = (.slice p224 ((usedR A_m).length) q225) := hF.1
    have h80_ : v230 = (.slice p56 ((usedR A_m).length) q57) := hF.2.1
    clear hF
    refine doesG_un rfl ?_
    obtain rfl := h79_
    obtain rfl := h80_
    refine (does_call (args := #[(.slice p224 ((usedR A_m).length) q225), (.slice p56 ((usedR A_m).length) q57)]) cal11 (evs rfl) (c_laws_eqInt64S (.slice p224 ((usedR A_m).length) q225) (usedR A_m) (.slice p56 ((usedR A_m).length) q57) (usedR A_m) _ (Sl.ext hh217.get RI.mono hu) (Sl.ext (hh52 _ ((((((((((((((Same.refl _ _).ext E59).ext E81).wr W86 (.inr (Nat.le_trans (Below.size E59) hb79))).ext E91).ext E115).ext E125).ext E134).kl K144 (fun c hc => .inr (Nat.le_trans (Nat.le_refl _) (hw77.1 c hc).1))).ext E164).kl K174 (fun c hc => .inr (Nat.le_trans (Nat.le_trans (Nat.le_trans (Below.size E59) (Below.size E81)) (Nat.le_of_eq (Eq.symm (Wr.size W86)))) (hw102.1 c hc).1))).ext E181).ext E195).ext E215)) RI.mono hu))).mono ?_; rintro v u' ⟨hx, hv⟩
    exact ⟨hv.trans (by simp only [hβ6]), hx⟩
  refine RW_d _ rfl (fun v => by dsimp only [List.set]; try rfl) (fun u hu hF => ?_) (fun v232 => ?_)
  · have h81_ : v231 = (Bo β6) := hF.1
    clear hF
    refine doesG_un rfl ?_
    obtain rfl := h81_
    refine (does_not (ev rfl)).mono ?_; rintro _ _ ⟨rfl, rfl⟩
    exact ⟨rfl, Ext.refl _⟩
  refine RW_d _ rfl (fun v => by dsimp only [List.set]; try rfl) (fun u hu hF => ?_) (fun v233 => ?_)
  · have h82_ : v232 = (Bo (!β6)) := hF.1
    clear hF
    refine doesG_un rfl ?_
    obtain rfl := h82_
    refine (does_move (u := (Bo (!β6))) (ev rfl)).mono ?_; rintro _ _ ⟨rfl, rfl⟩
    exact ⟨rfl, Ext.refl _⟩
  refine RW_d _ rfl (fun v => by dsimp only [List.set]; try rfl) (fun u hu hF => ?_) (fun v234 => ?_)
  · have h83_ : v233 = (Bo (!β6)) := hF.1
    clear hF
    obtain rfl := h83_
    refine doesG_g (b := (!β6)) rfl (yld rfl rfl) (fun hg1 => ?_) (fun hc => ⟨fun hg1 => absurd hg1 hc, Ext.refl _⟩)
    refine (does_move (u := (Bo (meshOk A_m))) (ev rfl)).mono ?_; rintro _ _ ⟨rfl, rfl⟩
    exact ⟨fun _ => rfl, Ext.refl _⟩
  refine RW_d _ rfl (fun v => by dsimp only [List.set]; try rfl) (fun u hu hF => ?_) (fun v235 => ?_)
  · have h83_ : v233 = (Bo (!β6)) := hF.1
    clear hF
    obtain rfl := h83_
    refine doesG_g (b := (!β6)) rfl (yld rfl rfl) (fun hg1 => ?_) (fun hc => ⟨fun hg1 => absurd hg1 hc, Ext.refl _⟩)
    refine (does_move (u := (Bo (meshOk A_m))) (ev rfl)).mono ?_; rintro _ _ ⟨rfl, rfl⟩
    exact ⟨fun _ => rfl, Ext.refl _⟩
  refine RW_d _ rfl (fun v => by dsimp only [List.set]; try rfl) (fun u hu hF => ?_) (fun v236 => ?_)
  · have h84_ : (!β6) = false → v234 = (Bo (meshOk A_m)) := hF.1
    have h85_ : (!β6) = false → v235 = (Bo (meshOk A_m)) := hF.2.1
    have h83_ : v233 = (Bo (!β6)) := hF.2.2.1
    clear hF
    obtain rfl := h83_
    refine doesG_g (b := (!β6)) rfl (yld rfl rfl) (fun hg1 => ?_) (fun hc => ⟨fun hg1 => absurd hg1 hc, Ext.refl _⟩)
    obtain rfl := h84_ hg1
    obtain rfl := h85_ hg1
    refine (does_bne (p := (meshOk A_m)) (q := (meshOk A_m)) Try.underlying4 (ev rfl) (ev rfl)).mono ?_; rintro _ _ ⟨rfl, rfl⟩
    exact ⟨fun _ => (by first | rfl | (show _ = _; simp only [hβ7]; done) | (show _ = _; simp only [hβ7]; rfl)), Ext.refl _⟩
  refine RW_d _ rfl (fun v => by dsimp only [List.set]; try rfl) (fun u hu hF => ?_) (fun v237 => ?_)
  · have h83_ : v233 = (Bo (!β6)) := hF.1
    have h86_ : (!β6) = false → v236 = (Bo β7) := hF.2.1
    clear hF
    refine doesG_un rfl ?_
    skip
    obtain rfl := h83_
    refine (does_pick (b := (!β6)) (u := (Bo true)) (v := v236) (ev rfl) (ev rfl) (ev rfl)).mono ?_; rintro _ _ ⟨rfl, rfl⟩; refine ⟨?_, Ext.refl _⟩; skip
    cases hbb : (!β6)
    all_goals first | (show _ = _; simp only [↓reduceIte, Bool.true_and, Bool.false_and, Bool.true_or, Bool.false_or, Bool.false_eq_true]; done) | (have e_ := h86_ hbb; subst e_; show _ = _; simp only [↓reduceIte, Bool.true_and, Bool.false_and, Bool.true_or, Bool.false_or, Bool.false_eq_true]; done) | rfl | (have e_ := h86_ hbb; subst e_; rfl) | (simp [hbb] at h86_ ⊢; first | done | rfl | (subst h86_; rfl) | simp_all) | (simp [hbb] at h86_ ⊢; done)
  refine RW_fin ?_; intro w238 E239 hP240
  obtain ⟨⟨⟨⟨⟨⟨⟨⟨⟨-, -⟩, -⟩, -⟩, -⟩, -⟩, -⟩, -⟩, -⟩, q241⟩ := hP240
  have X242 := Ext.gr X221 E239
  have q241 : v237 = (Bo ((!β6) || β7)) := q241
  obtain rfl := q241
  show wpList _ _ _ _ (fr [_, _, _, _, _, _, _, _, _, _, _, _, _, _, _, _, _, _, _, _, _, _, _, _, _, _, _, _, _, _, _, _, _, _, _, _, _, _, _, _, _, _, _, _, _, _, _, _, _, _, _, _, _, _, _, _, _, _, _, _, _, _, _, _, _, _, _, _, _, _, _, _, _, _, _, _, _, _, _, _, _, _, _, _, _, _, _, _, _, _, _, _, _, _, _, _]) _
  refine wpList_nil (hK228 _ _ ?_)
  refine wp_cond_split (t := (!β6) || β7) (ev rfl) (fun c243 => ?_) (fun c243 => ?_)
  · have c243' := c243
    (try simp only [hβ1, hβ2, hβ3, hβ4, hβ5, hβ6, hβ7, sameX_selfI, sameMesh_self, bne_self_eq_false] at c243')
    (try simp only [hβ1, hβ2, hβ3, hβ4, hβ5, hβ6, hβ7] at c243')
    (try simp only [icmp, Bool.and_eq_true, Bool.or_eq_true, Bool.and_eq_false_iff, Bool.or_eq_false_iff, Bool.not_eq_true', Bool.not_eq_false', decide_eq_true_eq, decide_eq_false_iff_not, beq_iff_eq, bne_iff_ne, beq_eq_false_iff_ne, bne_eq_false_iff_eq] at c243')
    refine wp_seq_k fun K244 hK244 => ?_
    refine wp_region_lit ?_
    refine q_is rfl rfl (does_assign (u := (Bo false)) (ev rfl)) (by dsimp only [List.set]; try rfl) ?_
    refine wpList_nil (hK244 _ _ ?_)
    refine wp_ret ?_
    dsimp only [Exit.then, Exit.inBlock]
    refine ret_val (v := (Bo false)) (res_T rfl (slot rfl)) X242 ?_
    try simp only [hβ1, hβ2, hβ3, hβ4, hβ5, hβ6, hβ7, sameX_selfI, sameMesh_self, bne_self_eq_false] at c28 c119 c138 c168 c186 c191 c243
    have x245 : true = false := by first | with_reducible rfl | (exfalso; omega) | (exfalso; simp only [mkL_len] at * <;> omega) | (exfalso; rcases c243' with ((hh | hh) | hh) | hh <;> first | omega | (exact Bool.noConfusion hh) | (exact absurd rfl hh)) | (exfalso; rcases c243' with (hh | hh) | hh <;> first | omega | (exact Bool.noConfusion hh)) | (exfalso; rcases c243' with hh | hh <;> first | omega | (exact Bool.noConfusion hh)) | (simp only [sameX_selfI, sameMesh_self, bne_self_eq_false, hβ1, hβ2, hβ3, hβ4, hβ5, hβ6, hβ7, c28, c119, c138, c168, c186, c191, c243]; done) | (simp [sameX_selfI, sameMesh_self, bne_self_eq_false, hβ1, hβ2, hβ3, hβ4, hβ5, hβ6, hβ7, c28, c119, c138, c168, c186, c191, c243]; done) | (simp_all; done) | (exfalso; simp_all; done)
    exact (by first | with_reducible rfl | rw [x245] | rfl)
  have c243' := c243
  (try simp only [hβ1, hβ2, hβ3, hβ4, hβ5, hβ6, hβ7, sameX_selfI, sameMesh_self, bne_self_eq_false] at c243')
  (try simp only [hβ1, hβ2, hβ3, hβ4, hβ5, hβ6, hβ7] at c243')
  (try simp only [icmp, Bool.and_eq_true, Bool.or_eq_true, Bool.and_eq_false_iff, Bool.or_eq_false_iff, Bool.not_eq_true', Bool.not_eq_false', decide_eq_true_eq, decide_eq_false_iff_not, beq_iff_eq, bne_iff_ne, beq_eq_false_iff_ne, bne_eq_false_iff_eq] at c243')
  refine wp_skip (hK227 _ _ ?_)
  refine wp_seq_k fun K246 hK246 => ?_
  refine wp_region_lit ?_
  refine q_is rfl rfl (does_assign (u := (Iv 1)) (ev rfl)) (by dsimp only [List.set]; try rfl) ?_
  refine wpList_nil (hK246 _ _ ?_)
  refine wp_seq_k fun K247 hK247 => ?_
  refine wp_region_lit ?_
  refine q_is rfl rfl (does_move (u := (.slice p100 ((usedR A_m).length) q101)) (ev rfl)) (by dsimp only [List.set]; try rfl) ?_
  refine q_is rfl rfl (does_move (u := (Iv 1)) (ev rfl)) (by dsimp only [List.set]; try rfl) ?_
  refine seqd rfl rfl (does_call (args := #[(.slice p100 ((usedR A_m).length) q101), (Iv 1)]) cal15 (evs rfl) (c_laws_heldInt64S (.slice p100 ((usedR A_m).length) q101) (mkL fI 1 1 (usedR A_m).length) 1 _ (hM175 _ (((((Same.refl _ _).ext E181).ext E195).ext E215).ext E239)) (by exact mkL_eq) (by omega) (by (try dsimp only); rw [mkL_len]; omega))) ?_; rintro _ w249 ⟨E248, rfl⟩
  have X250 := Ext.gr X242 E248
  show wpList _ _ _ _ (fr [_, _, _, _, _, _, _, _, _, _, _, _, _, _, _, _, _, _, _, _, _, _, _, _, _, _, _, _, _, _, _, _, _, _, _, _, _, _, _, _, _, _, _, _, _, _, _, _, _, _, _, _, _, _, _, _, _, _, _, _, _, _, _, _, _, _, _, _, _, _, _, _, _, _, _, _, _, _, _, _, _, _, _, _, _, _, _, _, _, _, _, _, _, _, _, _]) _
  refine q_is rfl rfl (does_assign (u := (Iv (1 + ((mkL fI 1 1 (usedR A_m).length).length : Int) * 1))) (ev rfl)) (by dsimp only [List.set]; try rfl) ?_
  refine wpList_nil (hK247 _ _ ?_)
  refine wp_seq_k fun K251 hK251 => ?_
  refine wp_seq_k fun K252 hK252 => ?_
  refine wp_region_lit ?_
  refine q_is rfl rfl (does_move (u := (Iv (1 + ((mkL fI 1 1 (usedR A_m).length).length : Int) * 1))) (ev rfl)) (by dsimp only [List.set]; try rfl) ?_
  refine q_is rfl rfl (does_icmp (p := 1 + ((mkL fI 1 1 (usedR A_m).length).length : Int) * 1) (q := 0) (.inr (.inr (.inl rfl))) (ev rfl) (ev rfl)) (by dsimp only [List.set]; try rfl) ?_
  refine wpList_nil (hK252 _ _ ?_)
  refine wp_cond_false ((ev (rfl : evl _ _ = .bool (icmp .lss (1 + ((mkL fI 1 1 (usedR A_m).length).length : Int) * 1) 0))).trans (congrArg Value.bool c186)) ?_
  refine wp_skip (hK251 _ _ ?_)
  refine wp_seq_k fun K253 hK253 => ?_
  refine wp_seq_k fun K254 hK254 => ?_
  refine wp_region_lit ?_
  refine q_is rfl rfl (does_move (u := (Iv (1 + ((mkL fI 1 1 (usedR A_m).length).length : Int) * 1))) (ev rfl)) (by dsimp only [List.set]; try rfl) ?_
  refine q_is rfl rfl (does_move (u := (Iv (1 + ((usedR A_m).length : Int) * 1))) (ev rfl)) (by dsimp only [List.set]; try rfl) ?_
  refine q_is rfl rfl (does_icmp (p := 1 + ((mkL fI 1 1 (usedR A_m).length).length : Int) * 1) (q := 1 + ((usedR A_m).length : Int) * 1) (.inr (.inl rfl)) (ev rfl) (ev rfl)) (by dsimp only [List.set]; try rfl) ?_
  refine wpList_nil (hK254 _ _ ?_)
  refine wp_cond_false ((ev (rfl : evl _ _ = .bool (icmp .neq (1 + ((mkL fI 1 1 (usedR A_m).length).length : Int) * 1) (1 + ((usedR A_m).length : Int) * 1)))).trans (congrArg Value.bool c191)) ?_
  refine wp_skip (hK253 _ _ ?_)
  refine wp_seq_k fun K255 hK255 => ?_
  refine wp_region_lit ?_
  refine q_is rfl rfl (does_assign (u := (Bo true)) (ev rfl)) (by dsimp only [List.set]; try rfl) ?_
  refine wpList_nil (hK255 _ _ ?_)
  refine wp_ret ?_
  refine ret_val (v := (Bo true)) (res_T rfl (slot rfl)) X250 ?_
  try simp only [hβ1, hβ2, hβ3, hβ4, hβ5, hβ6, hβ7, sameX_selfI, sameMesh_self, bne_self_eq_false] at c28 c119 c138 c168 c186 c191 c243
  exact rfl

end Go.Proofs.Ytoblnfkpjgghiaa
