/- contracts of functions, each walked once -/
import Derived.Test.YtoblnfkpjgghiaaT
namespace Go.Proofs.Ytoblnfkpjgghiaa
open Go Go.RowKit
set_option maxRecDepth 100000
set_option maxHeartbeats 3200000
set_option linter.unusedVariables false
set_option linter.unusedSimpArgs false

/- laws.FnExactTrimMesh -/
theorem c_laws_FnExactTrimMesh (m : List Value) (A_m : MeshT) (w : World) (hv_m : RMeshT w A_m m) : Gives Try.prog 4 #[(.agg m.toArray)] w (fun v w' => v = (Bo true)) := by
  obtain ⟨y1, y3, rfl, h2, h4⟩ := hv_m
  have hs7 := h2; have hs7l := Sl.len h2; obtain ⟨p5, q6, rfl⟩ := Sl.shape h2
  have hs10 := h4; have hs10l := Sl.len h4; obtain ⟨p8, q9, rfl⟩ := Sl.shape h4
  have hgl := trimM_le A_m
  have hms := meSz_le A_m
  refine enter [(.agg #[(.slice p5 A_m.places.length q6), (.slice p8 A_m.tris.length q9)]), Ud, Ud, Ud, Ud, Ud, Ud, Ud, Ud, Ud, Ud, Ud, Ud, Ud, Ud, Ud, Ud, Ud, Ud, Ud, Ud, Ud, Ud, Ud, Ud, Ud, Ud, Ud, Ud, Ud, Ud, Ud, Ud, Ud, Ud, Ud, Ud, Ud, Ud, Ud, Ud, Ud, Ud, Ud, Ud, Ud, Ud, Ud, Ud, Ud, Ud, Ud, Ud, Ud, Ud, Ud, Ud, Ud, Ud, Ud, Ud, Ud, Ud, Ud, Ud, Ud, Ud, Ud, Ud, Ud, Ud, Ud, Ud, Ud, Ud, Ud, Ud, Ud, Ud, Ud, Ud, Ud, Ud, Ud, Ud, Ud, Ud, Ud, Ud, Ud, Ud, Ud, Ud, Ud, Ud, Ud] Try.func4 rfl Try.ntmps4 rfl ?_
  refine wp_seq_k fun K11 hK11 => ?_
  refine wp_region_lit ?_
  refine seqd rfl rfl (does_box (u := (.agg #[(.slice p5 A_m.places.length q6), (.slice p8 A_m.tris.length q9)])) (ev rfl)) ?_; rintro _ w16 ⟨b12, rfl, hb13, hB14, E15⟩
  have g17 : w.heap.size ≤ b12 := Nat.le_trans (Below.size (Ext.refl w)) hb13
  change Blk _ _ [(.slice p5 A_m.places.length q6), (.slice p8 A_m.tris.length q9)] at hB14
  have X18 := Ext.gr (Ext.refl w) E15
  show wpList _ _ _ _ (fr [_, _, _, _, _, _, _, _, _, _, _, _, _, _, _, _, _, _, _, _, _, _, _, _, _, _, _, _, _, _, _, _, _, _, _, _, _, _, _, _, _, _, _, _, _, _, _, _, _, _, _, _, _, _, _, _, _, _, _, _, _, _, _, _, _, _, _, _, _, _, _, _, _, _, _, _, _, _, _, _, _, _, _, _, _, _, _, _, _, _, _, _, _, _, _, _]) _
  refine q_is rfl rfl (does_assign (u := (Bo false)) (ev rfl)) (by dsimp only [List.set]; try rfl) ?_
  refine wpList_nil (hK11 _ _ ?_)
  refine wp_seq_k fun K19 hK19 => ?_
  refine wp_region_lit ?_
  refine q_is rfl rfl (does_assign (u := (Iv 1048576)) (ev rfl)) (by dsimp only [List.set]; try rfl) ?_
  refine wpList_nil (hK19 _ _ ?_)
  refine wp_seq_k fun K20 hK20 => ?_
  refine wp_region_lit ?_
  refine q_is rfl rfl (does_loadAgg (cs := [(.slice p5 A_m.places.length q6), (.slice p8 A_m.tris.length q9)]) (ev rfl) Try.isAgg25 Try.sizeOf25 (Blk.cells hB14) rfl) (by dsimp only [List.set]; try rfl) ?_
  refine q_is rfl rfl (does_move (u := (Iv 1048576)) (ev rfl)) (by dsimp only [List.set]; try rfl) ?_
  refine seqd rfl rfl (does_call (args := #[(.agg #[(.slice p5 A_m.places.length q6), (.slice p8 A_m.tris.length q9)]), (Iv 1048576)]) cal7 (evs rfl) (c_laws_szMesh [(.slice p5 A_m.places.length q6), (.slice p8 A_m.tris.length q9)] A_m 1048576 _ ⟨(.slice p5 A_m.places.length q6), (.slice p8 A_m.tris.length q9), rfl, (Sl.ext hs7 RV3.mono X18), (Sl.ext hs10 (RS.mono RI.mono) X18)⟩ (by omega) (by omega))) ?_; rintro _ w22 ⟨E21, ⟨i23, rfl, h24⟩⟩
  have X25 := Ext.gr X18 E21
  show wpList _ _ _ _ (fr [_, _, _, _, _, _, _, _, _, _, _, _, _, _, _, _, _, _, _, _, _, _, _, _, _, _, _, _, _, _, _, _, _, _, _, _, _, _, _, _, _, _, _, _, _, _, _, _, _, _, _, _, _, _, _, _, _, _, _, _, _, _, _, _, _, _, _, _, _, _, _, _, _, _, _, _, _, _, _, _, _, _, _, _, _, _, _, _, _, _, _, _, _, _, _, _]) _
  refine q_is rfl rfl (does_assign (u := (Iv i23)) (ev rfl)) (by dsimp only [List.set]; try rfl) ?_
  refine wpList_nil (hK20 _ _ ?_)
  refine wp_seq_k fun K26 hK26 => ?_
  refine wp_seq_k fun K27 hK27 => ?_
  refine wp_region_lit ?_
  refine q_is rfl rfl (does_move (u := (Iv i23)) (ev rfl)) (by dsimp only [List.set]; try rfl) ?_
  refine q_is rfl rfl (does_icmp (p := i23) (q := 0) (.inr (.inr (.inl rfl))) (ev rfl) (ev rfl)) (by dsimp only [List.set]; try rfl) ?_
  refine wpList_nil (hK27 _ _ ?_)
  refine wp_cond_split (t := icmp .lss i23 0) (ev rfl) (fun c28 => ?_) (fun c28 => ?_)
  · have c28' := c28
    (try simp only [sameMesh_self, bne_self_eq_false, meSz_mk] at c28')
    (try simp only [icmp, Bool.and_eq_true, Bool.or_eq_true, Bool.and_eq_false_iff, Bool.or_eq_false_iff, Bool.not_eq_true', Bool.not_eq_false', decide_eq_true_eq, decide_eq_false_iff_not, beq_iff_eq, bne_iff_ne, beq_eq_false_iff_ne, bne_eq_false_iff_eq] at c28')
    refine wp_seq_k fun K29 hK29 => ?_
    refine wp_region_lit ?_
    refine q_is rfl rfl (does_assign (u := (Bo true)) (ev rfl)) (by dsimp only [List.set]; try rfl) ?_
    refine wpList_nil (hK29 _ _ ?_)
    refine wp_ret ?_
    dsimp only [Exit.then, Exit.inBlock]
    refine ret_val (v := (Bo true)) (res_T rfl (slot rfl)) X25 ?_
    try simp only [sameMesh_self, bne_self_eq_false, meSz_mk] at c28
    exact rfl
  have c28' := c28
  (try simp only [sameMesh_self, bne_self_eq_false, meSz_mk] at c28')
  (try simp only [icmp, Bool.and_eq_true, Bool.or_eq_true, Bool.and_eq_false_iff, Bool.or_eq_false_iff, Bool.not_eq_true', Bool.not_eq_false', decide_eq_true_eq, decide_eq_false_iff_not, beq_iff_eq, bne_iff_ne, beq_eq_false_iff_ne, bne_eq_false_iff_eq] at c28')
  refine wp_skip (hK26 _ _ ?_)
  refine wp_seq_k fun K30 hK30 => ?_
  refine wp_region_lit ?_
  refine q_is rfl rfl (does_loadAgg (cs := [(.slice p5 A_m.places.length q6), (.slice p8 A_m.tris.length q9)]) (ev rfl) Try.isAgg25 Try.sizeOf25 (Blk.cells (hB14.ext E21)) rfl) (by dsimp only [List.set]; try rfl) ?_
  refine seqd rfl rfl (does_call (args := #[(.agg #[(.slice p5 A_m.places.length q6), (.slice p8 A_m.tris.length q9)])]) cal9 (evs rfl) (c_laws_toMesh [(.slice p5 A_m.places.length q6), (.slice p8 A_m.tris.length q9)] A_m _ ⟨(.slice p5 A_m.places.length q6), (.slice p8 A_m.tris.length q9), rfl, (Sl.ext hs7 RV3.mono X25), (Sl.ext hs10 (RS.mono RI.mono) X25)⟩ (by omega))) ?_; rintro _ w32 ⟨E31, ⟨cs34, Lw35, rfl, hh33, hw36⟩⟩
  have X37 := Ext.gr X25 E31
  have n38 : b12 < w22.heap.size := Blk.lt (hB14.ext E21)
  obtain ⟨y39, y41, rfl, h40, h42⟩ := hh33.get
  have h40l := Sl.len h40; obtain ⟨p43, q44, rfl⟩ := Sl.shape h40
  have hh45 : Hang w22.heap.size w32 (fun u => Sl RV3 3 u (.slice p43 A_m.places.length q44) A_m.places) := fun u hu => by obtain ⟨_, _, hq, _, _⟩ := hh33 u hu; cases hq; assumption
  have h42l := Sl.len h42; obtain ⟨p46, q47, rfl⟩ := Sl.shape h42
  have hh48 : Hang w22.heap.size w32 (fun u => Sl (RS RI 1) 1 u (.slice p46 A_m.tris.length q47) A_m.tris) := fun u hu => by obtain ⟨_, _, hq, _, _⟩ := hh33 u hu; cases hq; assumption
  have hw49 : WLM w22.heap.size w32 Lw35 (.slice p43 A_m.places.length q44) (.slice p46 A_m.tris.length q47) A_m := hw36
  show wpList _ _ _ _ (fr [_, _, _, _, _, _, _, _, _, _, _, _, _, _, _, _, _, _, _, _, _, _, _, _, _, _, _, _, _, _, _, _, _, _, _, _, _, _, _, _, _, _, _, _, _, _, _, _, _, _, _, _, _, _, _, _, _, _, _, _, _, _, _, _, _, _, _, _, _, _, _, _, _, _, _, _, _, _, _, _, _, _, _, _, _, _, _, _, _, _, _, _, _, _, _, _]) _
  refine seqd rfl rfl (does_call (args := #[(.agg #[(.slice p43 A_m.places.length q44), (.slice p46 A_m.tris.length q47)])]) cal16 (evs rfl) (c_spec_TrimMesh [(.slice p43 A_m.places.length q44), (.slice p46 A_m.tris.length q47)] A_m _ ⟨(.slice p43 A_m.places.length q44), (.slice p46 A_m.tris.length q47), rfl, hh45.get, hh48.get⟩)) ?_; rintro _ w51 ⟨E50, ⟨cs53, rfl, hh52⟩⟩
  have X54 := Ext.gr X37 E50
  have n55 : b12 < w32.heap.size := Blk.lt ((hB14.ext E21).ext E31)
  obtain ⟨y56, y58, rfl, h57, h59⟩ := hh52.get
  have h57l := Sl.len h57; obtain ⟨p60, q61, rfl⟩ := Sl.shape h57
  have hh62 : Hang w32.heap.size w51 (fun u => Sl RV3 3 u (.slice p60 (((trimM A_m).places).length) q61) ((trimM A_m).places)) := fun u hu => by obtain ⟨_, _, hq, _, _⟩ := hh52 u hu; cases hq; assumption
  have h59l := Sl.len h59; obtain ⟨p63, q64, rfl⟩ := Sl.shape h59
  have hh65 : Hang w32.heap.size w51 (fun u => Sl (RS RI 1) 1 u (.slice p63 (((trimM A_m).tris).length) q64) ((trimM A_m).tris)) := fun u hu => by obtain ⟨_, _, hq, _, _⟩ := hh52 u hu; cases hq; assumption
  show wpList _ _ _ _ (fr [_, _, _, _, _, _, _, _, _, _, _, _, _, _, _, _, _, _, _, _, _, _, _, _, _, _, _, _, _, _, _, _, _, _, _, _, _, _, _, _, _, _, _, _, _, _, _, _, _, _, _, _, _, _, _, _, _, _, _, _, _, _, _, _, _, _, _, _, _, _, _, _, _, _, _, _, _, _, _, _, _, _, _, _, _, _, _, _, _, _, _, _, _, _, _, _]) _
  refine q_is rfl rfl (does_move (u := (.tuple #[(.agg #[(.slice p60 (((trimM A_m).places).length) q61), (.slice p63 (((trimM A_m).tris).length) q64)]), (Bo (meshOk A_m))])) (ev rfl)) (by dsimp only [List.set]; try rfl) ?_
  refine q_is rfl rfl (does_extract (vs := #[(.agg #[(.slice p60 (((trimM A_m).places).length) q61), (.slice p63 (((trimM A_m).tris).length) q64)]), (Bo (meshOk A_m))]) (u := (.agg #[(.slice p60 (((trimM A_m).places).length) q61), (.slice p63 (((trimM A_m).tris).length) q64)])) (ev rfl) rfl) (by dsimp only [List.set]; try rfl) ?_
  refine q_is rfl rfl (does_extract (vs := #[(.agg #[(.slice p60 (((trimM A_m).places).length) q61), (.slice p63 (((trimM A_m).tris).length) q64)]), (Bo (meshOk A_m))]) (u := (Bo (meshOk A_m))) (ev rfl) rfl) (by dsimp only [List.set]; try rfl) ?_
  refine seqd rfl rfl (does_alloc z32) ?_; rintro _ w70 ⟨b66, rfl, hb67, hB68, E69⟩
  have n71 : b12 < b66 := Nat.lt_of_lt_of_le (Blk.lt (((hB14.ext E21).ext E31).ext E50)) hb67
  have g72 : w.heap.size ≤ b66 := Nat.le_trans (Below.size X54) hb67
  change Blk _ _ [(.slice none 0 0), (.slice none 0 0)] at hB68
  have X73 := Ext.gr X54 E69
  show wpList _ _ _ _ (fr [_, _, _, _, _, _, _, _, _, _, _, _, _, _, _, _, _, _, _, _, _, _, _, _, _, _, _, _, _, _, _, _, _, _, _, _, _, _, _, _, _, _, _, _, _, _, _, _, _, _, _, _, _, _, _, _, _, _, _, _, _, _, _, _, _, _, _, _, _, _, _, _, _, _, _, _, _, _, _, _, _, _, _, _, _, _, _, _, _, _, _, _, _, _, _, _]) _
  refine seqn rfl rfl (does_store (n := 2) (cs := [(.slice none 0 0), (.slice none 0 0)]) (u := (.agg #[(.slice p60 (((trimM A_m).places).length) q61), (.slice p63 (((trimM A_m).tris).length) q64)])) (ev rfl) (ev rfl) Try.sizeOf32 rfl hB68 (Nat.le_of_ble_eq_true rfl) rfl) ?_; rintro _ w76 ⟨rfl, W74, hB75⟩
  change Blk _ _ [(.slice p60 (((trimM A_m).places).length) q61), (.slice p63 (((trimM A_m).tris).length) q64)] at hB75
  have X77 := Below.wr X73 W74 g72
  refine q_is rfl rfl (does_assign (u := (Bo (meshOk A_m))) (ev rfl)) (by dsimp only [List.set]; try rfl) ?_
  refine wpList_nil (hK30 _ _ ?_)
  refine wp_seq_k fun K78 hK78 => ?_
  refine wp_region_lit ?_
  refine q_is rfl rfl (does_loadAgg (cs := [(.slice p5 A_m.places.length q6), (.slice p8 A_m.tris.length q9)]) (ev rfl) Try.isAgg25 Try.sizeOf25 (Blk.cells (((((hB14.ext E21).ext E31).ext E50).ext E69).wr W74 (Nat.ne_of_lt n71))) rfl) (by dsimp only [List.set]; try rfl) ?_
  refine seqd rfl rfl (does_call (args := #[(.agg #[(.slice p5 A_m.places.length q6), (.slice p8 A_m.tris.length q9)])]) cal9 (evs rfl) (c_laws_toMesh [(.slice p5 A_m.places.length q6), (.slice p8 A_m.tris.length q9)] A_m _ ⟨(.slice p5 A_m.places.length q6), (.slice p8 A_m.tris.length q9), rfl, (Sl.ext hs7 RV3.mono X77), (Sl.ext hs10 (RS.mono RI.mono) X77)⟩ (by omega))) ?_; rintro _ w80 ⟨E79, ⟨cs82, Lw83, rfl, hh81, hw84⟩⟩
  have X85 := Ext.gr X77 E79
  have n86 : b12 < w76.heap.size := Blk.lt (((((hB14.ext E21).ext E31).ext E50).ext E69).wr W74 (Nat.ne_of_lt n71))
  have n87 : b66 < w76.heap.size := Blk.lt hB75
  obtain ⟨y88, y90, rfl, h89, h91⟩ := hh81.get
  have h89l := Sl.len h89; obtain ⟨p92, q93, rfl⟩ := Sl.shape h89
  have hh94 : Hang w76.heap.size w80 (fun u => Sl RV3 3 u (.slice p92 A_m.places.length q93) A_m.places) := fun u hu => by obtain ⟨_, _, hq, _, _⟩ := hh81 u hu; cases hq; assumption
  have h91l := Sl.len h91; obtain ⟨p95, q96, rfl⟩ := Sl.shape h91
  have hh97 : Hang w76.heap.size w80 (fun u => Sl (RS RI 1) 1 u (.slice p95 A_m.tris.length q96) A_m.tris) := fun u hu => by obtain ⟨_, _, hq, _, _⟩ := hh81 u hu; cases hq; assumption
  have hw98 : WLM w76.heap.size w80 Lw83 (.slice p92 A_m.places.length q93) (.slice p95 A_m.tris.length q96) A_m := hw84
  show wpList _ _ _ _ (fr [_, _, _, _, _, _, _, _, _, _, _, _, _, _, _, _, _, _, _, _, _, _, _, _, _, _, _, _, _, _, _, _, _, _, _, _, _, _, _, _, _, _, _, _, _, _, _, _, _, _, _, _, _, _, _, _, _, _, _, _, _, _, _, _, _, _, _, _, _, _, _, _, _, _, _, _, _, _, _, _, _, _, _, _, _, _, _, _, _, _, _, _, _, _, _, _]) _
  refine seqd rfl rfl (does_alloc z32) ?_; rintro _ w103 ⟨b99, rfl, hb100, hB101, E102⟩
  have n104 : b12 < b99 := Nat.lt_of_lt_of_le (Blk.lt ((((((hB14.ext E21).ext E31).ext E50).ext E69).wr W74 (Nat.ne_of_lt n71)).ext E79)) hb100
  have n105 : b66 < b99 := Nat.lt_of_lt_of_le (Blk.lt (hB75.ext E79)) hb100
  have g106 : w.heap.size ≤ b99 := Nat.le_trans (Below.size X85) hb100
  change Blk _ _ [(.slice none 0 0), (.slice none 0 0)] at hB101
  have X107 := Ext.gr X85 E102
  show wpList _ _ _ _ (fr [_, _, _, _, _, _, _, _, _, _, _, _, _, _, _, _, _, _, _, _, _, _, _, _, _, _, _, _, _, _, _, _, _, _, _, _, _, _, _, _, _, _, _, _, _, _, _, _, _, _, _, _, _, _, _, _, _, _, _, _, _, _, _, _, _, _, _, _, _, _, _, _, _, _, _, _, _, _, _, _, _, _, _, _, _, _, _, _, _, _, _, _, _, _, _, _]) _
  refine seqn rfl rfl (does_store (n := 2) (cs := [(.slice none 0 0), (.slice none 0 0)]) (u := (.agg #[(.slice p92 A_m.places.length q93), (.slice p95 A_m.tris.length q96)])) (ev rfl) (ev rfl) Try.sizeOf32 rfl hB101 (Nat.le_of_ble_eq_true rfl) rfl) ?_; rintro _ w110 ⟨rfl, W108, hB109⟩
  change Blk _ _ [(.slice p92 A_m.places.length q93), (.slice p95 A_m.tris.length q96)] at hB109
  have X111 := Below.wr X107 W108 g106
  refine wpList_nil (hK78 _ _ ?_)
  refine wp_seq_k fun K112 hK112 => ?_
  refine wp_region_lit ?_
  refine q_is rfl rfl (does_loadAgg (cs := [(.slice p92 A_m.places.length q93), (.slice p95 A_m.tris.length q96)]) (ev rfl) Try.isAgg32 Try.sizeOf32 (Blk.cells hB109) rfl) (by dsimp only [List.set]; try rfl) ?_
  refine seqd rfl rfl (does_call (args := #[(.agg #[(.slice p92 A_m.places.length q93), (.slice p95 A_m.tris.length q96)])]) cal17 (evs rfl) (c_impl_TrimMesh [(.slice p92 A_m.places.length q93), (.slice p95 A_m.tris.length q96)] A_m _ ⟨(.slice p92 A_m.places.length q93), (.slice p95 A_m.tris.length q96), rfl, (hh94 _ (((Same.refl _ _).ext E102).wr W108 (.inr (Nat.le_trans (Nat.le_refl _) hb100)))), (hh97 _ (((Same.refl _ _).ext E102).wr W108 (.inr (Nat.le_trans (Nat.le_refl _) hb100))))⟩)) ?_; rintro _ w114 ⟨E113, ⟨cs116, Lw117, rfl, hh115, hw118⟩⟩
  have X119 := Ext.gr X111 E113
  have n120 : b12 < w110.heap.size := Blk.lt ((((((((hB14.ext E21).ext E31).ext E50).ext E69).wr W74 (Nat.ne_of_lt n71)).ext E79).ext E102).wr W108 (Nat.ne_of_lt n104))
  have n121 : b66 < w110.heap.size := Blk.lt (((hB75.ext E79).ext E102).wr W108 (Nat.ne_of_lt n105))
  have n122 : b99 < w110.heap.size := Blk.lt hB109
  obtain ⟨y123, y125, rfl, h124, h126⟩ := hh115.get
  have h124l := Sl.len h124; obtain ⟨p127, q128, rfl⟩ := Sl.shape h124
  have hh129 : Hang w110.heap.size w114 (fun u => Sl RV3 3 u (.slice p127 (((trimM A_m).places).length) q128) ((trimM A_m).places)) := fun u hu => by obtain ⟨_, _, hq, _, _⟩ := hh115 u hu; cases hq; assumption
  have h126l := Sl.len h126; obtain ⟨p130, q131, rfl⟩ := Sl.shape h126
  have hh132 : Hang w110.heap.size w114 (fun u => Sl (RS RI 1) 1 u (.slice p130 (((trimM A_m).tris).length) q131) ((trimM A_m).tris)) := fun u hu => by obtain ⟨_, _, hq, _, _⟩ := hh115 u hu; cases hq; assumption
  have hw133 : WLM w110.heap.size w114 Lw117 (.slice p127 (((trimM A_m).places).length) q128) (.slice p130 (((trimM A_m).tris).length) q131) (trimM A_m) := hw118
  show wpList _ _ _ _ (fr [_, _, _, _, _, _, _, _, _, _, _, _, _, _, _, _, _, _, _, _, _, _, _, _, _, _, _, _, _, _, _, _, _, _, _, _, _, _, _, _, _, _, _, _, _, _, _, _, _, _, _, _, _, _, _, _, _, _, _, _, _, _, _, _, _, _, _, _, _, _, _, _, _, _, _, _, _, _, _, _, _, _, _, _, _, _, _, _, _, _, _, _, _, _, _, _]) _
  refine q_is rfl rfl (does_move (u := (.tuple #[(.agg #[(.slice p127 (((trimM A_m).places).length) q128), (.slice p130 (((trimM A_m).tris).length) q131)]), (Bo (meshOk A_m))])) (ev rfl)) (by dsimp only [List.set]; try rfl) ?_
  refine q_is rfl rfl (does_extract (vs := #[(.agg #[(.slice p127 (((trimM A_m).places).length) q128), (.slice p130 (((trimM A_m).tris).length) q131)]), (Bo (meshOk A_m))]) (u := (.agg #[(.slice p127 (((trimM A_m).places).length) q128), (.slice p130 (((trimM A_m).tris).length) q131)])) (ev rfl) rfl) (by dsimp only [List.set]; try rfl) ?_
  refine q_is rfl rfl (does_extract (vs := #[(.agg #[(.slice p127 (((trimM A_m).places).length) q128), (.slice p130 (((trimM A_m).tris).length) q131)]), (Bo (meshOk A_m))]) (u := (Bo (meshOk A_m))) (ev rfl) rfl) (by dsimp only [List.set]; try rfl) ?_
  refine seqd rfl rfl (does_alloc z32) ?_; rintro _ w138 ⟨b134, rfl, hb135, hB136, E137⟩
  have n139 : b12 < b134 := Nat.lt_of_lt_of_le (Blk.lt (((((((((hB14.ext E21).ext E31).ext E50).ext E69).wr W74 (Nat.ne_of_lt n71)).ext E79).ext E102).wr W108 (Nat.ne_of_lt n104)).ext E113)) hb135
  have n140 : b66 < b134 := Nat.lt_of_lt_of_le (Blk.lt ((((hB75.ext E79).ext E102).wr W108 (Nat.ne_of_lt n105)).ext E113)) hb135
  have n141 : b99 < b134 := Nat.lt_of_lt_of_le (Blk.lt (hB109.ext E113)) hb135
  have g142 : w.heap.size ≤ b134 := Nat.le_trans (Below.size X119) hb135
  change Blk _ _ [(.slice none 0 0), (.slice none 0 0)] at hB136
  have X143 := Ext.gr X119 E137
  show wpList _ _ _ _ (fr [_, _, _, _, _, _, _, _, _, _, _, _, _, _, _, _, _, _, _, _, _, _, _, _, _, _, _, _, _, _, _, _, _, _, _, _, _, _, _, _, _, _, _, _, _, _, _, _, _, _, _, _, _, _, _, _, _, _, _, _, _, _, _, _, _, _, _, _, _, _, _, _, _, _, _, _, _, _, _, _, _, _, _, _, _, _, _, _, _, _, _, _, _, _, _, _]) _
  refine seqn rfl rfl (does_store (n := 2) (cs := [(.slice none 0 0), (.slice none 0 0)]) (u := (.agg #[(.slice p127 (((trimM A_m).places).length) q128), (.slice p130 (((trimM A_m).tris).length) q131)])) (ev rfl) (ev rfl) Try.sizeOf32 rfl hB136 (Nat.le_of_ble_eq_true rfl) rfl) ?_; rintro _ w146 ⟨rfl, W144, hB145⟩
  change Blk _ _ [(.slice p127 (((trimM A_m).places).length) q128), (.slice p130 (((trimM A_m).tris).length) q131)] at hB145
  have X147 := Below.wr X143 W144 g142
  refine q_is rfl rfl (does_assign (u := (Bo (meshOk A_m))) (ev rfl)) (by dsimp only [List.set]; try rfl) ?_
  refine wpList_nil (hK112 _ _ ?_)
  refine wp_seq_k fun K148 hK148 => ?_
  refine wp_seq_k fun K149 hK149 => ?_
  obtain ⟨β1, hβ1⟩ : ∃ b : Bool, b = (sameMesh (trimM A_m) (trimM A_m)) := ⟨_, rfl⟩
  obtain ⟨β2, hβ2⟩ : ∃ b : Bool, b = ((meshOk A_m) != (meshOk A_m)) := ⟨_, rfl⟩
  refine region_text (
    [Fact.pure [] (fun v => v = (.agg #[(.slice p127 (((trimM A_m).places).length) q128), (.slice p130 (((trimM A_m).tris).length) q131)])),
    Fact.pure [] (fun v => v = (.agg #[(.slice p60 (((trimM A_m).places).length) q61), (.slice p63 (((trimM A_m).tris).length) q64)])),
    Fact.pure [32, 33] (fun v => v = (Bo β1)),
    Fact.pure [34] (fun v => v = (Bo (!β1))),
    Fact.pure [35] (fun v => v = (Bo (!β1))),
    Fact.pure [36] (fun v => (!β1) = false → v = (Bo (meshOk A_m))),
    Fact.pure [36] (fun v => (!β1) = false → v = (Bo (meshOk A_m))),
    Fact.pure [37, 38, 36] (fun v => (!β1) = false → v = (Bo β2)),
    Fact.pure [36, 39] (fun v => v = (Bo ((!β1) || β2)))]) (by simp [Fact.pure, Fact.mem]) ?_
  refine RW_d _ rfl (fun v => by dsimp only [List.set]; try rfl) (fun u hu hF => ?_) (fun v150 => ?_)
  · clear hF
    refine doesG_un rfl ?_
    refine (does_loadAgg (cs := [(.slice p127 (((trimM A_m).places).length) q128), (.slice p130 (((trimM A_m).tris).length) q131)]) (ev rfl) Try.isAgg32 Try.sizeOf32 (Blk.cells (hB145.ext hu)) rfl).mono ?_; rintro _ _ ⟨rfl, rfl⟩
    exact ⟨rfl, Ext.refl _⟩
  refine RW_d _ rfl (fun v => by dsimp only [List.set]; try rfl) (fun u hu hF => ?_) (fun v151 => ?_)
  · clear hF
    refine doesG_un rfl ?_
    refine (does_loadAgg (cs := [(.slice p60 (((trimM A_m).places).length) q61), (.slice p63 (((trimM A_m).tris).length) q64)]) (ev rfl) Try.isAgg32 Try.sizeOf32 (Blk.cells (((((((hB75.ext E79).ext E102).wr W108 (Nat.ne_of_lt n105)).ext E113).ext E137).wr W144 (Nat.ne_of_lt n140)).ext hu)) rfl).mono ?_; rintro _ _ ⟨rfl, rfl⟩
    exact ⟨rfl, Ext.refl _⟩
  refine RW_d _ rfl (fun v => by dsimp only [List.set]; try rfl) (fun u hu hF => ?_) (fun v152 => ?_)
  · have h32_ : v150 = (.agg #[(.slice p127 (((trimM A_m).places).length) q128), (.slice p130 (((trimM A_m).tris).length) q131)]) := hF.1
    have h33_ : v151 = (.agg #[(.slice p60 (((trimM A_m).places).length) q61), (.slice p63 (((trimM A_m).tris).length) q64)]) := hF.2.1
    clear hF
    refine doesG_un rfl ?_
    obtain rfl := h32_
    obtain rfl := h33_
    refine (does_call (args := #[(.agg #[(.slice p127 (((trimM A_m).places).length) q128), (.slice p130 (((trimM A_m).tris).length) q131)]), (.agg #[(.slice p60 (((trimM A_m).places).length) q61), (.slice p63 (((trimM A_m).tris).length) q64)])]) cal12 (evs rfl) (c_laws_eqMesh [(.slice p127 (((trimM A_m).places).length) q128), (.slice p130 (((trimM A_m).tris).length) q131)] (trimM A_m) [(.slice p60 (((trimM A_m).places).length) q61), (.slice p63 (((trimM A_m).tris).length) q64)] (trimM A_m) _ ⟨(.slice p127 (((trimM A_m).places).length) q128), (.slice p130 (((trimM A_m).tris).length) q131), rfl, (Sl.ext (hh129 _ (((Same.refl _ _).ext E137).wr W144 (.inr (Nat.le_trans (Nat.le_refl _) hb135)))) RV3.mono hu), (Sl.ext (hh132 _ (((Same.refl _ _).ext E137).wr W144 (.inr (Nat.le_trans (Nat.le_refl _) hb135)))) (RS.mono RI.mono) hu)⟩ ⟨(.slice p60 (((trimM A_m).places).length) q61), (.slice p63 (((trimM A_m).tris).length) q64), rfl, (Sl.ext (hh62 _ (((((((((Same.refl _ _).ext E69).wr W74 (.inr (Nat.le_trans (Nat.le_refl _) hb67))).ext E79).ext E102).wr W108 (.inr (Nat.le_trans (Nat.le_trans (Nat.le_trans (Below.size E69) (Nat.le_of_eq (Eq.symm (Wr.size W74)))) (Below.size E79)) hb100))).ext E113).ext E137).wr W144 (.inr (Nat.le_trans (Nat.le_trans (Nat.le_trans (Nat.le_trans (Nat.le_trans (Nat.le_trans (Below.size E69) (Nat.le_of_eq (Eq.symm (Wr.size W74)))) (Below.size E79)) (Below.size E102)) (Nat.le_of_eq (Eq.symm (Wr.size W108)))) (Below.size E113)) hb135)))) RV3.mono hu), (Sl.ext (hh65 _ (((((((((Same.refl _ _).ext E69).wr W74 (.inr (Nat.le_trans (Nat.le_refl _) hb67))).ext E79).ext E102).wr W108 (.inr (Nat.le_trans (Nat.le_trans (Nat.le_trans (Below.size E69) (Nat.le_of_eq (Eq.symm (Wr.size W74)))) (Below.size E79)) hb100))).ext E113).ext E137).wr W144 (.inr (Nat.le_trans (Nat.le_trans (Nat.le_trans (Nat.le_trans (Nat.le_trans (Nat.le_trans (Below.size E69) (Nat.le_of_eq (Eq.symm (Wr.size W74)))) (Below.size E79)) (Below.size E102)) (Nat.le_of_eq (Eq.symm (Wr.size W108)))) (Below.size E113)) hb135)))) (RS.mono RI.mono) hu)⟩)).mono ?_; rintro v u' ⟨hx, hv⟩
    exact ⟨hv.trans (by simp only [hβ1]), hx⟩
  refine RW_d _ rfl (fun v => by dsimp only [List.set]; try rfl) (fun u hu hF => ?_) (fun v153 => ?_)
  · have h34_ : v152 = (Bo β1) := hF.1
    clear hF
    refine doesG_un rfl ?_
    obtain rfl := h34_
    refine (does_not (ev rfl)).mono ?_; rintro _ _ ⟨rfl, rfl⟩
    exact ⟨rfl, Ext.refl _⟩
  refine RW_d _ rfl (fun v => by dsimp only [List.set]; try rfl) (fun u hu hF => ?_) (fun v154 => ?_)
  · have h35_ : v153 = (Bo (!β1)) := hF.1
    clear hF
    refine doesG_un rfl ?_
    obtain rfl := h35_
    refine (does_move (u := (Bo (!β1))) (ev rfl)).mono ?_; rintro _ _ ⟨rfl, rfl⟩
    exact ⟨rfl, Ext.refl _⟩
  refine RW_d _ rfl (fun v => by dsimp only [List.set]; try rfl) (fun u hu hF => ?_) (fun v155 => ?_)
  · have h36_ : v154 = (Bo (!β1)) := hF.1
    clear hF
    obtain rfl := h36_
    refine doesG_g (b := (!β1)) rfl (yld rfl rfl) (fun hg1 => ?_) (fun hc => ⟨fun hg1 => absurd hg1 hc, Ext.refl _⟩)
    refine (does_move (u := (Bo (meshOk A_m))) (ev rfl)).mono ?_; rintro _ _ ⟨rfl, rfl⟩
    exact ⟨fun _ => rfl, Ext.refl _⟩
  refine RW_d _ rfl (fun v => by dsimp only [List.set]; try rfl) (fun u hu hF => ?_) (fun v156 => ?_)
  · have h36_ : v154 = (Bo (!β1)) := hF.1
    clear hF
    obtain rfl := h36_
    refine doesG_g (b := (!β1)) rfl (yld rfl rfl) (fun hg1 => ?_) (fun hc => ⟨fun hg1 => absurd hg1 hc, Ext.refl _⟩)
    refine (does_move (u := (Bo (meshOk A_m))) (ev rfl)).mono ?_; rintro _ _ ⟨rfl, rfl⟩
    exact ⟨fun _ => rfl, Ext.refl _⟩
  refine RW_d _ rfl (fun v => by dsimp only [List.set]; try rfl) (fun u hu hF => ?_) (fun v157 => ?_)
  · have h37_ : (!β1) = false → v155 = (Bo (meshOk A_m)) := hF.1
    have h38_ : (!β1) = false → v156 = (Bo (meshOk A_m)) := hF.2.1
    have h36_ : v154 = (Bo (!β1)) := hF.2.2.1
    clear hF
    obtain rfl := h36_
    refine doesG_g (b := (!β1)) rfl (yld rfl rfl) (fun hg1 => ?_) (fun hc => ⟨fun hg1 => absurd hg1 hc, Ext.refl _⟩)
    obtain rfl := h37_ hg1
    obtain rfl := h38_ hg1
    refine (does_bne (p := (meshOk A_m)) (q := (meshOk A_m)) Try.underlying4 (ev rfl) (ev rfl)).mono ?_; rintro _ _ ⟨rfl, rfl⟩
    exact ⟨fun _ => (by first | rfl | (show _ = _; simp only [hβ2]; done) | (show _ = _; simp only [hβ2]; rfl)), Ext.refl _⟩
  refine RW_d _ rfl (fun v => by dsimp only [List.set]; try rfl) (fun u hu hF => ?_) (fun v158 => ?_)
  · have h36_ : v154 = (Bo (!β1)) := hF.1
    have h39_ : (!β1) = false → v157 = (Bo β2) := hF.2.1
    clear hF
    refine doesG_un rfl ?_
    skip
    obtain rfl := h36_
    refine (does_pick (b := (!β1)) (u := (Bo true)) (v := v157) (ev rfl) (ev rfl) (ev rfl)).mono ?_; rintro _ _ ⟨rfl, rfl⟩; refine ⟨?_, Ext.refl _⟩; skip
    cases hbb : (!β1)
    all_goals first | (show _ = _; simp only [↓reduceIte, Bool.true_and, Bool.false_and, Bool.true_or, Bool.false_or, Bool.false_eq_true]; done) | (have e_ := h39_ hbb; subst e_; show _ = _; simp only [↓reduceIte, Bool.true_and, Bool.false_and, Bool.true_or, Bool.false_or, Bool.false_eq_true]; done) | rfl | (have e_ := h39_ hbb; subst e_; rfl) | (simp [hbb] at h39_ ⊢; first | done | rfl | (subst h39_; rfl) | simp_all) | (simp [hbb] at h39_ ⊢; done)
  refine RW_fin ?_; intro w159 E160 hP161
  obtain ⟨⟨⟨⟨⟨⟨⟨⟨⟨-, -⟩, -⟩, -⟩, -⟩, -⟩, -⟩, -⟩, -⟩, q162⟩ := hP161
  have X163 := Ext.gr X147 E160
  have q162 : v158 = (Bo ((!β1) || β2)) := q162
  obtain rfl := q162
  show wpList _ _ _ _ (fr [_, _, _, _, _, _, _, _, _, _, _, _, _, _, _, _, _, _, _, _, _, _, _, _, _, _, _, _, _, _, _, _, _, _, _, _, _, _, _, _, _, _, _, _, _, _, _, _, _, _, _, _, _, _, _, _, _, _, _, _, _, _, _, _, _, _, _, _, _, _, _, _, _, _, _, _, _, _, _, _, _, _, _, _, _, _, _, _, _, _, _, _, _, _, _, _]) _
  refine wpList_nil (hK149 _ _ ?_)
  refine wp_cond_split (t := (!β1) || β2) (ev rfl) (fun c164 => ?_) (fun c164 => ?_)
  · have c164' := c164
    (try simp only [hβ1, hβ2, sameMesh_self, bne_self_eq_false, meSz_mk] at c164')
    (try simp only [hβ1, hβ2] at c164')
    (try simp only [icmp, Bool.and_eq_true, Bool.or_eq_true, Bool.and_eq_false_iff, Bool.or_eq_false_iff, Bool.not_eq_true', Bool.not_eq_false', decide_eq_true_eq, decide_eq_false_iff_not, beq_iff_eq, bne_iff_ne, beq_eq_false_iff_ne, bne_eq_false_iff_eq] at c164')
    refine wp_seq_k fun K165 hK165 => ?_
    refine wp_region_lit ?_
    refine q_is rfl rfl (does_assign (u := (Bo false)) (ev rfl)) (by dsimp only [List.set]; try rfl) ?_
    refine wpList_nil (hK165 _ _ ?_)
    refine wp_ret ?_
    dsimp only [Exit.then, Exit.inBlock]
    refine ret_val (v := (Bo false)) (res_T rfl (slot rfl)) X163 ?_
    try simp only [hβ1, hβ2, sameMesh_self, bne_self_eq_false, meSz_mk] at c28 c164
    have x166 : true = false := by first | with_reducible rfl | (exfalso; omega) | (exfalso; simp only [mkL_len] at * <;> omega) | (exfalso; rcases c164' with ((hh | hh) | hh) | hh <;> first | omega | (exact Bool.noConfusion hh) | (exact absurd rfl hh)) | (exfalso; rcases c164' with (hh | hh) | hh <;> first | omega | (exact Bool.noConfusion hh)) | (exfalso; rcases c164' with hh | hh <;> first | omega | (exact Bool.noConfusion hh)) | (simp only [sameMesh_self, bne_self_eq_false, meSz_mk, hβ1, hβ2, c28, c164]; done) | (simp [sameMesh_self, bne_self_eq_false, meSz_mk, hβ1, hβ2, c28, c164]; done) | (simp_all; done) | (exfalso; simp_all; done)
    exact (by first | with_reducible rfl | rw [x166] | rfl)
  have c164' := c164
  (try simp only [hβ1, hβ2, sameMesh_self, bne_self_eq_false, meSz_mk] at c164')
  (try simp only [hβ1, hβ2] at c164')
  (try simp only [icmp, Bool.and_eq_true, Bool.or_eq_true, Bool.and_eq_false_iff, Bool.or_eq_false_iff, Bool.not_eq_true', Bool.not_eq_false', decide_eq_true_eq, decide_eq_false_iff_not, beq_iff_eq, bne_iff_ne, beq_eq_false_iff_ne, bne_eq_false_iff_eq] at c164')
  refine wp_skip (hK148 _ _ ?_)
  refine wp_seq_k fun K167 hK167 => ?_
  refine wp_seq_k fun K168 hK168 => ?_
  refine region_draw (
    [Fact.pure [] (fun v => v = (.agg #[(.slice p92 A_m.places.length q93), (.slice p95 A_m.tris.length q96)])),
    Fact.pure [] (fun v => v = (.agg #[(.slice p5 A_m.places.length q6), (.slice p8 A_m.tris.length q9)])),
    Fact.mem [42] (fun v w' => ∃ cs_1 : List Value, ∃ Lw_2 : List Nat, v = (.agg cs_1.toArray) ∧ Hang w159.heap.size w' (fun u => RMeshT u A_m cs_1) ∧ WLM w159.heap.size w' Lw_2 (cellN cs_1 0) (cellN cs_1 1) A_m) (by rintro v w1 w2 hx ⟨z1, z2, rfl, k0, k1⟩; exact ⟨_, _, rfl, (k0.ext hx), (k1.same (Same.of_ext hx))⟩),
    Fact.pure [41, 43] (fun v => v = (Bo (sameMesh A_m A_m))),
    Fact.pure [44] (fun v => v = (Bo (!(sameMesh A_m A_m))))]) mixed (by kernel_rfl) (by intro _ _ d _ _ h; cases d <;> exact h) ?_
  obtain ⟨w169, hw171⟩ : ∃ w', w' = World.drew w159 := ⟨_, rfl⟩; rw [← hw171]; have E170 : Ext w159 w169 := by rw [hw171]; exact Ext.draw _
  clear hw171
  have X172 := Ext.gr X163 E170
  refine RW_d _ rfl (fun v => by dsimp only [List.set]; try rfl) (fun u hu hF => ?_) (fun v173 => ?_)
  · clear hF
    refine doesG_un rfl ?_
    refine (does_loadAgg (cs := [(.slice p92 A_m.places.length q93), (.slice p95 A_m.tris.length q96)]) (ev rfl) Try.isAgg32 Try.sizeOf32 (Blk.cells ((((((hB109.ext E113).ext E137).wr W144 (Nat.ne_of_lt n141)).ext E160).ext E170).ext hu)) rfl).mono ?_; rintro _ _ ⟨rfl, rfl⟩
    exact ⟨rfl, Ext.refl _⟩
  refine RW_d _ rfl (fun v => by dsimp only [List.set]; try rfl) (fun u hu hF => ?_) (fun v174 => ?_)
  · clear hF
    refine doesG_un rfl ?_
    refine (does_loadAgg (cs := [(.slice p5 A_m.places.length q6), (.slice p8 A_m.tris.length q9)]) (ev rfl) Try.isAgg25 Try.sizeOf25 (Blk.cells ((((((((((((((hB14.ext E21).ext E31).ext E50).ext E69).wr W74 (Nat.ne_of_lt n71)).ext E79).ext E102).wr W108 (Nat.ne_of_lt n104)).ext E113).ext E137).wr W144 (Nat.ne_of_lt n139)).ext E160).ext E170).ext hu)) rfl).mono ?_; rintro _ _ ⟨rfl, rfl⟩
    exact ⟨rfl, Ext.refl _⟩
  refine RW_d _ rfl (fun v => by dsimp only [List.set]; try rfl) (fun u hu hF => ?_) (fun v175 => ?_)
  · have h42_ : v174 = (.agg #[(.slice p5 A_m.places.length q6), (.slice p8 A_m.tris.length q9)]) := hF.1
    clear hF
    refine doesG_un rfl ?_
    obtain rfl := h42_
    refine (does_call (args := #[(.agg #[(.slice p5 A_m.places.length q6), (.slice p8 A_m.tris.length q9)])]) cal9 (evs rfl) (c_laws_toMesh [(.slice p5 A_m.places.length q6), (.slice p8 A_m.tris.length q9)] A_m _ ⟨(.slice p5 A_m.places.length q6), (.slice p8 A_m.tris.length q9), rfl, (Sl.ext (Sl.ext hs7 RV3.mono (Ext.gr X163 E170)) RV3.mono hu), (Sl.ext (Sl.ext hs10 (RS.mono RI.mono) (Ext.gr X163 E170)) (RS.mono RI.mono) hu)⟩ (by omega))).mono ?_; rintro v u' ⟨hx, ⟨csn1, Lwn2, hv, k0, k1⟩⟩
    exact ⟨⟨csn1, Lwn2, hv, (Hang.le k0 (Nat.le_trans (Below.size E170) (Below.size hu))), (WLM.le k1 (Nat.le_trans (Below.size E170) (Below.size hu)))⟩, hx⟩
  refine RW_d _ rfl (fun v => by dsimp only [List.set]; try rfl) (fun u hu hF => ?_) (fun v176 => ?_)
  · have h41_ : v173 = (.agg #[(.slice p92 A_m.places.length q93), (.slice p95 A_m.tris.length q96)]) := hF.1
    have h43_ : ∃ cs_1 : List Value, ∃ Lw_2 : List Nat, v175 = (.agg cs_1.toArray) ∧ Hang w159.heap.size u (fun u => RMeshT u A_m cs_1) ∧ WLM w159.heap.size u Lw_2 (cellN cs_1 0) (cellN cs_1 1) A_m := hF.2.1
    clear hF
    refine doesG_un rfl ?_
    obtain rfl := h41_
    obtain ⟨cs43_2, Lw43_3, rfl, hh43_1, hw43_4⟩ := h43_
    obtain ⟨y43_5, y43_7, rfl, h43_6, h43_8⟩ := hh43_1.get
    have hh43_6 := h43_6; obtain ⟨p43_9, q43_10, rfl⟩ := Sl.shape h43_6
    have hh43_8 := h43_8; obtain ⟨p43_11, q43_12, rfl⟩ := Sl.shape h43_8
    refine (does_call (args := #[(.agg #[(.slice p92 A_m.places.length q93), (.slice p95 A_m.tris.length q96)]), (.agg #[(.slice p43_9 A_m.places.length q43_10), (.slice p43_11 A_m.tris.length q43_12)])]) cal12 (evs rfl) (c_laws_eqMesh [(.slice p92 A_m.places.length q93), (.slice p95 A_m.tris.length q96)] A_m [(.slice p43_9 A_m.places.length q43_10), (.slice p43_11 A_m.tris.length q43_12)] A_m _ ⟨(.slice p92 A_m.places.length q93), (.slice p95 A_m.tris.length q96), rfl, (Sl.ext (hh94 _ ((((((((Same.refl _ _).ext E102).wr W108 (.inr (Nat.le_trans (Nat.le_refl _) hb100))).ext E113).ext E137).wr W144 (.inr (Nat.le_trans (Nat.le_trans (Nat.le_trans (Below.size E102) (Nat.le_of_eq (Eq.symm (Wr.size W108)))) (Below.size E113)) hb135))).ext E160).ext E170)) RV3.mono hu), (Sl.ext (hh97 _ ((((((((Same.refl _ _).ext E102).wr W108 (.inr (Nat.le_trans (Nat.le_refl _) hb100))).ext E113).ext E137).wr W144 (.inr (Nat.le_trans (Nat.le_trans (Nat.le_trans (Below.size E102) (Nat.le_of_eq (Eq.symm (Wr.size W108)))) (Below.size E113)) hb135))).ext E160).ext E170)) (RS.mono RI.mono) hu)⟩ ⟨(.slice p43_9 A_m.places.length q43_10), (.slice p43_11 A_m.tris.length q43_12), rfl, hh43_6, hh43_8⟩)).mono ?_; rintro v u' ⟨hx, hv⟩
    exact ⟨hv, hx⟩
  refine RW_d _ rfl (fun v => by dsimp only [List.set]; try rfl) (fun u hu hF => ?_) (fun v177 => ?_)
  · have h44_ : v176 = (Bo (sameMesh A_m A_m)) := hF.1
    clear hF
    refine doesG_un rfl ?_
    obtain rfl := h44_
    refine (does_not (ev rfl)).mono ?_; rintro _ _ ⟨rfl, rfl⟩
    exact ⟨rfl, Ext.refl _⟩
  refine RW_fin ?_; intro w178 E179 hP180
  obtain ⟨⟨⟨⟨⟨-, -⟩, -⟩, -⟩, -⟩, q181⟩ := hP180
  have X182 := Ext.gr X172 E179
  have q181 : v177 = (Bo (!(sameMesh A_m A_m))) := q181
  obtain rfl := q181
  show wpList _ _ _ _ (fr [_, _, _, _, _, _, _, _, _, _, _, _, _, _, _, _, _, _, _, _, _, _, _, _, _, _, _, _, _, _, _, _, _, _, _, _, _, _, _, _, _, _, _, _, _, _, _, _, _, _, _, _, _, _, _, _, _, _, _, _, _, _, _, _, _, _, _, _, _, _, _, _, _, _, _, _, _, _, _, _, _, _, _, _, _, _, _, _, _, _, _, _, _, _, _, _]) _
  refine wpList_nil (hK168 _ _ ?_)
  refine wp_cond_split (t := !(sameMesh A_m A_m)) (ev rfl) (fun c183 => ?_) (fun c183 => ?_)
  · rw [Bool.not_eq_true'] at c183
    have c183' := c183
    (try simp only [hβ1, hβ2, sameMesh_self, bne_self_eq_false, meSz_mk] at c183')
    (try simp only [hβ1, hβ2] at c183')
    (try simp only [icmp, Bool.and_eq_true, Bool.or_eq_true, Bool.and_eq_false_iff, Bool.or_eq_false_iff, Bool.not_eq_true', Bool.not_eq_false', decide_eq_true_eq, decide_eq_false_iff_not, beq_iff_eq, bne_iff_ne, beq_eq_false_iff_ne, bne_eq_false_iff_eq] at c183')
    refine wp_seq_k fun K184 hK184 => ?_
    refine wp_region_lit ?_
    refine q_is rfl rfl (does_assign (u := (Bo false)) (ev rfl)) (by dsimp only [List.set]; try rfl) ?_
    refine wpList_nil (hK184 _ _ ?_)
    refine wp_ret ?_
    dsimp only [Exit.then, Exit.inBlock]
    refine ret_val (v := (Bo false)) (res_T rfl (slot rfl)) X182 ?_
    try simp only [hβ1, hβ2, sameMesh_self, bne_self_eq_false, meSz_mk] at c28 c164 c183
    have x185 : true = false := by first | with_reducible rfl | (exfalso; omega) | (exfalso; simp only [mkL_len] at * <;> omega) | (exfalso; rcases c183' with ((hh | hh) | hh) | hh <;> first | omega | (exact Bool.noConfusion hh) | (exact absurd rfl hh)) | (exfalso; rcases c183' with (hh | hh) | hh <;> first | omega | (exact Bool.noConfusion hh)) | (exfalso; rcases c183' with hh | hh <;> first | omega | (exact Bool.noConfusion hh)) | (simp only [sameMesh_self, bne_self_eq_false, meSz_mk, hβ1, hβ2, c28, c164, c183]; done) | (simp [sameMesh_self, bne_self_eq_false, meSz_mk, hβ1, hβ2, c28, c164, c183]; done) | (simp_all; done) | (exfalso; simp_all; done)
    exact (by first | with_reducible rfl | rw [x185] | rfl)
  rw [Bool.not_eq_false'] at c183
  have c183' := c183
  (try simp only [hβ1, hβ2, sameMesh_self, bne_self_eq_false, meSz_mk] at c183')
  (try simp only [hβ1, hβ2] at c183')
  (try simp only [icmp, Bool.and_eq_true, Bool.or_eq_true, Bool.and_eq_false_iff, Bool.or_eq_false_iff, Bool.not_eq_true', Bool.not_eq_false', decide_eq_true_eq, decide_eq_false_iff_not, beq_iff_eq, bne_iff_ne, beq_eq_false_iff_ne, bne_eq_false_iff_eq] at c183')
  refine wp_skip (hK167 _ _ ?_)
  refine wp_seq_k fun K186 hK186 => ?_
  refine wp_region_lit ?_
  refine q_is rfl rfl (does_assign (u := (Iv 1)) (ev rfl)) (by dsimp only [List.set]; try rfl) ?_
  refine wpList_nil (hK186 _ _ ?_)
  refine wp_seq_k fun K187 hK187 => ?_
  refine wp_region_lit ?_
  refine q_is rfl rfl (does_loadAgg (cs := [(.slice p92 A_m.places.length q93), (.slice p95 A_m.tris.length q96)]) (ev rfl) Try.isAgg32 Try.sizeOf32 (Blk.cells ((((((hB109.ext E113).ext E137).wr W144 (Nat.ne_of_lt n141)).ext E160).ext E170).ext E179)) rfl) (by dsimp only [List.set]; try rfl) ?_
  refine q_is rfl rfl (does_move (u := (Iv 1)) (ev rfl)) (by dsimp only [List.set]; try rfl) ?_
  refine seqd rfl rfl (does_callK (args := #[(.agg #[(.slice p92 A_m.places.length q93), (.slice p95 A_m.tris.length q96)]), (Iv 1)]) cal13 (evs rfl) (c_laws_markMesh (.slice p92 A_m.places.length q93) (.slice p95 A_m.tris.length q96) A_m Lw83 w76.heap.size 1 _ (hw98.same (((((((((Same.refl _ _).ext E102).wr W108 (.inr (Nat.le_trans (Nat.le_refl _) hb100))).ext E113).ext E137).wr W144 (.inr (Nat.le_trans (Nat.le_trans (Nat.le_trans (Below.size E102) (Nat.le_of_eq (Eq.symm (Wr.size W108)))) (Below.size E113)) hb135))).ext E160).ext E170).ext E179)) (by omega) (by first | omega | (unfold meSz; omega) | omega))) ?_; rintro _ w188 ⟨K189, rfl, hP190, hT191⟩
  have X192 := Below.kl X182 K189 (fun c hc => Nat.le_trans (Below.size (Below.wr (Ext.gr (Ext.gr (Ext.gr (Ext.gr (Ext.gr (Ext.refl _) E15) E21) E31) E50) E69) W74 g72)) (hw98.1 c hc).1) (Nat.le_refl _)
  show wpList _ _ _ _ (fr [_, _, _, _, _, _, _, _, _, _, _, _, _, _, _, _, _, _, _, _, _, _, _, _, _, _, _, _, _, _, _, _, _, _, _, _, _, _, _, _, _, _, _, _, _, _, _, _, _, _, _, _, _, _, _, _, _, _, _, _, _, _, _, _, _, _, _, _, _, _, _, _, _, _, _, _, _, _, _, _, _, _, _, _, _, _, _, _, _, _, _, _, _, _, _, _]) _
  refine q_is rfl rfl (does_assign (u := (Iv (1 + meSz A_m))) (ev rfl)) (by dsimp only [List.set]; try rfl) ?_
  refine wpList_nil (hK187 _ _ ?_)
  refine wp_seq_k fun K193 hK193 => ?_
  refine wp_seq_k fun K194 hK194 => ?_
  obtain ⟨β3, hβ3⟩ : ∃ b : Bool, b = (icmp .lss (1 + meSz A_m) 0) := ⟨_, rfl⟩
  obtain ⟨β4, hβ4⟩ : ∃ b : Bool, b = (sameMesh (trimM A_m) (trimM A_m)) := ⟨_, rfl⟩
  obtain ⟨β5, hβ5⟩ : ∃ b : Bool, b = ((meshOk A_m) != (meshOk A_m)) := ⟨_, rfl⟩
  refine region_text (
    [Fact.pure [] (fun v => v = (Iv (1 + meSz A_m))),
    Fact.pure [49] (fun v => v = (Bo β3)),
    Fact.pure [50] (fun v => v = (Bo β3)),
    Fact.pure [51] (fun v => β3 = false → v = (.agg #[(.slice p127 (((trimM A_m).places).length) q128), (.slice p130 (((trimM A_m).tris).length) q131)])),
    Fact.pure [51] (fun v => β3 = false → v = (.agg #[(.slice p60 (((trimM A_m).places).length) q61), (.slice p63 (((trimM A_m).tris).length) q64)])),
    Fact.pure [52, 53, 51] (fun v => β3 = false → v = (Bo β4)),
    Fact.pure [54, 51] (fun v => β3 = false → v = (Bo (!β4))),
    Fact.pure [51, 55] (fun v => v = (Bo (β3 || (!β4)))),
    Fact.pure [56] (fun v => v = (Bo (β3 || (!β4)))),
    Fact.pure [57] (fun v => (β3 || (!β4)) = false → v = (Bo (meshOk A_m))),
    Fact.pure [57] (fun v => (β3 || (!β4)) = false → v = (Bo (meshOk A_m))),
    Fact.pure [58, 59, 57] (fun v => (β3 || (!β4)) = false → v = (Bo β5)),
    Fact.pure [57, 60] (fun v => v = (Bo ((β3 || (!β4)) || β5)))]) (by simp [Fact.pure, Fact.mem]) ?_
  refine RW_d _ rfl (fun v => by dsimp only [List.set]; try rfl) (fun u hu hF => ?_) (fun v195 => ?_)
  · clear hF
    refine doesG_un rfl ?_
    refine (does_move (u := (Iv (1 + meSz A_m))) (ev rfl)).mono ?_; rintro _ _ ⟨rfl, rfl⟩
    exact ⟨rfl, Ext.refl _⟩
  refine RW_d _ rfl (fun v => by dsimp only [List.set]; try rfl) (fun u hu hF => ?_) (fun v196 => ?_)
  · have h49_ : v195 = (Iv (1 + meSz A_m)) := hF.1
    clear hF
    refine doesG_un rfl ?_
    obtain rfl := h49_
    refine (does_icmp (p := 1 + meSz A_m) (q := 0) (.inr (.inr (.inl rfl))) (ev rfl) (ev rfl)).mono ?_; rintro _ _ ⟨rfl, rfl⟩
    exact ⟨(by first | rfl | (show _ = _; simp only [hβ3]; done) | (show _ = _; simp only [hβ3]; rfl)), Ext.refl _⟩
  refine RW_d _ rfl (fun v => by dsimp only [List.set]; try rfl) (fun u hu hF => ?_) (fun v197 => ?_)
  · have h50_ : v196 = (Bo β3) := hF.1
    clear hF
    refine doesG_un rfl ?_
    obtain rfl := h50_
    refine (does_move (u := (Bo β3)) (ev rfl)).mono ?_; rintro _ _ ⟨rfl, rfl⟩
    exact ⟨rfl, Ext.refl _⟩
  refine RW_d _ rfl (fun v => by dsimp only [List.set]; try rfl) (fun u hu hF => ?_) (fun v198 => ?_)
  · have h51_ : v197 = (Bo β3) := hF.1
    clear hF
    obtain rfl := h51_
    refine doesG_g (b := β3) rfl (yld rfl rfl) (fun hg1 => ?_) (fun hc => ⟨fun hg1 => absurd hg1 hc, Ext.refl _⟩)
    refine (does_loadAgg (cs := [(.slice p127 (((trimM A_m).places).length) q128), (.slice p130 (((trimM A_m).tris).length) q131)]) (ev rfl) Try.isAgg32 Try.sizeOf32 (Blk.cells (((((hB145.ext E160).ext E170).ext E179).kl K189 (fun hc => absurd (Nat.lt_of_lt_of_le (hw98.1 _ hc).2 (Nat.le_trans (Nat.le_trans (Nat.le_trans (Below.size E102) (Nat.le_of_eq (Eq.symm (Wr.size W108)))) (Below.size E113)) hb135)) (Nat.lt_irrefl _))).ext hu)) rfl).mono ?_; rintro _ _ ⟨rfl, rfl⟩
    exact ⟨fun _ => rfl, Ext.refl _⟩
  refine RW_d _ rfl (fun v => by dsimp only [List.set]; try rfl) (fun u hu hF => ?_) (fun v199 => ?_)
  · have h51_ : v197 = (Bo β3) := hF.1
    clear hF
    obtain rfl := h51_
    refine doesG_g (b := β3) rfl (yld rfl rfl) (fun hg1 => ?_) (fun hc => ⟨fun hg1 => absurd hg1 hc, Ext.refl _⟩)
    refine (does_loadAgg (cs := [(.slice p60 (((trimM A_m).places).length) q61), (.slice p63 (((trimM A_m).tris).length) q64)]) (ev rfl) Try.isAgg32 Try.sizeOf32 (Blk.cells (((((((((((hB75.ext E79).ext E102).wr W108 (Nat.ne_of_lt n105)).ext E113).ext E137).wr W144 (Nat.ne_of_lt n140)).ext E160).ext E170).ext E179).kl K189 (fun hc => absurd (hw98.1 _ hc).1 (Nat.not_le_of_lt n87))).ext hu)) rfl).mono ?_; rintro _ _ ⟨rfl, rfl⟩
    exact ⟨fun _ => rfl, Ext.refl _⟩
  refine RW_d _ rfl (fun v => by dsimp only [List.set]; try rfl) (fun u hu hF => ?_) (fun v200 => ?_)
  · have h52_ : β3 = false → v198 = (.agg #[(.slice p127 (((trimM A_m).places).length) q128), (.slice p130 (((trimM A_m).tris).length) q131)]) := hF.1
    have h53_ : β3 = false → v199 = (.agg #[(.slice p60 (((trimM A_m).places).length) q61), (.slice p63 (((trimM A_m).tris).length) q64)]) := hF.2.1
    have h51_ : v197 = (Bo β3) := hF.2.2.1
    clear hF
    obtain rfl := h51_
    refine doesG_g (b := β3) rfl (yld rfl rfl) (fun hg1 => ?_) (fun hc => ⟨fun hg1 => absurd hg1 hc, Ext.refl _⟩)
    obtain rfl := h52_ hg1
    obtain rfl := h53_ hg1
    refine (does_call (args := #[(.agg #[(.slice p127 (((trimM A_m).places).length) q128), (.slice p130 (((trimM A_m).tris).length) q131)]), (.agg #[(.slice p60 (((trimM A_m).places).length) q61), (.slice p63 (((trimM A_m).tris).length) q64)])]) cal12 (evs rfl) (c_laws_eqMesh [(.slice p127 (((trimM A_m).places).length) q128), (.slice p130 (((trimM A_m).tris).length) q131)] (trimM A_m) [(.slice p60 (((trimM A_m).places).length) q61), (.slice p63 (((trimM A_m).tris).length) q64)] (trimM A_m) _ ⟨(.slice p127 (((trimM A_m).places).length) q128), (.slice p130 (((trimM A_m).tris).length) q131), rfl, (Sl.ext (hh129 _ (((((((Same.refl _ _).ext E137).wr W144 (.inr (Nat.le_trans (Nat.le_refl _) hb135))).ext E160).ext E170).ext E179).kl K189 (fun c hc => .inl (Nat.lt_of_lt_of_le (hw98.1 c hc).2 (Nat.le_trans (Below.size E102) (Nat.le_of_eq (Eq.symm (Wr.size W108)))))))) RV3.mono hu), (Sl.ext (hh132 _ (((((((Same.refl _ _).ext E137).wr W144 (.inr (Nat.le_trans (Nat.le_refl _) hb135))).ext E160).ext E170).ext E179).kl K189 (fun c hc => .inl (Nat.lt_of_lt_of_le (hw98.1 c hc).2 (Nat.le_trans (Below.size E102) (Nat.le_of_eq (Eq.symm (Wr.size W108)))))))) (RS.mono RI.mono) hu)⟩ ⟨(.slice p60 (((trimM A_m).places).length) q61), (.slice p63 (((trimM A_m).tris).length) q64), rfl, (Sl.ext (hh62 _ (((((((((((((Same.refl _ _).ext E69).wr W74 (.inr (Nat.le_trans (Nat.le_refl _) hb67))).ext E79).ext E102).wr W108 (.inr (Nat.le_trans (Nat.le_trans (Nat.le_trans (Below.size E69) (Nat.le_of_eq (Eq.symm (Wr.size W74)))) (Below.size E79)) hb100))).ext E113).ext E137).wr W144 (.inr (Nat.le_trans (Nat.le_trans (Nat.le_trans (Nat.le_trans (Nat.le_trans (Nat.le_trans (Below.size E69) (Nat.le_of_eq (Eq.symm (Wr.size W74)))) (Below.size E79)) (Below.size E102)) (Nat.le_of_eq (Eq.symm (Wr.size W108)))) (Below.size E113)) hb135))).ext E160).ext E170).ext E179).kl K189 (fun c hc => .inr (Nat.le_trans (Nat.le_trans (Below.size E69) (Nat.le_of_eq (Eq.symm (Wr.size W74)))) (hw98.1 c hc).1)))) RV3.mono hu), (Sl.ext (hh65 _ (((((((((((((Same.refl _ _).ext E69).wr W74 (.inr (Nat.le_trans (Nat.le_refl _) hb67))).ext E79).ext E102).wr W108 (.inr (Nat.le_trans (Nat.le_trans (Nat.le_trans (Below.size E69) (Nat.le_of_eq (Eq.symm (Wr.size W74)))) (Below.size E79)) hb100))).ext E113).ext E137).wr W144 (.inr (Nat.le_trans (Nat.le_trans (Nat.le_trans (Nat.le_trans (Nat.le_trans (Nat.le_trans (Below.size E69) (Nat.le_of_eq (Eq.symm (Wr.size W74)))) (Below.size E79)) (Below.size E102)) (Nat.le_of_eq (Eq.symm (Wr.size W108)))) (Below.size E113)) hb135))).ext E160).ext E170).ext E179).kl K189 (fun c hc => .inr (Nat.le_trans (Nat.le_trans (Below.size E69) (Nat.le_of_eq (Eq.symm (Wr.size W74)))) (hw98.1 c hc).1)))) (RS.mono RI.mono) hu)⟩)).mono ?_; rintro v u' ⟨hx, hv⟩
    exact ⟨fun _ => hv.trans (by simp only [hβ4]), hx⟩
  refine RW_d _ rfl (fun v => by dsimp only [List.set]; try rfl) (fun u hu hF => ?_) (fun v201 => ?_)
  · have h54_ : β3 = false → v200 = (Bo β4) := hF.1
    have h51_ : v197 = (Bo β3) := hF.2.1
    clear hF
    obtain rfl := h51_
    refine doesG_g (b := β3) rfl (yld rfl rfl) (fun hg1 => ?_) (fun hc => ⟨fun hg1 => absurd hg1 hc, Ext.refl _⟩)
    obtain rfl := h54_ hg1
    refine (does_not (ev rfl)).mono ?_; rintro _ _ ⟨rfl, rfl⟩
    exact ⟨fun _ => rfl, Ext.refl _⟩
  refine RW_d _ rfl (fun v => by dsimp only [List.set]; try rfl) (fun u hu hF => ?_) (fun v202 => ?_)
  · have h51_ : v197 = (Bo β3) := hF.1
    have h55_ : β3 = false → v201 = (Bo (!β4)) := hF.2.1
    clear hF
    refine doesG_un rfl ?_
    skip
    obtain rfl := h51_
    refine (does_pick (b := β3) (u := (Bo true)) (v := v201) (ev rfl) (ev rfl) (ev rfl)).mono ?_; rintro _ _ ⟨rfl, rfl⟩; refine ⟨?_, Ext.refl _⟩; skip
    cases hbb : β3
    all_goals first | (show _ = _; simp only [↓reduceIte, Bool.true_and, Bool.false_and, Bool.true_or, Bool.false_or, Bool.false_eq_true]; done) | (have e_ := h55_ hbb; subst e_; show _ = _; simp only [↓reduceIte, Bool.true_and, Bool.false_and, Bool.true_or, Bool.false_or, Bool.false_eq_true]; done) | rfl | (have e_ := h55_ hbb; subst e_; rfl) | (simp [hbb] at h55_ ⊢; first | done | rfl | (subst h55_; rfl) | simp_all) | (simp [hbb] at h55_ ⊢; done)
  refine RW_d _ rfl (fun v => by dsimp only [List.set]; try rfl) (fun u hu hF => ?_) (fun v203 => ?_)
  · have h56_ : v202 = (Bo (β3 || (!β4))) := hF.1
    clear hF
    refine doesG_un rfl ?_
    obtain rfl := h56_
    refine (does_move (u := (Bo (β3 || (!β4)))) (ev rfl)).mono ?_; rintro _ _ ⟨rfl, rfl⟩
    exact ⟨rfl, Ext.refl _⟩
  refine RW_d _ rfl (fun v => by dsimp only [List.set]; try rfl) (fun u hu hF => ?_) (fun v204 => ?_)
  · have h57_ : v203 = (Bo (β3 || (!β4))) := hF.1
    clear hF
    obtain rfl := h57_
    refine doesG_g (b := (β3 || (!β4))) rfl (yld rfl rfl) (fun hg1 => ?_) (fun hc => ⟨fun hg1 => absurd hg1 hc, Ext.refl _⟩)
    refine (does_move (u := (Bo (meshOk A_m))) (ev rfl)).mono ?_; rintro _ _ ⟨rfl, rfl⟩
    exact ⟨fun _ => rfl, Ext.refl _⟩
  refine RW_d _ rfl (fun v => by dsimp only [List.set]; try rfl) (fun u hu hF => ?_) (fun v205 => ?_)
  · have h57_ : v203 = (Bo (β3 || (!β4))) := hF.1
    clear hF
    obtain rfl := h57_
    refine doesG_g (b := (β3 || (!β4))) rfl (yld rfl rfl) (fun hg1 => ?_) (fun hc => ⟨fun hg1 => absurd hg1 hc, Ext.refl _⟩)
    refine (does_move (u := (Bo (meshOk A_m))) (ev rfl)).mono ?_; rintro _ _ ⟨rfl, rfl⟩
    exact ⟨fun _ => rfl, Ext.refl _⟩
  refine RW_d _ rfl (fun v => by dsimp only [List.set]; try rfl) (fun u hu hF => ?_) (fun v206 => ?_)
  · have h58_ : (β3 || (!β4)) = false → v204 = (Bo (meshOk A_m)) := hF.1
    have h59_ : (β3 || (!β4)) = false → v205 = (Bo (meshOk A_m)) := hF.2.1
    have h57_ : v203 = (Bo (β3 || (!β4))) := hF.2.2.1
    clear hF
    obtain rfl := h57_
    refine doesG_g (b := (β3 || (!β4))) rfl (yld rfl rfl) (fun hg1 => ?_) (fun hc => ⟨fun hg1 => absurd hg1 hc, Ext.refl _⟩)
    obtain rfl := h58_ hg1
    obtain rfl := h59_ hg1
    refine (does_bne (p := (meshOk A_m)) (q := (meshOk A_m)) Try.underlying4 (ev rfl) (ev rfl)).mono ?_; rintro _ _ ⟨rfl, rfl⟩
    exact ⟨fun _ => (by first | rfl | (show _ = _; simp only [hβ5]; done) | (show _ = _; simp only [hβ5]; rfl)), Ext.refl _⟩
  refine RW_d _ rfl (fun v => by dsimp only [List.set]; try rfl) (fun u hu hF => ?_) (fun v207 => ?_)
  · have h57_ : v203 = (Bo (β3 || (!β4))) := hF.1
    have h60_ : (β3 || (!β4)) = false → v206 = (Bo β5) := hF.2.1
    clear hF
    refine doesG_un rfl ?_
    skip
    obtain rfl := h57_
    refine (does_pick (b := (β3 || (!β4))) (u := (Bo true)) (v := v206) (ev rfl) (ev rfl) (ev rfl)).mono ?_; rintro _ _ ⟨rfl, rfl⟩; refine ⟨?_, Ext.refl _⟩; skip
    cases hbb : (β3 || (!β4))
    all_goals first | (show _ = _; simp only [↓reduceIte, Bool.true_and, Bool.false_and, Bool.true_or, Bool.false_or, Bool.false_eq_true]; done) | (have e_ := h60_ hbb; subst e_; show _ = _; simp only [↓reduceIte, Bool.true_and, Bool.false_and, Bool.true_or, Bool.false_or, Bool.false_eq_true]; done) | rfl | (have e_ := h60_ hbb; subst e_; rfl) | (simp [hbb] at h60_ ⊢; first | done | rfl | (subst h60_; rfl) | simp_all) | (simp [hbb] at h60_ ⊢; done)
  refine RW_fin ?_; intro w208 E209 hP210
  obtain ⟨⟨⟨⟨⟨⟨⟨⟨⟨⟨⟨⟨⟨-, -⟩, -⟩, -⟩, -⟩, -⟩, -⟩, -⟩, -⟩, -⟩, -⟩, -⟩, -⟩, q211⟩ := hP210
  have X212 := Ext.gr X192 E209
  have q211 : v207 = (Bo ((β3 || (!β4)) || β5)) := q211
  obtain rfl := q211
  show wpList _ _ _ _ (fr [_, _, _, _, _, _, _, _, _, _, _, _, _, _, _, _, _, _, _, _, _, _, _, _, _, _, _, _, _, _, _, _, _, _, _, _, _, _, _, _, _, _, _, _, _, _, _, _, _, _, _, _, _, _, _, _, _, _, _, _, _, _, _, _, _, _, _, _, _, _, _, _, _, _, _, _, _, _, _, _, _, _, _, _, _, _, _, _, _, _, _, _, _, _, _, _]) _
  refine wpList_nil (hK194 _ _ ?_)
  refine wp_cond_split (t := (β3 || (!β4)) || β5) (ev rfl) (fun c213 => ?_) (fun c213 => ?_)
  · have c213' := c213
    (try simp only [hβ1, hβ2, hβ3, hβ4, hβ5, sameMesh_self, bne_self_eq_false, meSz_mk] at c213')
    (try simp only [hβ1, hβ2, hβ3, hβ4, hβ5] at c213')
    (try simp only [icmp, Bool.and_eq_true, Bool.or_eq_true, Bool.and_eq_false_iff, Bool.or_eq_false_iff, Bool.not_eq_true', Bool.not_eq_false', decide_eq_true_eq, decide_eq_false_iff_not, beq_iff_eq, bne_iff_ne, beq_eq_false_iff_ne, bne_eq_false_iff_eq] at c213')
    refine wp_seq_k fun K214 hK214 => ?_
    refine wp_region_lit ?_
    refine q_is rfl rfl (does_assign (u := (Bo false)) (ev rfl)) (by dsimp only [List.set]; try rfl) ?_
    refine wpList_nil (hK214 _ _ ?_)
    refine wp_ret ?_
    dsimp only [Exit.then, Exit.inBlock]
    refine ret_val (v := (Bo false)) (res_T rfl (slot rfl)) X212 ?_
    try simp only [hβ1, hβ2, hβ3, hβ4, hβ5, sameMesh_self, bne_self_eq_false, meSz_mk] at c28 c164 c183 c213
    have x215 : true = false := by first | with_reducible rfl | (exfalso; omega) | (exfalso; simp only [mkL_len] at * <;> omega) | (exfalso; rcases c213' with ((hh | hh) | hh) | hh <;> first | omega | (exact Bool.noConfusion hh) | (exact absurd rfl hh)) | (exfalso; rcases c213' with (hh | hh) | hh <;> first | omega | (exact Bool.noConfusion hh)) | (exfalso; rcases c213' with hh | hh <;> first | omega | (exact Bool.noConfusion hh)) | (simp only [sameMesh_self, bne_self_eq_false, meSz_mk, hβ1, hβ2, hβ3, hβ4, hβ5, c28, c164, c183, c213]; done) | (simp [sameMesh_self, bne_self_eq_false, meSz_mk, hβ1, hβ2, hβ3, hβ4, hβ5, c28, c164, c183, c213]; done) | (simp_all; done) | (exfalso; simp_all; done)
    exact (by first | with_reducible rfl | rw [x215] | rfl)
  have c213' := c213
  (try simp only [hβ1, hβ2, hβ3, hβ4, hβ5, sameMesh_self, bne_self_eq_false, meSz_mk] at c213')
  (try simp only [hβ1, hβ2, hβ3, hβ4, hβ5] at c213')
  (try simp only [icmp, Bool.and_eq_true, Bool.or_eq_true, Bool.and_eq_false_iff, Bool.or_eq_false_iff, Bool.not_eq_true', Bool.not_eq_false', decide_eq_true_eq, decide_eq_false_iff_not, beq_iff_eq, bne_iff_ne, beq_eq_false_iff_ne, bne_eq_false_iff_eq] at c213')
  refine wp_skip (hK193 _ _ ?_)
  refine wp_seq_k fun K216 hK216 => ?_
  refine wp_region_lit ?_
  refine q_is rfl rfl (does_assign (u := (Iv 1)) (ev rfl)) (by dsimp only [List.set]; try rfl) ?_
  refine wpList_nil (hK216 _ _ ?_)
  refine wp_seq_k fun K217 hK217 => ?_
  refine wp_region_lit ?_
  refine q_is rfl rfl (does_loadAgg (cs := [(.slice p127 (((trimM A_m).places).length) q128), (.slice p130 (((trimM A_m).tris).length) q131)]) (ev rfl) Try.isAgg32 Try.sizeOf32 (Blk.cells (((((hB145.ext E160).ext E170).ext E179).kl K189 (fun hc => absurd (Nat.lt_of_lt_of_le (hw98.1 _ hc).2 (Nat.le_trans (Nat.le_trans (Nat.le_trans (Below.size E102) (Nat.le_of_eq (Eq.symm (Wr.size W108)))) (Below.size E113)) hb135)) (Nat.lt_irrefl _))).ext E209)) rfl) (by dsimp only [List.set]; try rfl) ?_
  refine q_is rfl rfl (does_move (u := (Iv 1)) (ev rfl)) (by dsimp only [List.set]; try rfl) ?_
  refine seqd rfl rfl (does_callK (args := #[(.agg #[(.slice p127 (((trimM A_m).places).length) q128), (.slice p130 (((trimM A_m).tris).length) q131)]), (Iv 1)]) cal13 (evs rfl) (c_laws_markMesh (.slice p127 (((trimM A_m).places).length) q128) (.slice p130 (((trimM A_m).tris).length) q131) (trimM A_m) Lw117 w110.heap.size 1 _ (hw133.same ((((((((Same.refl _ _).ext E137).wr W144 (.inr (Nat.le_trans (Nat.le_refl _) hb135))).ext E160).ext E170).ext E179).kl K189 (fun c hc => .inl (Nat.lt_of_lt_of_le (hw98.1 c hc).2 (Nat.le_trans (Below.size E102) (Nat.le_of_eq (Eq.symm (Wr.size W108))))))).ext E209)) (by omega) (by first | omega | (unfold meSz; omega) | omega))) ?_; rintro _ w218 ⟨K219, rfl, hP220, hT221⟩
  have X222 := Below.kl X212 K219 (fun c hc => Nat.le_trans (Below.size (Below.wr (Ext.gr (Ext.gr (Below.wr (Ext.gr (Ext.gr (Ext.gr (Ext.gr (Ext.gr (Ext.refl _) E15) E21) E31) E50) E69) W74 g72) E79) E102) W108 g106)) (hw133.1 c hc).1) (Nat.le_refl _)
  show wpList _ _ _ _ (fr [_, _, _, _, _, _, _, _, _, _, _, _, _, _, _, _, _, _, _, _, _, _, _, _, _, _, _, _, _, _, _, _, _, _, _, _, _, _, _, _, _, _, _, _, _, _, _, _, _, _, _, _, _, _, _, _, _, _, _, _, _, _, _, _, _, _, _, _, _, _, _, _, _, _, _, _, _, _, _, _, _, _, _, _, _, _, _, _, _, _, _, _, _, _, _, _]) _
  refine q_is rfl rfl (does_assign (u := (Iv (1 + meSz (trimM A_m)))) (ev rfl)) (by dsimp only [List.set]; try rfl) ?_
  refine wpList_nil (hK217 _ _ ?_)
  refine wp_seq_k fun K223 hK223 => ?_
  refine wp_region_lit ?_
  refine q_is rfl rfl (does_assign (u := (Iv 1)) (ev rfl)) (by dsimp only [List.set]; try rfl) ?_
  refine wpList_nil (hK223 _ _ ?_)
  refine wp_seq_k fun K224 hK224 => ?_
  refine wp_region_lit ?_
  refine q_is rfl rfl (does_loadAgg (cs := [(.slice p127 (((trimM A_m).places).length) q128), (.slice p130 (((trimM A_m).tris).length) q131)]) (ev rfl) Try.isAgg32 Try.sizeOf32 (Blk.cells ((((((hB145.ext E160).ext E170).ext E179).kl K189 (fun hc => absurd (Nat.lt_of_lt_of_le (hw98.1 _ hc).2 (Nat.le_trans (Nat.le_trans (Nat.le_trans (Below.size E102) (Nat.le_of_eq (Eq.symm (Wr.size W108)))) (Below.size E113)) hb135)) (Nat.lt_irrefl _))).ext E209).kl K219 (fun hc => absurd (Nat.lt_of_lt_of_le (hw133.1 _ hc).2 (Nat.le_trans (Nat.le_refl _) hb135)) (Nat.lt_irrefl _)))) rfl) (by dsimp only [List.set]; try rfl) ?_
  refine q_is rfl rfl (does_move (u := (Iv 1)) (ev rfl)) (by dsimp only [List.set]; try rfl) ?_
  refine seqd rfl rfl (does_call (args := #[(.agg #[(.slice p127 (((trimM A_m).places).length) q128), (.slice p130 (((trimM A_m).tris).length) q131)]), (Iv 1)]) cal18 (evs rfl) (c_laws_heldMesh [(.slice p127 (((trimM A_m).places).length) q128), (.slice p130 (((trimM A_m).tris).length) q131)] (MeshT.mk (mkL fV 3 1 (trimM A_m).places.length) (mkLL fI 1 (preK (1 + ((trimM A_m).places.length : Int) * 3) (trimM A_m).tris) (trimM A_m).tris)) 1 _ ⟨(.slice p127 (((trimM A_m).places).length) q128), (.slice p130 (((trimM A_m).tris).length) q131), rfl, hP220.get, hT221.get⟩ (by exact mkL_eq) (by (try dsimp only); rw [mkL_len]; exact mkLL_self) (by omega) (by rw [meSz_mk]; omega))) ?_; rintro _ w226 ⟨E225, rfl⟩
  have X227 := Ext.gr X222 E225
  show wpList _ _ _ _ (fr [_, _, _, _, _, _, _, _, _, _, _, _, _, _, _, _, _, _, _, _, _, _, _, _, _, _, _, _, _, _, _, _, _, _, _, _, _, _, _, _, _, _, _, _, _, _, _, _, _, _, _, _, _, _, _, _, _, _, _, _, _, _, _, _, _, _, _, _, _, _, _, _, _, _, _, _, _, _, _, _, _, _, _, _, _, _, _, _, _, _, _, _, _, _, _, _]) _
  refine q_is rfl rfl (does_assign (u := (Iv (1 + meSz (MeshT.mk (mkL fV 3 1 (trimM A_m).places.length) (mkLL fI 1 (preK (1 + ((trimM A_m).places.length : Int) * 3) (trimM A_m).tris) (trimM A_m).tris))))) (ev rfl)) (by dsimp only [List.set]; try rfl) ?_
  refine wpList_nil (hK224 _ _ ?_)
  refine wp_seq_k fun K228 hK228 => ?_
  refine wp_seq_k fun K229 hK229 => ?_
  refine wp_region_lit ?_
  refine q_is rfl rfl (does_move (u := (Iv (1 + meSz (MeshT.mk (mkL fV 3 1 (trimM A_m).places.length) (mkLL fI 1 (preK (1 + ((trimM A_m).places.length : Int) * 3) (trimM A_m).tris) (trimM A_m).tris))))) (ev rfl)) (by dsimp only [List.set]; try rfl) ?_
  refine q_is rfl rfl (does_icmp (p := 1 + meSz (MeshT.mk (mkL fV 3 1 (trimM A_m).places.length) (mkLL fI 1 (preK (1 + ((trimM A_m).places.length : Int) * 3) (trimM A_m).tris) (trimM A_m).tris))) (q := 0) (.inr (.inr (.inl rfl))) (ev rfl) (ev rfl)) (by dsimp only [List.set]; try rfl) ?_
  refine wpList_nil (hK229 _ _ ?_)
  refine wp_cond_split (t := icmp .lss (1 + meSz (MeshT.mk (mkL fV 3 1 (trimM A_m).places.length) (mkLL fI 1 (preK (1 + ((trimM A_m).places.length : Int) * 3) (trimM A_m).tris) (trimM A_m).tris))) 0) (ev rfl) (fun c230 => ?_) (fun c230 => ?_)
  · have c230' := c230
    (try simp only [hβ1, hβ2, hβ3, hβ4, hβ5, sameMesh_self, bne_self_eq_false, meSz_mk] at c230')
    (try simp only [hβ1, hβ2, hβ3, hβ4, hβ5] at c230')
    (try simp only [icmp, Bool.and_eq_true, Bool.or_eq_true, Bool.and_eq_false_iff, Bool.or_eq_false_iff, Bool.not_eq_true', Bool.not_eq_false', decide_eq_true_eq, decide_eq_false_iff_not, beq_iff_eq, bne_iff_ne, beq_eq_false_iff_ne, bne_eq_false_iff_eq] at c230')
    refine wp_seq_k fun K231 hK231 => ?_
    refine wp_region_lit ?_
    refine q_is rfl rfl (does_assign (u := (Bo false)) (ev rfl)) (by dsimp only [List.set]; try rfl) ?_
    refine wpList_nil (hK231 _ _ ?_)
    refine wp_ret ?_
    dsimp only [Exit.then, Exit.inBlock]
    refine ret_val (v := (Bo false)) (res_T rfl (slot rfl)) X227 ?_
    try simp only [hβ1, hβ2, hβ3, hβ4, hβ5, sameMesh_self, bne_self_eq_false, meSz_mk] at c28 c164 c183 c213 c230
    have x232 : true = false := by first | with_reducible rfl | (exfalso; omega) | (exfalso; simp only [mkL_len] at * <;> omega) | (exfalso; rcases c230' with ((hh | hh) | hh) | hh <;> first | omega | (exact Bool.noConfusion hh) | (exact absurd rfl hh)) | (exfalso; rcases c230' with (hh | hh) | hh <;> first | omega | (exact Bool.noConfusion hh)) | (exfalso; rcases c230' with hh | hh <;> first | omega | (exact Bool.noConfusion hh)) | (simp only [sameMesh_self, bne_self_eq_false, meSz_mk, hβ1, hβ2, hβ3, hβ4, hβ5, c28, c164, c183, c213, c230]; done) | (simp [sameMesh_self, bne_self_eq_false, meSz_mk, hβ1, hβ2, hβ3, hβ4, hβ5, c28, c164, c183, c213, c230]; done) | (simp_all; done) | (exfalso; simp_all; done)
    exact (by first | with_reducible rfl | rw [x232] | rfl)
  have c230' := c230
  (try simp only [hβ1, hβ2, hβ3, hβ4, hβ5, sameMesh_self, bne_self_eq_false, meSz_mk] at c230')
  (try simp only [hβ1, hβ2, hβ3, hβ4, hβ5] at c230')
  (try simp only [icmp, Bool.and_eq_true, Bool.or_eq_true, Bool.and_eq_false_iff, Bool.or_eq_false_iff, Bool.not_eq_true', Bool.not_eq_false', decide_eq_true_eq, decide_eq_false_iff_not, beq_iff_eq, bne_iff_ne, beq_eq_false_iff_ne, bne_eq_false_iff_eq] at c230')
  refine wp_skip (hK228 _ _ ?_)
  refine wp_seq_k fun K233 hK233 => ?_
  refine wp_seq_k fun K234 hK234 => ?_
  refine wp_region_lit ?_
  refine q_is rfl rfl (does_move (u := (Iv (1 + meSz (MeshT.mk (mkL fV 3 1 (trimM A_m).places.length) (mkLL fI 1 (preK (1 + ((trimM A_m).places.length : Int) * 3) (trimM A_m).tris) (trimM A_m).tris))))) (ev rfl)) (by dsimp only [List.set]; try rfl) ?_
  refine q_is rfl rfl (does_move (u := (Iv (1 + meSz (trimM A_m)))) (ev rfl)) (by dsimp only [List.set]; try rfl) ?_
  refine q_is rfl rfl (does_icmp (p := 1 + meSz (MeshT.mk (mkL fV 3 1 (trimM A_m).places.length) (mkLL fI 1 (preK (1 + ((trimM A_m).places.length : Int) * 3) (trimM A_m).tris) (trimM A_m).tris))) (q := 1 + meSz (trimM A_m)) (.inr (.inl rfl)) (ev rfl) (ev rfl)) (by dsimp only [List.set]; try rfl) ?_
  refine wpList_nil (hK234 _ _ ?_)
  refine wp_cond_split (t := icmp .neq (1 + meSz (MeshT.mk (mkL fV 3 1 (trimM A_m).places.length) (mkLL fI 1 (preK (1 + ((trimM A_m).places.length : Int) * 3) (trimM A_m).tris) (trimM A_m).tris))) (1 + meSz (trimM A_m))) (ev rfl) (fun c235 => ?_) (fun c235 => ?_)
  · have c235' := c235
    (try simp only [hβ1, hβ2, hβ3, hβ4, hβ5, sameMesh_self, bne_self_eq_false, meSz_mk] at c235')
    (try simp only [hβ1, hβ2, hβ3, hβ4, hβ5] at c235')
    (try simp only [icmp, Bool.and_eq_true, Bool.or_eq_true, Bool.and_eq_false_iff, Bool.or_eq_false_iff, Bool.not_eq_true', Bool.not_eq_false', decide_eq_true_eq, decide_eq_false_iff_not, beq_iff_eq, bne_iff_ne, beq_eq_false_iff_ne, bne_eq_false_iff_eq] at c235')
    refine wp_seq_k fun K236 hK236 => ?_
    refine wp_region_lit ?_
    refine q_is rfl rfl (does_assign (u := (Bo false)) (ev rfl)) (by dsimp only [List.set]; try rfl) ?_
    refine wpList_nil (hK236 _ _ ?_)
    refine wp_ret ?_
    dsimp only [Exit.then, Exit.inBlock]
    refine ret_val (v := (Bo false)) (res_T rfl (slot rfl)) X227 ?_
    try simp only [hβ1, hβ2, hβ3, hβ4, hβ5, sameMesh_self, bne_self_eq_false, meSz_mk] at c28 c164 c183 c213 c230 c235
    have x237 : true = false := by first | with_reducible rfl | (exfalso; omega) | (exfalso; simp only [mkL_len] at * <;> omega) | (exfalso; rcases c235' with ((hh | hh) | hh) | hh <;> first | omega | (exact Bool.noConfusion hh) | (exact absurd rfl hh)) | (exfalso; rcases c235' with (hh | hh) | hh <;> first | omega | (exact Bool.noConfusion hh)) | (exfalso; rcases c235' with hh | hh <;> first | omega | (exact Bool.noConfusion hh)) | (simp only [sameMesh_self, bne_self_eq_false, meSz_mk, hβ1, hβ2, hβ3, hβ4, hβ5, c28, c164, c183, c213, c230, c235]; done) | (simp [sameMesh_self, bne_self_eq_false, meSz_mk, hβ1, hβ2, hβ3, hβ4, hβ5, c28, c164, c183, c213, c230, c235]; done) | (simp_all; done) | (exfalso; simp_all; done)
    exact (by first | with_reducible rfl | rw [x237] | rfl)
  have c235' := c235
  (try simp only [hβ1, hβ2, hβ3, hβ4, hβ5, sameMesh_self, bne_self_eq_false, meSz_mk] at c235')
  (try simp only [hβ1, hβ2, hβ3, hβ4, hβ5] at c235')
  (try simp only [icmp, Bool.and_eq_true, Bool.or_eq_true, Bool.and_eq_false_iff, Bool.or_eq_false_iff, Bool.not_eq_true', Bool.not_eq_false', decide_eq_true_eq, decide_eq_false_iff_not, beq_iff_eq, bne_iff_ne, beq_eq_false_iff_ne, bne_eq_false_iff_eq] at c235')
  refine wp_skip (hK233 _ _ ?_)
  refine wp_seq_k fun K238 hK238 => ?_
  refine wp_region_lit ?_
  refine q_is rfl rfl (does_loadAgg (cs := [(.slice p5 A_m.places.length q6), (.slice p8 A_m.tris.length q9)]) (ev rfl) Try.isAgg25 Try.sizeOf25 (Blk.cells ((((((((((((((((((hB14.ext E21).ext E31).ext E50).ext E69).wr W74 (Nat.ne_of_lt n71)).ext E79).ext E102).wr W108 (Nat.ne_of_lt n104)).ext E113).ext E137).wr W144 (Nat.ne_of_lt n139)).ext E160).ext E170).ext E179).kl K189 (fun hc => absurd (hw98.1 _ hc).1 (Nat.not_le_of_lt n86))).ext E209).kl K219 (fun hc => absurd (hw133.1 _ hc).1 (Nat.not_le_of_lt n120))).ext E225)) rfl) (by dsimp only [List.set]; try rfl) ?_
  refine seqd rfl rfl (does_call (args := #[(.agg #[(.slice p5 A_m.places.length q6), (.slice p8 A_m.tris.length q9)])]) cal9 (evs rfl) (c_laws_toMesh [(.slice p5 A_m.places.length q6), (.slice p8 A_m.tris.length q9)] A_m _ ⟨(.slice p5 A_m.places.length q6), (.slice p8 A_m.tris.length q9), rfl, (Sl.ext hs7 RV3.mono X227), (Sl.ext hs10 (RS.mono RI.mono) X227)⟩ (by omega))) ?_; rintro _ w240 ⟨E239, ⟨cs242, Lw243, rfl, hh241, hw244⟩⟩
  have X245 := Ext.gr X227 E239
  have n246 : b12 < w226.heap.size := Blk.lt ((((((((((((((((((hB14.ext E21).ext E31).ext E50).ext E69).wr W74 (Nat.ne_of_lt n71)).ext E79).ext E102).wr W108 (Nat.ne_of_lt n104)).ext E113).ext E137).wr W144 (Nat.ne_of_lt n139)).ext E160).ext E170).ext E179).kl K189 (fun hc => absurd (hw98.1 _ hc).1 (Nat.not_le_of_lt n86))).ext E209).kl K219 (fun hc => absurd (hw133.1 _ hc).1 (Nat.not_le_of_lt n120))).ext E225)
  have n247 : b66 < w226.heap.size := Blk.lt (((((((((((((hB75.ext E79).ext E102).wr W108 (Nat.ne_of_lt n105)).ext E113).ext E137).wr W144 (Nat.ne_of_lt n140)).ext E160).ext E170).ext E179).kl K189 (fun hc => absurd (hw98.1 _ hc).1 (Nat.not_le_of_lt n87))).ext E209).kl K219 (fun hc => absurd (hw133.1 _ hc).1 (Nat.not_le_of_lt n121))).ext E225)
  have n248 : b99 < w226.heap.size := Blk.lt ((((((((((hB109.ext E113).ext E137).wr W144 (Nat.ne_of_lt n141)).ext E160).ext E170).ext E179).kl K189 (fun hc => absurd (Nat.lt_of_lt_of_le (hw98.1 _ hc).2 (Nat.le_trans (Nat.le_refl _) hb100)) (Nat.lt_irrefl _))).ext E209).kl K219 (fun hc => absurd (hw133.1 _ hc).1 (Nat.not_le_of_lt n122))).ext E225)
  have n249 : b134 < w226.heap.size := Blk.lt (((((((hB145.ext E160).ext E170).ext E179).kl K189 (fun hc => absurd (Nat.lt_of_lt_of_le (hw98.1 _ hc).2 (Nat.le_trans (Nat.le_trans (Nat.le_trans (Below.size E102) (Nat.le_of_eq (Eq.symm (Wr.size W108)))) (Below.size E113)) hb135)) (Nat.lt_irrefl _))).ext E209).kl K219 (fun hc => absurd (Nat.lt_of_lt_of_le (hw133.1 _ hc).2 (Nat.le_trans (Nat.le_refl _) hb135)) (Nat.lt_irrefl _))).ext E225)
  obtain ⟨y250, y252, rfl, h251, h253⟩ := hh241.get
  have h251l := Sl.len h251; obtain ⟨p254, q255, rfl⟩ := Sl.shape h251
  have hh256 : Hang w226.heap.size w240 (fun u => Sl RV3 3 u (.slice p254 A_m.places.length q255) A_m.places) := fun u hu => by obtain ⟨_, _, hq, _, _⟩ := hh241 u hu; cases hq; assumption
  have h253l := Sl.len h253; obtain ⟨p257, q258, rfl⟩ := Sl.shape h253
  have hh259 : Hang w226.heap.size w240 (fun u => Sl (RS RI 1) 1 u (.slice p257 A_m.tris.length q258) A_m.tris) := fun u hu => by obtain ⟨_, _, hq, _, _⟩ := hh241 u hu; cases hq; assumption
  have hw260 : WLM w226.heap.size w240 Lw243 (.slice p254 A_m.places.length q255) (.slice p257 A_m.tris.length q258) A_m := hw244
  show wpList _ _ _ _ (fr [_, _, _, _, _, _, _, _, _, _, _, _, _, _, _, _, _, _, _, _, _, _, _, _, _, _, _, _, _, _, _, _, _, _, _, _, _, _, _, _, _, _, _, _, _, _, _, _, _, _, _, _, _, _, _, _, _, _, _, _, _, _, _, _, _, _, _, _, _, _, _, _, _, _, _, _, _, _, _, _, _, _, _, _, _, _, _, _, _, _, _, _, _, _, _, _]) _
  refine seqd rfl rfl (does_call (args := #[(.agg #[(.slice p254 A_m.places.length q255), (.slice p257 A_m.tris.length q258)])]) cal17 (evs rfl) (c_impl_TrimMesh [(.slice p254 A_m.places.length q255), (.slice p257 A_m.tris.length q258)] A_m _ ⟨(.slice p254 A_m.places.length q255), (.slice p257 A_m.tris.length q258), rfl, hh256.get, hh259.get⟩)) ?_; rintro _ w262 ⟨E261, ⟨cs264, Lw265, rfl, hh263, hw266⟩⟩
  have X267 := Ext.gr X245 E261
  have n268 : b12 < w240.heap.size := Blk.lt (((((((((((((((((((hB14.ext E21).ext E31).ext E50).ext E69).wr W74 (Nat.ne_of_lt n71)).ext E79).ext E102).wr W108 (Nat.ne_of_lt n104)).ext E113).ext E137).wr W144 (Nat.ne_of_lt n139)).ext E160).ext E170).ext E179).kl K189 (fun hc => absurd (hw98.1 _ hc).1 (Nat.not_le_of_lt n86))).ext E209).kl K219 (fun hc => absurd (hw133.1 _ hc).1 (Nat.not_le_of_lt n120))).ext E225).ext E239)
  have n269 : b66 < w240.heap.size := Blk.lt ((((((((((((((hB75.ext E79).ext E102).wr W108 (Nat.ne_of_lt n105)).ext E113).ext E137).wr W144 (Nat.ne_of_lt n140)).ext E160).ext E170).ext E179).kl K189 (fun hc => absurd (hw98.1 _ hc).1 (Nat.not_le_of_lt n87))).ext E209).kl K219 (fun hc => absurd (hw133.1 _ hc).1 (Nat.not_le_of_lt n121))).ext E225).ext E239)
  have n270 : b99 < w240.heap.size := Blk.lt (((((((((((hB109.ext E113).ext E137).wr W144 (Nat.ne_of_lt n141)).ext E160).ext E170).ext E179).kl K189 (fun hc => absurd (Nat.lt_of_lt_of_le (hw98.1 _ hc).2 (Nat.le_trans (Nat.le_refl _) hb100)) (Nat.lt_irrefl _))).ext E209).kl K219 (fun hc => absurd (hw133.1 _ hc).1 (Nat.not_le_of_lt n122))).ext E225).ext E239)
  have n271 : b134 < w240.heap.size := Blk.lt ((((((((hB145.ext E160).ext E170).ext E179).kl K189 (fun hc => absurd (Nat.lt_of_lt_of_le (hw98.1 _ hc).2 (Nat.le_trans (Nat.le_trans (Nat.le_trans (Below.size E102) (Nat.le_of_eq (Eq.symm (Wr.size W108)))) (Below.size E113)) hb135)) (Nat.lt_irrefl _))).ext E209).kl K219 (fun hc => absurd (Nat.lt_of_lt_of_le (hw133.1 _ hc).2 (Nat.le_trans (Nat.le_refl _) hb135)) (Nat.lt_irrefl _))).ext E225).ext E239)
  obtain ⟨y272, y274, rfl, h273, h275⟩ := hh263.get
  have h273l := Sl.len h273; obtain ⟨p276, q277, rfl⟩ := Sl.shape h273
  have hh278 : Hang w240.heap.size w262 (fun u => Sl RV3 3 u (.slice p276 (((trimM A_m).places).length) q277) ((trimM A_m).places)) := fun u hu => by obtain ⟨_, _, hq, _, _⟩ := hh263 u hu; cases hq; assumption
  have h275l := Sl.len h275; obtain ⟨p279, q280, rfl⟩ := Sl.shape h275
  have hh281 : Hang w240.heap.size w262 (fun u => Sl (RS RI 1) 1 u (.slice p279 (((trimM A_m).tris).length) q280) ((trimM A_m).tris)) := fun u hu => by obtain ⟨_, _, hq, _, _⟩ := hh263 u hu; cases hq; assumption
  have hw282 : WLM w240.heap.size w262 Lw265 (.slice p276 (((trimM A_m).places).length) q277) (.slice p279 (((trimM A_m).tris).length) q280) (trimM A_m) := hw266
  show wpList _ _ _ _ (fr [_, _, _, _, _, _, _, _, _, _, _, _, _, _, _, _, _, _, _, _, _, _, _, _, _, _, _, _, _, _, _, _, _, _, _, _, _, _, _, _, _, _, _, _, _, _, _, _, _, _, _, _, _, _, _, _, _, _, _, _, _, _, _, _, _, _, _, _, _, _, _, _, _, _, _, _, _, _, _, _, _, _, _, _, _, _, _, _, _, _, _, _, _, _, _, _]) _
  refine q_is rfl rfl (does_move (u := (.tuple #[(.agg #[(.slice p276 (((trimM A_m).places).length) q277), (.slice p279 (((trimM A_m).tris).length) q280)]), (Bo (meshOk A_m))])) (ev rfl)) (by dsimp only [List.set]; try rfl) ?_
  refine q_is rfl rfl (does_extract (vs := #[(.agg #[(.slice p276 (((trimM A_m).places).length) q277), (.slice p279 (((trimM A_m).tris).length) q280)]), (Bo (meshOk A_m))]) (u := (.agg #[(.slice p276 (((trimM A_m).places).length) q277), (.slice p279 (((trimM A_m).tris).length) q280)])) (ev rfl) rfl) (by dsimp only [List.set]; try rfl) ?_
  refine q_is rfl rfl (does_extract (vs := #[(.agg #[(.slice p276 (((trimM A_m).places).length) q277), (.slice p279 (((trimM A_m).tris).length) q280)]), (Bo (meshOk A_m))]) (u := (Bo (meshOk A_m))) (ev rfl) rfl) (by dsimp only [List.set]; try rfl) ?_
  refine seqd rfl rfl (does_alloc z32) ?_; rintro _ w287 ⟨b283, rfl, hb284, hB285, E286⟩
  have n288 : b12 < b283 := Nat.lt_of_lt_of_le (Blk.lt ((((((((((((((((((((hB14.ext E21).ext E31).ext E50).ext E69).wr W74 (Nat.ne_of_lt n71)).ext E79).ext E102).wr W108 (Nat.ne_of_lt n104)).ext E113).ext E137).wr W144 (Nat.ne_of_lt n139)).ext E160).ext E170).ext E179).kl K189 (fun hc => absurd (hw98.1 _ hc).1 (Nat.not_le_of_lt n86))).ext E209).kl K219 (fun hc => absurd (hw133.1 _ hc).1 (Nat.not_le_of_lt n120))).ext E225).ext E239).ext E261)) hb284
  have n289 : b66 < b283 := Nat.lt_of_lt_of_le (Blk.lt (((((((((((((((hB75.ext E79).ext E102).wr W108 (Nat.ne_of_lt n105)).ext E113).ext E137).wr W144 (Nat.ne_of_lt n140)).ext E160).ext E170).ext E179).kl K189 (fun hc => absurd (hw98.1 _ hc).1 (Nat.not_le_of_lt n87))).ext E209).kl K219 (fun hc => absurd (hw133.1 _ hc).1 (Nat.not_le_of_lt n121))).ext E225).ext E239).ext E261)) hb284
  have n290 : b99 < b283 := Nat.lt_of_lt_of_le (Blk.lt ((((((((((((hB109.ext E113).ext E137).wr W144 (Nat.ne_of_lt n141)).ext E160).ext E170).ext E179).kl K189 (fun hc => absurd (Nat.lt_of_lt_of_le (hw98.1 _ hc).2 (Nat.le_trans (Nat.le_refl _) hb100)) (Nat.lt_irrefl _))).ext E209).kl K219 (fun hc => absurd (hw133.1 _ hc).1 (Nat.not_le_of_lt n122))).ext E225).ext E239).ext E261)) hb284
  have n291 : b134 < b283 := Nat.lt_of_lt_of_le (Blk.lt (((((((((hB145.ext E160).ext E170).ext E179).kl K189 (fun hc => absurd (Nat.lt_of_lt_of_le (hw98.1 _ hc).2 (Nat.le_trans (Nat.le_trans (Nat.le_trans (Below.size E102) (Nat.le_of_eq (Eq.symm (Wr.size W108)))) (Below.size E113)) hb135)) (Nat.lt_irrefl _))).ext E209).kl K219 (fun hc => absurd (Nat.lt_of_lt_of_le (hw133.1 _ hc).2 (Nat.le_trans (Nat.le_refl _) hb135)) (Nat.lt_irrefl _))).ext E225).ext E239).ext E261)) hb284
  have g292 : w.heap.size ≤ b283 := Nat.le_trans (Below.size X267) hb284
  change Blk _ _ [(.slice none 0 0), (.slice none 0 0)] at hB285
  have X293 := Ext.gr X267 E286
  show wpList _ _ _ _ (fr [_, _, _, _, _, _, _, _, _, _, _, _, _, _, _, _, _, _, _, _, _, _, _, _, _, _, _, _, _, _, _, _, _, _, _, _, _, _, _, _, _, _, _, _, _, _, _, _, _, _, _, _, _, _, _, _, _, _, _, _, _, _, _, _, _, _, _, _, _, _, _, _, _, _, _, _, _, _, _, _, _, _, _, _, _, _, _, _, _, _, _, _, _, _, _, _]) _
  refine seqn rfl rfl (does_store (n := 2) (cs := [(.slice none 0 0), (.slice none 0 0)]) (u := (.agg #[(.slice p276 (((trimM A_m).places).length) q277), (.slice p279 (((trimM A_m).tris).length) q280)])) (ev rfl) (ev rfl) Try.sizeOf32 rfl hB285 (Nat.le_of_ble_eq_true rfl) rfl) ?_; rintro _ w296 ⟨rfl, W294, hB295⟩
  change Blk _ _ [(.slice p276 (((trimM A_m).places).length) q277), (.slice p279 (((trimM A_m).tris).length) q280)] at hB295
  have X297 := Below.wr X293 W294 g292
  refine q_is rfl rfl (does_assign (u := (Bo (meshOk A_m))) (ev rfl)) (by dsimp only [List.set]; try rfl) ?_
  refine wpList_nil (hK238 _ _ ?_)
  refine wp_seq_k fun K298 hK298 => ?_
  refine wp_seq_k fun K299 hK299 => ?_
  obtain ⟨β6, hβ6⟩ : ∃ b : Bool, b = (sameMesh (trimM A_m) (trimM A_m)) := ⟨_, rfl⟩
  obtain ⟨β7, hβ7⟩ : ∃ b : Bool, b = ((meshOk A_m) != (meshOk A_m)) := ⟨_, rfl⟩
  refine region_text (
    [Fact.pure [] (fun v => v = (.agg #[(.slice p276 (((trimM A_m).places).length) q277), (.slice p279 (((trimM A_m).tris).length) q280)])),
    Fact.pure [] (fun v => v = (.agg #[(.slice p60 (((trimM A_m).places).length) q61), (.slice p63 (((trimM A_m).tris).length) q64)])),
    Fact.pure [79, 80] (fun v => v = (Bo β6)),
    Fact.pure [81] (fun v => v = (Bo (!β6))),
    Fact.pure [82] (fun v => v = (Bo (!β6))),
    Fact.pure [83] (fun v => (!β6) = false → v = (Bo (meshOk A_m))),
    Fact.pure [83] (fun v => (!β6) = false → v = (Bo (meshOk A_m))),
    Fact.pure [84, 85, 83] (fun v => (!β6) = false → v = (Bo β7)),
    Fact.pure [83, 86] (fun v => v = (Bo ((!β6) || β7)))]) (by simp [Fact.pure, Fact.mem]) ?_
  refine RW_d _ rfl (fun v => by dsimp only [List.set]; try rfl) (fun u hu hF => ?_) (fun v300 => ?_)
  · clear hF
    refine doesG_un rfl ?_
    refine (does_loadAgg (cs := [(.slice p276 (((trimM A_m).places).length) q277), (.slice p279 (((trimM A_m).tris).length) q280)]) (ev rfl) Try.isAgg32 Try.sizeOf32 (Blk.cells (hB295.ext hu)) rfl).mono ?_; rintro _ _ ⟨rfl, rfl⟩
    exact ⟨rfl, Ext.refl _⟩
  refine RW_d _ rfl (fun v => by dsimp only [List.set]; try rfl) (fun u hu hF => ?_) (fun v301 => ?_)
  · clear hF
    refine doesG_un rfl ?_
    refine (does_loadAgg (cs := [(.slice p60 (((trimM A_m).places).length) q61), (.slice p63 (((trimM A_m).tris).length) q64)]) (ev rfl) Try.isAgg32 Try.sizeOf32 (Blk.cells ((((((((((((((((((hB75.ext E79).ext E102).wr W108 (Nat.ne_of_lt n105)).ext E113).ext E137).wr W144 (Nat.ne_of_lt n140)).ext E160).ext E170).ext E179).kl K189 (fun hc => absurd (hw98.1 _ hc).1 (Nat.not_le_of_lt n87))).ext E209).kl K219 (fun hc => absurd (hw133.1 _ hc).1 (Nat.not_le_of_lt n121))).ext E225).ext E239).ext E261).ext E286).wr W294 (Nat.ne_of_lt n289)).ext hu)) rfl).mono ?_; rintro _ _ ⟨rfl, rfl⟩
    exact ⟨rfl, Ext.refl _⟩
  refine RW_d _ rfl (fun v => by dsimp only [List.set]; try rfl) (fun u hu hF => ?_) (fun v302 => ?_)
  · have h79_ : v300 = (.agg #[(.slice p276 (((trimM A_m).places).length) q277), (.slice p279 (((trimM A_m).tris).length) q280)]) := hF.1
    have h80_ : v301 = (.agg #[(.slice p60 (((trimM A_m).places).length) q61), (.slice p63 (((trimM A_m).tris).length) q64)]) := hF.2.1
    clear hF
    refine doesG_un rfl ?_
    obtain rfl := h79_
    obtain rfl := h80_
    refine (does_call (args := #[(.agg #[(.slice p276 (((trimM A_m).places).length) q277), (.slice p279 (((trimM A_m).tris).length) q280)]), (.agg #[(.slice p60 (((trimM A_m).places).length) q61), (.slice p63 (((trimM A_m).tris).length) q64)])]) cal12 (evs rfl) (c_laws_eqMesh [(.slice p276 (((trimM A_m).places).length) q277), (.slice p279 (((trimM A_m).tris).length) q280)] (trimM A_m) [(.slice p60 (((trimM A_m).places).length) q61), (.slice p63 (((trimM A_m).tris).length) q64)] (trimM A_m) _ ⟨(.slice p276 (((trimM A_m).places).length) q277), (.slice p279 (((trimM A_m).tris).length) q280), rfl, (Sl.ext (hh278 _ (((Same.refl _ _).ext E286).wr W294 (.inr (Nat.le_trans (Nat.le_refl _) hb284)))) RV3.mono hu), (Sl.ext (hh281 _ (((Same.refl _ _).ext E286).wr W294 (.inr (Nat.le_trans (Nat.le_refl _) hb284)))) (RS.mono RI.mono) hu)⟩ ⟨(.slice p60 (((trimM A_m).places).length) q61), (.slice p63 (((trimM A_m).tris).length) q64), rfl, (Sl.ext (hh62 _ ((((((((((((((((((((Same.refl _ _).ext E69).wr W74 (.inr (Nat.le_trans (Nat.le_refl _) hb67))).ext E79).ext E102).wr W108 (.inr (Nat.le_trans (Nat.le_trans (Nat.le_trans (Below.size E69) (Nat.le_of_eq (Eq.symm (Wr.size W74)))) (Below.size E79)) hb100))).ext E113).ext E137).wr W144 (.inr (Nat.le_trans (Nat.le_trans (Nat.le_trans (Nat.le_trans (Nat.le_trans (Nat.le_trans (Below.size E69) (Nat.le_of_eq (Eq.symm (Wr.size W74)))) (Below.size E79)) (Below.size E102)) (Nat.le_of_eq (Eq.symm (Wr.size W108)))) (Below.size E113)) hb135))).ext E160).ext E170).ext E179).kl K189 (fun c hc => .inr (Nat.le_trans (Nat.le_trans (Below.size E69) (Nat.le_of_eq (Eq.symm (Wr.size W74)))) (hw98.1 c hc).1))).ext E209).kl K219 (fun c hc => .inr (Nat.le_trans (Nat.le_trans (Nat.le_trans (Nat.le_trans (Nat.le_trans (Below.size E69) (Nat.le_of_eq (Eq.symm (Wr.size W74)))) (Below.size E79)) (Below.size E102)) (Nat.le_of_eq (Eq.symm (Wr.size W108)))) (hw133.1 c hc).1))).ext E225).ext E239).ext E261).ext E286).wr W294 (.inr (Nat.le_trans (Nat.le_trans (Nat.le_trans (Nat.le_trans (Nat.le_trans (Nat.le_trans (Nat.le_trans (Nat.le_trans (Nat.le_trans (Nat.le_trans (Nat.le_trans (Nat.le_trans (Nat.le_trans (Nat.le_trans (Nat.le_trans (Nat.le_trans (Nat.le_trans (Below.size E69) (Nat.le_of_eq (Eq.symm (Wr.size W74)))) (Below.size E79)) (Below.size E102)) (Nat.le_of_eq (Eq.symm (Wr.size W108)))) (Below.size E113)) (Below.size E137)) (Nat.le_of_eq (Eq.symm (Wr.size W144)))) (Below.size E160)) (Below.size E170)) (Below.size E179)) (KpL.size K189)) (Below.size E209)) (KpL.size K219)) (Below.size E225)) (Below.size E239)) (Below.size E261)) hb284)))) RV3.mono hu), (Sl.ext (hh65 _ ((((((((((((((((((((Same.refl _ _).ext E69).wr W74 (.inr (Nat.le_trans (Nat.le_refl _) hb67))).ext E79).ext E102).wr W108 (.inr (Nat.le_trans (Nat.le_trans (Nat.le_trans (Below.size E69) (Nat.le_of_eq (Eq.symm (Wr.size W74)))) (Below.size E79)) hb100))).ext E113).ext E137).wr W144 (.inr (Nat.le_trans (Nat.le_trans (Nat.le_trans (Nat.le_trans (Nat.le_trans (Nat.le_trans (Below.size E69) (Nat.le_of_eq (Eq.symm (Wr.size W74)))) (Below.size E79)) (Below.size E102)) (Nat.le_of_eq (Eq.symm (Wr.size W108)))) (Below.size E113)) hb135))).ext E160).ext E170).ext E179).kl K189 (fun c hc => .inr (Nat.le_trans (Nat.le_trans (Below.size E69) (Nat.le_of_eq (Eq.symm (Wr.size W74)))) (hw98.1 c hc).1))).ext E209).kl K219 (fun c hc => .inr (Nat.le_trans (Nat.le_trans (Nat.le_trans (Nat.le_trans (Nat.le_trans (Below.size E69) (Nat.le_of_eq (Eq.symm (Wr.size W74)))) (Below.size E79)) (Below.size E102)) (Nat.le_of_eq (Eq.symm (Wr.size W108)))) (hw133.1 c hc).1))).ext E225).ext E239).ext E261).ext E286).wr W294 (.inr (Nat.le_trans (Nat.le_trans (Nat.le_trans (Nat.le_trans (Nat.le_trans (Nat.le_trans (Nat.le_trans (Nat.le_trans (Nat.le_trans (Nat.le_trans (Nat.le_trans (Nat.le_trans (Nat.le_trans (Nat.le_trans (Nat.le_trans (Nat.le_trans (Nat.le_trans (Below.size E69) (Nat.le_of_eq (Eq.symm (Wr.size W74)))) (Below.size E79)) (Below.size E102)) (Nat.le_of_eq (Eq.symm (Wr.size W108)))) (Below.size E113)) (Below.size E137)) (Nat.le_of_eq (Eq.symm (Wr.size W144)))) (Below.size E160)) (Below.size E170)) (Below.size E179)) (KpL.size K189)) (Below.size E209)) (KpL.size K219)) (Below.size E225)) (Below.size E239)) (Below.size E261)) hb284)))) (RS.mono RI.mono) hu)⟩)).mono ?_; rintro v u' ⟨hx, hv⟩
    exact ⟨hv.trans (by simp only [hβ6]), hx⟩
  refine RW_d _ rfl (fun v => by dsimp only [List.set]; try rfl) (fun u hu hF => ?_) (fun v303 => ?_)
  · have h81_ : v302 = (Bo β6) := hF.1
    clear hF
    refine doesG_un rfl ?_
    obtain rfl := h81_
    refine (does_not (ev rfl)).mono ?_; rintro _ _ ⟨rfl, rfl⟩
    exact ⟨rfl, Ext.refl _⟩
  refine RW_d _ rfl (fun v => by dsimp only [List.set]; try rfl) (fun u hu hF => ?_) (fun v304 => ?_)
  · have h82_ : v303 = (Bo (!β6)) := hF.1
    clear hF
    refine doesG_un rfl ?_
    obtain rfl := h82_
    refine (does_move (u := (Bo (!β6))) (ev rfl)).mono ?_; rintro _ _ ⟨rfl, rfl⟩
    exact ⟨rfl, Ext.refl _⟩
  refine RW_d _ rfl (fun v => by dsimp only [List.set]; try rfl) (fun u hu hF => ?_) (fun v305 => ?_)
  · have h83_ : v304 = (Bo (!β6)) := hF.1
    clear hF
    obtain rfl := h83_
    refine doesG_g (b := (!β6)) rfl (yld rfl rfl) (fun hg1 => ?_) (fun hc => ⟨fun hg1 => absurd hg1 hc, Ext.refl _⟩)
    refine (does_move (u := (Bo (meshOk A_m))) (ev rfl)).mono ?_; rintro _ _ ⟨rfl, rfl⟩
    exact ⟨fun _ => rfl, Ext.refl _⟩
  refine RW_d _ rfl (fun v => by dsimp only [List.set]; try rfl) (fun u hu hF => ?_) (fun v306 => ?_)
  · have h83_ : v304 = (Bo (!β6)) := hF.1
    clear hF
    obtain rfl := h83_
    refine doesG_g (b := (!β6)) rfl (yld rfl rfl) (fun hg1 => ?_) (fun hc => ⟨fun hg1 => absurd hg1 hc, Ext.refl _⟩)
    refine (does_move (u := (Bo (meshOk A_m))) (ev rfl)).mono ?_; rintro _ _ ⟨rfl, rfl⟩
    exact ⟨fun _ => rfl, Ext.refl _⟩
  refine RW_d _ rfl (fun v => by dsimp only [List.set]; try rfl) (fun u hu hF => ?_) (fun v307 => ?_)
  · have h84_ : (!β6) = false → v305 = (Bo (meshOk A_m)) := hF.1
    have h85_ : (!β6) = false → v306 = (Bo (meshOk A_m)) := hF.2.1
    have h83_ : v304 = (Bo (!β6)) := hF.2.2.1
    clear hF
    obtain rfl := h83_
    refine doesG_g (b := (!β6)) rfl (yld rfl rfl) (fun hg1 => ?_) (fun hc => ⟨fun hg1 => absurd hg1 hc, Ext.refl _⟩)
    obtain rfl := h84_ hg1
    obtain rfl := h85_ hg1
    refine (does_bne (p := (meshOk A_m)) (q := (meshOk A_m)) Try.underlying4 (ev rfl) (ev rfl)).mono ?_; rintro _ _ ⟨rfl, rfl⟩
    exact ⟨fun _ => (by first | rfl | (show _ = _; simp only [hβ7]; done) | (show _ = _; simp only [hβ7]; rfl)), Ext.refl _⟩
  refine RW_d _ rfl (fun v => by dsimp only [List.set]; try rfl) (fun u hu hF => ?_) (fun v308 => ?_)
  · have h83_ : v304 = (Bo (!β6)) := hF.1
    have h86_ : (!β6) = false → v307 = (Bo β7) := hF.2.1
    clear hF
    refine doesG_un rfl ?_
    skip
    obtain rfl := h83_
    refine (does_pick (b := (!β6)) (u := (Bo true)) (v := v307) (ev rfl) (ev rfl) (ev rfl)).mono ?_; rintro _ _ ⟨rfl, rfl⟩; refine ⟨?_, Ext.refl _⟩; skip
    cases hbb : (!β6)
    all_goals first | (show _ = _; simp only [↓reduceIte, Bool.true_and, Bool.false_and, Bool.true_or, Bool.false_or, Bool.false_eq_true]; done) | (have e_ := h86_ hbb; subst e_; show _ = _; simp only [↓reduceIte, Bool.true_and, Bool.false_and, Bool.true_or, Bool.false_or, Bool.false_eq_true]; done) | rfl | (have e_ := h86_ hbb; subst e_; rfl) | (simp [hbb] at h86_ ⊢; first | done | rfl | (subst h86_; rfl) | simp_all) | (simp [hbb] at h86_ ⊢; done)
  refine RW_fin ?_; intro w309 E310 hP311
  obtain ⟨⟨⟨⟨⟨⟨⟨⟨⟨-, -⟩, -⟩, -⟩, -⟩, -⟩, -⟩, -⟩, -⟩, q312⟩ := hP311
  have X313 := Ext.gr X297 E310
  have q312 : v308 = (Bo ((!β6) || β7)) := q312
  obtain rfl := q312
  show wpList _ _ _ _ (fr [_, _, _, _, _, _, _, _, _, _, _, _, _, _, _, _, _, _, _, _, _, _, _, _, _, _, _, _, _, _, _, _, _, _, _, _, _, _, _, _, _, _, _, _, _, _, _, _, _, _, _, _, _, _, _, _, _, _, _, _, _, _, _, _, _, _, _, _, _, _, _, _, _, _, _, _, _, _, _, _, _, _, _, _, _, _, _, _, _, _, _, _, _, _, _, _]) _
  refine wpList_nil (hK299 _ _ ?_)
  refine wp_cond_split (t := (!β6) || β7) (ev rfl) (fun c314 => ?_) (fun c314 => ?_)
  · have c314' := c314
    (try simp only [hβ1, hβ2, hβ3, hβ4, hβ5, hβ6, hβ7, sameMesh_self, bne_self_eq_false, meSz_mk] at c314')
    (try simp only [hβ1, hβ2, hβ3, hβ4, hβ5, hβ6, hβ7] at c314')
    (try simp only [icmp, Bool.and_eq_true, Bool.or_eq_true, Bool.and_eq_false_iff, Bool.or_eq_false_iff, Bool.not_eq_true', Bool.not_eq_false', decide_eq_true_eq, decide_eq_false_iff_not, beq_iff_eq, bne_iff_ne, beq_eq_false_iff_ne, bne_eq_false_iff_eq] at c314')
    refine wp_seq_k fun K315 hK315 => ?_
    refine wp_region_lit ?_
    refine q_is rfl rfl (does_assign (u := (Bo false)) (ev rfl)) (by dsimp only [List.set]; try rfl) ?_
    refine wpList_nil (hK315 _ _ ?_)
    refine wp_ret ?_
    dsimp only [Exit.then, Exit.inBlock]
    refine ret_val (v := (Bo false)) (res_T rfl (slot rfl)) X313 ?_
    try simp only [hβ1, hβ2, hβ3, hβ4, hβ5, hβ6, hβ7, sameMesh_self, bne_self_eq_false, meSz_mk] at c28 c164 c183 c213 c230 c235 c314
    have x316 : true = false := by first | with_reducible rfl | (exfalso; omega) | (exfalso; simp only [mkL_len] at * <;> omega) | (exfalso; rcases c314' with ((hh | hh) | hh) | hh <;> first | omega | (exact Bool.noConfusion hh) | (exact absurd rfl hh)) | (exfalso; rcases c314' with (hh | hh) | hh <;> first | omega | (exact Bool.noConfusion hh)) | (exfalso; rcases c314' with hh | hh <;> first | omega | (exact Bool.noConfusion hh)) | (simp only [sameMesh_self, bne_self_eq_false, meSz_mk, hβ1, hβ2, hβ3, hβ4, hβ5, hβ6, hβ7, c28, c164, c183, c213, c230, c235, c314]; done) | (simp [sameMesh_self, bne_self_eq_false, meSz_mk, hβ1, hβ2, hβ3, hβ4, hβ5, hβ6, hβ7, c28, c164, c183, c213, c230, c235, c314]; done) | (simp_all; done) | (exfalso; simp_all; done)
    exact (by first | with_reducible rfl | rw [x316] | rfl)
  have c314' := c314
  (try simp only [hβ1, hβ2, hβ3, hβ4, hβ5, hβ6, hβ7, sameMesh_self, bne_self_eq_false, meSz_mk] at c314')
  (try simp only [hβ1, hβ2, hβ3, hβ4, hβ5, hβ6, hβ7] at c314')
  (try simp only [icmp, Bool.and_eq_true, Bool.or_eq_true, Bool.and_eq_false_iff, Bool.or_eq_false_iff, Bool.not_eq_true', Bool.not_eq_false', decide_eq_true_eq, decide_eq_false_iff_not, beq_iff_eq, bne_iff_ne, beq_eq_false_iff_ne, bne_eq_false_iff_eq] at c314')
  refine wp_skip (hK298 _ _ ?_)
  refine wp_seq_k fun K317 hK317 => ?_
  refine wp_region_lit ?_
  refine q_is rfl rfl (does_assign (u := (Iv 1)) (ev rfl)) (by dsimp only [List.set]; try rfl) ?_
  refine wpList_nil (hK317 _ _ ?_)
  refine wp_seq_k fun K318 hK318 => ?_
  refine wp_region_lit ?_
  refine q_is rfl rfl (does_loadAgg (cs := [(.slice p127 (((trimM A_m).places).length) q128), (.slice p130 (((trimM A_m).tris).length) q131)]) (ev rfl) Try.isAgg32 Try.sizeOf32 (Blk.cells ((((((((((((hB145.ext E160).ext E170).ext E179).kl K189 (fun hc => absurd (Nat.lt_of_lt_of_le (hw98.1 _ hc).2 (Nat.le_trans (Nat.le_trans (Nat.le_trans (Below.size E102) (Nat.le_of_eq (Eq.symm (Wr.size W108)))) (Below.size E113)) hb135)) (Nat.lt_irrefl _))).ext E209).kl K219 (fun hc => absurd (Nat.lt_of_lt_of_le (hw133.1 _ hc).2 (Nat.le_trans (Nat.le_refl _) hb135)) (Nat.lt_irrefl _))).ext E225).ext E239).ext E261).ext E286).wr W294 (Nat.ne_of_lt n291)).ext E310)) rfl) (by dsimp only [List.set]; try rfl) ?_
  refine q_is rfl rfl (does_move (u := (Iv 1)) (ev rfl)) (by dsimp only [List.set]; try rfl) ?_
  refine seqd rfl rfl (does_call (args := #[(.agg #[(.slice p127 (((trimM A_m).places).length) q128), (.slice p130 (((trimM A_m).tris).length) q131)]), (Iv 1)]) cal18 (evs rfl) (c_laws_heldMesh [(.slice p127 (((trimM A_m).places).length) q128), (.slice p130 (((trimM A_m).tris).length) q131)] (MeshT.mk (mkL fV 3 1 (trimM A_m).places.length) (mkLL fI 1 (preK (1 + ((trimM A_m).places.length : Int) * 3) (trimM A_m).tris) (trimM A_m).tris)) 1 _ ⟨(.slice p127 (((trimM A_m).places).length) q128), (.slice p130 (((trimM A_m).tris).length) q131), rfl, (hP220 _ (((((((Same.refl _ _).ext E225).ext E239).ext E261).ext E286).wr W294 (.inr (Nat.le_trans (Nat.le_trans (Nat.le_trans (Below.size E225) (Below.size E239)) (Below.size E261)) hb284))).ext E310)), (hT221 _ (((((((Same.refl _ _).ext E225).ext E239).ext E261).ext E286).wr W294 (.inr (Nat.le_trans (Nat.le_trans (Nat.le_trans (Below.size E225) (Below.size E239)) (Below.size E261)) hb284))).ext E310))⟩ (by exact mkL_eq) (by (try dsimp only); rw [mkL_len]; exact mkLL_self) (by omega) (by rw [meSz_mk]; omega))) ?_; rintro _ w320 ⟨E319, rfl⟩
  have X321 := Ext.gr X313 E319
  show wpList _ _ _ _ (fr [_, _, _, _, _, _, _, _, _, _, _, _, _, _, _, _, _, _, _, _, _, _, _, _, _, _, _, _, _, _, _, _, _, _, _, _, _, _, _, _, _, _, _, _, _, _, _, _, _, _, _, _, _, _, _, _, _, _, _, _, _, _, _, _, _, _, _, _, _, _, _, _, _, _, _, _, _, _, _, _, _, _, _, _, _, _, _, _, _, _, _, _, _, _, _, _]) _
  refine q_is rfl rfl (does_assign (u := (Iv (1 + meSz (MeshT.mk (mkL fV 3 1 (trimM A_m).places.length) (mkLL fI 1 (preK (1 + ((trimM A_m).places.length : Int) * 3) (trimM A_m).tris) (trimM A_m).tris))))) (ev rfl)) (by dsimp only [List.set]; try rfl) ?_
  refine wpList_nil (hK318 _ _ ?_)
  refine wp_seq_k fun K322 hK322 => ?_
  refine wp_seq_k fun K323 hK323 => ?_
  refine wp_region_lit ?_
  refine q_is rfl rfl (does_move (u := (Iv (1 + meSz (MeshT.mk (mkL fV 3 1 (trimM A_m).places.length) (mkLL fI 1 (preK (1 + ((trimM A_m).places.length : Int) * 3) (trimM A_m).tris) (trimM A_m).tris))))) (ev rfl)) (by dsimp only [List.set]; try rfl) ?_
  refine q_is rfl rfl (does_icmp (p := 1 + meSz (MeshT.mk (mkL fV 3 1 (trimM A_m).places.length) (mkLL fI 1 (preK (1 + ((trimM A_m).places.length : Int) * 3) (trimM A_m).tris) (trimM A_m).tris))) (q := 0) (.inr (.inr (.inl rfl))) (ev rfl) (ev rfl)) (by dsimp only [List.set]; try rfl) ?_
  refine wpList_nil (hK323 _ _ ?_)
  refine wp_cond_false ((ev (rfl : evl _ _ = .bool (icmp .lss (1 + meSz (MeshT.mk (mkL fV 3 1 (trimM A_m).places.length) (mkLL fI 1 (preK (1 + ((trimM A_m).places.length : Int) * 3) (trimM A_m).tris) (trimM A_m).tris))) 0))).trans (congrArg Value.bool c230)) ?_
  refine wp_skip (hK322 _ _ ?_)
  refine wp_seq_k fun K324 hK324 => ?_
  refine wp_seq_k fun K325 hK325 => ?_
  refine wp_region_lit ?_
  refine q_is rfl rfl (does_move (u := (Iv (1 + meSz (MeshT.mk (mkL fV 3 1 (trimM A_m).places.length) (mkLL fI 1 (preK (1 + ((trimM A_m).places.length : Int) * 3) (trimM A_m).tris) (trimM A_m).tris))))) (ev rfl)) (by dsimp only [List.set]; try rfl) ?_
  refine q_is rfl rfl (does_move (u := (Iv (1 + meSz (trimM A_m)))) (ev rfl)) (by dsimp only [List.set]; try rfl) ?_
  refine q_is rfl rfl (does_icmp (p := 1 + meSz (MeshT.mk (mkL fV 3 1 (trimM A_m).places.length) (mkLL fI 1 (preK (1 + ((trimM A_m).places.length : Int) * 3) (trimM A_m).tris) (trimM A_m).tris))) (q := 1 + meSz (trimM A_m)) (.inr (.inl rfl)) (ev rfl) (ev rfl)) (by dsimp only [List.set]; try rfl) ?_
  refine wpList_nil (hK325 _ _ ?_)
  refine wp_cond_false ((ev (rfl : evl _ _ = .bool (icmp .neq (1 + meSz (MeshT.mk (mkL fV 3 1 (trimM A_m).places.length) (mkLL fI 1 (preK (1 + ((trimM A_m).places.length : Int) * 3) (trimM A_m).tris) (trimM A_m).tris))) (1 + meSz (trimM A_m))))).trans (congrArg Value.bool c235)) ?_
  refine wp_skip (hK324 _ _ ?_)
  refine wp_seq_k fun K326 hK326 => ?_
  refine wp_region_lit ?_
  refine q_is rfl rfl (does_assign (u := (Bo true)) (ev rfl)) (by dsimp only [List.set]; try rfl) ?_
  refine wpList_nil (hK326 _ _ ?_)
  refine wp_ret ?_
  refine ret_val (v := (Bo true)) (res_T rfl (slot rfl)) X321 ?_
  try simp only [hβ1, hβ2, hβ3, hβ4, hβ5, hβ6, hβ7, sameMesh_self, bne_self_eq_false, meSz_mk] at c28 c164 c183 c213 c230 c235 c314
  exact rfl

end Go.Proofs.Ytoblnfkpjgghiaa
