/- contracts of functions, each walked once -/
import Derived.Test.YtoblnfkpjgghiaaU
import Derived.Test.YtoblnfkpjgghiaaU2
import Derived.Test.YtoblnfkpjgghiaaU3
import Derived.Test.YtoblnfkpjgghiaaEdj
import Derived.Test.YtoblnfkpjgghiaaRgj
import Derived.Test.YtoblnfkpjgghiaaKmp
import Derived.Test.YtoblnfkpjgghiaaEul
import Derived.Test.YtoblnfkpjgghiaaTrm
namespace Go.Proofs.Ytoblnfkpjgghiaa
open Go Go.RowKit
set_option maxRecDepth 100000
set_option maxHeartbeats 3200000
set_option linter.unusedVariables false
set_option linter.unusedSimpArgs false

/- spec.TrimMesh -/
theorem c_spec_TrimMesh (m : List Value) (A_m : MeshT) (w : World) (hv_m : RMeshT w A_m m) : Gives Try.prog 16 #[(.agg m.toArray)] w (fun v w' => ∃ cs_1 : List Value, v = (.tuple #[(.agg cs_1.toArray), (Bo (meshOk A_m))]) ∧ Hang w.heap.size w' (fun u => RMeshT u (trimM A_m) cs_1)) := by
  obtain ⟨y1, y3, rfl, h2, h4⟩ := hv_m
  have hs7 := h2; have hs7l := Sl.len h2; obtain ⟨p5, q6, rfl⟩ := Sl.shape h2
  have hs10 := h4; have hs10l := Sl.len h4; obtain ⟨p8, q9, rfl⟩ := Sl.shape h4
  have hul := usedL_le A_m
  refine enter [(.agg #[(.slice p5 A_m.places.length q6), (.slice p8 A_m.tris.length q9)]), Ud, Ud, Ud, Ud, Ud, Ud, Ud, Ud, Ud, Ud, Ud, Ud, Ud, Ud, Ud, Ud, Ud, Ud, Ud, Ud, Ud, Ud, Ud, Ud, Ud, Ud, Ud, Ud, Ud, Ud, Ud, Ud, Ud, Ud, Ud, Ud, Ud, Ud, Ud, Ud, Ud, Ud, Ud, Ud, Ud, Ud, Ud, Ud, Ud, Ud, Ud, Ud, Ud, Ud, Ud, Ud, Ud, Ud, Ud, Ud, Ud, Ud, Ud, Ud, Ud, Ud, Ud, Ud, Ud, Ud, Ud, Ud, Ud, Ud, Ud, Ud, Ud, Ud, Ud, Ud, Ud, Ud, Ud] Try.func16 rfl Try.ntmps16 rfl ?_
  refine wp_seq_k fun K11 hK11 => ?_
  refine wp_region_lit ?_
  refine seqd rfl rfl (does_box (u := (.agg #[(.slice p5 A_m.places.length q6), (.slice p8 A_m.tris.length q9)])) (ev rfl)) ?_; rintro _ w16 ⟨b12, rfl, hb13, hB14, E15⟩
  have g17 : w.heap.size ≤ b12 := Nat.le_trans (Below.size (Ext.refl w)) hb13
  change Blk _ _ [(.slice p5 A_m.places.length q6), (.slice p8 A_m.tris.length q9)] at hB14
  have X18 := Ext.gr (Ext.refl w) E15
  show wpList _ _ _ _ (fr [_, _, _, _, _, _, _, _, _, _, _, _, _, _, _, _, _, _, _, _, _, _, _, _, _, _, _, _, _, _, _, _, _, _, _, _, _, _, _, _, _, _, _, _, _, _, _, _, _, _, _, _, _, _, _, _, _, _, _, _, _, _, _, _, _, _, _, _, _, _, _, _, _, _, _, _, _, _, _, _, _, _, _, _]) _
  refine seqd rfl rfl (does_alloc z32) ?_; rintro _ w23 ⟨b19, rfl, hb20, hB21, E22⟩
  have n24 : b12 < b19 := Nat.lt_of_lt_of_le (Blk.lt hB14) hb20
  have g25 : w.heap.size ≤ b19 := Nat.le_trans (Below.size X18) hb20
  change Blk _ _ [(.slice none 0 0), (.slice none 0 0)] at hB21
  have X26 := Ext.gr X18 E22
  show wpList _ _ _ _ (fr [_, _, _, _, _, _, _, _, _, _, _, _, _, _, _, _, _, _, _, _, _, _, _, _, _, _, _, _, _, _, _, _, _, _, _, _, _, _, _, _, _, _, _, _, _, _, _, _, _, _, _, _, _, _, _, _, _, _, _, _, _, _, _, _, _, _, _, _, _, _, _, _, _, _, _, _, _, _, _, _, _, _, _, _]) _
  refine q_is rfl rfl (does_assign (u := (Bo false)) (ev rfl)) (by dsimp only [List.set]; try rfl) ?_
  refine wpList_nil (hK11 _ _ ?_)
  refine wp_seq_k fun K27 hK27 => ?_
  refine wp_seq_k fun K28 hK28 => ?_
  refine wp_region_lit ?_
  refine seqd rfl rfl (does_call (args := #[(Pt b12 0)]) cal25 (evs rfl) (c_spec_l07Is b12 0 [(.slice p5 A_m.places.length q6), (.slice p8 A_m.tris.length q9)] A_m _ (Blk.cells (hB14.ext E22)) ⟨(.slice p5 A_m.places.length q6), (.slice p8 A_m.tris.length q9), rfl, (Sl.ext hs7 RV3.mono X26), (Sl.ext hs10 (RS.mono RI.mono) X26)⟩)) ?_; rintro _ w30 ⟨E29, rfl⟩
  have X31 := Ext.gr X26 E29
  show wpList _ _ _ _ (fr [_, _, _, _, _, _, _, _, _, _, _, _, _, _, _, _, _, _, _, _, _, _, _, _, _, _, _, _, _, _, _, _, _, _, _, _, _, _, _, _, _, _, _, _, _, _, _, _, _, _, _, _, _, _, _, _, _, _, _, _, _, _, _, _, _, _, _, _, _, _, _, _, _, _, _, _, _, _, _, _, _, _, _, _]) _
  refine q_is rfl rfl (does_not (ev rfl)) (by dsimp only [List.set]; try rfl) ?_
  refine wpList_nil (hK28 _ _ ?_)
  refine wp_cond_split (t := !(meshOk A_m)) (ev rfl) (fun c32 => ?_) (fun c32 => ?_)
  · rw [Bool.not_eq_true'] at c32
    have c32' := c32
    have hmf : meshOk A_m = false := c32
    refine wp_seq_k fun K33 hK33 => ?_
    refine wp_region_lit ?_
    refine q_is rfl rfl (does_build (parts' := []) (cells := #[(.slice none 0 0), (.slice none 0 0)]) (evp rfl) (by kernel_rfl)) (by dsimp only [List.set]; try rfl) ?_
    refine seqn rfl rfl (does_store (n := 2) (cs := [(.slice none 0 0), (.slice none 0 0)]) (u := (.agg #[(.slice none 0 0), (.slice none 0 0)])) (ev rfl) (ev rfl) Try.sizeOf32 rfl (hB21.ext E29) (Nat.le_of_ble_eq_true rfl) rfl) ?_; rintro _ w36 ⟨rfl, W34, hB35⟩
    change Blk _ _ [(.slice none 0 0), (.slice none 0 0)] at hB35
    have X37 := Below.wr X31 W34 g25
    refine q_is rfl rfl (does_assign (u := (Bo false)) (ev rfl)) (by dsimp only [List.set]; try rfl) ?_
    refine wpList_nil (hK33 _ _ ?_)
    refine wp_ret ?_
    dsimp only [Exit.then, Exit.inBlock]
    refine ret_val (v := (.tuple #[(.agg #[(.slice none 0 0), (.slice none 0 0)]), (Bo false)])) (res_CT rfl (slot rfl) (run_loadAgg (cs := [(.slice none 0 0), (.slice none 0 0)]) Try.isAgg32 Try.sizeOf32 (Blk.cells hB35) rfl) (slot rfl)) X37 ?_
    have x38 : (meshOk A_m) = false := by first | exact hmf | exact hmt | (rw [trimM_f hmf] <;> rfl) | (rw [trimM_t hmt] <;> first | rfl | ((try dsimp only); rw [List.take_of_length_le (by omega)]; done) | ((try dsimp only); rw [List.take_of_length_le (by omega), List.take_of_length_le (by omega)]))
    have x39 : ([]) = ((trimM A_m).places) := by first | exact hmf | exact hmt | (rw [trimM_f hmf] <;> rfl) | (rw [trimM_t hmt] <;> first | rfl | ((try dsimp only); rw [List.take_of_length_le (by omega)]; done) | ((try dsimp only); rw [List.take_of_length_le (by omega), List.take_of_length_le (by omega)]))
    have x40 : ([]) = ((trimM A_m).tris) := by first | exact hmf | exact hmt | (rw [trimM_f hmf] <;> rfl) | (rw [trimM_t hmt] <;> first | rfl | ((try dsimp only); rw [List.take_of_length_le (by omega)]; done) | ((try dsimp only); rw [List.take_of_length_le (by omega), List.take_of_length_le (by omega)]))
    exact ⟨[(.slice none 0 0), (.slice none 0 0)], (by first | with_reducible rfl | rw [x38] | rfl), fun u hu => ⟨(.slice none 0 0), (.slice none 0 0), rfl, (Hang.castL (Sl.hang_nil _ _ _ _) x39) u hu, (Hang.castL (Sl.hang_nil _ _ _ _) x40) u hu⟩⟩
  rw [Bool.not_eq_false'] at c32
  have c32' := c32
  have hmt : meshOk A_m = true := c32
  have hml := mesh_len hmt
  refine wp_skip (hK27 _ _ ?_)
  refine wp_seq_k fun K41 hK41 => ?_
  refine wp_region_lit ?_
  refine seqd rfl rfl (does_call (args := #[(Pt b12 0)]) cal26 (evs rfl) (c_spec_l07Used b12 0 [(.slice p5 A_m.places.length q6), (.slice p8 A_m.tris.length q9)] A_m _ (Blk.cells ((hB14.ext E22).ext E29)) ⟨(.slice p5 A_m.places.length q6), (.slice p8 A_m.tris.length q9), rfl, (Sl.ext hs7 RV3.mono X31), (Sl.ext hs10 (RS.mono RI.mono) X31)⟩ (by exact hmt))) ?_; rintro _ w43 ⟨E42, ⟨y45, rfl, hh44⟩⟩
  have X46 := Ext.gr X31 E42
  have n47 : b12 < w30.heap.size := Blk.lt ((hB14.ext E22).ext E29)
  have n48 : b19 < w30.heap.size := Blk.lt (hB21.ext E29)
  obtain ⟨p49, q50, rfl⟩ := Sl.shape hh44.get
  show wpList _ _ _ _ (fr [_, _, _, _, _, _, _, _, _, _, _, _, _, _, _, _, _, _, _, _, _, _, _, _, _, _, _, _, _, _, _, _, _, _, _, _, _, _, _, _, _, _, _, _, _, _, _, _, _, _, _, _, _, _, _, _, _, _, _, _, _, _, _, _, _, _, _, _, _, _, _, _, _, _, _, _, _, _, _, _, _, _, _, _]) _
  refine q_is rfl rfl (does_assign (u := (.slice p49 ((usedL A_m).length) q50)) (ev rfl)) (by dsimp only [List.set]; try rfl) ?_
  refine wpList_nil (hK41 _ _ ?_)
  refine wp_seq_k fun K51 hK51 => ?_
  refine wp_region_lit ?_
  refine q_is rfl rfl (does_fieldAddr (ev rfl) fa32_0) (by dsimp only [List.set]; try rfl) ?_
  refine q_is rfl rfl (does_load (u := (.slice p5 A_m.places.length q6)) (ev rfl) Try.isAgg30 (Cells.at (Blk.cells (((hB14.ext E22).ext E29).ext E42)) 0 rfl)) (by dsimp only [List.set]; try rfl) ?_
  refine q_is rfl rfl (does_len_slice Try.underlying30 (ev rfl)) (by dsimp only [List.set]; try rfl) ?_
  refine seqd rfl rfl (does_makeSlice (n := A_m.places.length) Try.underlying27 inf2 (ev rfl) (ev rfl) (by omega)) ?_; rintro _ w56 ⟨b52, rfl, hb53, ⟨cs57, hB54, hl58, hz59⟩, E55⟩
  have n60 : b12 < b52 := Nat.lt_of_lt_of_le (Blk.lt (((hB14.ext E22).ext E29).ext E42)) hb53
  have n61 : b19 < b52 := Nat.lt_of_lt_of_le (Blk.lt ((hB21.ext E29).ext E42)) hb53
  have g62 : w.heap.size ≤ b52 := Nat.le_trans (Below.size X46) hb53
  have X63 := Ext.gr X46 E55
  have hR64 : RowG RI 1 w56 b52 (List.replicate A_m.places.length (0 : Int)) := RowG.made (z := (.int .i64 0)) hB54 rfl rfl hz59 rfl
  show wpList _ _ _ _ (fr [_, _, _, _, _, _, _, _, _, _, _, _, _, _, _, _, _, _, _, _, _, _, _, _, _, _, _, _, _, _, _, _, _, _, _, _, _, _, _, _, _, _, _, _, _, _, _, _, _, _, _, _, _, _, _, _, _, _, _, _, _, _, _, _, _, _, _, _, _, _, _, _, _, _, _, _, _, _, _, _, _, _, _, _]) _
  refine q_is rfl rfl (does_assign (u := (.slice (some ⟨b52, 0, none⟩) A_m.places.length A_m.places.length)) (ev rfl)) (by dsimp only [List.set]; try rfl) ?_
  refine wpList_nil (hK51 _ _ ?_)
  refine wp_seq_k fun K65 hK65 => ?_
  refine wp_region_lit ?_
  have n72 : b12 < w56.heap.size := Blk.lt ((((hB14.ext E22).ext E29).ext E42).ext E55)
  have n73 : b19 < w56.heap.size := Blk.lt (((hB21.ext E29).ext E42).ext E55)
  have n74 : b52 < w56.heap.size := RowG.lt hR64
  refine seqd rfl rfl (does_slice0 (e := 57) (fun _ => by kernel_rfl)) ?_; rintro _ w71 ⟨b66, rfl, hb67, hl68, hO69, E70⟩
  have X75 := Ext.gr X63 E70
  have hO76 := hO69 _ RV3 3
  have hH77 : Hang w56.heap.size w71 (fun u => Sl RV3 3 u (.slice (some ⟨b66, 0, none⟩) 0 0) ([])) := Own.hang hO76 RV3.flat (by decide) hb67 (Below.size E70)
  show wpList _ _ _ _ (fr [_, _, _, _, _, _, _, _, _, _, _, _, _, _, _, _, _, _, _, _, _, _, _, _, _, _, _, _, _, _, _, _, _, _, _, _, _, _, _, _, _, _, _, _, _, _, _, _, _, _, _, _, _, _, _, _, _, _, _, _, _, _, _, _, _, _, _, _, _, _, _, _, _, _, _, _, _, _, _, _, _, _, _, _]) _
  have n84 : b12 < w71.heap.size := Blk.lt (((((hB14.ext E22).ext E29).ext E42).ext E55).ext E70)
  have n85 : b19 < w71.heap.size := Blk.lt ((((hB21.ext E29).ext E42).ext E55).ext E70)
  have n86 : b52 < w71.heap.size := RowG.lt (RowG.ext hR64 RI.flat E70)
  refine seqd rfl rfl (does_slice0 (e := 27) (fun _ => by kernel_rfl)) ?_; rintro _ w83 ⟨b78, rfl, hb79, hl80, hO81, E82⟩
  have X87 := Ext.gr X75 E82
  have hO88 := OwnN.of_nil (R := RI) (k := 1) (C := w71.heap.size) (hO81 _ RVl 1)
  have hH89 : Hang w71.heap.size w83 (fun u => Sl (RS RI 1) 1 u (.slice (some ⟨b78, 0, none⟩) 0 0) ([])) := OwnN.hang hO88 RI.flat (by decide) hb79 (Below.size E82) (Nat.le_refl _)
  show wpList _ _ _ _ (fr [_, _, _, _, _, _, _, _, _, _, _, _, _, _, _, _, _, _, _, _, _, _, _, _, _, _, _, _, _, _, _, _, _, _, _, _, _, _, _, _, _, _, _, _, _, _, _, _, _, _, _, _, _, _, _, _, _, _, _, _, _, _, _, _, _, _, _, _, _, _, _, _, _, _, _, _, _, _, _, _, _, _, _, _]) _
  refine q_is rfl rfl (does_build (parts' := [(0, (.slice (some ⟨b66, 0, none⟩) 0 0)), (1, (.slice (some ⟨b78, 0, none⟩) 0 0))]) (cells := #[(.slice (some ⟨b66, 0, none⟩) 0 0), (.slice (some ⟨b78, 0, none⟩) 0 0)]) (evp rfl) (by kernel_rfl)) (by dsimp only [List.set]; try rfl) ?_
  refine seqd rfl rfl (does_alloc z32) ?_; rintro _ w94 ⟨b90, rfl, hb91, hB92, E93⟩
  have n95 : b12 < b90 := Nat.lt_of_lt_of_le (Blk.lt ((((((hB14.ext E22).ext E29).ext E42).ext E55).ext E70).ext E82)) hb91
  have n96 : b19 < b90 := Nat.lt_of_lt_of_le (Blk.lt (((((hB21.ext E29).ext E42).ext E55).ext E70).ext E82)) hb91
  have n97 : b52 < b90 := Nat.lt_of_lt_of_le (RowG.lt (RowG.ext (RowG.ext hR64 RI.flat E70) RI.flat E82)) hb91
  have g98 : w.heap.size ≤ b90 := Nat.le_trans (Below.size X87) hb91
  change Blk _ _ [(.slice none 0 0), (.slice none 0 0)] at hB92
  have X99 := Ext.gr X87 E93
  show wpList _ _ _ _ (fr [_, _, _, _, _, _, _, _, _, _, _, _, _, _, _, _, _, _, _, _, _, _, _, _, _, _, _, _, _, _, _, _, _, _, _, _, _, _, _, _, _, _, _, _, _, _, _, _, _, _, _, _, _, _, _, _, _, _, _, _, _, _, _, _, _, _, _, _, _, _, _, _, _, _, _, _, _, _, _, _, _, _, _, _]) _
  refine seqn rfl rfl (does_store (n := 2) (cs := [(.slice none 0 0), (.slice none 0 0)]) (u := (.agg #[(.slice (some ⟨b66, 0, none⟩) 0 0), (.slice (some ⟨b78, 0, none⟩) 0 0)])) (ev rfl) (ev rfl) Try.sizeOf32 rfl hB92 (Nat.le_of_ble_eq_true rfl) rfl) ?_; rintro _ w102 ⟨rfl, W100, hB101⟩
  change Blk _ _ [(.slice (some ⟨b66, 0, none⟩) 0 0), (.slice (some ⟨b78, 0, none⟩) 0 0)] at hB101
  have X103 := Below.wr X99 W100 g98
  refine wpList_nil (hK65 _ _ ?_)
  refine wp_seq_k fun K104 hK104 => ?_
  refine wp_seq_k fun K105 hK105 => ?_
  refine wp_region_lit ?_
  refine q_is rfl rfl (does_move (u := (.slice p49 ((usedL A_m).length) q50)) (ev rfl)) (by dsimp only [List.set]; try rfl) ?_
  refine q_is rfl rfl (does_len_slice Try.underlying27 (ev rfl)) (by dsimp only [List.set]; try rfl) ?_
  refine q_is rfl rfl (does_move (u := (Iv 0)) (ev rfl)) (by dsimp only [List.set]; try rfl) ?_
  refine wpList_nil (hK105 _ _ ?_)
  refine wp_block ?_
  have n111 : b12 < w102.heap.size := Blk.lt ((((((((hB14.ext E22).ext E29).ext E42).ext E55).ext E70).ext E82).ext E93).wr W100 (Nat.ne_of_lt n95))
  have n112 : b19 < w102.heap.size := Blk.lt (((((((hB21.ext E29).ext E42).ext E55).ext E70).ext E82).ext E93).wr W100 (Nat.ne_of_lt n96))
  have n113 : b52 < w102.heap.size := RowG.lt (RowG.kl (RowG.ext (RowG.ext (RowG.ext hR64 RI.flat E70) RI.flat E82) RI.flat E93) RI.flat (KpL.of_wr W100) (ninS (Nat.ne_of_lt n97) nin0))
  have n114 : b90 < w102.heap.size := Blk.lt hB101
  obtain ⟨gg107, hg108, hg109, hO110⟩ := OwnN.startA hO88 (OwnN.same hO88 RI.flat (((Same.refl _ _).ext E93).wr W100 (.inr (Nat.le_trans (Nat.le_refl _) hb91))) hb79 (Below.size E82) (Nat.le_refl _))
  have hN115 : w71.heap.size ≤ gg107 := by rcases hg108 with h | h; exact h ▸ hb79; exact Nat.le_trans (Below.size E82) h
  have g116 : w.heap.size ≤ gg107 := Nat.le_trans (Nat.le_trans (Nat.le_trans (Nat.le_trans (Nat.le_trans (Nat.le_trans (Below.size E15) (Below.size E22)) (Below.size E29)) (Below.size E42)) (Below.size E55)) (Below.size E70)) hN115
  have hg117 : gg107 < w83.heap.size := by rcases hg109 with h | h; exact h ▸ Nat.lt_of_lt_of_le hl80 (Nat.le_refl _); exact h
  have n118 : gg107 < b90 := Nat.lt_of_lt_of_le hg117 (Nat.le_trans (Nat.le_refl _) hb91)
  have hO119 := fun B_ => OwnN.reC (C' := w102.heap.size) (hO110 B_)
  have n120 : gg107 < w102.heap.size := Nat.lt_of_lt_of_le hg117 (Nat.le_trans (Below.size E93) (Nat.le_of_eq (Eq.symm (Wr.size W100))))
  have hH121 : Hang w71.heap.size w102 (fun u => Sl (RS RI 1) 1 u (.slice (some ⟨b78, 0, none⟩) 0 0) ([])) := OwnN.hang (hO119 _) RI.flat (by decide) hN115 (Nat.le_trans (Nat.le_trans (Below.size E82) (Below.size E93)) (Nat.le_of_eq (Eq.symm (Wr.size W100)))) (Nat.le_trans (Nat.le_trans (Below.size E82) (Below.size E93)) (Nat.le_of_eq (Eq.symm (Wr.size W100))))
  obtain ⟨gg122, hg123, hg124, hO125⟩ := Own.start' hO76 (Own.same hO76 RV3.flat ((((Same.refl _ _).ext E82).ext E93).wr W100 (.inr (Nat.le_trans (Below.size E82) hb91))) hb67 (Below.size E70))
  have hN126 : w56.heap.size ≤ gg122 := by rcases hg123 with h | h; exact h ▸ hb67; exact Nat.le_trans (Below.size E70) h
  have g127 : w.heap.size ≤ gg122 := Nat.le_trans (Nat.le_trans (Nat.le_trans (Nat.le_trans (Nat.le_trans (Below.size E15) (Below.size E22)) (Below.size E29)) (Below.size E42)) (Below.size E55)) hN126
  have hg128 : gg122 < w71.heap.size := by rcases hg124 with h | h; exact h ▸ Nat.lt_of_lt_of_le hl68 (Nat.le_refl _); exact h
  have n129 : gg122 < b90 := Nat.lt_of_lt_of_le hg128 (Nat.le_trans (Below.size E82) hb91)
  have n130 : gg122 < gg107 := Nat.lt_of_lt_of_le hg128 (Nat.le_trans (Nat.le_refl _) hN115)
  have n131 : gg122 < w71.heap.size := Nat.lt_of_lt_of_le hg128 (Nat.le_refl _)
  refine loop_ghost (σ := Nat) (fun k a w' => ∃ u106 : Nat → Value, ∃ y6_0 : Value, a = fr [(.agg #[(.slice p5 A_m.places.length q6), (.slice p8 A_m.tris.length q9)]), (Pt b12 0), (Pt b19 0), (Bo false), (.slice p49 ((usedL A_m).length) q50), (.slice (some ⟨b52, 0, none⟩) A_m.places.length A_m.places.length), (Pt b90 0), (u106 7), Ud, Ud, (Bo (meshOk A_m)), (Bo (!(meshOk A_m))), Ud, (.slice p49 ((usedL A_m).length) q50), (Pt b12 0), (.slice p5 A_m.places.length q6), (Iv (A_m.places.length : Int)), (.slice (some ⟨b52, 0, none⟩) A_m.places.length A_m.places.length), (.slice (some ⟨b66, 0, none⟩) 0 0), (.slice (some ⟨b78, 0, none⟩) 0 0), (.agg #[(.slice (some ⟨b66, 0, none⟩) 0 0), (.slice (some ⟨b78, 0, none⟩) 0 0)]), (.slice p49 ((usedL A_m).length) q50), (Iv (((usedL A_m).length) : Int)), (Iv (k : Int)), (u106 24), (u106 25), (u106 26), (u106 27), (u106 28), (u106 29), (u106 30), (u106 31), (u106 32), (u106 33), (u106 34), (u106 35), (u106 36), (u106 37), (u106 38), (u106 39), (u106 40), (u106 41), (u106 42), (u106 43), (u106 44), (u106 45), (u106 46), Ud, Ud, Ud, Ud, Ud, Ud, Ud, Ud, Ud, Ud, Ud, Ud, Ud, Ud, Ud, Ud, Ud, Ud, Ud, Ud, Ud, Ud, Ud, Ud, Ud, Ud, Ud, Ud, Ud, Ud, Ud, Ud, Ud, Ud, Ud, Ud, Ud] ∧ KpL [b52, gg122, b90] w102 w' ∧ RowG RI 1 w' b52 (frTo (usedL A_m) A_m.places.length k) ∧ Own RV3 3 57 gg122 w102.heap.size w' y6_0 (((usedL A_m).take k).map (plA A_m)) ∧ Blk w' b90 [y6_0, (.slice (some ⟨b78, 0, none⟩) 0 0)] ∧ (k ≤ (usedL A_m).length)) (fun k => (usedL A_m).length - k) 0 ?_ ?_
  · refine ⟨fun t => (([(.agg #[(.slice p5 A_m.places.length q6), (.slice p8 A_m.tris.length q9)]), (Pt b12 0), (Pt b19 0), (Bo false), (.slice p49 ((usedL A_m).length) q50), (.slice (some ⟨b52, 0, none⟩) A_m.places.length A_m.places.length), (Pt b90 0), Ud, Ud, Ud, (Bo (meshOk A_m)), (Bo (!(meshOk A_m))), Ud, (.slice p49 ((usedL A_m).length) q50), (Pt b12 0), (.slice p5 A_m.places.length q6), (Iv (A_m.places.length : Int)), (.slice (some ⟨b52, 0, none⟩) A_m.places.length A_m.places.length), (.slice (some ⟨b66, 0, none⟩) 0 0), (.slice (some ⟨b78, 0, none⟩) 0 0), (.agg #[(.slice (some ⟨b66, 0, none⟩) 0 0), (.slice (some ⟨b78, 0, none⟩) 0 0)]), (.slice p49 ((usedL A_m).length) q50), (Iv (((usedL A_m).length) : Int)), (Iv 0), Ud, Ud, Ud, Ud, Ud, Ud, Ud, Ud, Ud, Ud, Ud, Ud, Ud, Ud, Ud, Ud, Ud, Ud, Ud, Ud, Ud, Ud, Ud, Ud, Ud, Ud, Ud, Ud, Ud, Ud, Ud, Ud, Ud, Ud, Ud, Ud, Ud, Ud, Ud, Ud, Ud, Ud, Ud, Ud, Ud, Ud, Ud, Ud, Ud, Ud, Ud, Ud, Ud, Ud, Ud, Ud, Ud, Ud, Ud, Ud] : List Value)[t]?).getD undef, (.slice (some ⟨b66, 0, none⟩) 0 0), rfl, KpL.refl _ _, (RowG.cast (RowG.kl (RowG.ext (RowG.ext (RowG.ext hR64 RI.flat E70) RI.flat E82) RI.flat E93) RI.flat (KpL.of_wr W100) (ninS (Nat.ne_of_lt n97) nin0)) (by (try dsimp only); rfl)), (Own.cast hO125 (by rfl)), hB101, ?_⟩
    exact Nat.zero_le _
  · rintro k a w132 ⟨u106, y6_0, rfl, E133, hRg0, hO135, hB136, hk⟩
    have X137 := Below.kl X103 E133 (allS g62 (allS g127 (allS g98 all0))) (Nat.le_refl _)
    have hR138 := hRg0; clear hRg0
    obtain ⟨p139, q140, rfl⟩ := Own.shape hO135
    have hH141 : Hang w56.heap.size w132 (fun u => Sl RV3 3 u (.slice p139 ((((usedL A_m).take k).map (plA A_m)).length) q140) (((usedL A_m).take k).map (plA A_m))) := Own.hang hO135 RV3.flat (by decide) hN126 (Nat.le_trans (Nat.le_trans (Nat.le_trans (Below.size E70) (Below.size E82)) (Below.size E93)) (Nat.le_of_eq (Eq.symm (Wr.size W100))))
    refine wp_seq_k fun K142 hK142 => ?_
    refine wp_region_lit ?_
    refine q_is rfl rfl (does_icmp (p := (k : Int)) (q := (((usedL A_m).length) : Int)) (.inr (.inr (.inl rfl))) (ev rfl) (ev rfl)) (by dsimp only [List.set]; try rfl) ?_
    refine wpList_nil (hK142 _ _ ?_)
    refine wp_seq_k fun K143 hK143 => ?_
    refine wp_cond_split (t := icmp .lss (k : Int) (((usedL A_m).length) : Int)) (ev rfl) (fun c144 => ?_) (fun c144 => ?_)
    · have c144' := c144
      (try simp only [icmp, Bool.and_eq_true, Bool.or_eq_true, Bool.and_eq_false_iff, Bool.or_eq_false_iff, Bool.not_eq_true', Bool.not_eq_false', decide_eq_true_eq, decide_eq_false_iff_not, beq_iff_eq, bne_iff_ne, beq_eq_false_iff_ne, bne_eq_false_iff_eq] at c144')
      refine wp_skip (hK143 _ _ ?_)
      refine wp_seq_k fun K145 hK145 => ?_
      refine wp_block ?_
      refine wp_seq_k fun K146 hK146 => ?_
      refine wp_region_lit ?_
      refine q_is rfl rfl (does_move (u := (Iv (k : Int))) (ev rfl)) (by dsimp only [List.set]; try rfl) ?_
      refine q_is rfl rfl (does_assign (u := (Iv (k : Int))) (ev rfl)) (by dsimp only [List.set]; try rfl) ?_
      refine wpList_nil (hK146 _ _ ?_)
      refine wp_seq_k fun K147 hK147 => ?_
      refine wp_region_lit ?_
      refine q_is rfl rfl (does_move (u := (.slice (some ⟨b52, 0, none⟩) A_m.places.length A_m.places.length)) (ev rfl)) (by dsimp only [List.set]; try rfl) ?_
      refine q_is rfl rfl (does_move (u := (.slice p49 ((usedL A_m).length) q50)) (ev rfl)) (by dsimp only [List.set]; try rfl) ?_
      refine q_is rfl rfl (does_move (u := (Iv (k : Int))) (ev rfl)) (by dsimp only [List.set]; try rfl) ?_
      obtain ⟨el1, hel1⟩ : ∃ e, (usedL A_m)[k]? = some e := ⟨_, List.getElem?_eq_getElem (by omega)⟩
      refine seqd rfl rfl (does_indexSl (R := RI) (i := (k : Int)) (xs := (usedL A_m)) (e := el1) Try.underlying27 Try.sizeOf2 (ev rfl) (ev rfl) (hh44 _ (((((((Same.refl _ _).ext E55).ext E70).ext E82).ext E93).wr W100 (.inr (Nat.le_trans (Nat.le_trans (Nat.le_trans (Below.size E55) (Below.size E70)) (Below.size E82)) hb91))).kl E133 (allS (.inr (Nat.le_trans (Nat.le_refl _) hb53)) (allS (.inr (Nat.le_trans (Below.size E55) hN126)) (allS (.inr (Nat.le_trans (Nat.le_trans (Nat.le_trans (Below.size E55) (Below.size E70)) (Below.size E82)) hb91)) all0))))) (by omega) hel1) ?_; rintro _ w132 ⟨b148, o149, _, rfl, hc151, rfl, rfl⟩
      show wpList _ _ _ _ (fr [_, _, _, _, _, _, _, _, _, _, _, _, _, _, _, _, _, _, _, _, _, _, _, _, _, _, _, _, _, _, _, _, _, _, _, _, _, _, _, _, _, _, _, _, _, _, _, _, _, _, _, _, _, _, _, _, _, _, _, _, _, _, _, _, _, _, _, _, _, _, _, _, _, _, _, _, _, _, _, _, _, _, _, _]) _
      refine q_is rfl rfl (does_load (u := (Iv el1)) (ev rfl) Try.isAgg2 (Cells.at hc151 0 rfl)) (by dsimp only [List.set]; try rfl) ?_
      refine q_is rfl rfl (does_move (u := (Iv (k : Int))) (ev rfl)) (by dsimp only [List.set]; try rfl) ?_
      have hjb := usedL_in A_m _ (List.mem_of_getElem? hel1)
      refine q_is rfl rfl (does_indexOwn (b := b52) (n := A_m.places.length) (i := el1) Try.underlying27 Try.sizeOf2 (ev rfl) (ev rfl) (by omega) (by omega)) (by dsimp only [List.set]; try rfl) ?_
      refine seqn rfl rfl (does_storeRowG (R := RI) (k := 1) (xs := (frTo (usedL A_m) A_m.places.length k)) (i := el1.toNat) (u := (Iv (k : Int))) (e := (k : Int)) (ev rfl) (ev rfl) Try.sizeOf2 rfl rfl RI.flat hR138 rfl (by first | assumption | omega | (simp only [frTo_len, List.length_set, List.length_replicate]; omega) | (simp only [frTo_len, List.length_set, List.length_replicate]; done)) rfl) ?_; rintro _ w154 ⟨rfl, W152, hR153⟩
      have X155 := Below.wr X137 W152 g62
      refine wpList_nil (hK147 _ _ ?_)
      obtain ⟨el2, hel2⟩ : ∃ e, A_m.places[el1.toNat]? = some e := ⟨_, List.getElem?_eq_getElem (by omega)⟩
      refine region_any2 [] [0, 1, 0, 4, 0, 0, 48, 112, 252, 508, 1020, 2047, 4095, 8191] [] (
        [FactW.pure [] [] [] true (fun v => v = (Pt b90 0)),
          FactW.pure [0] [] [] true (fun v => v = (.slice p139 ((((usedL A_m).take k).map (plA A_m)).length) q140)),
          FactW.pure [] [] [] true (fun v => v = (Pt b12 0)),
          FactW.pure [2] [] [] true (fun v => v = (.slice p5 A_m.places.length q6)),
          FactW.pure [] [] [] true (fun v => v = (.slice p49 ((usedL A_m).length) q50)),
          FactW.pure [] [] [] true (fun v => v = (Iv (k : Int))),
          FactW.mem [4, 5] [] [] [] true (fun v w' => PtrR RI w' v el1) (by intro v w1 w2 hx' h; have hx := KpL.toExt hx'; exact h.ext RI.mono hx),
          FactW.pure [6] [] [] true (fun v => v = (Iv el1)),
          FactW.mem [3, 7] [] [] [] true (fun v w' => PtrR RV3 w' v el2) (by intro v w1 w2 hx' h; have hx := KpL.toExt hx'; exact h.ext RV3.mono hx),
          FactW.pure [8] [] [] true (fun v => ∃ cs_1 : List Value, v = (.agg cs_1.toArray) ∧ RV3 w el2 cs_1),
          FactW.mem [9] [] [] [] true (fun v w' => ∃ b : Nat, ∃ r_1 : Nat, ∃ r_2 : Nat, ∃ r_3 : Nat, v = .slice (some ⟨b, 0, none⟩) 1 1 ∧ w154.heap.size ≤ b ∧ Blk w' b [(Fl r_1), (Fl r_2), (Fl r_3)] ∧ cf .f32 r_1 = el2.x ∧ cf .f32 r_2 = el2.y ∧ cf .f32 r_3 = el2.z) (by rintro v w1 w2 hx' ⟨b, z0, z1, z2, rfl, hb, hB, k0, k1, k2⟩; have hx := KpL.toExt hx'; exact ⟨b, z0, z1, z2, rfl, hb, (hB.ext hx), k0, k1, k2⟩)]) mixed (by kernel_rfl) ?_
      obtain ⟨w156, hw158⟩ : ∃ w', w' = World.drew w154 := ⟨_, rfl⟩; rw [← hw158]; have E157 : Ext w154 w156 := by rw [hw158]; exact Ext.draw _
      clear hw158
      have X159 := Ext.gr X155 E157
      refine RW2_d _ rfl (fun v => by dsimp only [List.set]; try rfl) (fun u hu hF => ?_) (fun v160 => ?_)
      · replace hu : KpL [] _ _ := hu
        clear hF
        refine doesG_un rfl ?_
        refine (does_fieldAddr (ev rfl) fa32_0).mono ?_; rintro _ _ ⟨rfl, rfl⟩
        exact ⟨rfl, KpL.refl _ _⟩
      refine RW2_d _ rfl (fun v => by dsimp only [List.set]; try rfl) (fun u hu hF => ?_) (fun v161 => ?_)
      · replace hu : KpL [] _ _ := hu
        have h33_ : v160 = (Pt b90 0) := hF.1
        clear hF
        refine doesG_un rfl ?_
        obtain rfl := h33_
        refine (does_load (u := (.slice p139 ((((usedL A_m).take k).map (plA A_m)).length) q140)) (ev rfl) Try.isAgg30 (Cells.at (Blk.cells (((hB136.wr W152 (Nat.ne_of_gt n97)).ext E157).ext (KpL.toExt hu))) 0 rfl)).mono ?_; rintro _ _ ⟨rfl, rfl⟩
        exact ⟨rfl, KpL.refl _ _⟩
      refine RW2_d _ rfl (fun v => by dsimp only [List.set]; try rfl) (fun u hu hF => ?_) (fun v162 => ?_)
      · replace hu : KpL [] _ _ := hu
        clear hF
        refine doesG_un rfl ?_
        refine (does_fieldAddr (ev rfl) fa32_0).mono ?_; rintro _ _ ⟨rfl, rfl⟩
        exact ⟨rfl, KpL.refl _ _⟩
      refine RW2_d _ rfl (fun v => by dsimp only [List.set]; try rfl) (fun u hu hF => ?_) (fun v163 => ?_)
      · replace hu : KpL [] _ _ := hu
        have h35_ : v162 = (Pt b12 0) := hF.1
        clear hF
        refine doesG_un rfl ?_
        obtain rfl := h35_
        refine (does_load (u := (.slice p5 A_m.places.length q6)) (ev rfl) Try.isAgg30 (Cells.at (Blk.cells ((((((((((((hB14.ext E22).ext E29).ext E42).ext E55).ext E70).ext E82).ext E93).wr W100 (Nat.ne_of_lt n95)).kl E133 (ninS (Nat.ne_of_lt n60) (ninS (Nat.ne_of_lt (Nat.lt_of_lt_of_le n72 hN126)) (ninS (Nat.ne_of_lt n95) nin0)))).wr W152 (Nat.ne_of_lt n60)).ext E157).ext (KpL.toExt hu))) 0 rfl)).mono ?_; rintro _ _ ⟨rfl, rfl⟩
        exact ⟨rfl, KpL.refl _ _⟩
      refine RW2_d _ rfl (fun v => by dsimp only [List.set]; try rfl) (fun u hu hF => ?_) (fun v164 => ?_)
      · replace hu : KpL [] _ _ := hu
        clear hF
        refine doesG_un rfl ?_
        refine (does_move (u := (.slice p49 ((usedL A_m).length) q50)) (ev rfl)).mono ?_; rintro _ _ ⟨rfl, rfl⟩
        exact ⟨rfl, KpL.refl _ _⟩
      refine RW2_d _ rfl (fun v => by dsimp only [List.set]; try rfl) (fun u hu hF => ?_) (fun v165 => ?_)
      · replace hu : KpL [] _ _ := hu
        clear hF
        refine doesG_un rfl ?_
        refine (does_move (u := (Iv (k : Int))) (ev rfl)).mono ?_; rintro _ _ ⟨rfl, rfl⟩
        exact ⟨rfl, KpL.refl _ _⟩
      refine RW2_d _ rfl (fun v => by dsimp only [List.set]; try rfl) (fun u hu hF => ?_) (fun v166 => ?_)
      · replace hu : KpL [] _ _ := hu
        have h37_ : v164 = (.slice p49 ((usedL A_m).length) q50) := hF.1
        have h38_ : v165 = (Iv (k : Int)) := hF.2.1
        clear hF
        refine doesG_un rfl ?_
        obtain rfl := h37_
        obtain rfl := h38_
        refine (does_indexSl (R := RI) (i := (k : Int)) (xs := (usedL A_m)) (e := el1) Try.underlying27 Try.sizeOf2 (ev rfl) (ev rfl) (hh44 _ ((((((((((Same.refl _ _).ext E55).ext E70).ext E82).ext E93).wr W100 (.inr (Nat.le_trans (Nat.le_trans (Nat.le_trans (Below.size E55) (Below.size E70)) (Below.size E82)) hb91))).kl E133 (allS (.inr (Nat.le_trans (Nat.le_refl _) hb53)) (allS (.inr (Nat.le_trans (Below.size E55) hN126)) (allS (.inr (Nat.le_trans (Nat.le_trans (Nat.le_trans (Below.size E55) (Below.size E70)) (Below.size E82)) hb91)) all0)))).wr W152 (.inr (Nat.le_trans (Nat.le_refl _) hb53))).ext E157).ext (KpL.toExt hu))) (by omega) hel1).mono ?_; rintro v u' ⟨b, of, cs, hv, hc, hR, hu'⟩; subst hu'
        exact ⟨⟨b, of, cs, hv, hc, hR⟩, KpL.refl _ _⟩
      refine RW2_d _ rfl (fun v => by dsimp only [List.set]; try rfl) (fun u hu hF => ?_) (fun v167 => ?_)
      · replace hu : KpL [] _ _ := hu
        have h39_ : PtrR RI u v166 el1 := hF.1
        clear hF
        refine doesG_un rfl ?_
        obtain ⟨b39_, o39_, _, rfl, hc39_, rfl⟩ := h39_
        refine (does_load (u := (Iv el1)) (ev rfl) Try.isAgg2 (Cells.at hc39_ 0 rfl)).mono ?_; rintro _ _ ⟨rfl, rfl⟩
        exact ⟨rfl, KpL.refl _ _⟩
      refine RW2_d _ rfl (fun v => by dsimp only [List.set]; try rfl) (fun u hu hF => ?_) (fun v168 => ?_)
      · replace hu : KpL [] _ _ := hu
        have h36_ : v163 = (.slice p5 A_m.places.length q6) := hF.1
        have h40_ : v167 = (Iv el1) := hF.2.1
        clear hF
        refine doesG_un rfl ?_
        obtain rfl := h36_
        obtain rfl := h40_
        refine (does_indexSl (R := RV3) (i := el1) (xs := A_m.places) (e := el2) Try.underlying30 Try.sizeOf57 (ev rfl) (ev rfl) (Sl.ext hs7 RV3.mono (Ext.gr (Ext.gr X155 E157) (KpL.toExt hu))) (by omega) hel2).mono ?_; rintro v u' ⟨b, of, cs, hv, hc, hR, hu'⟩; subst hu'
        exact ⟨⟨b, of, cs, hv, hc, hR⟩, KpL.refl _ _⟩
      refine RW2_d _ rfl (fun v => by dsimp only [List.set]; try rfl) (fun u hu hF => ?_) (fun v169 => ?_)
      · replace hu : KpL [] _ _ := hu
        have h41_ : PtrR RV3 u v168 el2 := hF.1
        clear hF
        refine doesG_un rfl ?_
        obtain ⟨b41_, o41_, _, rfl, hc41_, ⟨r41_1, r41_3, r41_5, rfl, h41_2, h41_4, h41_6⟩⟩ := h41_
        refine (does_loadAgg (cs := [(Fl r41_1), (Fl r41_3), (Fl r41_5)]) (ev rfl) Try.isAgg57 Try.sizeOf57 hc41_ rfl).mono ?_; rintro _ _ ⟨rfl, rfl⟩
        exact ⟨⟨[(Fl r41_1), (Fl r41_3), (Fl r41_5)], rfl, ⟨r41_1, r41_3, r41_5, rfl, (by first | assumption | rfl), (by first | assumption | rfl), (by first | assumption | rfl)⟩⟩, KpL.refl _ _⟩
      refine RW2_d _ rfl (fun v => by dsimp only [List.set]; try rfl) (fun u hu hF => ?_) (fun v170 => ?_)
      · replace hu : KpL [] _ _ := hu
        have h42_ : ∃ cs_1 : List Value, v169 = (.agg cs_1.toArray) ∧ RV3 w el2 cs_1 := hF.1
        clear hF
        refine doesG_un rfl ?_
        obtain ⟨_, rfl, ⟨r42_1, r42_3, r42_5, rfl, h42_2, h42_4, h42_6⟩⟩ := h42_
        refine (does_buildSlice (e := 57) (parts' := [(0, (.agg #[(Fl r42_1), (Fl r42_3), (Fl r42_5)]))]) (cells := [(Fl r42_1), (Fl r42_3), (Fl r42_5)]) (evp rfl) (fun _ => by kernel_rfl)).mono ?_; rintro _ _ ⟨b, rfl, hb, hB, hx⟩
        exact ⟨⟨b, r42_1, r42_3, r42_5, rfl, Nat.le_trans (Nat.le_trans (Below.size E157) (KpL.size hu)) hb, hB, (by simp only [h42_2, h42_4, h42_6]), (by simp only [h42_2, h42_4, h42_6]), (by simp only [h42_2, h42_4, h42_6])⟩, (KpL.of_ext hx)⟩
      refine RW2_fin ?_; intro w171 E172 hP173; replace E172 : KpL [] _ _ := E172
      obtain ⟨⟨⟨⟨⟨⟨⟨⟨⟨⟨⟨-, -⟩, q174⟩, -⟩, -⟩, -⟩, -⟩, -⟩, -⟩, -⟩, -⟩, q175⟩ := hP173
      have X176 := Below.kl X159 E172 all0 (Nat.le_refl _)
      have q174 : v161 = (.slice p139 ((((usedL A_m).take k).map (plA A_m)).length) q140) := q174 rfl
      obtain rfl := q174
      have q175 : ∃ b : Nat, ∃ r_1 : Nat, ∃ r_2 : Nat, ∃ r_3 : Nat, v170 = .slice (some ⟨b, 0, none⟩) 1 1 ∧ w154.heap.size ≤ b ∧ Blk w171 b [(Fl r_1), (Fl r_2), (Fl r_3)] ∧ cf .f32 r_1 = el2.x ∧ cf .f32 r_2 = el2.y ∧ cf .f32 r_3 = el2.z := q175 rfl
      obtain ⟨b177, r180, r181, r182, rfl, hb178, hB179, h183, h184, h185⟩ := q175
      have n186 : b12 < b177 := Nat.lt_of_lt_of_le (Blk.lt ((((((((((hB14.ext E22).ext E29).ext E42).ext E55).ext E70).ext E82).ext E93).wr W100 (Nat.ne_of_lt n95)).kl E133 (ninS (Nat.ne_of_lt n60) (ninS (Nat.ne_of_lt (Nat.lt_of_lt_of_le n72 hN126)) (ninS (Nat.ne_of_lt n95) nin0)))).wr W152 (Nat.ne_of_lt n60))) hb178
      have n187 : b19 < b177 := Nat.lt_of_lt_of_le (Blk.lt (((((((((hB21.ext E29).ext E42).ext E55).ext E70).ext E82).ext E93).wr W100 (Nat.ne_of_lt n96)).kl E133 (ninS (Nat.ne_of_lt n61) (ninS (Nat.ne_of_lt (Nat.lt_of_lt_of_le n73 hN126)) (ninS (Nat.ne_of_lt n96) nin0)))).wr W152 (Nat.ne_of_lt n61))) hb178
      have n188 : b90 < b177 := Nat.lt_of_lt_of_le (Blk.lt (hB136.wr W152 (Nat.ne_of_gt n97))) hb178
      have n189 : b52 < b177 := Nat.lt_of_lt_of_le (RowG.lt hR153) hb178
      have g190 : w.heap.size ≤ b177 := Nat.le_trans (Below.size X155) hb178
      show wpList _ _ _ _ (fr [_, _, _, _, _, _, _, _, _, _, _, _, _, _, _, _, _, _, _, _, _, _, _, _, _, _, _, _, _, _, _, _, _, _, _, _, _, _, _, _, _, _, _, _, _, _, _, _, _, _, _, _, _, _, _, _, _, _, _, _, _, _, _, _, _, _, _, _, _, _, _, _, _, _, _, _, _, _, _, _, _, _, _, _]) _
      refine seqd rfl rfl (does_append (R := RV3) (k := 3) (g0 := gg122) (B := w102.heap.size) (xs := (((usedL A_m).take k).map (plA A_m))) (ys := [(V3.mk (cf .f32 r180) (cf .f32 r181) (cf .f32 r182))]) Try.underlying30 inf57 rfl (by decide) (ev rfl) (ev rfl) (Own.same hO135 RV3.flat ((((Same.refl _ _).wr W152 (.inl n74)).ext E157).kl E172 all0) hN126 (Nat.le_trans (Nat.le_trans (Nat.le_trans (Below.size E70) (Below.size E82)) (Below.size E93)) (Nat.le_of_eq (Eq.symm (Wr.size W100))))) RV3.flat hB179 rfl rfl rfl (fun i x hi => lit1 (R := RV3) (cs := [(Fl r180), (Fl r181), (Fl r182)]) (y := (V3.mk (cf .f32 r180) (cf .f32 r181) (cf .f32 r182)))  (⟨r180, r181, r182, rfl, rfl, rfl, rfl⟩) i x hi) (by first | (simp only [List.length_append, List.length_cons, List.length_nil]; omega) | (simp only [List.length_append, List.length_map, List.length_take, List.length_cons, List.length_nil]; omega)) (Nat.le_trans (Nat.le_trans (Nat.le_trans (KpL.size E133) (Nat.le_of_eq (Eq.symm (Wr.size W152)))) (Below.size E157)) (KpL.size E172))) ?_; rintro y' w191 ⟨gg192, hg193, K194, hO195⟩
      have hN196 : w56.heap.size ≤ gg192 := by rcases hg193 with h | h; exact h ▸ hN126; exact Nat.le_trans (Nat.le_trans (Nat.le_trans (Nat.le_trans (Below.size E70) (Below.size E82)) (Below.size E93)) (Nat.le_of_eq (Eq.symm (Wr.size W100)))) h
      have g197 : w.heap.size ≤ gg192 := Nat.le_trans (Nat.le_trans (Nat.le_trans (Nat.le_trans (Nat.le_trans (Below.size E15) (Below.size E22)) (Below.size E29)) (Below.size E42)) (Below.size E55)) hN196
      have n198 : b12 ≠ gg192 := hg193.elim (fun h => by rw [h]; exact (Nat.ne_of_lt (Nat.lt_of_lt_of_le n72 hN126))) (fun h => Nat.ne_of_lt (Nat.lt_of_lt_of_le n111 h))
      have n199 : b19 ≠ gg192 := hg193.elim (fun h => by rw [h]; exact (Nat.ne_of_lt (Nat.lt_of_lt_of_le n73 hN126))) (fun h => Nat.ne_of_lt (Nat.lt_of_lt_of_le n112 h))
      have n200 : b52 ≠ gg192 := hg193.elim (fun h => by rw [h]; exact (Nat.ne_of_lt (Nat.lt_of_lt_of_le n74 hN126))) (fun h => Nat.ne_of_lt (Nat.lt_of_lt_of_le n113 h))
      have n201 : b90 ≠ gg192 := hg193.elim (fun h => by rw [h]; exact (Nat.ne_of_gt n129)) (fun h => Nat.ne_of_lt (Nat.lt_of_lt_of_le n114 h))
      have n202 : gg107 ≠ gg192 := hg193.elim (fun h => by rw [h]; exact (Nat.ne_of_gt n130)) (fun h => Nat.ne_of_lt (Nat.lt_of_lt_of_le n120 h))
      have X203 := Below.kl X176 K194 (allS g197 all0) (Nat.le_refl _)
      obtain ⟨p204, q205, rfl⟩ := Own.shape hO195
      have hH206 : Hang w56.heap.size w191 (fun u => Sl RV3 3 u (.slice p204 (((((usedL A_m).take k).map (plA A_m)) ++ [(V3.mk (cf .f32 r180) (cf .f32 r181) (cf .f32 r182))]).length) q205) ((((usedL A_m).take k).map (plA A_m)) ++ [(V3.mk (cf .f32 r180) (cf .f32 r181) (cf .f32 r182))])) := Own.hang hO195 RV3.flat (by decide) hN126 (Nat.le_trans (Nat.le_trans (Nat.le_trans (Below.size E70) (Below.size E82)) (Below.size E93)) (Nat.le_of_eq (Eq.symm (Wr.size W100))))
      show wpList _ _ _ _ (fr [_, _, _, _, _, _, _, _, _, _, _, _, _, _, _, _, _, _, _, _, _, _, _, _, _, _, _, _, _, _, _, _, _, _, _, _, _, _, _, _, _, _, _, _, _, _, _, _, _, _, _, _, _, _, _, _, _, _, _, _, _, _, _, _, _, _, _, _, _, _, _, _, _, _, _, _, _, _, _, _, _, _, _, _]) _
      refine q_is rfl rfl (does_fieldAddr (ev rfl) fa32_0) (by dsimp only [List.set]; try rfl) ?_
      refine seqn rfl rfl (does_store (n := 1) (cs := [(.slice p139 ((((usedL A_m).take k).map (plA A_m)).length) q140), (.slice (some ⟨b78, 0, none⟩) 0 0)]) (u := (.slice p204 (((((usedL A_m).take k).map (plA A_m)) ++ [(V3.mk (cf .f32 r180) (cf .f32 r181) (cf .f32 r182))]).length) q205)) (ev rfl) (ev rfl) Try.sizeOf30 rfl ((((hB136.wr W152 (Nat.ne_of_gt n97)).ext E157).kl E172 nin0).kl K194 (ninS n201 nin0)) (Nat.le_of_ble_eq_true rfl) rfl) ?_; rintro _ w209 ⟨rfl, W207, hB208⟩
      change Blk _ _ [(.slice p204 (((((usedL A_m).take k).map (plA A_m)) ++ [(V3.mk (cf .f32 r180) (cf .f32 r181) (cf .f32 r182))]).length) q205), (.slice (some ⟨b78, 0, none⟩) 0 0)] at hB208
      have X210 := Below.wr X203 W207 g98
      refine wpList_nil (hK145 _ _ ?_)
      refine wp_region_lit ?_
      refine q_is rfl rfl (does_iarith (p := (k : Int)) (q := 1) (r := (k : Int) + 1) (ev rfl) (ev rfl) (.inl ⟨rfl, (in_i64 (by omega) (by omega)).symm⟩)) (by dsimp only [List.set]; try rfl) ?_
      refine q_is rfl rfl (does_move (u := (Iv ((k : Int) + 1))) (ev rfl)) (by dsimp only [List.set]; try rfl) ?_
      refine wpList_nil ?_
      have hR211 := RowG.cast (ys := ((fun (k : Nat) => frTo (usedL A_m) A_m.places.length k) (k + 1))) (RowG.kl (RowG.kl (RowG.kl (RowG.ext hR153 RI.flat E157) RI.flat E172 nin0) RI.flat K194 (ninS n200 nin0)) RI.flat (KpL.of_wr W207) (ninS (Nat.ne_of_lt n97) nin0)) (by (try dsimp only); exact frTo_succ hel1)
      have hO212 := Own.cast (ys := ((fun (k : Nat) => ((usedL A_m).take k).map (plA A_m)) (k + 1))) (Own.kl hO195 RV3.flat (KpL.of_wr W207) (allS ⟨(Nat.ne_of_gt n129), .inl n114⟩ all0)) (by (try dsimp only); (rw [← map_take hel1, plA_at hel2] <;> first | rfl | (simp only [hel1, hel2, h183, h184, h185]; done)))
      refine ⟨k + 1, ⟨fun t => (([(.agg #[(.slice p5 A_m.places.length q6), (.slice p8 A_m.tris.length q9)]), (Pt b12 0), (Pt b19 0), (Bo false), (.slice p49 ((usedL A_m).length) q50), (.slice (some ⟨b52, 0, none⟩) A_m.places.length A_m.places.length), (Pt b90 0), (Iv (k : Int)), Ud, Ud, (Bo (meshOk A_m)), (Bo (!(meshOk A_m))), Ud, (.slice p49 ((usedL A_m).length) q50), (Pt b12 0), (.slice p5 A_m.places.length q6), (Iv (A_m.places.length : Int)), (.slice (some ⟨b52, 0, none⟩) A_m.places.length A_m.places.length), (.slice (some ⟨b66, 0, none⟩) 0 0), (.slice (some ⟨b78, 0, none⟩) 0 0), (.agg #[(.slice (some ⟨b66, 0, none⟩) 0 0), (.slice (some ⟨b78, 0, none⟩) 0 0)]), (.slice p49 ((usedL A_m).length) q50), (Iv (((usedL A_m).length) : Int)), (Iv ((k : Int) + 1)), (Bo (icmp .lss (k : Int) (((usedL A_m).length) : Int))), (Iv (k : Int)), (.slice (some ⟨b52, 0, none⟩) A_m.places.length A_m.places.length), (.slice p49 ((usedL A_m).length) q50), (Iv (k : Int)), (Pt b148 o149), (Iv el1), (Iv (k : Int)), (Pt b52 (el1.toNat * 1)), v160, (.slice p139 ((((usedL A_m).take k).map (plA A_m)).length) q140), v162, v163, v164, v165, v166, v167, v168, v169, (.slice (some ⟨b177, 0, none⟩) 1 1), (.slice p204 (((((usedL A_m).take k).map (plA A_m)) ++ [(V3.mk (cf .f32 r180) (cf .f32 r181) (cf .f32 r182))]).length) q205), (Pt b90 0), (Iv ((k : Int) + 1)), Ud, Ud, Ud, Ud, Ud, Ud, Ud, Ud, Ud, Ud, Ud, Ud, Ud, Ud, Ud, Ud, Ud, Ud, Ud, Ud, Ud, Ud, Ud, Ud, Ud, Ud, Ud, Ud, Ud, Ud, Ud, Ud, Ud, Ud, Ud, Ud, Ud] : List Value)[t]?).getD undef, (.slice p204 (((((usedL A_m).take k).map (plA A_m)) ++ [(V3.mk (cf .f32 r180) (cf .f32 r181) (cf .f32 r182))]).length) q205), ?_, (KpL.more (KpL.more (KpL.more (KpL.ext (KpL.more E133 (KpL.of_wr W152) (allS (.inl (by simp)) all0)) E157) E172 all0) K194 (allS (hg193.imp (fun h => by simp [h]) id) all0)) (KpL.of_wr W207) (allS (.inl (by simp)) all0)), hR211, hO212, hB208, ?_⟩, ?_⟩
      · first | rfl | (simp only [Int.natCast_add, Int.natCast_one]; rfl)
      · omega
      · omega
    have c144' := c144
    (try simp only [icmp, Bool.and_eq_true, Bool.or_eq_true, Bool.and_eq_false_iff, Bool.or_eq_false_iff, Bool.not_eq_true', Bool.not_eq_false', decide_eq_true_eq, decide_eq_false_iff_not, beq_iff_eq, bne_iff_ne, beq_eq_false_iff_ne, bne_eq_false_iff_eq] at c144')
    refine wp_exit ?_
    refine hK104 _ _ ?_
    refine wp_seq_k fun K213 hK213 => ?_
    refine wp_seq_k fun K214 hK214 => ?_
    refine wp_region_lit ?_
    refine q_is rfl rfl (does_fieldAddr (ev rfl) fa32_1) (by dsimp only [List.set]; try rfl) ?_
    refine q_is rfl rfl (does_load (u := (.slice p8 A_m.tris.length q9)) (ev rfl) Try.isAgg23 (Cells.at (Blk.cells (((((((((hB14.ext E22).ext E29).ext E42).ext E55).ext E70).ext E82).ext E93).wr W100 (Nat.ne_of_lt n95)).kl E133 (ninS (Nat.ne_of_lt n60) (ninS (Nat.ne_of_lt (Nat.lt_of_lt_of_le n72 hN126)) (ninS (Nat.ne_of_lt n95) nin0))))) 1 rfl)) (by dsimp only [List.set]; try rfl) ?_
    refine q_is rfl rfl (does_len_slice Try.underlying23 (ev rfl)) (by dsimp only [List.set]; try rfl) ?_
    refine q_is rfl rfl (does_move (u := (Iv 0)) (ev rfl)) (by dsimp only [List.set]; try rfl) ?_
    refine wpList_nil (hK214 _ _ ?_)
    refine wp_block ?_
    have n220 : b12 < w132.heap.size := Blk.lt (((((((((hB14.ext E22).ext E29).ext E42).ext E55).ext E70).ext E82).ext E93).wr W100 (Nat.ne_of_lt n95)).kl E133 (ninS (Nat.ne_of_lt n60) (ninS (Nat.ne_of_lt (Nat.lt_of_lt_of_le n72 hN126)) (ninS (Nat.ne_of_lt n95) nin0))))
    have n221 : b19 < w132.heap.size := Blk.lt ((((((((hB21.ext E29).ext E42).ext E55).ext E70).ext E82).ext E93).wr W100 (Nat.ne_of_lt n96)).kl E133 (ninS (Nat.ne_of_lt n61) (ninS (Nat.ne_of_lt (Nat.lt_of_lt_of_le n73 hN126)) (ninS (Nat.ne_of_lt n96) nin0))))
    have n222 : b52 < w132.heap.size := RowG.lt hR138
    have n223 : b90 < w132.heap.size := Blk.lt hB136
    obtain ⟨gg216, hg217, hg218, hO219⟩ := Own.startA hO135 hO135
    have hN224 : w56.heap.size ≤ gg216 := by rcases hg217 with h | h; exact h ▸ hN126; exact Nat.le_trans (Nat.le_trans (Nat.le_trans (Nat.le_trans (Below.size E70) (Below.size E82)) (Below.size E93)) (Nat.le_of_eq (Eq.symm (Wr.size W100)))) h
    have g225 : w.heap.size ≤ gg216 := Nat.le_trans (Nat.le_trans (Nat.le_trans (Nat.le_trans (Nat.le_trans (Below.size E15) (Below.size E22)) (Below.size E29)) (Below.size E42)) (Below.size E55)) hN224
    have n226 : b12 ≠ gg216 := hg217.elim (fun h => by rw [h]; exact (Nat.ne_of_lt (Nat.lt_of_lt_of_le n72 hN126))) (fun h => Nat.ne_of_lt (Nat.lt_of_lt_of_le n111 h))
    have n227 : b19 ≠ gg216 := hg217.elim (fun h => by rw [h]; exact (Nat.ne_of_lt (Nat.lt_of_lt_of_le n73 hN126))) (fun h => Nat.ne_of_lt (Nat.lt_of_lt_of_le n112 h))
    have n228 : b52 ≠ gg216 := hg217.elim (fun h => by rw [h]; exact (Nat.ne_of_lt (Nat.lt_of_lt_of_le n74 hN126))) (fun h => Nat.ne_of_lt (Nat.lt_of_lt_of_le n113 h))
    have n229 : b90 ≠ gg216 := hg217.elim (fun h => by rw [h]; exact (Nat.ne_of_gt n129)) (fun h => Nat.ne_of_lt (Nat.lt_of_lt_of_le n114 h))
    have n230 : gg107 ≠ gg216 := hg217.elim (fun h => by rw [h]; exact (Nat.ne_of_gt n130)) (fun h => Nat.ne_of_lt (Nat.lt_of_lt_of_le n120 h))
    have hg231 : gg216 < w132.heap.size := by rcases hg218 with h | h; exact h ▸ Nat.lt_of_lt_of_le hg128 (Nat.le_trans (Nat.le_trans (Nat.le_trans (Below.size E82) (Below.size E93)) (Nat.le_of_eq (Eq.symm (Wr.size W100)))) (KpL.size E133)); exact h
    have hO232 := hO219
    have n233 : gg216 < w132.heap.size := Nat.lt_of_lt_of_le hg231 (Nat.le_refl _)
    have hH234 : Hang w56.heap.size w132 (fun u => Sl RV3 3 u (.slice p139 ((((usedL A_m).take k).map (plA A_m)).length) q140) (((usedL A_m).take k).map (plA A_m))) := Own.hang (hO232 _) RV3.flat (by decide) hN224 (Nat.le_trans (Nat.le_trans (Nat.le_trans (Nat.le_trans (Below.size E70) (Below.size E82)) (Below.size E93)) (Nat.le_of_eq (Eq.symm (Wr.size W100)))) (KpL.size E133))
    obtain ⟨gg235, hg236, hg237, hO238⟩ := OwnN.start' (hO119 _) ((OwnN.klA hO119 E133 (allS (Nat.ne_of_lt (Nat.lt_of_lt_of_le n86 hN115)) (allS (Nat.ne_of_lt n130) (allS (Nat.ne_of_gt n118) all0)))) _)
    have hN239 : w71.heap.size ≤ gg235 := by rcases hg236 with h | h; exact h ▸ hN115; exact Nat.le_trans (Nat.le_trans (Nat.le_trans (Below.size E82) (Below.size E93)) (Nat.le_of_eq (Eq.symm (Wr.size W100)))) h
    have g240 : w.heap.size ≤ gg235 := Nat.le_trans (Nat.le_trans (Nat.le_trans (Nat.le_trans (Nat.le_trans (Nat.le_trans (Below.size E15) (Below.size E22)) (Below.size E29)) (Below.size E42)) (Below.size E55)) (Below.size E70)) hN239
    have n241 : b12 ≠ gg235 := hg236.elim (fun h => by rw [h]; exact (Nat.ne_of_lt (Nat.lt_of_lt_of_le n84 hN115))) (fun h => Nat.ne_of_lt (Nat.lt_of_lt_of_le n111 h))
    have n242 : b19 ≠ gg235 := hg236.elim (fun h => by rw [h]; exact (Nat.ne_of_lt (Nat.lt_of_lt_of_le n85 hN115))) (fun h => Nat.ne_of_lt (Nat.lt_of_lt_of_le n112 h))
    have n243 : b52 ≠ gg235 := hg236.elim (fun h => by rw [h]; exact (Nat.ne_of_lt (Nat.lt_of_lt_of_le n86 hN115))) (fun h => Nat.ne_of_lt (Nat.lt_of_lt_of_le n113 h))
    have n244 : b90 ≠ gg235 := hg236.elim (fun h => by rw [h]; exact (Nat.ne_of_gt n118)) (fun h => Nat.ne_of_lt (Nat.lt_of_lt_of_le n114 h))
    have hg245 : gg235 < w102.heap.size := by rcases hg237 with h | h; exact h ▸ Nat.lt_of_lt_of_le hg117 (Nat.le_trans (Below.size E93) (Nat.le_of_eq (Eq.symm (Wr.size W100)))); exact h
    refine loop_ghost (σ := Nat) (fun q a w' => ∃ u215 : Nat → Value, ∃ y6_1 : Value, a = fr [(.agg #[(.slice p5 A_m.places.length q6), (.slice p8 A_m.tris.length q9)]), (Pt b12 0), (Pt b19 0), (Bo false), (.slice p49 ((usedL A_m).length) q50), (.slice (some ⟨b52, 0, none⟩) A_m.places.length A_m.places.length), (Pt b90 0), (u106 7), (u215 8), (u215 9), (Bo (meshOk A_m)), (Bo (!(meshOk A_m))), Ud, (.slice p49 ((usedL A_m).length) q50), (Pt b12 0), (.slice p5 A_m.places.length q6), (Iv (A_m.places.length : Int)), (.slice (some ⟨b52, 0, none⟩) A_m.places.length A_m.places.length), (.slice (some ⟨b66, 0, none⟩) 0 0), (.slice (some ⟨b78, 0, none⟩) 0 0), (.agg #[(.slice (some ⟨b66, 0, none⟩) 0 0), (.slice (some ⟨b78, 0, none⟩) 0 0)]), (.slice p49 ((usedL A_m).length) q50), (Iv (((usedL A_m).length) : Int)), (Iv (k : Int)), (Bo (icmp .lss (k : Int) (((usedL A_m).length) : Int))), (u106 25), (u106 26), (u106 27), (u106 28), (u106 29), (u106 30), (u106 31), (u106 32), (u106 33), (u106 34), (u106 35), (u106 36), (u106 37), (u106 38), (u106 39), (u106 40), (u106 41), (u106 42), (u106 43), (u106 44), (u106 45), (u106 46), (Pt b12 1), (.slice p8 A_m.tris.length q9), (Iv (A_m.tris.length : Int)), (Iv (q : Int)), (u215 51), (u215 52), (u215 53), (u215 54), (u215 55), (u215 56), (u215 57), (u215 58), (u215 59), (u215 60), (u215 61), (u215 62), (u215 63), (u215 64), (u215 65), (u215 66), (u215 67), (u215 68), (u215 69), (u215 70), (u215 71), (u215 72), (u215 73), (u215 74), (u215 75), (u215 76), (u215 77), (u215 78), (u215 79), (u215 80), (u215 81), (u215 82), Ud] ∧ KpL [gg235, b90] w132 w' ∧ OwnN RI 1 27 w132.heap.size gg235 w132.heap.size w' y6_1 ((A_m.tris.take q).map (reT (frM A_m))) ∧ Blk w' b90 [(.slice p139 ((((usedL A_m).take k).map (plA A_m)).length) q140), y6_1] ∧ (q ≤ A_m.tris.length)) (fun q => A_m.tris.length - q) 0 ?_ ?_
    · refine ⟨fun t => (([(.agg #[(.slice p5 A_m.places.length q6), (.slice p8 A_m.tris.length q9)]), (Pt b12 0), (Pt b19 0), (Bo false), (.slice p49 ((usedL A_m).length) q50), (.slice (some ⟨b52, 0, none⟩) A_m.places.length A_m.places.length), (Pt b90 0), (u106 7), Ud, Ud, (Bo (meshOk A_m)), (Bo (!(meshOk A_m))), Ud, (.slice p49 ((usedL A_m).length) q50), (Pt b12 0), (.slice p5 A_m.places.length q6), (Iv (A_m.places.length : Int)), (.slice (some ⟨b52, 0, none⟩) A_m.places.length A_m.places.length), (.slice (some ⟨b66, 0, none⟩) 0 0), (.slice (some ⟨b78, 0, none⟩) 0 0), (.agg #[(.slice (some ⟨b66, 0, none⟩) 0 0), (.slice (some ⟨b78, 0, none⟩) 0 0)]), (.slice p49 ((usedL A_m).length) q50), (Iv (((usedL A_m).length) : Int)), (Iv (k : Int)), (Bo (icmp .lss (k : Int) (((usedL A_m).length) : Int))), (u106 25), (u106 26), (u106 27), (u106 28), (u106 29), (u106 30), (u106 31), (u106 32), (u106 33), (u106 34), (u106 35), (u106 36), (u106 37), (u106 38), (u106 39), (u106 40), (u106 41), (u106 42), (u106 43), (u106 44), (u106 45), (u106 46), (Pt b12 1), (.slice p8 A_m.tris.length q9), (Iv (A_m.tris.length : Int)), (Iv 0), Ud, Ud, Ud, Ud, Ud, Ud, Ud, Ud, Ud, Ud, Ud, Ud, Ud, Ud, Ud, Ud, Ud, Ud, Ud, Ud, Ud, Ud, Ud, Ud, Ud, Ud, Ud, Ud, Ud, Ud, Ud, Ud, Ud] : List Value)[t]?).getD undef, (.slice (some ⟨b78, 0, none⟩) 0 0), rfl, KpL.refl _ _, (OwnN.cast (OwnN.reC hO238) (by rfl)), hB136, ?_⟩
      exact Nat.zero_le _
    · rintro q a w246 ⟨u215, y6_1, rfl, E247, hO249, hB250, hq⟩
      have X251 := Below.kl X137 E247 (allS g240 (allS g98 all0)) (Nat.le_refl _)
      obtain ⟨p252, q253, rfl⟩ := OwnN.shape hO249
      have hH254 : Hang w71.heap.size w246 (fun u => Sl (RS RI 1) 1 u (.slice p252 (((A_m.tris.take q).map (reT (frM A_m))).length) q253) ((A_m.tris.take q).map (reT (frM A_m)))) := OwnN.hang hO249 RI.flat (by decide) hN239 (Nat.le_trans (Nat.le_trans (Nat.le_trans (Below.size E82) (Below.size E93)) (Nat.le_of_eq (Eq.symm (Wr.size W100)))) (KpL.size E133)) (Nat.le_trans (Nat.le_trans (Nat.le_trans (Below.size E82) (Below.size E93)) (Nat.le_of_eq (Eq.symm (Wr.size W100)))) (KpL.size E133))
      have hkk : k = (usedL A_m).length := by omega
      refine wp_seq_k fun K255 hK255 => ?_
      refine wp_region_lit ?_
      refine q_is rfl rfl (does_icmp (p := (q : Int)) (q := (A_m.tris.length : Int)) (.inr (.inr (.inl rfl))) (ev rfl) (ev rfl)) (by dsimp only [List.set]; try rfl) ?_
      refine wpList_nil (hK255 _ _ ?_)
      refine wp_seq_k fun K256 hK256 => ?_
      refine wp_cond_split (t := icmp .lss (q : Int) (A_m.tris.length : Int)) (ev rfl) (fun c257 => ?_) (fun c257 => ?_)
      · have c257' := c257
        (try simp only [icmp, Bool.and_eq_true, Bool.or_eq_true, Bool.and_eq_false_iff, Bool.or_eq_false_iff, Bool.not_eq_true', Bool.not_eq_false', decide_eq_true_eq, decide_eq_false_iff_not, beq_iff_eq, bne_iff_ne, beq_eq_false_iff_ne, bne_eq_false_iff_eq] at c257')
        refine wp_skip (hK256 _ _ ?_)
        refine wp_seq_k fun K258 hK258 => ?_
        refine wp_block ?_
        refine wp_seq_k fun K259 hK259 => ?_
        refine wp_region_lit ?_
        refine q_is rfl rfl (does_move (u := (Iv (q : Int))) (ev rfl)) (by dsimp only [List.set]; try rfl) ?_
        refine q_is rfl rfl (does_assign (u := (Iv (q : Int))) (ev rfl)) (by dsimp only [List.set]; try rfl) ?_
        refine wpList_nil (hK259 _ _ ?_)
        refine wp_seq_k fun K260 hK260 => ?_
        refine wp_region_lit ?_
        refine q_is rfl rfl (does_fieldAddr (ev rfl) fa32_1) (by dsimp only [List.set]; try rfl) ?_
        refine q_is rfl rfl (does_load (u := (.slice p8 A_m.tris.length q9)) (ev rfl) Try.isAgg23 (Cells.at (Blk.cells ((((((((((hB14.ext E22).ext E29).ext E42).ext E55).ext E70).ext E82).ext E93).wr W100 (Nat.ne_of_lt n95)).kl E133 (ninS (Nat.ne_of_lt n60) (ninS (Nat.ne_of_lt (Nat.lt_of_lt_of_le n72 hN126)) (ninS (Nat.ne_of_lt n95) nin0)))).kl E247 (ninS n241 (ninS (Nat.ne_of_lt n95) nin0)))) 1 rfl)) (by dsimp only [List.set]; try rfl) ?_
        refine q_is rfl rfl (does_move (u := (Iv (q : Int))) (ev rfl)) (by dsimp only [List.set]; try rfl) ?_
        obtain ⟨el3, hel3⟩ : ∃ e, A_m.tris[q]? = some e := ⟨_, List.getElem?_eq_getElem (by omega)⟩
        refine seqd rfl rfl (does_indexSl0 (R := (RS RI 1)) (i := (q : Int)) (xs := A_m.tris) (e := el3) Try.underlying23 Try.sizeOf27 (ev rfl) (ev rfl) hs10 (by omega) hel3) ?_; rintro _ w246 ⟨b261, o262, _, rfl, hc264, ⟨y265, rfl, h266⟩, rfl⟩
        have hs269 := h266; have hs269l := Sl.len h266; obtain ⟨p267, q268, rfl⟩ := Sl.shape h266
        show wpList _ _ _ _ (fr [_, _, _, _, _, _, _, _, _, _, _, _, _, _, _, _, _, _, _, _, _, _, _, _, _, _, _, _, _, _, _, _, _, _, _, _, _, _, _, _, _, _, _, _, _, _, _, _, _, _, _, _, _, _, _, _, _, _, _, _, _, _, _, _, _, _, _, _, _, _, _, _, _, _, _, _, _, _, _, _, _, _, _, _]) _
        refine q_is rfl rfl (does_load (u := (.slice p267 el3.length q268)) (ev rfl) Try.isAgg27 (Cells.at (hc264.ext X251) 0 rfl)) (by dsimp only [List.set]; try rfl) ?_
        refine q_is rfl rfl (does_assign (u := (.slice p267 el3.length q268)) (ev rfl)) (by dsimp only [List.set]; try rfl) ?_
        refine wpList_nil (hK260 _ _ ?_)
        have htr := mesh_tri hmt hel3
        have ht3 := htr.1
        obtain ⟨el4, hel4⟩ : ∃ e, el3[0]? = some e := ⟨_, List.getElem?_eq_getElem (by omega)⟩
        have hb1 := htr.2 _ (List.mem_of_getElem? hel4)
        obtain ⟨el5, hel5⟩ : ∃ e, (frTo (usedL A_m) A_m.places.length k)[el4.toNat]? = some e := ⟨_, List.getElem?_eq_getElem (by first | assumption | omega | (simp only [frTo_len, List.length_set, List.length_replicate]; omega) | (simp only [frTo_len, List.length_set, List.length_replicate]; done))⟩
        obtain ⟨el6, hel6⟩ : ∃ e, el3[1]? = some e := ⟨_, List.getElem?_eq_getElem (by omega)⟩
        have hb2 := htr.2 _ (List.mem_of_getElem? hel6)
        obtain ⟨el7, hel7⟩ : ∃ e, (frTo (usedL A_m) A_m.places.length k)[el6.toNat]? = some e := ⟨_, List.getElem?_eq_getElem (by first | assumption | omega | (simp only [frTo_len, List.length_set, List.length_replicate]; omega) | (simp only [frTo_len, List.length_set, List.length_replicate]; done))⟩
        obtain ⟨el8, hel8⟩ : ∃ e, el3[2]? = some e := ⟨_, List.getElem?_eq_getElem (by omega)⟩
        have hb3 := htr.2 _ (List.mem_of_getElem? hel8)
        obtain ⟨el9, hel9⟩ : ∃ e, (frTo (usedL A_m) A_m.places.length k)[el8.toNat]? = some e := ⟨_, List.getElem?_eq_getElem (by first | assumption | omega | (simp only [frTo_len, List.length_set, List.length_replicate]; omega) | (simp only [frTo_len, List.length_set, List.length_replicate]; done))⟩
        refine region_any2 [] [0, 1, 0, 0, 8, 24, 60, 124, 0, 0, 512, 1536, 3840, 7936, 0, 0, 32768, 98304, 245760, 507904, 1048572, 2097148, 4194303, 8388607, 16777215] [] (
          [FactW.pure [] [] [] true (fun v => v = (Pt b90 1)),
            FactW.pure [0] [] [] true (fun v => v = (.slice p252 (((A_m.tris.take q).map (reT (frM A_m))).length) q253)),
            FactW.pure [] [] [] true (fun v => v = (.slice (some ⟨b52, 0, none⟩) A_m.places.length A_m.places.length)),
            FactW.pure [] [] [] true (fun v => v = (.slice p267 el3.length q268)),
            FactW.mem [3] [] [] [] true (fun v w' => PtrR RI w' v el4) (by intro v w1 w2 hx' h; have hx := KpL.toExt hx'; exact h.ext RI.mono hx),
            FactW.pure [4] [] [] true (fun v => v = (Iv el4)),
            FactW.pure [2, 5] [] [] true (fun v => v = (Pt b52 (el4.toNat * 1))),
            FactW.pure [6] [] [] true (fun v => v = (Iv el5)),
            FactW.pure [] [] [] true (fun v => v = (.slice (some ⟨b52, 0, none⟩) A_m.places.length A_m.places.length)),
            FactW.pure [] [] [] true (fun v => v = (.slice p267 el3.length q268)),
            FactW.mem [9] [] [] [] true (fun v w' => PtrR RI w' v el6) (by intro v w1 w2 hx' h; have hx := KpL.toExt hx'; exact h.ext RI.mono hx),
            FactW.pure [10] [] [] true (fun v => v = (Iv el6)),
            FactW.pure [8, 11] [] [] true (fun v => v = (Pt b52 (el6.toNat * 1))),
            FactW.pure [12] [] [] true (fun v => v = (Iv el7)),
            FactW.pure [] [] [] true (fun v => v = (.slice (some ⟨b52, 0, none⟩) A_m.places.length A_m.places.length)),
            FactW.pure [] [] [] true (fun v => v = (.slice p267 el3.length q268)),
            FactW.mem [15] [] [] [] true (fun v w' => PtrR RI w' v el8) (by intro v w1 w2 hx' h; have hx := KpL.toExt hx'; exact h.ext RI.mono hx),
            FactW.pure [16] [] [] true (fun v => v = (Iv el8)),
            FactW.pure [14, 17] [] [] true (fun v => v = (Pt b52 (el8.toNat * 1))),
            FactW.pure [18] [] [] true (fun v => v = (Iv el9)),
            FactW.mem [7, 13, 19] [] [] [] true (fun v w' => ∃ b : Nat, v = .slice (some ⟨b, 0, none⟩) 3 3 ∧ w246.heap.size ≤ b ∧ Blk w' b [(Iv el5), (Iv el7), (Iv el9)]) (by rintro v w1 w2 hx' ⟨b, rfl, hb, hB⟩; have hx := KpL.toExt hx'; exact ⟨b, rfl, hb, (hB.ext hx)⟩),
            FactW.mem [20] [] [] [] true (fun v w' => ∃ b : Nat, ∃ y_1 : Value, ∃ Lw_2 : List Nat, v = .slice (some ⟨b, 0, none⟩) 1 1 ∧ w246.heap.size ≤ b ∧ Blk w' b [y_1] ∧ Hang w246.heap.size w' (fun u => Sl RI 1 u y_1 ([el5, el7, el9])) ∧ WL 1 w246.heap.size w' Lw_2 y_1 ([el5, el7, el9]).length) (by rintro v w1 w2 hx' ⟨b, z0, z1, rfl, hb, hB, k0, k1⟩; have hx := KpL.toExt hx'; exact ⟨b, z0, z1, rfl, hb, hB.ext hx, k0.ext hx, k1.same (Same.of_ext hx)⟩)]) mixed (by kernel_rfl) ?_
        obtain ⟨w270, hw272⟩ : ∃ w', w' = World.drew w246 := ⟨_, rfl⟩; rw [← hw272]; have E271 : Ext w246 w270 := by rw [hw272]; exact Ext.draw _
        clear hw272
        have X273 := Ext.gr X251 E271
        refine RW2_d _ rfl (fun v => by dsimp only [List.set]; try rfl) (fun u hu hF => ?_) (fun v274 => ?_)
        · replace hu : KpL [] _ _ := hu
          clear hF
          refine doesG_un rfl ?_
          refine (does_fieldAddr (ev rfl) fa32_1).mono ?_; rintro _ _ ⟨rfl, rfl⟩
          exact ⟨rfl, KpL.refl _ _⟩
        refine RW2_d _ rfl (fun v => by dsimp only [List.set]; try rfl) (fun u hu hF => ?_) (fun v275 => ?_)
        · replace hu : KpL [] _ _ := hu
          have h58_ : v274 = (Pt b90 1) := hF.1
          clear hF
          refine doesG_un rfl ?_
          obtain rfl := h58_
          refine (does_load (u := (.slice p252 (((A_m.tris.take q).map (reT (frM A_m))).length) q253)) (ev rfl) Try.isAgg23 (Cells.at (Blk.cells ((hB250.ext E271).ext (KpL.toExt hu))) 1 rfl)).mono ?_; rintro _ _ ⟨rfl, rfl⟩
          exact ⟨rfl, KpL.refl _ _⟩
        refine RW2_d _ rfl (fun v => by dsimp only [List.set]; try rfl) (fun u hu hF => ?_) (fun v276 => ?_)
        · replace hu : KpL [] _ _ := hu
          clear hF
          refine doesG_un rfl ?_
          refine (does_move (u := (.slice (some ⟨b52, 0, none⟩) A_m.places.length A_m.places.length)) (ev rfl)).mono ?_; rintro _ _ ⟨rfl, rfl⟩
          exact ⟨rfl, KpL.refl _ _⟩
        refine RW2_d _ rfl (fun v => by dsimp only [List.set]; try rfl) (fun u hu hF => ?_) (fun v277 => ?_)
        · replace hu : KpL [] _ _ := hu
          clear hF
          refine doesG_un rfl ?_
          refine (does_move (u := (.slice p267 el3.length q268)) (ev rfl)).mono ?_; rintro _ _ ⟨rfl, rfl⟩
          exact ⟨rfl, KpL.refl _ _⟩
        refine RW2_d _ rfl (fun v => by dsimp only [List.set]; try rfl) (fun u hu hF => ?_) (fun v278 => ?_)
        · replace hu : KpL [] _ _ := hu
          have h61_ : v277 = (.slice p267 el3.length q268) := hF.1
          clear hF
          refine doesG_un rfl ?_
          obtain rfl := h61_
          refine (does_indexSl (R := RI) (i := 0) (xs := el3) (e := el4) Try.underlying27 Try.sizeOf2 (ev rfl) (ev rfl) (Sl.ext hs269 RI.mono (Ext.gr (Ext.gr X251 E271) (KpL.toExt hu))) (by omega) hel4).mono ?_; rintro v u' ⟨b, of, cs, hv, hc, hR, hu'⟩; subst hu'
          exact ⟨⟨b, of, cs, hv, hc, hR⟩, KpL.refl _ _⟩
        refine RW2_d _ rfl (fun v => by dsimp only [List.set]; try rfl) (fun u hu hF => ?_) (fun v279 => ?_)
        · replace hu : KpL [] _ _ := hu
          have h62_ : PtrR RI u v278 el4 := hF.1
          clear hF
          refine doesG_un rfl ?_
          obtain ⟨b62_, o62_, _, rfl, hc62_, rfl⟩ := h62_
          refine (does_load (u := (Iv el4)) (ev rfl) Try.isAgg2 (Cells.at hc62_ 0 rfl)).mono ?_; rintro _ _ ⟨rfl, rfl⟩
          exact ⟨rfl, KpL.refl _ _⟩
        refine RW2_d _ rfl (fun v => by dsimp only [List.set]; try rfl) (fun u hu hF => ?_) (fun v280 => ?_)
        · replace hu : KpL [] _ _ := hu
          have h60_ : v276 = (.slice (some ⟨b52, 0, none⟩) A_m.places.length A_m.places.length) := hF.1
          have h63_ : v279 = (Iv el4) := hF.2.1
          clear hF
          refine doesG_un rfl ?_
          obtain rfl := h60_
          obtain rfl := h63_
          refine (does_indexOwn (b := b52) (n := A_m.places.length) (i := el4) Try.underlying27 Try.sizeOf2 (ev rfl) (ev rfl) (by omega) (by omega)).mono ?_; rintro _ _ ⟨rfl, rfl⟩
          exact ⟨rfl, KpL.refl _ _⟩
        refine RW2_d _ rfl (fun v => by dsimp only [List.set]; try rfl) (fun u hu hF => ?_) (fun v281 => ?_)
        · replace hu : KpL [] _ _ := hu
          have h64_ : v280 = (Pt b52 (el4.toNat * 1)) := hF.1
          clear hF
          refine doesG_un rfl ?_
          obtain rfl := h64_
          refine (does_loadRowI (xs := (frTo (usedL A_m) A_m.places.length k)) (i := el4.toNat) (e := el5) (ev rfl) Try.isAgg2 (RowG.ext (RowG.ext (RowG.kl hR138 RI.flat E247 (ninS n243 (ninS (Nat.ne_of_lt n97) nin0))) RI.flat E271) RI.flat (KpL.toExt hu)) rfl hel5).mono ?_; rintro _ _ ⟨rfl, rfl⟩
          exact ⟨rfl, KpL.refl _ _⟩
        refine RW2_d _ rfl (fun v => by dsimp only [List.set]; try rfl) (fun u hu hF => ?_) (fun v282 => ?_)
        · replace hu : KpL [] _ _ := hu
          clear hF
          refine doesG_un rfl ?_
          refine (does_move (u := (.slice (some ⟨b52, 0, none⟩) A_m.places.length A_m.places.length)) (ev rfl)).mono ?_; rintro _ _ ⟨rfl, rfl⟩
          exact ⟨rfl, KpL.refl _ _⟩
        refine RW2_d _ rfl (fun v => by dsimp only [List.set]; try rfl) (fun u hu hF => ?_) (fun v283 => ?_)
        · replace hu : KpL [] _ _ := hu
          clear hF
          refine doesG_un rfl ?_
          refine (does_move (u := (.slice p267 el3.length q268)) (ev rfl)).mono ?_; rintro _ _ ⟨rfl, rfl⟩
          exact ⟨rfl, KpL.refl _ _⟩
        refine RW2_d _ rfl (fun v => by dsimp only [List.set]; try rfl) (fun u hu hF => ?_) (fun v284 => ?_)
        · replace hu : KpL [] _ _ := hu
          have h67_ : v283 = (.slice p267 el3.length q268) := hF.1
          clear hF
          refine doesG_un rfl ?_
          obtain rfl := h67_
          refine (does_indexSl (R := RI) (i := 1) (xs := el3) (e := el6) Try.underlying27 Try.sizeOf2 (ev rfl) (ev rfl) (Sl.ext hs269 RI.mono (Ext.gr (Ext.gr X251 E271) (KpL.toExt hu))) (by omega) hel6).mono ?_; rintro v u' ⟨b, of, cs, hv, hc, hR, hu'⟩; subst hu'
          exact ⟨⟨b, of, cs, hv, hc, hR⟩, KpL.refl _ _⟩
        refine RW2_d _ rfl (fun v => by dsimp only [List.set]; try rfl) (fun u hu hF => ?_) (fun v285 => ?_)
        · replace hu : KpL [] _ _ := hu
          have h68_ : PtrR RI u v284 el6 := hF.1
          clear hF
          refine doesG_un rfl ?_
          obtain ⟨b68_, o68_, _, rfl, hc68_, rfl⟩ := h68_
          refine (does_load (u := (Iv el6)) (ev rfl) Try.isAgg2 (Cells.at hc68_ 0 rfl)).mono ?_; rintro _ _ ⟨rfl, rfl⟩
          exact ⟨rfl, KpL.refl _ _⟩
        refine RW2_d _ rfl (fun v => by dsimp only [List.set]; try rfl) (fun u hu hF => ?_) (fun v286 => ?_)
        · replace hu : KpL [] _ _ := hu
          have h66_ : v282 = (.slice (some ⟨b52, 0, none⟩) A_m.places.length A_m.places.length) := hF.1
          have h69_ : v285 = (Iv el6) := hF.2.1
          clear hF
          refine doesG_un rfl ?_
          obtain rfl := h66_
          obtain rfl := h69_
          refine (does_indexOwn (b := b52) (n := A_m.places.length) (i := el6) Try.underlying27 Try.sizeOf2 (ev rfl) (ev rfl) (by omega) (by omega)).mono ?_; rintro _ _ ⟨rfl, rfl⟩
          exact ⟨rfl, KpL.refl _ _⟩
        refine RW2_d _ rfl (fun v => by dsimp only [List.set]; try rfl) (fun u hu hF => ?_) (fun v287 => ?_)
        · replace hu : KpL [] _ _ := hu
          have h70_ : v286 = (Pt b52 (el6.toNat * 1)) := hF.1
          clear hF
          refine doesG_un rfl ?_
          obtain rfl := h70_
          refine (does_loadRowI (xs := (frTo (usedL A_m) A_m.places.length k)) (i := el6.toNat) (e := el7) (ev rfl) Try.isAgg2 (RowG.ext (RowG.ext (RowG.kl hR138 RI.flat E247 (ninS n243 (ninS (Nat.ne_of_lt n97) nin0))) RI.flat E271) RI.flat (KpL.toExt hu)) rfl hel7).mono ?_; rintro _ _ ⟨rfl, rfl⟩
          exact ⟨rfl, KpL.refl _ _⟩
        refine RW2_d _ rfl (fun v => by dsimp only [List.set]; try rfl) (fun u hu hF => ?_) (fun v288 => ?_)
        · replace hu : KpL [] _ _ := hu
          clear hF
          refine doesG_un rfl ?_
          refine (does_move (u := (.slice (some ⟨b52, 0, none⟩) A_m.places.length A_m.places.length)) (ev rfl)).mono ?_; rintro _ _ ⟨rfl, rfl⟩
          exact ⟨rfl, KpL.refl _ _⟩
        refine RW2_d _ rfl (fun v => by dsimp only [List.set]; try rfl) (fun u hu hF => ?_) (fun v289 => ?_)
        · replace hu : KpL [] _ _ := hu
          clear hF
          refine doesG_un rfl ?_
          refine (does_move (u := (.slice p267 el3.length q268)) (ev rfl)).mono ?_; rintro _ _ ⟨rfl, rfl⟩
          exact ⟨rfl, KpL.refl _ _⟩
        refine RW2_d _ rfl (fun v => by dsimp only [List.set]; try rfl) (fun u hu hF => ?_) (fun v290 => ?_)
        · replace hu : KpL [] _ _ := hu
          have h73_ : v289 = (.slice p267 el3.length q268) := hF.1
          clear hF
          refine doesG_un rfl ?_
          obtain rfl := h73_
          refine (does_indexSl (R := RI) (i := 2) (xs := el3) (e := el8) Try.underlying27 Try.sizeOf2 (ev rfl) (ev rfl) (Sl.ext hs269 RI.mono (Ext.gr (Ext.gr X251 E271) (KpL.toExt hu))) (by omega) hel8).mono ?_; rintro v u' ⟨b, of, cs, hv, hc, hR, hu'⟩; subst hu'
          exact ⟨⟨b, of, cs, hv, hc, hR⟩, KpL.refl _ _⟩
        refine RW2_d _ rfl (fun v => by dsimp only [List.set]; try rfl) (fun u hu hF => ?_) (fun v291 => ?_)
        · replace hu : KpL [] _ _ := hu
          have h74_ : PtrR RI u v290 el8 := hF.1
          clear hF
          refine doesG_un rfl ?_
          obtain ⟨b74_, o74_, _, rfl, hc74_, rfl⟩ := h74_
          refine (does_load (u := (Iv el8)) (ev rfl) Try.isAgg2 (Cells.at hc74_ 0 rfl)).mono ?_; rintro _ _ ⟨rfl, rfl⟩
          exact ⟨rfl, KpL.refl _ _⟩
        refine RW2_d _ rfl (fun v => by dsimp only [List.set]; try rfl) (fun u hu hF => ?_) (fun v292 => ?_)
        · replace hu : KpL [] _ _ := hu
          have h72_ : v288 = (.slice (some ⟨b52, 0, none⟩) A_m.places.length A_m.places.length) := hF.1
          have h75_ : v291 = (Iv el8) := hF.2.1
          clear hF
          refine doesG_un rfl ?_
          obtain rfl := h72_
          obtain rfl := h75_
          refine (does_indexOwn (b := b52) (n := A_m.places.length) (i := el8) Try.underlying27 Try.sizeOf2 (ev rfl) (ev rfl) (by omega) (by omega)).mono ?_; rintro _ _ ⟨rfl, rfl⟩
          exact ⟨rfl, KpL.refl _ _⟩
        refine RW2_d _ rfl (fun v => by dsimp only [List.set]; try rfl) (fun u hu hF => ?_) (fun v293 => ?_)
        · replace hu : KpL [] _ _ := hu
          have h76_ : v292 = (Pt b52 (el8.toNat * 1)) := hF.1
          clear hF
          refine doesG_un rfl ?_
          obtain rfl := h76_
          refine (does_loadRowI (xs := (frTo (usedL A_m) A_m.places.length k)) (i := el8.toNat) (e := el9) (ev rfl) Try.isAgg2 (RowG.ext (RowG.ext (RowG.kl hR138 RI.flat E247 (ninS n243 (ninS (Nat.ne_of_lt n97) nin0))) RI.flat E271) RI.flat (KpL.toExt hu)) rfl hel9).mono ?_; rintro _ _ ⟨rfl, rfl⟩
          exact ⟨rfl, KpL.refl _ _⟩
        refine RW2_d _ rfl (fun v => by dsimp only [List.set]; try rfl) (fun u hu hF => ?_) (fun v294 => ?_)
        · replace hu : KpL [] _ _ := hu
          have h65_ : v281 = (Iv el5) := hF.1
          have h71_ : v287 = (Iv el7) := hF.2.1
          have h77_ : v293 = (Iv el9) := hF.2.2.1
          clear hF
          refine doesG_un rfl ?_
          obtain rfl := h65_
          obtain rfl := h71_
          obtain rfl := h77_
          refine (does_buildSlice (e := 2) (parts' := [(0, (Iv el5)), (1, (Iv el7)), (2, (Iv el9))]) (cells := [(Iv el5), (Iv el7), (Iv el9)]) (evp rfl) (fun _ => by kernel_rfl)).mono ?_; rintro _ _ ⟨b, rfl, hb, hB, hx⟩
          exact ⟨⟨b, rfl, Nat.le_trans (Nat.le_trans (Below.size E271) (KpL.size hu)) hb, hB⟩, (KpL.of_ext hx)⟩
        refine RW2_d _ rfl (fun v => by dsimp only [List.set]; try rfl) (fun u hu hF => ?_) (fun v295 => ?_)
        · replace hu : KpL [] _ _ := hu
          have h78_ : ∃ b : Nat, v294 = .slice (some ⟨b, 0, none⟩) 3 3 ∧ w246.heap.size ≤ b ∧ Blk u b [(Iv el5), (Iv el7), (Iv el9)] := hF.1
          clear hF
          refine doesG_un rfl ?_
          obtain ⟨b78_, rfl, hb78_, hB78_⟩ := h78_
          refine (does_buildSlice (e := 27) (parts' := [(0, (.slice (some ⟨b78_, 0, none⟩) 3 3))]) (cells := [(.slice (some ⟨b78_, 0, none⟩) 3 3)]) (evp rfl) (fun _ => by kernel_rfl)).mono ?_; rintro _ _ ⟨b, rfl, hb, hB, hx⟩
          exact ⟨⟨b, (.slice (some ⟨b78_, 0, none⟩) 3 3), [b78_], rfl, Nat.le_trans (Nat.le_trans (Below.size E271) (KpL.size hu)) hb, hB, (fun q hq => Sl_lit3 (Blk.hang (hB78_.ext hx) hb78_ q hq) rfl rfl rfl), WL.one (hB78_.ext hx) hb78_ (by simp) (Nat.le_refl _)⟩, (KpL.of_ext hx)⟩
        refine RW2_fin ?_; intro w296 E297 hP298; replace E297 : KpL [] _ _ := E297
        obtain ⟨⟨⟨⟨⟨⟨⟨⟨⟨⟨⟨⟨⟨⟨⟨⟨⟨⟨⟨⟨⟨⟨-, -⟩, q299⟩, -⟩, -⟩, -⟩, -⟩, -⟩, -⟩, -⟩, -⟩, -⟩, -⟩, -⟩, -⟩, -⟩, -⟩, -⟩, -⟩, -⟩, -⟩, -⟩, q300⟩ := hP298
        have X301 := Below.kl X273 E297 all0 (Nat.le_refl _)
        have q299 : v275 = (.slice p252 (((A_m.tris.take q).map (reT (frM A_m))).length) q253) := q299 rfl
        obtain rfl := q299
        have q300 : ∃ b : Nat, ∃ y_1 : Value, ∃ Lw_2 : List Nat, v295 = .slice (some ⟨b, 0, none⟩) 1 1 ∧ w246.heap.size ≤ b ∧ Blk w296 b [y_1] ∧ Hang w246.heap.size w296 (fun u => Sl RI 1 u y_1 ([el5, el7, el9])) ∧ WL 1 w246.heap.size w296 Lw_2 y_1 ([el5, el7, el9]).length := q300 rfl
        obtain ⟨b302, y305, Lw306, rfl, hb303, hB304, h307, h308⟩ := q300
        have n309 : b12 < b302 := Nat.lt_of_lt_of_le (Blk.lt ((((((((((hB14.ext E22).ext E29).ext E42).ext E55).ext E70).ext E82).ext E93).wr W100 (Nat.ne_of_lt n95)).kl E133 (ninS (Nat.ne_of_lt n60) (ninS (Nat.ne_of_lt (Nat.lt_of_lt_of_le n72 hN126)) (ninS (Nat.ne_of_lt n95) nin0)))).kl E247 (ninS n241 (ninS (Nat.ne_of_lt n95) nin0)))) hb303
        have n310 : b19 < b302 := Nat.lt_of_lt_of_le (Blk.lt (((((((((hB21.ext E29).ext E42).ext E55).ext E70).ext E82).ext E93).wr W100 (Nat.ne_of_lt n96)).kl E133 (ninS (Nat.ne_of_lt n61) (ninS (Nat.ne_of_lt (Nat.lt_of_lt_of_le n73 hN126)) (ninS (Nat.ne_of_lt n96) nin0)))).kl E247 (ninS n242 (ninS (Nat.ne_of_lt n96) nin0)))) hb303
        have n311 : b52 < b302 := Nat.lt_of_lt_of_le (RowG.lt (RowG.kl hR138 RI.flat E247 (ninS n243 (ninS (Nat.ne_of_lt n97) nin0)))) hb303
        have n312 : b90 < b302 := Nat.lt_of_lt_of_le (Blk.lt hB250) hb303
        have n313 : b261 < b302 := Nat.lt_of_lt_of_le (cell_lt (Cells.at (hc264.ext X251) 0 rfl)) hb303
        have g314 : w.heap.size ≤ b302 := Nat.le_trans (Below.size X251) hb303
        obtain ⟨p315, q316, rfl⟩ := Sl.shape h307.get
        have hw317 : WL 1 w246.heap.size w296 Lw306 (.slice p315 (([el5, el7, el9]).length) q316) ([el5, el7, el9]).length := h308
        show wpList _ _ _ _ (fr [_, _, _, _, _, _, _, _, _, _, _, _, _, _, _, _, _, _, _, _, _, _, _, _, _, _, _, _, _, _, _, _, _, _, _, _, _, _, _, _, _, _, _, _, _, _, _, _, _, _, _, _, _, _, _, _, _, _, _, _, _, _, _, _, _, _, _, _, _, _, _, _, _, _, _, _, _, _, _, _, _, _, _, _]) _
        refine seqd rfl rfl (does_appendN (R := RI) (k := 1) (g0 := gg235) (B := w132.heap.size) (xs := ((A_m.tris.take q).map (reT (frM A_m)))) (x := ([el5, el7, el9])) (L := Lw306) (w0 := w246) Try.underlying23 inf27 rfl (ev rfl) (ev rfl) hO249 RI.flat (Below.kl (Ext.gr (Ext.refl _) E271) E297 all0 (Nat.le_refl _)) hB304 rfl (InS.of_wl hw317 h307.get rfl) (fun c hc => (hw317.1 c hc).1) (KpL.size E247) (by first | (simp only [List.length_append, List.length_cons, List.length_nil]; omega) | (simp only [List.length_append, List.length_map, List.length_take, List.length_cons, List.length_nil]; omega)) (Nat.le_trans (Nat.le_trans (KpL.size E247) (Below.size E271)) (KpL.size E297))) ?_; rintro y' w318 ⟨gg319, hg320, K321, hO322⟩
        have hN323 : w71.heap.size ≤ gg319 := by rcases hg320 with h | h; exact h ▸ hN239; exact Nat.le_trans (Nat.le_trans (Nat.le_trans (Nat.le_trans (Below.size E82) (Below.size E93)) (Nat.le_of_eq (Eq.symm (Wr.size W100)))) (KpL.size E133)) h
        have g324 : w.heap.size ≤ gg319 := Nat.le_trans (Nat.le_trans (Nat.le_trans (Nat.le_trans (Nat.le_trans (Nat.le_trans (Below.size E15) (Below.size E22)) (Below.size E29)) (Below.size E42)) (Below.size E55)) (Below.size E70)) hN323
        have n325 : b12 ≠ gg319 := hg320.elim (fun h => by rw [h]; exact n241) (fun h => Nat.ne_of_lt (Nat.lt_of_lt_of_le n220 h))
        have n326 : b19 ≠ gg319 := hg320.elim (fun h => by rw [h]; exact n242) (fun h => Nat.ne_of_lt (Nat.lt_of_lt_of_le n221 h))
        have n327 : b52 ≠ gg319 := hg320.elim (fun h => by rw [h]; exact n243) (fun h => Nat.ne_of_lt (Nat.lt_of_lt_of_le n222 h))
        have n328 : b90 ≠ gg319 := hg320.elim (fun h => by rw [h]; exact n244) (fun h => Nat.ne_of_lt (Nat.lt_of_lt_of_le n223 h))
        have X329 := Below.kl X301 K321 (allS g324 all0) (Nat.le_refl _)
        obtain ⟨p330, q331, rfl⟩ := OwnN.shape hO322
        have hH332 : Hang w71.heap.size w318 (fun u => Sl (RS RI 1) 1 u (.slice p330 ((((A_m.tris.take q).map (reT (frM A_m))) ++ [[el5, el7, el9]]).length) q331) (((A_m.tris.take q).map (reT (frM A_m))) ++ [[el5, el7, el9]])) := OwnN.hang hO322 RI.flat (by decide) hN239 (Nat.le_trans (Nat.le_trans (Nat.le_trans (Below.size E82) (Below.size E93)) (Nat.le_of_eq (Eq.symm (Wr.size W100)))) (KpL.size E133)) (Nat.le_trans (Nat.le_trans (Nat.le_trans (Below.size E82) (Below.size E93)) (Nat.le_of_eq (Eq.symm (Wr.size W100)))) (KpL.size E133))
        show wpList _ _ _ _ (fr [_, _, _, _, _, _, _, _, _, _, _, _, _, _, _, _, _, _, _, _, _, _, _, _, _, _, _, _, _, _, _, _, _, _, _, _, _, _, _, _, _, _, _, _, _, _, _, _, _, _, _, _, _, _, _, _, _, _, _, _, _, _, _, _, _, _, _, _, _, _, _, _, _, _, _, _, _, _, _, _, _, _, _, _]) _
        refine q_is rfl rfl (does_fieldAddr (ev rfl) fa32_1) (by dsimp only [List.set]; try rfl) ?_
        refine seqn rfl rfl (does_store (n := 1) (cs := [(.slice p139 ((((usedL A_m).take k).map (plA A_m)).length) q140), (.slice p252 (((A_m.tris.take q).map (reT (frM A_m))).length) q253)]) (u := (.slice p330 ((((A_m.tris.take q).map (reT (frM A_m))) ++ [[el5, el7, el9]]).length) q331)) (ev rfl) (ev rfl) Try.sizeOf23 rfl (((hB250.ext E271).kl E297 nin0).kl K321 (ninS n328 nin0)) (Nat.le_of_ble_eq_true rfl) rfl) ?_; rintro _ w335 ⟨rfl, W333, hB334⟩
        change Blk _ _ [(.slice p139 ((((usedL A_m).take k).map (plA A_m)).length) q140), (.slice p330 ((((A_m.tris.take q).map (reT (frM A_m))) ++ [[el5, el7, el9]]).length) q331)] at hB334
        have X336 := Below.wr X329 W333 g98
        refine wpList_nil (hK258 _ _ ?_)
        refine wp_region_lit ?_
        refine q_is rfl rfl (does_iarith (p := (q : Int)) (q := 1) (r := (q : Int) + 1) (ev rfl) (ev rfl) (.inl ⟨rfl, (in_i64 (by omega) (by omega)).symm⟩)) (by dsimp only [List.set]; try rfl) ?_
        refine q_is rfl rfl (does_move (u := (Iv ((q : Int) + 1))) (ev rfl)) (by dsimp only [List.set]; try rfl) ?_
        refine wpList_nil ?_
        have hO337 := OwnN.cast (ys := ((fun (q : Nat) => (A_m.tris.take q).map (reT (frM A_m))) (q + 1))) (OwnN.kl hO322 RI.flat (KpL.of_wr W333) (allS ⟨n244, .inl n223⟩ all0) (allS (.inl n223) all0)) (by (try dsimp only); rw [← map_take hel3, show frM A_m = frTo (usedL A_m) A_m.places.length k from by rw [hkk]; rfl]; simp only [reT, iAt, hel3, hel4, hel5, hel6, hel7, hel8, hel9, Option.getD_some])
        refine ⟨q + 1, ⟨fun t => (([(.agg #[(.slice p5 A_m.places.length q6), (.slice p8 A_m.tris.length q9)]), (Pt b12 0), (Pt b19 0), (Bo false), (.slice p49 ((usedL A_m).length) q50), (.slice (some ⟨b52, 0, none⟩) A_m.places.length A_m.places.length), (Pt b90 0), (u106 7), (Iv (q : Int)), (.slice p267 el3.length q268), (Bo (meshOk A_m)), (Bo (!(meshOk A_m))), Ud, (.slice p49 ((usedL A_m).length) q50), (Pt b12 0), (.slice p5 A_m.places.length q6), (Iv (A_m.places.length : Int)), (.slice (some ⟨b52, 0, none⟩) A_m.places.length A_m.places.length), (.slice (some ⟨b66, 0, none⟩) 0 0), (.slice (some ⟨b78, 0, none⟩) 0 0), (.agg #[(.slice (some ⟨b66, 0, none⟩) 0 0), (.slice (some ⟨b78, 0, none⟩) 0 0)]), (.slice p49 ((usedL A_m).length) q50), (Iv (((usedL A_m).length) : Int)), (Iv (k : Int)), (Bo (icmp .lss (k : Int) (((usedL A_m).length) : Int))), (u106 25), (u106 26), (u106 27), (u106 28), (u106 29), (u106 30), (u106 31), (u106 32), (u106 33), (u106 34), (u106 35), (u106 36), (u106 37), (u106 38), (u106 39), (u106 40), (u106 41), (u106 42), (u106 43), (u106 44), (u106 45), (u106 46), (Pt b12 1), (.slice p8 A_m.tris.length q9), (Iv (A_m.tris.length : Int)), (Iv ((q : Int) + 1)), (Bo (icmp .lss (q : Int) (A_m.tris.length : Int))), (Iv (q : Int)), (Pt b12 1), (.slice p8 A_m.tris.length q9), (Iv (q : Int)), (Pt b261 o262), (.slice p267 el3.length q268), v274, (.slice p252 (((A_m.tris.take q).map (reT (frM A_m))).length) q253), v276, v277, v278, v279, v280, v281, v282, v283, v284, v285, v286, v287, v288, v289, v290, v291, v292, v293, v294, (.slice (some ⟨b302, 0, none⟩) 1 1), (.slice p330 ((((A_m.tris.take q).map (reT (frM A_m))) ++ [[el5, el7, el9]]).length) q331), (Pt b90 1), (Iv ((q : Int) + 1)), Ud] : List Value)[t]?).getD undef, (.slice p330 ((((A_m.tris.take q).map (reT (frM A_m))) ++ [[el5, el7, el9]]).length) q331), ?_, (KpL.more (KpL.more (KpL.more (KpL.ext E247 E271) E297 all0) K321 (allS (hg320.imp (fun h => by simp [h]) id) all0)) (KpL.of_wr W333) (allS (.inl (by simp)) all0)), hO337, hB334, ?_⟩, ?_⟩
        · first | rfl | (simp only [Int.natCast_add, Int.natCast_one]; rfl)
        · (try dsimp only); omega
        · (try dsimp only); omega
      have c257' := c257
      (try simp only [icmp, Bool.and_eq_true, Bool.or_eq_true, Bool.and_eq_false_iff, Bool.or_eq_false_iff, Bool.not_eq_true', Bool.not_eq_false', decide_eq_true_eq, decide_eq_false_iff_not, beq_iff_eq, bne_iff_ne, beq_eq_false_iff_ne, bne_eq_false_iff_eq] at c257')
      refine wp_exit ?_
      refine hK213 _ _ ?_
      refine wp_seq_k fun K338 hK338 => ?_
      refine wp_region_lit ?_
      refine q_is rfl rfl (does_loadAgg (cs := [(.slice p139 ((((usedL A_m).take k).map (plA A_m)).length) q140), (.slice p252 (((A_m.tris.take q).map (reT (frM A_m))).length) q253)]) (ev rfl) Try.isAgg32 Try.sizeOf32 (Blk.cells hB250) rfl) (by dsimp only [List.set]; try rfl) ?_
      refine seqn rfl rfl (does_store (n := 2) (cs := [(.slice none 0 0), (.slice none 0 0)]) (u := (.agg #[(.slice p139 ((((usedL A_m).take k).map (plA A_m)).length) q140), (.slice p252 (((A_m.tris.take q).map (reT (frM A_m))).length) q253)])) (ev rfl) (ev rfl) Try.sizeOf32 rfl (((((((((hB21.ext E29).ext E42).ext E55).ext E70).ext E82).ext E93).wr W100 (Nat.ne_of_lt n96)).kl E133 (ninS (Nat.ne_of_lt n61) (ninS (Nat.ne_of_lt (Nat.lt_of_lt_of_le n73 hN126)) (ninS (Nat.ne_of_lt n96) nin0)))).kl E247 (ninS n242 (ninS (Nat.ne_of_lt n96) nin0))) (Nat.le_of_ble_eq_true rfl) rfl) ?_; rintro _ w341 ⟨rfl, W339, hB340⟩
      change Blk _ _ [(.slice p139 ((((usedL A_m).take k).map (plA A_m)).length) q140), (.slice p252 (((A_m.tris.take q).map (reT (frM A_m))).length) q253)] at hB340
      have X342 := Below.wr X251 W339 g25
      refine q_is rfl rfl (does_assign (u := (Bo true)) (ev rfl)) (by dsimp only [List.set]; try rfl) ?_
      refine wpList_nil (hK338 _ _ ?_)
      refine wp_ret ?_
      refine ret_val (v := (.tuple #[(.agg #[(.slice p139 ((((usedL A_m).take k).map (plA A_m)).length) q140), (.slice p252 (((A_m.tris.take q).map (reT (frM A_m))).length) q253)]), (Bo true)])) (res_CT rfl (slot rfl) (run_loadAgg (cs := [(.slice p139 ((((usedL A_m).take k).map (plA A_m)).length) q140), (.slice p252 (((A_m.tris.take q).map (reT (frM A_m))).length) q253)]) Try.isAgg32 Try.sizeOf32 (Blk.cells hB340) rfl) (slot rfl)) X342 ?_
      have x343 : (meshOk A_m) = true := by first | exact hmf | exact hmt | (rw [trimM_f hmf] <;> rfl) | (rw [trimM_t hmt] <;> first | rfl | ((try dsimp only); rw [List.take_of_length_le (by omega)]; done) | ((try dsimp only); rw [List.take_of_length_le (by omega), List.take_of_length_le (by omega)]))
      have x344 : (((usedL A_m).take k).map (plA A_m)) = ((trimM A_m).places) := by first | exact hmf | exact hmt | (rw [trimM_f hmf] <;> rfl) | (rw [trimM_t hmt] <;> first | rfl | ((try dsimp only); rw [List.take_of_length_le (by omega)]; done) | ((try dsimp only); rw [List.take_of_length_le (by omega), List.take_of_length_le (by omega)]))
      have x345 : ((A_m.tris.take q).map (reT (frM A_m))) = ((trimM A_m).tris) := by first | exact hmf | exact hmt | (rw [trimM_f hmf] <;> rfl) | (rw [trimM_t hmt] <;> first | rfl | ((try dsimp only); rw [List.take_of_length_le (by omega)]; done) | ((try dsimp only); rw [List.take_of_length_le (by omega), List.take_of_length_le (by omega)]))
      exact ⟨[(.slice p139 ((((usedL A_m).take k).map (plA A_m)).length) q140), (.slice p252 (((A_m.tris.take q).map (reT (frM A_m))).length) q253)], (by first | with_reducible rfl | rw [x343] | rfl), fun u hu => ⟨(.slice p139 ((((usedL A_m).take k).map (plA A_m)).length) q140), (.slice p252 (((A_m.tris.take q).map (reT (frM A_m))).length) q253), rfl, (Hang.castL (Own.hang ((Own.klA' (Own.klA' hO232 RV3.flat E247 (allS (by omega) (allS n229 all0))) RV3.flat (KpL.of_wr W339) (allS n227 all0)) _) RV3.flat (by decide) (Nat.le_trans (Nat.le_trans (Nat.le_trans (Nat.le_trans (Nat.le_trans (Below.size E15) (Below.size E22)) (Below.size E29)) (Below.size E42)) (Below.size E55)) hN224) (Nat.le_trans (Nat.le_trans (Nat.le_trans (Nat.le_trans (Nat.le_trans (Below.size E15) (Below.size E22)) (Below.size E29)) (Below.size E42)) (Below.size E55)) (Nat.le_trans (Nat.le_trans (Nat.le_trans (Nat.le_trans (Below.size E70) (Below.size E82)) (Below.size E93)) (Nat.le_of_eq (Eq.symm (Wr.size W100)))) (KpL.size E133)))) x344) u hu, (Hang.castL (OwnN.hang (OwnN.same hO249 RI.flat ((Same.refl _ _).wr W339 (.inl n85)) hN239 (Nat.le_trans (Nat.le_trans (Nat.le_trans (Below.size E82) (Below.size E93)) (Nat.le_of_eq (Eq.symm (Wr.size W100)))) (KpL.size E133)) (Nat.le_trans (Nat.le_trans (Nat.le_trans (Below.size E82) (Below.size E93)) (Nat.le_of_eq (Eq.symm (Wr.size W100)))) (KpL.size E133))) RI.flat (by decide) (Nat.le_trans (Nat.le_trans (Nat.le_trans (Nat.le_trans (Nat.le_trans (Nat.le_trans (Below.size E15) (Below.size E22)) (Below.size E29)) (Below.size E42)) (Below.size E55)) (Below.size E70)) hN239) (Nat.le_trans (Nat.le_trans (Nat.le_trans (Nat.le_trans (Nat.le_trans (Nat.le_trans (Below.size E15) (Below.size E22)) (Below.size E29)) (Below.size E42)) (Below.size E55)) (Below.size E70)) (Nat.le_trans (Nat.le_trans (Nat.le_trans (Below.size E82) (Below.size E93)) (Nat.le_of_eq (Eq.symm (Wr.size W100)))) (KpL.size E133))) (Nat.le_trans (Nat.le_trans (Nat.le_trans (Nat.le_trans (Nat.le_trans (Nat.le_trans (Below.size E15) (Below.size E22)) (Below.size E29)) (Below.size E42)) (Below.size E55)) (Below.size E70)) (Nat.le_trans (Nat.le_trans (Nat.le_trans (Below.size E82) (Below.size E93)) (Nat.le_of_eq (Eq.symm (Wr.size W100)))) (KpL.size E133)))) x345) u hu⟩⟩

/- slices.Clone[[]impl.Vector,impl.Vector] -/
theorem c_slices_Clone_impl_Vector_impl_Vector (xs : Value) (L_xs : List V3) (w : World) (hv_xs : Sl RV3 3 w xs L_xs) (hne : L_xs.length ≤ 1048576) : Gives Try.prog 53 #[xs] w (fun v w' => ∃ y_1 : Value, ∃ Lw_2 : List Nat, v = y_1 ∧ Hang w.heap.size w' (fun u => Sl RV3 3 u y_1 L_xs) ∧ WL 3 w.heap.size w' Lw_2 y_1 L_xs.length) := by
  have hlen_xs := Sl.len hv_xs; obtain ⟨p_xs, q_xs, rfl⟩ := Sl.shape hv_xs
  refine enter [(.slice p_xs L_xs.length q_xs), Ud, Ud, Ud, Ud, Ud, Ud, Ud] Try.func53 rfl Try.ntmps53 rfl ?_
  refine wp_seq_k fun K1 hK1 => ?_
  refine wp_region_lit ?_
  refine q_is (l' := [(.slice p_xs L_xs.length q_xs), Ud, (.slice none 0 0), Ud, Ud, Ud, Ud, Ud]) rfl rfl (does_assign (u := (.slice none 0 0)) (ev rfl)) rfl ?_
  refine wpList_nil (hK1 _ _ ?_)
  refine wp_seq_k fun K2 hK2 => ?_
  refine wp_seq_k fun K3 hK3 => ?_
  refine wp_region_lit ?_
  refine q_is (l' := [(.slice p_xs L_xs.length q_xs), Ud, (.slice none 0 0), (.slice p_xs L_xs.length q_xs), Ud, Ud, Ud, Ud]) rfl rfl (does_move (u := (.slice p_xs L_xs.length q_xs)) (ev rfl)) rfl ?_
  refine q_is (l' := [(.slice p_xs L_xs.length q_xs), Ud, (.slice none 0 0), (.slice p_xs L_xs.length q_xs), (Bo p_xs.isNone), Ud, Ud, Ud]) rfl rfl (does_slnil Try.underlying30 (ev rfl) (ev rfl)) rfl ?_
  refine wpList_nil (hK3 _ _ ?_)
  refine wp_cond_split (t := p_xs.isNone) (ev rfl) (fun c4 => ?_) (fun c4 => ?_)
  · have c4' := c4
    refine wp_seq_k fun K5 hK5 => ?_
    refine wp_region_lit ?_
    refine q_is (l' := [(.slice p_xs L_xs.length q_xs), Ud, (.slice none 0 0), (.slice p_xs L_xs.length q_xs), (Bo p_xs.isNone), Ud, Ud, Ud]) rfl rfl (does_assign (u := (.slice none 0 0)) (ev rfl)) rfl ?_
    refine wpList_nil (hK5 _ _ ?_)
    refine wp_ret ?_
    dsimp only [Exit.then, Exit.inBlock]
    refine ret_val (v := (.slice none 0 0)) (res_T rfl (slot rfl)) (Ext.refl w) ?_
    have x6 : ([]) = L_xs := by first | exact (Sl_isNone hv_xs c4).symm | exact List.nil_append _ | rfl
    have x7 : ([]) = L_xs := by first | exact (Sl_isNone hv_xs c4).symm | exact List.nil_append _ | rfl
    exact ⟨(.slice none 0 0), [], rfl, (Hang.castL (Sl.hang_nil _ _ _ _) x6), (WL.cast (WL.nil _ _ _) (congrArg List.length x7))⟩
  have c4' := c4
  refine wp_skip (hK2 _ _ ?_)
  refine wp_seq_k fun K8 hK8 => ?_
  refine wp_region_lit ?_
  refine seqd rfl rfl (does_slice0 (e := 57) (fun _ => by kernel_rfl)) ?_; rintro _ w14 ⟨b9, rfl, hb10, hl11, hO12, E13⟩
  have X15 := Ext.gr (Ext.refl w) E13
  have hO16 := hO12 _ RV3 3
  have hH17 : Hang w.heap.size w14 (fun u => Sl RV3 3 u (.slice (some ⟨b9, 0, none⟩) 0 0) ([])) := Own.hang hO16 RV3.flat (by decide) hb10 (Below.size E13)
  show wpList _ _ _ _ (fr [(.slice p_xs L_xs.length q_xs), Ud, (.slice none 0 0), (.slice p_xs L_xs.length q_xs), (Bo p_xs.isNone), (.slice (some ⟨b9, 0, none⟩) 0 0), Ud, Ud]) _
  refine q_is (l' := [(.slice p_xs L_xs.length q_xs), Ud, (.slice none 0 0), (.slice p_xs L_xs.length q_xs), (Bo p_xs.isNone), (.slice (some ⟨b9, 0, none⟩) 0 0), (.slice p_xs L_xs.length q_xs), Ud]) rfl rfl (does_move (u := (.slice p_xs L_xs.length q_xs)) (ev rfl)) rfl ?_
  refine seqd rfl rfl (does_appendS' (R := RV3) (k := 3) (g0 := b9) (B := w14.heap.size) (xs := ([])) (ys := L_xs) Try.underlying30 inf57 rfl (by decide) oneV3 (ev rfl) (ev rfl) hO16 RV3.flat (Sl.ext hv_xs RV3.mono X15) (by first | (simp only [List.length_nil]; omega) | omega | omega) (Nat.le_refl _)) ?_; rintro y' w18 ⟨gg19, hg20, K21, hO22⟩
  have hN23 : w.heap.size ≤ gg19 := by rcases hg20 with h | h; exact h ▸ hb10; exact Nat.le_trans (Below.size E13) h
  have g24 : w.heap.size ≤ gg19 := Nat.le_trans (Nat.le_refl _) hN23
  have X25 := Below.kl X15 K21 (allS g24 all0) (Nat.le_refl _)
  replace hO22 := hO22.cast (List.nil_append _)
  obtain ⟨p26, q27, rfl⟩ := Own.shape hO22
  have hH28 : Hang w.heap.size w18 (fun u => Sl RV3 3 u (.slice p26 L_xs.length q27) L_xs) := Own.hang hO22 RV3.flat (by decide) hb10 (Below.size E13)
  show wpList _ _ _ _ (fr [(.slice p_xs L_xs.length q_xs), Ud, (.slice none 0 0), (.slice p_xs L_xs.length q_xs), (Bo p_xs.isNone), (.slice (some ⟨b9, 0, none⟩) 0 0), (.slice p_xs L_xs.length q_xs), (.slice p26 L_xs.length q27)]) _
  refine q_is (l' := [(.slice p_xs L_xs.length q_xs), Ud, (.slice p26 L_xs.length q27), (.slice p_xs L_xs.length q_xs), (Bo p_xs.isNone), (.slice (some ⟨b9, 0, none⟩) 0 0), (.slice p_xs L_xs.length q_xs), (.slice p26 L_xs.length q27)]) rfl rfl (does_assign (u := (.slice p26 L_xs.length q27)) (ev rfl)) rfl ?_
  refine wpList_nil (hK8 _ _ ?_)
  refine wp_ret ?_
  refine ret_val (v := (.slice p26 L_xs.length q27)) (res_T rfl (slot rfl)) X25 ?_
  obtain ⟨Lw29, hw30⟩ : ∃ L, WL 3 w.heap.size w18 L (.slice p26 L_xs.length q27) L_xs.length := Own.wl hO22 (Nat.le_trans (Nat.le_refl _) hb10) (Nat.le_trans (Nat.le_refl _) (Below.size E13))
  exact ⟨(.slice p26 L_xs.length q27), Lw29, rfl, (Own.hang hO22 RV3.flat (by decide) (Nat.le_trans (Nat.le_refl _) hb10) (Nat.le_trans (Nat.le_refl _) (Below.size E13))), hw30⟩

/- impl.renamed -/
theorem c_impl_renamed (places : Value) (L_places : List V3) (triangles : Value) (L_triangles : List (List Int)) (of : Value) (D_of : List Int → Prop) (pr_of : List Int → List Int) (w : World) (hv_places : Sl RV3 3 w places L_places) (hv_triangles : Sl (RS RI 1) 1 w triangles L_triangles) (hv_of : ∃ fi fst cap, of = .func (.func fi) fst cap ∧ (∀ args w, (callFunc fi args).run Try.prog w = .ok (.enter fi args) w) ∧ ∀ (y : Value) (X : List Int) u, D_of X → Ext w u → Sl RI 1 u y X → Gives Try.prog fi (fst ++ #[y] ++ cap) u (fun v w' => ∃ y_1 : Value, ∃ Lw_2 : List Nat, v = y_1 ∧ Hang u.heap.size w' (fun u => Sl RI 1 u y_1 (pr_of X)) ∧ WL 1 u.heap.size w' Lw_2 y_1 (pr_of X).length)) (hne : L_places.length ≤ 1048576) (hD : ∀ t ∈ L_triangles, D_of t) (hn : L_triangles.length ≤ 100000) : Gives Try.prog 35 #[places, triangles, of] w (fun v w' => ∃ cs_1 : List Value, ∃ Lw_2 : List Nat, v = (.agg cs_1.toArray) ∧ Hang w.heap.size w' (fun u => RMeshT u (MeshT.mk L_places (L_triangles.map pr_of)) cs_1) ∧ WLM w.heap.size w' Lw_2 (cellN cs_1 0) (cellN cs_1 1) (MeshT.mk L_places (L_triangles.map pr_of))) := by
  have hlen_places := Sl.len hv_places; obtain ⟨p_places, q_places, rfl⟩ := Sl.shape hv_places
  have hlen_triangles := Sl.len hv_triangles; obtain ⟨p_triangles, q_triangles, rfl⟩ := Sl.shape hv_triangles
  obtain ⟨f_of, s_of, c_of, rfl, hcal_of, hg_of⟩ := hv_of
  refine enter [(.slice p_places L_places.length q_places), (.slice p_triangles L_triangles.length q_triangles), (.func (.func f_of) s_of c_of), Ud, Ud, Ud, Ud, Ud, Ud, Ud, Ud, Ud, Ud, Ud, Ud, Ud, Ud, Ud, Ud, Ud, Ud, Ud, Ud, Ud, Ud, Ud, Ud, Ud, Ud] Try.func35 rfl Try.ntmps35 rfl ?_
  refine wp_seq_k fun K1 hK1 => ?_
  refine wp_region_lit ?_
  refine seqd rfl rfl (does_alloc z32) ?_; rintro _ w6 ⟨b2, rfl, hb3, hB4, E5⟩
  have g7 : w.heap.size ≤ b2 := Nat.le_trans (Below.size (Ext.refl w)) hb3
  change Blk _ _ [(.slice none 0 0), (.slice none 0 0)] at hB4
  have X8 := Ext.gr (Ext.refl w) E5
  show wpList _ _ _ _ (fr [_, _, _, _, _, _, _, _, _, _, _, _, _, _, _, _, _, _, _, _, _, _, _, _, _, _, _, _, _]) _
  refine wpList_nil (hK1 _ _ ?_)
  refine wp_seq_k fun K9 hK9 => ?_
  refine wp_region_lit ?_
  refine q_is rfl rfl (does_move (u := (.slice p_places L_places.length q_places)) (ev rfl)) (by dsimp only [List.set]; try rfl) ?_
  refine seqd rfl rfl (does_call (args := #[(.slice p_places L_places.length q_places)]) cal53 (evs rfl) (c_slices_Clone_impl_Vector_impl_Vector (.slice p_places L_places.length q_places) L_places _ (Sl.ext hv_places RV3.mono X8) (by exact hne))) ?_; rintro _ w11 ⟨E10, ⟨y13, Lw14, rfl, hh12, hw15⟩⟩
  have X16 := Ext.gr X8 E10
  have n17 : b2 < w6.heap.size := Blk.lt hB4
  obtain ⟨p18, q19, rfl⟩ := Sl.shape hh12.get
  have hw20 : WL 3 w6.heap.size w11 Lw14 (.slice p18 L_places.length q19) L_places.length := hw15
  show wpList _ _ _ _ (fr [_, _, _, _, _, _, _, _, _, _, _, _, _, _, _, _, _, _, _, _, _, _, _, _, _, _, _, _, _]) _
  refine q_is rfl rfl (does_build (parts' := [(0, (.slice p18 L_places.length q19))]) (cells := #[(.slice p18 L_places.length q19), (.slice none 0 0)]) (evp rfl) (by kernel_rfl)) (by dsimp only [List.set]; try rfl) ?_
  refine seqd rfl rfl (does_alloc z32) ?_; rintro _ w25 ⟨b21, rfl, hb22, hB23, E24⟩
  have n26 : b2 < b21 := Nat.lt_of_lt_of_le (Blk.lt (hB4.ext E10)) hb22
  have g27 : w.heap.size ≤ b21 := Nat.le_trans (Below.size X16) hb22
  change Blk _ _ [(.slice none 0 0), (.slice none 0 0)] at hB23
  have X28 := Ext.gr X16 E24
  show wpList _ _ _ _ (fr [_, _, _, _, _, _, _, _, _, _, _, _, _, _, _, _, _, _, _, _, _, _, _, _, _, _, _, _, _]) _
  refine seqn rfl rfl (does_store (n := 2) (cs := [(.slice none 0 0), (.slice none 0 0)]) (u := (.agg #[(.slice p18 L_places.length q19), (.slice none 0 0)])) (ev rfl) (ev rfl) Try.sizeOf32 rfl hB23 (Nat.le_of_ble_eq_true rfl) rfl) ?_; rintro _ w31 ⟨rfl, W29, hB30⟩
  change Blk _ _ [(.slice p18 L_places.length q19), (.slice none 0 0)] at hB30
  have X32 := Below.wr X28 W29 g27
  refine wpList_nil (hK9 _ _ ?_)
  refine wp_seq_k fun K33 hK33 => ?_
  refine wp_seq_k fun K34 hK34 => ?_
  refine wp_region_lit ?_
  refine q_is rfl rfl (does_move (u := (.slice p_triangles L_triangles.length q_triangles)) (ev rfl)) (by dsimp only [List.set]; try rfl) ?_
  refine q_is rfl rfl (does_len_slice Try.underlying23 (ev rfl)) (by dsimp only [List.set]; try rfl) ?_
  refine q_is rfl rfl (does_move (u := (Iv 0)) (ev rfl)) (by dsimp only [List.set]; try rfl) ?_
  refine wpList_nil (hK34 _ _ ?_)
  refine wp_block ?_
  have n36 : b2 < w31.heap.size := Blk.lt (((hB4.ext E10).ext E24).wr W29 (Nat.ne_of_lt n26))
  have n37 : b21 < w31.heap.size := Blk.lt hB30
  obtain ⟨gg38, hg39, hg40, hO41⟩ := OwnN.start' (OwnN.nil (R := RI) (k := 1) (e := 27) (C := w31.heap.size) (g0 := w31.heap.size) (B := w31.heap.size) (w := w31)) (OwnN.nil (R := RI) (k := 1) (e := 27) (C := w31.heap.size) (g0 := w31.heap.size) (B := w31.heap.size) (w := w31))
  have hN42 : w31.heap.size ≤ gg38 := by rcases hg39 with h | h; exact h ▸ (Nat.le_refl _); exact Nat.le_trans (Nat.le_refl _) h
  have g43 : w.heap.size ≤ gg38 := Nat.le_trans (Nat.le_trans (Nat.le_trans (Nat.le_trans (Below.size E5) (Below.size E10)) (Below.size E24)) (Nat.le_of_eq (Eq.symm (Wr.size W29)))) hN42
  refine loop_ghost (σ := Nat) (fun k a w' => ∃ u35 : Nat → Value, ∃ y7_1 : Value, a = fr [(.slice p_places L_places.length q_places), (.slice p_triangles L_triangles.length q_triangles), (.func (.func f_of) s_of c_of), Ud, Ud, Ud, (Pt b2 0), (Pt b21 0), Ud, (u35 9), (.slice p_places L_places.length q_places), (.slice p18 L_places.length q19), (.agg #[(.slice p18 L_places.length q19), (.slice none 0 0)]), (.slice p_triangles L_triangles.length q_triangles), (Iv (L_triangles.length : Int)), (Iv (k : Int)), (u35 16), (u35 17), (u35 18), (u35 19), (u35 20), (u35 21), (u35 22), (u35 23), (u35 24), (u35 25), (u35 26), (u35 27), Ud] ∧ KpL [gg38, b21] w31 w' ∧ OwnN RI 1 27 w31.heap.size gg38 w31.heap.size w' y7_1 ((L_triangles.take k).map pr_of) ∧ Blk w' b21 [(.slice p18 L_places.length q19), y7_1] ∧ (k ≤ L_triangles.length)) (fun k => L_triangles.length - k) 0 ?_ ?_
  · refine ⟨fun t => (([(.slice p_places L_places.length q_places), (.slice p_triangles L_triangles.length q_triangles), (.func (.func f_of) s_of c_of), Ud, Ud, Ud, (Pt b2 0), (Pt b21 0), Ud, Ud, (.slice p_places L_places.length q_places), (.slice p18 L_places.length q19), (.agg #[(.slice p18 L_places.length q19), (.slice none 0 0)]), (.slice p_triangles L_triangles.length q_triangles), (Iv (L_triangles.length : Int)), (Iv 0), Ud, Ud, Ud, Ud, Ud, Ud, Ud, Ud, Ud, Ud, Ud, Ud, Ud] : List Value)[t]?).getD undef, (.slice none 0 0), rfl, KpL.refl _ _, (OwnN.cast (OwnN.reC hO41) (by rfl)), hB30, ?_⟩
    exact Nat.zero_le _
  · rintro k a w44 ⟨u35, y7_1, rfl, E45, hO47, hB48, hk⟩
    have X49 := Below.kl X32 E45 (allS g43 (allS g27 all0)) (Nat.le_refl _)
    obtain ⟨p50, q51, rfl⟩ := OwnN.shape hO47
    have hH52 : Hang w31.heap.size w44 (fun u => Sl (RS RI 1) 1 u (.slice p50 (((L_triangles.take k).map pr_of).length) q51) ((L_triangles.take k).map pr_of)) := OwnN.hang hO47 RI.flat (by decide) hN42 (Nat.le_refl _) (Nat.le_refl _)
    refine wp_seq_k fun K53 hK53 => ?_
    refine wp_region_lit ?_
    refine q_is rfl rfl (does_icmp (p := (k : Int)) (q := (L_triangles.length : Int)) (.inr (.inr (.inl rfl))) (ev rfl) (ev rfl)) (by dsimp only [List.set]; try rfl) ?_
    refine wpList_nil (hK53 _ _ ?_)
    refine wp_seq_k fun K54 hK54 => ?_
    refine wp_cond_split (t := icmp .lss (k : Int) (L_triangles.length : Int)) (ev rfl) (fun c55 => ?_) (fun c55 => ?_)
    · have c55' := c55
      (try simp only [icmp, Bool.and_eq_true, Bool.or_eq_true, Bool.and_eq_false_iff, Bool.or_eq_false_iff, Bool.not_eq_true', Bool.not_eq_false', decide_eq_true_eq, decide_eq_false_iff_not, beq_iff_eq, bne_iff_ne, beq_eq_false_iff_ne, bne_eq_false_iff_eq] at c55')
      refine wp_skip (hK54 _ _ ?_)
      refine wp_seq_k fun K56 hK56 => ?_
      refine wp_block ?_
      refine wp_seq_k fun K57 hK57 => ?_
      refine wp_region_lit ?_
      obtain ⟨el1, hel1⟩ : ∃ e, L_triangles[k]? = some e := ⟨_, List.getElem?_eq_getElem (by omega)⟩
      refine seqd rfl rfl (does_indexSl (R := (RS RI 1)) (i := (k : Int)) (xs := L_triangles) (e := el1) Try.underlying23 Try.sizeOf27 (ev rfl) (ev rfl) (Sl.ext hv_triangles (RS.mono RI.mono) X49) (by omega) hel1) ?_; rintro _ w44 ⟨b58, o59, _, rfl, hc61, ⟨y62, rfl, h63⟩, rfl⟩
      have hs66 := h63; have hs66l := Sl.len h63; obtain ⟨p64, q65, rfl⟩ := Sl.shape h63
      show wpList _ _ _ _ (fr [_, _, _, _, _, _, _, _, _, _, _, _, _, _, _, _, _, _, _, _, _, _, _, _, _, _, _, _, _]) _
      refine q_is rfl rfl (does_load (u := (.slice p64 el1.length q65)) (ev rfl) Try.isAgg27 (Cells.at hc61 0 rfl)) (by dsimp only [List.set]; try rfl) ?_
      refine q_is rfl rfl (does_assign (u := (.slice p64 el1.length q65)) (ev rfl)) (by dsimp only [List.set]; try rfl) ?_
      refine wpList_nil (hK57 _ _ ?_)
      refine region_any2 [] [0, 1, 0, 0, 12, 28, 63, 127, 255] [] (
        [FactW.pure [] [] [] true (fun v => v = (Pt b21 1)),
          FactW.pure [0] [] [] true (fun v => v = (.slice p50 (((L_triangles.take k).map pr_of).length) q51)),
          FactW.pure [] [] [] true (fun v => v = (.func (.func f_of) s_of c_of)),
          FactW.pure [] [] [] true (fun v => v = (.slice p64 el1.length q65)),
          FactW.mem [3, 2] [] [] [] true (fun v w' => ∃ y_1 : Value, ∃ Lw_2 : List Nat, v = y_1 ∧ Hang w44.heap.size w' (fun u => Sl RI 1 u y_1 (pr_of el1)) ∧ WL 1 w44.heap.size w' Lw_2 y_1 (pr_of el1).length) (by rintro v w1 w2 hx' ⟨z1, z2, rfl, k0, k1⟩; have hx := KpL.toExt hx'; exact ⟨_, _, rfl, (k0.ext hx), (k1.same (Same.of_ext hx))⟩),
          FactW.mem [4] [] [] [] true (fun v w' => ∃ b : Nat, ∃ y_1 : Value, ∃ Lw_2 : List Nat, v = .slice (some ⟨b, 0, none⟩) 1 1 ∧ w44.heap.size ≤ b ∧ Blk w' b [y_1] ∧ Hang w44.heap.size w' (fun u => Sl RI 1 u y_1 (pr_of el1)) ∧ WL 1 w44.heap.size w' Lw_2 y_1 (pr_of el1).length) (by rintro v w1 w2 hx' ⟨b, z0, z1, rfl, hb, hB, k0, k1⟩; have hx := KpL.toExt hx'; exact ⟨b, z0, z1, rfl, hb, hB.ext hx, k0.ext hx, k1.same (Same.of_ext hx)⟩)]) mixed (by kernel_rfl) ?_
      obtain ⟨w67, hw69⟩ : ∃ w', w' = World.drew w44 := ⟨_, rfl⟩; rw [← hw69]; have E68 : Ext w44 w67 := by rw [hw69]; exact Ext.draw _
      clear hw69
      have X70 := Ext.gr X49 E68
      refine RW2_d _ rfl (fun v => by dsimp only [List.set]; try rfl) (fun u hu hF => ?_) (fun v71 => ?_)
      · replace hu : KpL [] _ _ := hu
        clear hF
        refine doesG_un rfl ?_
        refine (does_fieldAddr (ev rfl) fa32_1).mono ?_; rintro _ _ ⟨rfl, rfl⟩
        exact ⟨rfl, KpL.refl _ _⟩
      refine RW2_d _ rfl (fun v => by dsimp only [List.set]; try rfl) (fun u hu hF => ?_) (fun v72 => ?_)
      · replace hu : KpL [] _ _ := hu
        have h19_ : v71 = (Pt b21 1) := hF.1
        clear hF
        refine doesG_un rfl ?_
        obtain rfl := h19_
        refine (does_load (u := (.slice p50 (((L_triangles.take k).map pr_of).length) q51)) (ev rfl) Try.isAgg23 (Cells.at (Blk.cells ((hB48.ext E68).ext (KpL.toExt hu))) 1 rfl)).mono ?_; rintro _ _ ⟨rfl, rfl⟩
        exact ⟨rfl, KpL.refl _ _⟩
      refine RW2_d _ rfl (fun v => by dsimp only [List.set]; try rfl) (fun u hu hF => ?_) (fun v73 => ?_)
      · replace hu : KpL [] _ _ := hu
        clear hF
        refine doesG_un rfl ?_
        refine (does_move (u := (.func (.func f_of) s_of c_of)) (ev rfl)).mono ?_; rintro _ _ ⟨rfl, rfl⟩
        exact ⟨rfl, KpL.refl _ _⟩
      refine RW2_d _ rfl (fun v => by dsimp only [List.set]; try rfl) (fun u hu hF => ?_) (fun v74 => ?_)
      · replace hu : KpL [] _ _ := hu
        clear hF
        refine doesG_un rfl ?_
        refine (does_move (u := (.slice p64 el1.length q65)) (ev rfl)).mono ?_; rintro _ _ ⟨rfl, rfl⟩
        exact ⟨rfl, KpL.refl _ _⟩
      refine RW2_d _ rfl (fun v => by dsimp only [List.set]; try rfl) (fun u hu hF => ?_) (fun v75 => ?_)
      · replace hu : KpL [] _ _ := hu
        have h22_ : v74 = (.slice p64 el1.length q65) := hF.1
        have h21_ : v73 = (.func (.func f_of) s_of c_of) := hF.2.1
        clear hF
        refine doesG_un rfl ?_
        obtain rfl := h22_
        obtain rfl := h21_
        refine (does_callf (args := #[(.slice p64 el1.length q65)]) (ev rfl) hcal_of (evs rfl) (hg_of (.slice p64 el1.length q65) el1 _ (by exact hD _ (List.mem_of_getElem? hel1)) (Ext.gr (Ext.gr X49 E68) (KpL.toExt hu)) (Sl.ext (Sl.ext hs66 RI.mono E68) RI.mono (KpL.toExt hu)))).mono ?_; rintro v u' ⟨hx, ⟨yn1, Lwn2, hv, k0, k1⟩⟩
        exact ⟨⟨yn1, Lwn2, hv, (Hang.le k0 (Nat.le_trans (Below.size E68) (KpL.size hu))), (WL.le k1 (Nat.le_trans (Below.size E68) (KpL.size hu)))⟩, (KpL.of_ext hx)⟩
      refine RW2_d _ rfl (fun v => by dsimp only [List.set]; try rfl) (fun u hu hF => ?_) (fun v76 => ?_)
      · replace hu : KpL [] _ _ := hu
        have h23_ : ∃ y_1 : Value, ∃ Lw_2 : List Nat, v75 = y_1 ∧ Hang w44.heap.size u (fun u => Sl RI 1 u y_1 (pr_of el1)) ∧ WL 1 w44.heap.size u Lw_2 y_1 (pr_of el1).length := hF.1
        clear hF
        refine doesG_un rfl ?_
        obtain ⟨y23_2, Lw23_3, rfl, hh23_1, hw23_4⟩ := h23_
        have ghh23_1 := hh23_1.get
        have hghh23_1 := ghh23_1; obtain ⟨p23_5, q23_6, rfl⟩ := Sl.shape ghh23_1
        refine (does_buildSlice (e := 27) (parts' := [(0, (.slice p23_5 ((pr_of el1).length) q23_6))]) (cells := [(.slice p23_5 ((pr_of el1).length) q23_6)]) (evp rfl) (fun _ => by kernel_rfl)).mono ?_; rintro _ _ ⟨b, rfl, hb, hB, hx⟩
        exact ⟨⟨b, (.slice p23_5 ((pr_of el1).length) q23_6), Lw23_3, rfl, Nat.le_trans (Nat.le_trans (Below.size E68) (KpL.size hu)) hb, hB, hh23_1.ext hx, hw23_4.same (Same.of_ext hx)⟩, (KpL.of_ext hx)⟩
      refine RW2_fin ?_; intro w77 E78 hP79; replace E78 : KpL [] _ _ := E78
      obtain ⟨⟨⟨⟨⟨⟨-, -⟩, q80⟩, -⟩, -⟩, -⟩, q81⟩ := hP79
      have X82 := Below.kl X70 E78 all0 (Nat.le_refl _)
      have q80 : v72 = (.slice p50 (((L_triangles.take k).map pr_of).length) q51) := q80 rfl
      obtain rfl := q80
      have q81 : ∃ b : Nat, ∃ y_1 : Value, ∃ Lw_2 : List Nat, v76 = .slice (some ⟨b, 0, none⟩) 1 1 ∧ w44.heap.size ≤ b ∧ Blk w77 b [y_1] ∧ Hang w44.heap.size w77 (fun u => Sl RI 1 u y_1 (pr_of el1)) ∧ WL 1 w44.heap.size w77 Lw_2 y_1 (pr_of el1).length := q81 rfl
      obtain ⟨b83, y86, Lw87, rfl, hb84, hB85, h88, h89⟩ := q81
      have n90 : b2 < b83 := Nat.lt_of_lt_of_le (Blk.lt ((((hB4.ext E10).ext E24).wr W29 (Nat.ne_of_lt n26)).kl E45 (ninS (Nat.ne_of_lt (Nat.lt_of_lt_of_le n36 hN42)) (ninS (Nat.ne_of_lt n26) nin0)))) hb84
      have n91 : b21 < b83 := Nat.lt_of_lt_of_le (Blk.lt hB48) hb84
      have n92 : b58 < b83 := Nat.lt_of_lt_of_le (cell_lt (Cells.at hc61 0 rfl)) hb84
      have g93 : w.heap.size ≤ b83 := Nat.le_trans (Below.size X49) hb84
      obtain ⟨p94, q95, rfl⟩ := Sl.shape h88.get
      have hw96 : WL 1 w44.heap.size w77 Lw87 (.slice p94 ((pr_of el1).length) q95) (pr_of el1).length := h89
      show wpList _ _ _ _ (fr [_, _, _, _, _, _, _, _, _, _, _, _, _, _, _, _, _, _, _, _, _, _, _, _, _, _, _, _, _]) _
      refine seqd rfl rfl (does_appendN (R := RI) (k := 1) (g0 := gg38) (B := w31.heap.size) (xs := ((L_triangles.take k).map pr_of)) (x := (pr_of el1)) (L := Lw87) (w0 := w44) Try.underlying23 inf27 rfl (ev rfl) (ev rfl) hO47 RI.flat (Below.kl (Ext.gr (Ext.refl _) E68) E78 all0 (Nat.le_refl _)) hB85 rfl (InS.of_wl hw96 h88.get rfl) (fun c hc => (hw96.1 c hc).1) (KpL.size E45) (by first | (simp only [List.length_append, List.length_cons, List.length_nil]; omega) | (simp only [List.length_map, List.length_take]; omega)) (Nat.le_trans (Nat.le_trans (KpL.size E45) (Below.size E68)) (KpL.size E78))) ?_; rintro y' w97 ⟨gg98, hg99, K100, hO101⟩
      have hN102 : w31.heap.size ≤ gg98 := by rcases hg99 with h | h; exact h ▸ hN42; exact Nat.le_trans (Nat.le_refl _) h
      have g103 : w.heap.size ≤ gg98 := Nat.le_trans (Nat.le_trans (Nat.le_trans (Nat.le_trans (Below.size E5) (Below.size E10)) (Below.size E24)) (Nat.le_of_eq (Eq.symm (Wr.size W29)))) hN102
      have X104 := Below.kl X82 K100 (allS g103 all0) (Nat.le_refl _)
      obtain ⟨p105, q106, rfl⟩ := OwnN.shape hO101
      have hH107 : Hang w31.heap.size w97 (fun u => Sl (RS RI 1) 1 u (.slice p105 ((((L_triangles.take k).map pr_of) ++ [(pr_of el1)]).length) q106) (((L_triangles.take k).map pr_of) ++ [(pr_of el1)])) := OwnN.hang hO101 RI.flat (by decide) hN42 (Nat.le_refl _) (Nat.le_refl _)
      show wpList _ _ _ _ (fr [_, _, _, _, _, _, _, _, _, _, _, _, _, _, _, _, _, _, _, _, _, _, _, _, _, _, _, _, _]) _
      refine q_is rfl rfl (does_fieldAddr (ev rfl) fa32_1) (by dsimp only [List.set]; try rfl) ?_
      refine seqn rfl rfl (does_store (n := 1) (cs := [(.slice p18 L_places.length q19), (.slice p50 (((L_triangles.take k).map pr_of).length) q51)]) (u := (.slice p105 ((((L_triangles.take k).map pr_of) ++ [(pr_of el1)]).length) q106)) (ev rfl) (ev rfl) Try.sizeOf23 rfl (((hB48.ext E68).kl E78 nin0).kl K100 (ninS (Nat.ne_of_lt (Nat.lt_of_lt_of_le n37 hN102)) nin0)) (Nat.le_of_ble_eq_true rfl) rfl) ?_; rintro _ w110 ⟨rfl, W108, hB109⟩
      change Blk _ _ [(.slice p18 L_places.length q19), (.slice p105 ((((L_triangles.take k).map pr_of) ++ [(pr_of el1)]).length) q106)] at hB109
      have X111 := Below.wr X104 W108 g27
      refine wpList_nil (hK56 _ _ ?_)
      refine wp_region_lit ?_
      refine q_is rfl rfl (does_iarith (p := (k : Int)) (q := 1) (r := (k : Int) + 1) (ev rfl) (ev rfl) (.inl ⟨rfl, (in_i64 (by omega) (by omega)).symm⟩)) (by dsimp only [List.set]; try rfl) ?_
      refine q_is rfl rfl (does_move (u := (Iv ((k : Int) + 1))) (ev rfl)) (by dsimp only [List.set]; try rfl) ?_
      refine wpList_nil ?_
      have hO112 := OwnN.cast (ys := ((fun (k : Nat) => (L_triangles.take k).map pr_of) (k + 1))) (OwnN.same hO101 RI.flat ((Same.refl _ _).wr W108 (.inl n37)) hN42 (Nat.le_refl _) (Nat.le_refl _)) (by (try dsimp only); exact map_take hel1)
      refine ⟨k + 1, ⟨fun t => (([(.slice p_places L_places.length q_places), (.slice p_triangles L_triangles.length q_triangles), (.func (.func f_of) s_of c_of), Ud, Ud, Ud, (Pt b2 0), (Pt b21 0), Ud, (.slice p64 el1.length q65), (.slice p_places L_places.length q_places), (.slice p18 L_places.length q19), (.agg #[(.slice p18 L_places.length q19), (.slice none 0 0)]), (.slice p_triangles L_triangles.length q_triangles), (Iv (L_triangles.length : Int)), (Iv ((k : Int) + 1)), (Bo (icmp .lss (k : Int) (L_triangles.length : Int))), (Pt b58 o59), (.slice p64 el1.length q65), v71, (.slice p50 (((L_triangles.take k).map pr_of).length) q51), v73, v74, v75, (.slice (some ⟨b83, 0, none⟩) 1 1), (.slice p105 ((((L_triangles.take k).map pr_of) ++ [(pr_of el1)]).length) q106), (Pt b21 1), (Iv ((k : Int) + 1)), Ud] : List Value)[t]?).getD undef, (.slice p105 ((((L_triangles.take k).map pr_of) ++ [(pr_of el1)]).length) q106), ?_, (KpL.more (KpL.more (KpL.more (KpL.ext E45 E68) E78 all0) K100 (allS (hg99.imp (fun h => by simp [h]) id) all0)) (KpL.of_wr W108) (allS (.inl (by simp)) all0)), hO112, hB109, ?_⟩, ?_⟩
      · first | rfl | (simp only [Int.natCast_add, Int.natCast_one]; rfl)
      · omega
      · omega
    have c55' := c55
    (try simp only [icmp, Bool.and_eq_true, Bool.or_eq_true, Bool.and_eq_false_iff, Bool.or_eq_false_iff, Bool.not_eq_true', Bool.not_eq_false', decide_eq_true_eq, decide_eq_false_iff_not, beq_iff_eq, bne_iff_ne, beq_eq_false_iff_ne, bne_eq_false_iff_eq] at c55')
    refine wp_exit ?_
    refine hK33 _ _ ?_
    refine wp_seq_k fun K113 hK113 => ?_
    refine wp_region_lit ?_
    refine q_is rfl rfl (does_loadAgg (cs := [(.slice p18 L_places.length q19), (.slice p50 (((L_triangles.take k).map pr_of).length) q51)]) (ev rfl) Try.isAgg32 Try.sizeOf32 (Blk.cells hB48) rfl) (by dsimp only [List.set]; try rfl) ?_
    refine seqn rfl rfl (does_store (n := 2) (cs := [(.slice none 0 0), (.slice none 0 0)]) (u := (.agg #[(.slice p18 L_places.length q19), (.slice p50 (((L_triangles.take k).map pr_of).length) q51)])) (ev rfl) (ev rfl) Try.sizeOf32 rfl ((((hB4.ext E10).ext E24).wr W29 (Nat.ne_of_lt n26)).kl E45 (ninS (Nat.ne_of_lt (Nat.lt_of_lt_of_le n36 hN42)) (ninS (Nat.ne_of_lt n26) nin0))) (Nat.le_of_ble_eq_true rfl) rfl) ?_; rintro _ w116 ⟨rfl, W114, hB115⟩
    change Blk _ _ [(.slice p18 L_places.length q19), (.slice p50 (((L_triangles.take k).map pr_of).length) q51)] at hB115
    have X117 := Below.wr X49 W114 g7
    refine wpList_nil (hK113 _ _ ?_)
    refine wp_ret ?_
    refine ret_val (v := (.agg #[(.slice p18 L_places.length q19), (.slice p50 (((L_triangles.take k).map pr_of).length) q51)])) (res_C rfl (slot rfl) (run_loadAgg (cs := [(.slice p18 L_places.length q19), (.slice p50 (((L_triangles.take k).map pr_of).length) q51)]) Try.isAgg32 Try.sizeOf32 (Blk.cells hB115) rfl)) X117 ?_
    obtain ⟨Lw118, hw119, _⟩ := OwnN.wll (OwnN.same hO47 RI.flat ((Same.refl _ _).wr W114 (.inl n36)) hN42 (Nat.le_refl _) (Nat.le_refl _)) hN42 (Nat.le_refl _) (Nat.le_refl _)
    have x120 : L_places = ((MeshT.mk L_places (L_triangles.map pr_of)).places) := by first | rfl | (rw [List.take_of_length_le (by omega)])
    have x121 : ((L_triangles.take k).map pr_of) = ((MeshT.mk L_places (L_triangles.map pr_of)).tris) := by first | rfl | (rw [List.take_of_length_le (by omega)])
    exact ⟨[(.slice p18 L_places.length q19), (.slice p50 (((L_triangles.take k).map pr_of).length) q51)], (Lw14 ++ Lw118), rfl, fun u hu => ⟨(.slice p18 L_places.length q19), (.slice p50 (((L_triangles.take k).map pr_of).length) q51), rfl, (Hang.castL ((Hang.to hh12 (((((Same.refl _ _).ext E24).wr W29 (.inr (Nat.le_trans (Nat.le_refl _) hb22))).kl E45 (allS (.inr (Nat.le_trans (Nat.le_trans (Below.size E24) (Nat.le_of_eq (Eq.symm (Wr.size W29)))) hN42)) (allS (.inr (Nat.le_trans (Nat.le_refl _) hb22)) all0))).wr W114 (.inl n17))).le (Below.size (Ext.gr (Ext.refl _) E5))) x120) u hu, (Hang.castL (OwnN.hang (OwnN.same hO47 RI.flat ((Same.refl _ _).wr W114 (.inl n36)) hN42 (Nat.le_refl _) (Nat.le_refl _)) RI.flat (by decide) (Nat.le_trans (Nat.le_trans (Nat.le_trans (Nat.le_trans (Below.size E5) (Below.size E10)) (Below.size E24)) (Nat.le_of_eq (Eq.symm (Wr.size W29)))) hN42) (Nat.le_trans (Nat.le_trans (Nat.le_trans (Nat.le_trans (Below.size E5) (Below.size E10)) (Below.size E24)) (Nat.le_of_eq (Eq.symm (Wr.size W29)))) (Nat.le_refl _)) (Nat.le_trans (Nat.le_trans (Nat.le_trans (Nat.le_trans (Below.size E5) (Below.size E10)) (Below.size E24)) (Nat.le_of_eq (Eq.symm (Wr.size W29)))) (Nat.le_refl _))) x121) u hu⟩, (WLM.mk (C := w31.heap.size) ((hw20.same (((((Same.refl _ _).ext E24).wr W29 (.inr (Nat.le_trans (Nat.le_refl _) hb22))).kl E45 (allS (.inr (Nat.le_trans (Nat.le_trans (Below.size E24) (Nat.le_of_eq (Eq.symm (Wr.size W29)))) hN42)) (allS (.inr (Nat.le_trans (Nat.le_refl _) hb22)) all0))).wr W114 (.inl n17))).le (Below.size (Ext.gr (Ext.refl _) E5))) hw119 (Below.size (Below.wr (Ext.gr (Ext.gr (Ext.gr (Ext.refl _) E5) E10) E24) W29 g27)) (fun c hc => Nat.lt_of_lt_of_le (hw20.1 c hc).2 (Nat.le_trans (Below.size E24) (Nat.le_of_eq (Eq.symm (Wr.size W29))))) (by first | rfl | (first | rfl | (rw [List.take_of_length_le (by omega)]))) (by first | rfl | (first | rfl | (rw [List.take_of_length_le (by omega)]))))⟩

/- impl.TrimMesh$1 -/
theorem c_impl_TrimMesh_1 (t_ : Value) (L_t_ : List Int) (index_b : Nat) (index_o : Nat) (index_m : Nat) (L_index : List (Int × Int)) (w : World) (hv_t_ : Sl RI 1 w t_ L_t_) (hc_index : Cells w index_b index_o [.map (some index_m)]) (hm_index : MapL (Value.int .i64) (Value.int .i64) okK w index_m L_index) (hl : L_t_.length = 3) (hin : ∀ x ∈ L_t_, 0 ≤ x ∧ x ≤ 1000000) : Gives Try.prog 36 #[t_, (Pt index_b index_o)] w (fun v w' => ∃ y_1 : Value, ∃ Lw_2 : List Nat, v = y_1 ∧ Hang w.heap.size w' (fun u => Sl RI 1 u y_1 (reM L_index L_t_)) ∧ WL 1 w.heap.size w' Lw_2 y_1 (reM L_index L_t_).length) := by
  have hlen_t_ := Sl.len hv_t_; obtain ⟨p_t_, q_t_, rfl⟩ := Sl.shape hv_t_
  refine enter [(.slice p_t_ L_t_.length q_t_), (Pt index_b index_o), Ud, Ud, Ud, Ud, Ud, Ud, Ud, Ud, Ud, Ud, Ud, Ud, Ud, Ud, Ud, Ud, Ud, Ud] Try.func36 rfl Try.ntmps36 rfl ?_
  refine wp_seq_k fun K1 hK1 => ?_
  refine wp_region_lit ?_
  refine q_is (l' := [(.slice p_t_ L_t_.length q_t_), (Pt index_b index_o), Ud, (.slice none 0 0), Ud, Ud, Ud, Ud, Ud, Ud, Ud, Ud, Ud, Ud, Ud, Ud, Ud, Ud, Ud, Ud]) rfl rfl (does_assign (u := (.slice none 0 0)) (ev rfl)) rfl ?_
  refine wpList_nil (hK1 _ _ ?_)
  refine wp_seq_k fun K2 hK2 => ?_
  obtain ⟨el1, hel1⟩ : ∃ e, L_t_[0]? = some e := ⟨_, List.getElem?_eq_getElem (by omega)⟩
  obtain ⟨el2, hel2⟩ : ∃ e, L_t_[1]? = some e := ⟨_, List.getElem?_eq_getElem (by omega)⟩
  obtain ⟨el3, hel3⟩ : ∃ e, L_t_[2]? = some e := ⟨_, List.getElem?_eq_getElem (by omega)⟩
  refine region_draw (
    [Fact.pure [] (fun v => v = (.map (some index_m))),
    Fact.pure [] (fun v => v = (.slice p_t_ L_t_.length q_t_)),
    Fact.mem [5] (fun v w' => PtrR RI w' v el1) (by intro v w1 w2 hx h; exact h.ext RI.mono hx),
    Fact.pure [6] (fun v => v = (Iv el1)),
    Fact.pure [4, 7] (fun v => v = (Iv ((atM L_index el1).getD (0 : Int)))),
    Fact.pure [] (fun v => v = (.map (some index_m))),
    Fact.pure [] (fun v => v = (.slice p_t_ L_t_.length q_t_)),
    Fact.mem [10] (fun v w' => PtrR RI w' v el2) (by intro v w1 w2 hx h; exact h.ext RI.mono hx),
    Fact.pure [11] (fun v => v = (Iv el2)),
    Fact.pure [9, 12] (fun v => v = (Iv ((atM L_index el2).getD (0 : Int)))),
    Fact.pure [] (fun v => v = (.map (some index_m))),
    Fact.pure [] (fun v => v = (.slice p_t_ L_t_.length q_t_)),
    Fact.mem [15] (fun v w' => PtrR RI w' v el3) (by intro v w1 w2 hx h; exact h.ext RI.mono hx),
    Fact.pure [16] (fun v => v = (Iv el3)),
    Fact.pure [14, 17] (fun v => v = (Iv ((atM L_index el3).getD (0 : Int)))),
    Fact.mem [8, 13, 18] (fun v w' => ∃ b : Nat, v = .slice (some ⟨b, 0, none⟩) 3 3 ∧ w.heap.size ≤ b ∧ Blk w' b [(Iv ((atM L_index el1).getD (0 : Int))), (Iv ((atM L_index el2).getD (0 : Int))), (Iv ((atM L_index el3).getD (0 : Int)))]) (by rintro v w1 w2 hx ⟨b, rfl, hb, hB⟩; exact ⟨b, rfl, hb, (hB.ext hx)⟩)]) mixed (by kernel_rfl) (by intro _ _ d _ _ h; cases d <;> exact h) ?_
  obtain ⟨w3, hw5⟩ : ∃ w', w' = World.drew w := ⟨_, rfl⟩; rw [← hw5]; have E4 : Ext w w3 := by rw [hw5]; exact Ext.draw _
  clear hw5
  have X6 := Ext.gr (Ext.refl w) E4
  refine RW_d (fun v7 => [(.slice p_t_ L_t_.length q_t_), (Pt index_b index_o), Ud, (.slice none 0 0), v7, Ud, Ud, Ud, Ud, Ud, Ud, Ud, Ud, Ud, Ud, Ud, Ud, Ud, Ud, Ud]) rfl (fun _ => rfl) (fun u hu hF => ?_) (fun v7 => ?_)
  · clear hF
    refine doesG_un rfl ?_
    refine (does_load (u := (.map (some index_m))) (ev rfl) Try.isAgg58 (Cells.at ((hc_index.ext (Ext.gr (Ext.refl w) E4)).ext hu) 0 rfl)).mono ?_; rintro _ _ ⟨rfl, rfl⟩
    exact ⟨rfl, Ext.refl _⟩
  refine RW_d (fun v8 => [(.slice p_t_ L_t_.length q_t_), (Pt index_b index_o), Ud, (.slice none 0 0), v7, v8, Ud, Ud, Ud, Ud, Ud, Ud, Ud, Ud, Ud, Ud, Ud, Ud, Ud, Ud]) rfl (fun _ => rfl) (fun u hu hF => ?_) (fun v8 => ?_)
  · clear hF
    refine doesG_un rfl ?_
    refine (does_move (u := (.slice p_t_ L_t_.length q_t_)) (ev rfl)).mono ?_; rintro _ _ ⟨rfl, rfl⟩
    exact ⟨rfl, Ext.refl _⟩
  refine RW_d (fun v9 => [(.slice p_t_ L_t_.length q_t_), (Pt index_b index_o), Ud, (.slice none 0 0), v7, v8, v9, Ud, Ud, Ud, Ud, Ud, Ud, Ud, Ud, Ud, Ud, Ud, Ud, Ud]) rfl (fun _ => rfl) (fun u hu hF => ?_) (fun v9 => ?_)
  · have h5_ : v8 = (.slice p_t_ L_t_.length q_t_) := hF.1
    clear hF
    refine doesG_un rfl ?_
    obtain rfl := h5_
    refine (does_indexSl (R := RI) (i := 0) (xs := L_t_) (e := el1) Try.underlying27 Try.sizeOf2 (ev rfl) (ev rfl) (Sl.ext (Sl.ext hv_t_ RI.mono (Ext.gr (Ext.refl w) E4)) RI.mono hu) (by omega) hel1).mono ?_; rintro v u' ⟨b, of, cs, hv, hc, hR, hu'⟩; subst hu'
    exact ⟨⟨b, of, cs, hv, hc, hR⟩, Ext.refl _⟩
  refine RW_d (fun v10 => [(.slice p_t_ L_t_.length q_t_), (Pt index_b index_o), Ud, (.slice none 0 0), v7, v8, v9, v10, Ud, Ud, Ud, Ud, Ud, Ud, Ud, Ud, Ud, Ud, Ud, Ud]) rfl (fun _ => rfl) (fun u hu hF => ?_) (fun v10 => ?_)
  · have h6_ : PtrR RI u v9 el1 := hF.1
    clear hF
    refine doesG_un rfl ?_
    obtain ⟨b6_, o6_, _, rfl, hc6_, rfl⟩ := h6_
    refine (does_load (u := (Iv el1)) (ev rfl) Try.isAgg2 (Cells.at hc6_ 0 rfl)).mono ?_; rintro _ _ ⟨rfl, rfl⟩
    exact ⟨rfl, Ext.refl _⟩
  refine RW_d (fun v11 => [(.slice p_t_ L_t_.length q_t_), (Pt index_b index_o), Ud, (.slice none 0 0), v7, v8, v9, v10, v11, Ud, Ud, Ud, Ud, Ud, Ud, Ud, Ud, Ud, Ud, Ud]) rfl (fun _ => rfl) (fun u hu hF => ?_) (fun v11 => ?_)
  · have h4_ : v7 = (.map (some index_m)) := hF.1
    have h7_ : v10 = (Iv el1) := hF.2.1
    clear hF
    refine doesG_un rfl ?_
    obtain rfl := h4_
    obtain rfl := h7_
    refine (does_lookup (l := L_index) (p := el1) (z := (0 : Int)) kE2 Try.underlying58 Try.zeroValue2 (ev rfl) (ev rfl) (MapL.ext (MapL.ext hm_index E4) hu) (by first | exact hin _ (List.mem_of_getElem? (by assumption)))).mono ?_; rintro _ _ ⟨rfl, rfl⟩
    exact ⟨rfl, Ext.refl _⟩
  refine RW_d (fun v12 => [(.slice p_t_ L_t_.length q_t_), (Pt index_b index_o), Ud, (.slice none 0 0), v7, v8, v9, v10, v11, v12, Ud, Ud, Ud, Ud, Ud, Ud, Ud, Ud, Ud, Ud]) rfl (fun _ => rfl) (fun u hu hF => ?_) (fun v12 => ?_)
  · clear hF
    refine doesG_un rfl ?_
    refine (does_load (u := (.map (some index_m))) (ev rfl) Try.isAgg58 (Cells.at ((hc_index.ext (Ext.gr (Ext.refl w) E4)).ext hu) 0 rfl)).mono ?_; rintro _ _ ⟨rfl, rfl⟩
    exact ⟨rfl, Ext.refl _⟩
  refine RW_d (fun v13 => [(.slice p_t_ L_t_.length q_t_), (Pt index_b index_o), Ud, (.slice none 0 0), v7, v8, v9, v10, v11, v12, v13, Ud, Ud, Ud, Ud, Ud, Ud, Ud, Ud, Ud]) rfl (fun _ => rfl) (fun u hu hF => ?_) (fun v13 => ?_)
  · clear hF
    refine doesG_un rfl ?_
    refine (does_move (u := (.slice p_t_ L_t_.length q_t_)) (ev rfl)).mono ?_; rintro _ _ ⟨rfl, rfl⟩
    exact ⟨rfl, Ext.refl _⟩
  refine RW_d (fun v14 => [(.slice p_t_ L_t_.length q_t_), (Pt index_b index_o), Ud, (.slice none 0 0), v7, v8, v9, v10, v11, v12, v13, v14, Ud, Ud, Ud, Ud, Ud, Ud, Ud, Ud]) rfl (fun _ => rfl) (fun u hu hF => ?_) (fun v14 => ?_)
  · have h10_ : v13 = (.slice p_t_ L_t_.length q_t_) := hF.1
    clear hF
    refine doesG_un rfl ?_
    obtain rfl := h10_
    refine (does_indexSl (R := RI) (i := 1) (xs := L_t_) (e := el2) Try.underlying27 Try.sizeOf2 (ev rfl) (ev rfl) (Sl.ext (Sl.ext hv_t_ RI.mono (Ext.gr (Ext.refl w) E4)) RI.mono hu) (by omega) hel2).mono ?_; rintro v u' ⟨b, of, cs, hv, hc, hR, hu'⟩; subst hu'
    exact ⟨⟨b, of, cs, hv, hc, hR⟩, Ext.refl _⟩
  refine RW_d (fun v15 => [(.slice p_t_ L_t_.length q_t_), (Pt index_b index_o), Ud, (.slice none 0 0), v7, v8, v9, v10, v11, v12, v13, v14, v15, Ud, Ud, Ud, Ud, Ud, Ud, Ud]) rfl (fun _ => rfl) (fun u hu hF => ?_) (fun v15 => ?_)
  · have h11_ : PtrR RI u v14 el2 := hF.1
    clear hF
    refine doesG_un rfl ?_
    obtain ⟨b11_, o11_, _, rfl, hc11_, rfl⟩ := h11_
    refine (does_load (u := (Iv el2)) (ev rfl) Try.isAgg2 (Cells.at hc11_ 0 rfl)).mono ?_; rintro _ _ ⟨rfl, rfl⟩
    exact ⟨rfl, Ext.refl _⟩
  refine RW_d (fun v16 => [(.slice p_t_ L_t_.length q_t_), (Pt index_b index_o), Ud, (.slice none 0 0), v7, v8, v9, v10, v11, v12, v13, v14, v15, v16, Ud, Ud, Ud, Ud, Ud, Ud]) rfl (fun _ => rfl) (fun u hu hF => ?_) (fun v16 => ?_)
  · have h9_ : v12 = (.map (some index_m)) := hF.1
    have h12_ : v15 = (Iv el2) := hF.2.1
    clear hF
    refine doesG_un rfl ?_
    obtain rfl := h9_
    obtain rfl := h12_
    refine (does_lookup (l := L_index) (p := el2) (z := (0 : Int)) kE2 Try.underlying58 Try.zeroValue2 (ev rfl) (ev rfl) (MapL.ext (MapL.ext hm_index E4) hu) (by first | exact hin _ (List.mem_of_getElem? (by assumption)))).mono ?_; rintro _ _ ⟨rfl, rfl⟩
    exact ⟨rfl, Ext.refl _⟩
  refine RW_d (fun v17 => [(.slice p_t_ L_t_.length q_t_), (Pt index_b index_o), Ud, (.slice none 0 0), v7, v8, v9, v10, v11, v12, v13, v14, v15, v16, v17, Ud, Ud, Ud, Ud, Ud]) rfl (fun _ => rfl) (fun u hu hF => ?_) (fun v17 => ?_)
  · clear hF
    refine doesG_un rfl ?_
    refine (does_load (u := (.map (some index_m))) (ev rfl) Try.isAgg58 (Cells.at ((hc_index.ext (Ext.gr (Ext.refl w) E4)).ext hu) 0 rfl)).mono ?_; rintro _ _ ⟨rfl, rfl⟩
    exact ⟨rfl, Ext.refl _⟩
  refine RW_d (fun v18 => [(.slice p_t_ L_t_.length q_t_), (Pt index_b index_o), Ud, (.slice none 0 0), v7, v8, v9, v10, v11, v12, v13, v14, v15, v16, v17, v18, Ud, Ud, Ud, Ud]) rfl (fun _ => rfl) (fun u hu hF => ?_) (fun v18 => ?_)
  · clear hF
    refine doesG_un rfl ?_
    refine (does_move (u := (.slice p_t_ L_t_.length q_t_)) (ev rfl)).mono ?_; rintro _ _ ⟨rfl, rfl⟩
    exact ⟨rfl, Ext.refl _⟩
  refine RW_d (fun v19 => [(.slice p_t_ L_t_.length q_t_), (Pt index_b index_o), Ud, (.slice none 0 0), v7, v8, v9, v10, v11, v12, v13, v14, v15, v16, v17, v18, v19, Ud, Ud, Ud]) rfl (fun _ => rfl) (fun u hu hF => ?_) (fun v19 => ?_)
  · have h15_ : v18 = (.slice p_t_ L_t_.length q_t_) := hF.1
    clear hF
    refine doesG_un rfl ?_
    obtain rfl := h15_
    refine (does_indexSl (R := RI) (i := 2) (xs := L_t_) (e := el3) Try.underlying27 Try.sizeOf2 (ev rfl) (ev rfl) (Sl.ext (Sl.ext hv_t_ RI.mono (Ext.gr (Ext.refl w) E4)) RI.mono hu) (by omega) hel3).mono ?_; rintro v u' ⟨b, of, cs, hv, hc, hR, hu'⟩; subst hu'
    exact ⟨⟨b, of, cs, hv, hc, hR⟩, Ext.refl _⟩
  refine RW_d (fun v20 => [(.slice p_t_ L_t_.length q_t_), (Pt index_b index_o), Ud, (.slice none 0 0), v7, v8, v9, v10, v11, v12, v13, v14, v15, v16, v17, v18, v19, v20, Ud, Ud]) rfl (fun _ => rfl) (fun u hu hF => ?_) (fun v20 => ?_)
  · have h16_ : PtrR RI u v19 el3 := hF.1
    clear hF
    refine doesG_un rfl ?_
    obtain ⟨b16_, o16_, _, rfl, hc16_, rfl⟩ := h16_
    refine (does_load (u := (Iv el3)) (ev rfl) Try.isAgg2 (Cells.at hc16_ 0 rfl)).mono ?_; rintro _ _ ⟨rfl, rfl⟩
    exact ⟨rfl, Ext.refl _⟩
  refine RW_d (fun v21 => [(.slice p_t_ L_t_.length q_t_), (Pt index_b index_o), Ud, (.slice none 0 0), v7, v8, v9, v10, v11, v12, v13, v14, v15, v16, v17, v18, v19, v20, v21, Ud]) rfl (fun _ => rfl) (fun u hu hF => ?_) (fun v21 => ?_)
  · have h14_ : v17 = (.map (some index_m)) := hF.1
    have h17_ : v20 = (Iv el3) := hF.2.1
    clear hF
    refine doesG_un rfl ?_
    obtain rfl := h14_
    obtain rfl := h17_
    refine (does_lookup (l := L_index) (p := el3) (z := (0 : Int)) kE2 Try.underlying58 Try.zeroValue2 (ev rfl) (ev rfl) (MapL.ext (MapL.ext hm_index E4) hu) (by first | exact hin _ (List.mem_of_getElem? (by assumption)))).mono ?_; rintro _ _ ⟨rfl, rfl⟩
    exact ⟨rfl, Ext.refl _⟩
  refine RW_d (fun v22 => [(.slice p_t_ L_t_.length q_t_), (Pt index_b index_o), Ud, (.slice none 0 0), v7, v8, v9, v10, v11, v12, v13, v14, v15, v16, v17, v18, v19, v20, v21, v22]) rfl (fun _ => rfl) (fun u hu hF => ?_) (fun v22 => ?_)
  · have h8_ : v11 = (Iv ((atM L_index el1).getD (0 : Int))) := hF.1
    have h13_ : v16 = (Iv ((atM L_index el2).getD (0 : Int))) := hF.2.1
    have h18_ : v21 = (Iv ((atM L_index el3).getD (0 : Int))) := hF.2.2.1
    clear hF
    refine doesG_un rfl ?_
    obtain rfl := h8_
    obtain rfl := h13_
    obtain rfl := h18_
    refine (does_buildSlice (e := 2) (parts' := [(0, (Iv ((atM L_index el1).getD (0 : Int)))), (1, (Iv ((atM L_index el2).getD (0 : Int)))), (2, (Iv ((atM L_index el3).getD (0 : Int))))]) (cells := [(Iv ((atM L_index el1).getD (0 : Int))), (Iv ((atM L_index el2).getD (0 : Int))), (Iv ((atM L_index el3).getD (0 : Int)))]) (evp rfl) (fun _ => by kernel_rfl)).mono ?_; rintro _ _ ⟨b, rfl, hb, hB, hx⟩
    exact ⟨⟨b, rfl, Nat.le_trans (Nat.le_trans (Below.size E4) (Below.size hu)) hb, hB⟩, hx⟩
  refine RW_fin ?_; intro w23 E24 hP25
  obtain ⟨⟨⟨⟨⟨⟨⟨⟨⟨⟨⟨⟨⟨⟨⟨⟨-, -⟩, -⟩, -⟩, -⟩, -⟩, -⟩, -⟩, -⟩, -⟩, -⟩, -⟩, -⟩, -⟩, -⟩, -⟩, q26⟩ := hP25
  have X27 := Ext.gr X6 E24
  have q26 : ∃ b : Nat, v22 = .slice (some ⟨b, 0, none⟩) 3 3 ∧ w.heap.size ≤ b ∧ Blk w23 b [(Iv ((atM L_index el1).getD (0 : Int))), (Iv ((atM L_index el2).getD (0 : Int))), (Iv ((atM L_index el3).getD (0 : Int)))] := q26
  obtain ⟨b28, rfl, hb29, hB30⟩ := q26
  have n31 : index_b < b28 := Nat.lt_of_lt_of_le (cell_lt (Cells.at hc_index 0 rfl)) hb29
  have n32 : index_m < b28 := Nat.lt_of_lt_of_le (MapL.lt hm_index) hb29
  have g33 : w.heap.size ≤ b28 := Nat.le_trans (Below.size (Ext.refl w)) hb29
  show wpList _ _ _ _ (fr [(.slice p_t_ L_t_.length q_t_), (Pt index_b index_o), Ud, (.slice none 0 0), v7, v8, v9, v10, v11, v12, v13, v14, v15, v16, v17, v18, v19, v20, v21, (.slice (some ⟨b28, 0, none⟩) 3 3)]) _
  refine q_is (l' := [(.slice p_t_ L_t_.length q_t_), (Pt index_b index_o), Ud, (.slice (some ⟨b28, 0, none⟩) 3 3), v7, v8, v9, v10, v11, v12, v13, v14, v15, v16, v17, v18, v19, v20, v21, (.slice (some ⟨b28, 0, none⟩) 3 3)]) rfl rfl (does_assign (u := (.slice (some ⟨b28, 0, none⟩) 3 3)) (ev rfl)) rfl ?_
  refine wpList_nil (hK2 _ _ ?_)
  refine wp_ret ?_
  refine ret_val (v := (.slice (some ⟨b28, 0, none⟩) 3 3)) (res_T rfl (slot rfl)) X27 ?_
  have x34 : ([((atM L_index el1).getD (0 : Int)), ((atM L_index el2).getD (0 : Int)), ((atM L_index el3).getD (0 : Int))]) = (reM L_index L_t_) := by (simp only [reM, iAt, hel1, hel2, hel3, Option.getD_some]; done)
  have x35 : ([((atM L_index el1).getD (0 : Int)), ((atM L_index el2).getD (0 : Int)), ((atM L_index el3).getD (0 : Int))]) = (reM L_index L_t_) := by (simp only [reM, iAt, hel1, hel2, hel3, Option.getD_some]; done)
  exact ⟨(.slice (some ⟨b28, 0, none⟩) 3 3), [b28], rfl, (Hang.castL (fun u hu => Sl_lit3 (Blk.hang hB30 g33 u hu) rfl rfl rfl) x34), (WL.cast (WL.one hB30 g33 (by simp) (Nat.le_refl _)) (congrArg List.length x35))⟩

/- impl.TrimMesh -/
theorem c_impl_TrimMesh (m : List Value) (A_m : MeshT) (w : World) (hv_m : RMeshT w A_m m) : Gives Try.prog 17 #[(.agg m.toArray)] w (fun v w' => ∃ cs_1 : List Value, ∃ Lw_2 : List Nat, v = (.tuple #[(.agg cs_1.toArray), (Bo (meshOk A_m))]) ∧ Hang w.heap.size w' (fun u => RMeshT u (trimM A_m) cs_1) ∧ WLM w.heap.size w' Lw_2 (cellN cs_1 0) (cellN cs_1 1) (trimM A_m)) := by
  obtain ⟨y1, y3, rfl, h2, h4⟩ := hv_m
  have hs7 := h2; have hs7l := Sl.len h2; obtain ⟨p5, q6, rfl⟩ := Sl.shape h2
  have hs10 := h4; have hs10l := Sl.len h4; obtain ⟨p8, q9, rfl⟩ := Sl.shape h4
  have hul := usedL_le A_m
  refine enter [(.agg #[(.slice p5 A_m.places.length q6), (.slice p8 A_m.tris.length q9)]), Ud, Ud, Ud, Ud, Ud, Ud, Ud, Ud, Ud, Ud, Ud, Ud, Ud, Ud, Ud, Ud, Ud, Ud, Ud, Ud, Ud, Ud, Ud, Ud, Ud, Ud, Ud, Ud, Ud, Ud, Ud, Ud, Ud, Ud, Ud, Ud, Ud] Try.func17 rfl Try.ntmps17 rfl ?_
  refine wp_seq_k fun K11 hK11 => ?_
  refine wp_region_lit ?_
  refine seqd rfl rfl (does_box (u := (.agg #[(.slice p5 A_m.places.length q6), (.slice p8 A_m.tris.length q9)])) (ev rfl)) ?_; rintro _ w16 ⟨b12, rfl, hb13, hB14, E15⟩
  have g17 : w.heap.size ≤ b12 := Nat.le_trans (Below.size (Ext.refl w)) hb13
  change Blk _ _ [(.slice p5 A_m.places.length q6), (.slice p8 A_m.tris.length q9)] at hB14
  have X18 := Ext.gr (Ext.refl w) E15
  show wpList _ _ _ _ (fr [_, _, _, _, _, _, _, _, _, _, _, _, _, _, _, _, _, _, _, _, _, _, _, _, _, _, _, _, _, _, _, _, _, _, _, _, _, _]) _
  refine seqd rfl rfl (does_alloc z32) ?_; rintro _ w23 ⟨b19, rfl, hb20, hB21, E22⟩
  have n24 : b12 < b19 := Nat.lt_of_lt_of_le (Blk.lt hB14) hb20
  have g25 : w.heap.size ≤ b19 := Nat.le_trans (Below.size X18) hb20
  change Blk _ _ [(.slice none 0 0), (.slice none 0 0)] at hB21
  have X26 := Ext.gr X18 E22
  show wpList _ _ _ _ (fr [_, _, _, _, _, _, _, _, _, _, _, _, _, _, _, _, _, _, _, _, _, _, _, _, _, _, _, _, _, _, _, _, _, _, _, _, _, _]) _
  refine q_is rfl rfl (does_assign (u := (Bo false)) (ev rfl)) (by dsimp only [List.set]; try rfl) ?_
  refine wpList_nil (hK11 _ _ ?_)
  refine wp_seq_k fun K27 hK27 => ?_
  refine wp_seq_k fun K28 hK28 => ?_
  refine wp_region_lit ?_
  refine q_is rfl rfl (does_loadAgg (cs := [(.slice p5 A_m.places.length q6), (.slice p8 A_m.tris.length q9)]) (ev rfl) Try.isAgg32 Try.sizeOf32 (Blk.cells (hB14.ext E22)) rfl) (by dsimp only [List.set]; try rfl) ?_
  refine seqd rfl rfl (does_call (args := #[(.agg #[(.slice p5 A_m.places.length q6), (.slice p8 A_m.tris.length q9)])]) cal29 (evs rfl) (c_impl_ValidMesh [(.slice p5 A_m.places.length q6), (.slice p8 A_m.tris.length q9)] A_m _ ⟨(.slice p5 A_m.places.length q6), (.slice p8 A_m.tris.length q9), rfl, (Sl.ext hs7 RV3.mono X26), (Sl.ext hs10 (RS.mono RI.mono) X26)⟩)) ?_; rintro _ w30 ⟨E29, rfl⟩
  have X31 := Ext.gr X26 E29
  show wpList _ _ _ _ (fr [_, _, _, _, _, _, _, _, _, _, _, _, _, _, _, _, _, _, _, _, _, _, _, _, _, _, _, _, _, _, _, _, _, _, _, _, _, _]) _
  refine q_is rfl rfl (does_not (ev rfl)) (by dsimp only [List.set]; try rfl) ?_
  refine wpList_nil (hK28 _ _ ?_)
  refine wp_cond_split (t := !(meshOk A_m)) (ev rfl) (fun c32 => ?_) (fun c32 => ?_)
  · rw [Bool.not_eq_true'] at c32
    have c32' := c32
    have hmf : meshOk A_m = false := c32
    refine wp_seq_k fun K33 hK33 => ?_
    refine wp_region_lit ?_
    refine q_is rfl rfl (does_build (parts' := []) (cells := #[(.slice none 0 0), (.slice none 0 0)]) (evp rfl) (by kernel_rfl)) (by dsimp only [List.set]; try rfl) ?_
    refine seqn rfl rfl (does_store (n := 2) (cs := [(.slice none 0 0), (.slice none 0 0)]) (u := (.agg #[(.slice none 0 0), (.slice none 0 0)])) (ev rfl) (ev rfl) Try.sizeOf32 rfl (hB21.ext E29) (Nat.le_of_ble_eq_true rfl) rfl) ?_; rintro _ w36 ⟨rfl, W34, hB35⟩
    change Blk _ _ [(.slice none 0 0), (.slice none 0 0)] at hB35
    have X37 := Below.wr X31 W34 g25
    refine q_is rfl rfl (does_assign (u := (Bo false)) (ev rfl)) (by dsimp only [List.set]; try rfl) ?_
    refine wpList_nil (hK33 _ _ ?_)
    refine wp_ret ?_
    dsimp only [Exit.then, Exit.inBlock]
    refine ret_val (v := (.tuple #[(.agg #[(.slice none 0 0), (.slice none 0 0)]), (Bo false)])) (res_CT rfl (slot rfl) (run_loadAgg (cs := [(.slice none 0 0), (.slice none 0 0)]) Try.isAgg32 Try.sizeOf32 (Blk.cells hB35) rfl) (slot rfl)) X37 ?_
    have x38 : (meshOk A_m) = false := by first | exact hmf | exact hmt | (rw [trimM_f hmf] <;> rfl) | (rw [trim_alike hmt] <;> first | rfl | ((try dsimp only); rw [List.take_of_length_le (show (usedL A_m).length ≤ k by omega)]; done) | ((try dsimp only); rw [show k = (usedL A_m).length by omega]; done) | ((try dsimp only); rw [List.take_of_length_le (show (usedL A_m).length ≤ k by omega), show k = (usedL A_m).length by omega] <;> rfl))
    have x39 : ([]) = ((trimM A_m).places) := by first | exact hmf | exact hmt | (rw [trimM_f hmf] <;> rfl) | (rw [trim_alike hmt] <;> first | rfl | ((try dsimp only); rw [List.take_of_length_le (show (usedL A_m).length ≤ k by omega)]; done) | ((try dsimp only); rw [show k = (usedL A_m).length by omega]; done) | ((try dsimp only); rw [List.take_of_length_le (show (usedL A_m).length ≤ k by omega), show k = (usedL A_m).length by omega] <;> rfl))
    have x40 : ([]) = ((trimM A_m).tris) := by first | exact hmf | exact hmt | (rw [trimM_f hmf] <;> rfl) | (rw [trim_alike hmt] <;> first | rfl | ((try dsimp only); rw [List.take_of_length_le (show (usedL A_m).length ≤ k by omega)]; done) | ((try dsimp only); rw [show k = (usedL A_m).length by omega]; done) | ((try dsimp only); rw [List.take_of_length_le (show (usedL A_m).length ≤ k by omega), show k = (usedL A_m).length by omega] <;> rfl))
    exact ⟨[(.slice none 0 0), (.slice none 0 0)], ([] ++ []), (by first | with_reducible rfl | rw [x38] | rfl), fun u hu => ⟨(.slice none 0 0), (.slice none 0 0), rfl, (Hang.castL (Sl.hang_nil _ _ _ _) x39) u hu, (Hang.castL (Sl.hang_nil _ _ _ _) x40) u hu⟩, (WLM.mk (C := w.heap.size) (WL.nil _ _ _) (WLL.nil _ _ _) (Nat.le_refl _) (fun _ hc => nomatch hc) (by first | rfl | (first | exact hmf | exact hmt | (rw [trimM_f hmf] <;> rfl) | (rw [trim_alike hmt] <;> first | rfl | ((try dsimp only); rw [List.take_of_length_le (show (usedL A_m).length ≤ k by omega)]; done) | ((try dsimp only); rw [show k = (usedL A_m).length by omega]; done) | ((try dsimp only); rw [List.take_of_length_le (show (usedL A_m).length ≤ k by omega), show k = (usedL A_m).length by omega] <;> rfl)))) (by first | rfl | (first | exact hmf | exact hmt | (rw [trimM_f hmf] <;> rfl) | (rw [trim_alike hmt] <;> first | rfl | ((try dsimp only); rw [List.take_of_length_le (show (usedL A_m).length ≤ k by omega)]; done) | ((try dsimp only); rw [show k = (usedL A_m).length by omega]; done) | ((try dsimp only); rw [List.take_of_length_le (show (usedL A_m).length ≤ k by omega), show k = (usedL A_m).length by omega] <;> rfl)))))⟩
  rw [Bool.not_eq_false'] at c32
  have c32' := c32
  have hmt : meshOk A_m = true := c32
  have hml := mesh_len hmt
  refine wp_skip (hK27 _ _ ?_)
  refine wp_seq_k fun K41 hK41 => ?_
  refine wp_region_lit ?_
  have n48 : b12 < w30.heap.size := Blk.lt ((hB14.ext E22).ext E29)
  have n49 : b19 < w30.heap.size := Blk.lt (hB21.ext E29)
  refine seqd rfl rfl (does_slice0 (e := 57) (fun _ => by kernel_rfl)) ?_; rintro _ w47 ⟨b42, rfl, hb43, hl44, hO45, E46⟩
  have X50 := Ext.gr X31 E46
  have hO51 := hO45 _ RV3 3
  have hH52 : Hang w30.heap.size w47 (fun u => Sl RV3 3 u (.slice (some ⟨b42, 0, none⟩) 0 0) ([])) := Own.hang hO51 RV3.flat (by decide) hb43 (Below.size E46)
  show wpList _ _ _ _ (fr [_, _, _, _, _, _, _, _, _, _, _, _, _, _, _, _, _, _, _, _, _, _, _, _, _, _, _, _, _, _, _, _, _, _, _, _, _, _]) _
  refine seqd rfl rfl (does_makeMap (κ := Int) (ν := Int) (Value.int .i64) (Value.int .i64) okK) ?_; rintro _ w57 ⟨bm53, rfl, hb54, hM55, E56⟩
  have X58 := Ext.gr X50 E56
  have n59 : b12 < bm53 := Nat.lt_of_lt_of_le (Blk.lt (((hB14.ext E22).ext E29).ext E46)) hb54
  have n60 : b19 < bm53 := Nat.lt_of_lt_of_le (Blk.lt ((hB21.ext E29).ext E46)) hb54
  have g61 : w.heap.size ≤ bm53 := Nat.le_trans (Nat.le_trans (Nat.le_trans (Nat.le_trans (Below.size E15) (Below.size E22)) (Below.size E29)) (Below.size E46)) hb54
  show wpList _ _ _ _ (fr [_, _, _, _, _, _, _, _, _, _, _, _, _, _, _, _, _, _, _, _, _, _, _, _, _, _, _, _, _, _, _, _, _, _, _, _, _, _]) _
  refine seqd rfl rfl (does_alloc z58) ?_; rintro _ w66 ⟨b62, rfl, hb63, hB64, E65⟩
  have n67 : b12 < b62 := Nat.lt_of_lt_of_le (Blk.lt ((((hB14.ext E22).ext E29).ext E46).ext E56)) hb63
  have n68 : b19 < b62 := Nat.lt_of_lt_of_le (Blk.lt (((hB21.ext E29).ext E46).ext E56)) hb63
  have n69 : bm53 < b62 := Nat.lt_of_lt_of_le (MapL.lt hM55) hb63
  have g70 : w.heap.size ≤ b62 := Nat.le_trans (Below.size X58) hb63
  change Blk _ _ [(.map none)] at hB64
  have X71 := Ext.gr X58 E65
  show wpList _ _ _ _ (fr [_, _, _, _, _, _, _, _, _, _, _, _, _, _, _, _, _, _, _, _, _, _, _, _, _, _, _, _, _, _, _, _, _, _, _, _, _, _]) _
  refine q_is rfl rfl (does_assign (u := (.slice (some ⟨b42, 0, none⟩) 0 0)) (ev rfl)) (by dsimp only [List.set]; try rfl) ?_
  refine seqn rfl rfl (does_store (n := 1) (cs := [(.map none)]) (u := (.map (some bm53))) (ev rfl) (ev rfl) Try.sizeOf58 rfl hB64 (Nat.le_of_ble_eq_true rfl) rfl) ?_; rintro _ w74 ⟨rfl, W72, hB73⟩
  change Blk _ _ [(.map (some bm53))] at hB73
  have X75 := Below.wr X71 W72 g70
  refine wpList_nil (hK41 _ _ ?_)
  refine wp_seq_k fun K76 hK76 => ?_
  refine wp_seq_k fun K77 hK77 => ?_
  refine wp_region_lit ?_
  refine seqd rfl rfl (does_call (args := #[(Pt b12 0)]) cal30 (evs rfl) (c_impl_Mesh_used b12 0 [(.slice p5 A_m.places.length q6), (.slice p8 A_m.tris.length q9)] A_m _ (Blk.cells ((((((hB14.ext E22).ext E29).ext E46).ext E56).ext E65).wr W72 (Nat.ne_of_lt n67))) ⟨(.slice p5 A_m.places.length q6), (.slice p8 A_m.tris.length q9), rfl, (Sl.ext hs7 RV3.mono X75), (Sl.ext hs10 (RS.mono RI.mono) X75)⟩ (by exact hmt))) ?_; rintro _ w79 ⟨E78, ⟨y81, Lw82, rfl, hh80, hw83⟩⟩
  have X84 := Ext.gr X75 E78
  have n85 : b12 < w74.heap.size := Blk.lt ((((((hB14.ext E22).ext E29).ext E46).ext E56).ext E65).wr W72 (Nat.ne_of_lt n67))
  have n86 : b19 < w74.heap.size := Blk.lt (((((hB21.ext E29).ext E46).ext E56).ext E65).wr W72 (Nat.ne_of_lt n68))
  have n87 : bm53 < w74.heap.size := MapL.lt (MapL.kl (MapL.ext hM55 E65) (KpL.of_wr W72) (ninS (Nat.ne_of_lt n69) nin0))
  have n88 : b62 < w74.heap.size := Blk.lt hB73
  obtain ⟨p89, q90, rfl⟩ := Sl.shape hh80.get
  have hw91 : WL 1 w74.heap.size w79 Lw82 (.slice p89 ((usedL A_m).length) q90) (usedL A_m).length := hw83
  show wpList _ _ _ _ (fr [_, _, _, _, _, _, _, _, _, _, _, _, _, _, _, _, _, _, _, _, _, _, _, _, _, _, _, _, _, _, _, _, _, _, _, _, _, _]) _
  refine q_is rfl rfl (does_len_slice Try.underlying27 (ev rfl)) (by dsimp only [List.set]; try rfl) ?_
  refine q_is rfl rfl (does_move (u := (Iv 0)) (ev rfl)) (by dsimp only [List.set]; try rfl) ?_
  refine wpList_nil (hK77 _ _ ?_)
  refine wp_block ?_
  have n97 : b12 < w79.heap.size := Blk.lt (((((((hB14.ext E22).ext E29).ext E46).ext E56).ext E65).wr W72 (Nat.ne_of_lt n67)).ext E78)
  have n98 : b19 < w79.heap.size := Blk.lt ((((((hB21.ext E29).ext E46).ext E56).ext E65).wr W72 (Nat.ne_of_lt n68)).ext E78)
  have n99 : bm53 < w79.heap.size := MapL.lt (MapL.ext (MapL.kl (MapL.ext hM55 E65) (KpL.of_wr W72) (ninS (Nat.ne_of_lt n69) nin0)) E78)
  have n100 : b62 < w79.heap.size := Blk.lt (hB73.ext E78)
  obtain ⟨gg93, hg94, hg95, hO96⟩ := Own.start' hO51 (Own.same hO51 RV3.flat (((((Same.refl _ _).ext E56).ext E65).wr W72 (.inr (Nat.le_trans (Below.size E56) hb63))).ext E78) hb43 (Below.size E46))
  have hN101 : w30.heap.size ≤ gg93 := by rcases hg94 with h | h; exact h ▸ hb43; exact Nat.le_trans (Below.size E46) h
  have g102 : w.heap.size ≤ gg93 := Nat.le_trans (Nat.le_trans (Nat.le_trans (Below.size E15) (Below.size E22)) (Below.size E29)) hN101
  have hg103 : gg93 < w47.heap.size := by rcases hg95 with h | h; exact h ▸ Nat.lt_of_lt_of_le hl44 (Nat.le_refl _); exact h
  have n104 : gg93 < b62 := Nat.lt_of_lt_of_le hg103 (Nat.le_trans (Below.size E56) hb63)
  have n105 : gg93 < w74.heap.size := Nat.lt_of_lt_of_le hg103 (Nat.le_trans (Nat.le_trans (Below.size E56) (Below.size E65)) (Nat.le_of_eq (Eq.symm (Wr.size W72))))
  refine loop_ghost (σ := Nat) (fun k a w' => ∃ u92 : Nat → Value, ∃ y4 : Value, a = fr [(.agg #[(.slice p5 A_m.places.length q6), (.slice p8 A_m.tris.length q9)]), (Pt b12 0), (Pt b19 0), (Bo false), y4, (Pt b62 0), (u92 6), (u92 7), (.agg #[(.slice p5 A_m.places.length q6), (.slice p8 A_m.tris.length q9)]), (Bo (meshOk A_m)), (Bo (!(meshOk A_m))), Ud, (.slice (some ⟨b42, 0, none⟩) 0 0), (.map (some bm53)), (.slice p89 ((usedL A_m).length) q90), (Iv (((usedL A_m).length) : Int)), (Iv (k : Int)), (u92 17), (u92 18), (u92 19), (u92 20), (u92 21), (u92 22), (u92 23), (u92 24), (u92 25), (u92 26), (u92 27), (u92 28), (u92 29), (u92 30), (u92 31), (u92 32), Ud, Ud, Ud, Ud, Ud] ∧ KpL [bm53, gg93] w79 w' ∧ MapL (Value.int .i64) (Value.int .i64) okK w' bm53 (idxTo (usedL A_m) k) ∧ Own RV3 3 57 gg93 w79.heap.size w' y4 (((usedL A_m).take k).map (plA A_m)) ∧ (k ≤ (usedL A_m).length)) (fun k => (usedL A_m).length - k) 0 ?_ ?_
  · refine ⟨fun t => (([(.agg #[(.slice p5 A_m.places.length q6), (.slice p8 A_m.tris.length q9)]), (Pt b12 0), (Pt b19 0), (Bo false), (.slice (some ⟨b42, 0, none⟩) 0 0), (Pt b62 0), Ud, Ud, (.agg #[(.slice p5 A_m.places.length q6), (.slice p8 A_m.tris.length q9)]), (Bo (meshOk A_m)), (Bo (!(meshOk A_m))), Ud, (.slice (some ⟨b42, 0, none⟩) 0 0), (.map (some bm53)), (.slice p89 ((usedL A_m).length) q90), (Iv (((usedL A_m).length) : Int)), (Iv 0), Ud, Ud, Ud, Ud, Ud, Ud, Ud, Ud, Ud, Ud, Ud, Ud, Ud, Ud, Ud, Ud, Ud, Ud, Ud, Ud, Ud] : List Value)[t]?).getD undef, (.slice (some ⟨b42, 0, none⟩) 0 0), rfl, KpL.refl _ _, (MapL.cast (MapL.ext (MapL.kl (MapL.ext hM55 E65) (KpL.of_wr W72) (ninS (Nat.ne_of_lt n69) nin0)) E78) (by (try dsimp only); try rfl)), (Own.cast hO96 (by rfl)), ?_⟩
    exact Nat.zero_le _
  · rintro k a w106 ⟨u92, y4, rfl, E107, hMp0, hO109, hk⟩
    have X110 := Below.kl X84 E107 (allS g61 (allS g102 all0)) (Nat.le_refl _)
    have hM111 := hMp0; clear hMp0
    obtain ⟨p112, q113, rfl⟩ := Own.shape hO109
    have hH114 : Hang w30.heap.size w106 (fun u => Sl RV3 3 u (.slice p112 ((((usedL A_m).take k).map (plA A_m)).length) q113) (((usedL A_m).take k).map (plA A_m))) := Own.hang hO109 RV3.flat (by decide) hN101 (Nat.le_trans (Nat.le_trans (Nat.le_trans (Nat.le_trans (Below.size E46) (Below.size E56)) (Below.size E65)) (Nat.le_of_eq (Eq.symm (Wr.size W72)))) (Below.size E78))
    refine wp_seq_k fun K115 hK115 => ?_
    refine wp_region_lit ?_
    refine q_is rfl rfl (does_icmp (p := (k : Int)) (q := (((usedL A_m).length) : Int)) (.inr (.inr (.inl rfl))) (ev rfl) (ev rfl)) (by dsimp only [List.set]; try rfl) ?_
    refine wpList_nil (hK115 _ _ ?_)
    refine wp_seq_k fun K116 hK116 => ?_
    refine wp_cond_split (t := icmp .lss (k : Int) (((usedL A_m).length) : Int)) (ev rfl) (fun c117 => ?_) (fun c117 => ?_)
    · have c117' := c117
      (try simp only [icmp, Bool.and_eq_true, Bool.or_eq_true, Bool.and_eq_false_iff, Bool.or_eq_false_iff, Bool.not_eq_true', Bool.not_eq_false', decide_eq_true_eq, decide_eq_false_iff_not, beq_iff_eq, bne_iff_ne, beq_eq_false_iff_ne, bne_eq_false_iff_eq] at c117')
      refine wp_skip (hK116 _ _ ?_)
      refine wp_seq_k fun K118 hK118 => ?_
      refine wp_block ?_
      refine wp_seq_k fun K119 hK119 => ?_
      refine wp_region_lit ?_
      refine q_is rfl rfl (does_move (u := (Iv (k : Int))) (ev rfl)) (by dsimp only [List.set]; try rfl) ?_
      obtain ⟨el1, hel1⟩ : ∃ e, (usedL A_m)[k]? = some e := ⟨_, List.getElem?_eq_getElem (by omega)⟩
      refine seqd rfl rfl (does_indexSl (R := RI) (i := (k : Int)) (xs := (usedL A_m)) (e := el1) Try.underlying27 Try.sizeOf2 (ev rfl) (ev rfl) (hh80 _ ((Same.refl _ _).kl E107 (allS (.inl n87) (allS (.inl n105) all0)))) (by omega) hel1) ?_; rintro _ w106 ⟨b120, o121, _, rfl, hc123, rfl, rfl⟩
      show wpList _ _ _ _ (fr [_, _, _, _, _, _, _, _, _, _, _, _, _, _, _, _, _, _, _, _, _, _, _, _, _, _, _, _, _, _, _, _, _, _, _, _, _, _]) _
      refine q_is rfl rfl (does_load (u := (Iv el1)) (ev rfl) Try.isAgg2 (Cells.at hc123 0 rfl)) (by dsimp only [List.set]; try rfl) ?_
      refine q_is rfl rfl (does_assign (u := (Iv (k : Int))) (ev rfl)) (by dsimp only [List.set]; try rfl) ?_
      refine q_is rfl rfl (does_assign (u := (Iv el1)) (ev rfl)) (by dsimp only [List.set]; try rfl) ?_
      refine wpList_nil (hK119 _ _ ?_)
      have n131 : b12 < w106.heap.size := Blk.lt ((((((((hB14.ext E22).ext E29).ext E46).ext E56).ext E65).wr W72 (Nat.ne_of_lt n67)).ext E78).kl E107 (ninS (Nat.ne_of_lt n59) (ninS (Nat.ne_of_lt (Nat.lt_of_lt_of_le n48 hN101)) nin0)))
      have n132 : b19 < w106.heap.size := Blk.lt (((((((hB21.ext E29).ext E46).ext E56).ext E65).wr W72 (Nat.ne_of_lt n68)).ext E78).kl E107 (ninS (Nat.ne_of_lt n60) (ninS (Nat.ne_of_lt (Nat.lt_of_lt_of_le n49 hN101)) nin0)))
      have n133 : b62 < w106.heap.size := Blk.lt ((hB73.ext E78).kl E107 (ninS (Nat.ne_of_gt n69) (ninS (Nat.ne_of_gt n104) nin0)))
      have n134 : bm53 < w106.heap.size := MapL.lt hM111
      have n135 : b120 < w106.heap.size := cell_lt (Cells.at hc123 0 rfl)
      obtain ⟨gg127, hg128, hg129, hA130⟩ := Own.startA hO109 hO109
      have hN136 : w30.heap.size ≤ gg127 := by rcases hg128 with h | h; exact h ▸ hN101; exact Nat.le_trans (Nat.le_trans (Nat.le_trans (Nat.le_trans (Nat.le_trans (Below.size E46) (Below.size E56)) (Below.size E65)) (Nat.le_of_eq (Eq.symm (Wr.size W72)))) (Below.size E78)) h
      have g137 : w.heap.size ≤ gg127 := Nat.le_trans (Nat.le_trans (Nat.le_trans (Below.size E15) (Below.size E22)) (Below.size E29)) hN136
      have n138 : b12 ≠ gg127 := hg128.elim (fun h => by rw [h]; exact (Nat.ne_of_lt (Nat.lt_of_lt_of_le n48 hN101))) (fun h => Nat.ne_of_lt (Nat.lt_of_lt_of_le n97 h))
      have n139 : b19 ≠ gg127 := hg128.elim (fun h => by rw [h]; exact (Nat.ne_of_lt (Nat.lt_of_lt_of_le n49 hN101))) (fun h => Nat.ne_of_lt (Nat.lt_of_lt_of_le n98 h))
      have n140 : b62 ≠ gg127 := hg128.elim (fun h => by rw [h]; exact (Nat.ne_of_gt n104)) (fun h => Nat.ne_of_lt (Nat.lt_of_lt_of_le n100 h))
      have hg141 : gg127 < w106.heap.size := by rcases hg129 with h | h; exact h ▸ Nat.lt_of_lt_of_le hg103 (Nat.le_trans (Nat.le_trans (Nat.le_trans (Nat.le_trans (Below.size E56) (Below.size E65)) (Nat.le_of_eq (Eq.symm (Wr.size W72)))) (Below.size E78)) (KpL.size E107)); exact h
      have hH142 : Hang w30.heap.size w106 (fun u => Sl RV3 3 u (.slice p112 ((((usedL A_m).take k).map (plA A_m)).length) q113) (((usedL A_m).take k).map (plA A_m))) := Own.hang (hA130 _) RV3.flat (by decide) hN136 (Nat.le_trans (Nat.le_trans (Nat.le_trans (Nat.le_trans (Nat.le_trans (Below.size E46) (Below.size E56)) (Below.size E65)) (Nat.le_of_eq (Eq.symm (Wr.size W72)))) (Below.size E78)) (KpL.size E107))
      have hjb := usedL_in A_m _ (List.mem_of_getElem? hel1)
      obtain ⟨el2, hel2⟩ : ∃ e, A_m.places[el1.toNat]? = some e := ⟨_, List.getElem?_eq_getElem (by omega)⟩
      refine region_any2 [gg127] [0, 0, 0, 0, 8, 0, 56, 120, 248, 508, 0, 1020, 4095] [0] (
        [FactW.pure [] [0] [0] true (fun v => v = (.map (some bm53))),
          FactW.pure [] [0] [0] true (fun v => v = (Iv el1)),
          FactW.pure [] [] [0] true (fun v => v = (.slice p112 ((((usedL A_m).take k).map (plA A_m)).length) q113)),
          FactW.pure [] [] [0] true (fun v => v = (Pt b12 0)),
          FactW.pure [3] [] [0] true (fun v => v = (.slice p5 A_m.places.length q6)),
          FactW.pure [] [] [0] true (fun v => v = (Iv el1)),
          FactW.pure [4, 5] [] [0] true (fun v => PtrR RV3 w v el2),
          FactW.pure [6] [] [0] true (fun v => ∃ cs_1 : List Value, v = (.agg cs_1.toArray) ∧ RV3 w el2 cs_1),
          FactW.mem [7] [] [] [] false (fun v w' => ∃ b : Nat, ∃ r_1 : Nat, ∃ r_2 : Nat, ∃ r_3 : Nat, v = .slice (some ⟨b, 0, none⟩) 1 1 ∧ w106.heap.size ≤ b ∧ Blk w' b [(Fl r_1), (Fl r_2), (Fl r_3)] ∧ cf .f32 r_1 = el2.x ∧ cf .f32 r_2 = el2.y ∧ cf .f32 r_3 = el2.z) (by rintro v w1 w2 hx' ⟨b, z0, z1, z2, rfl, hb, hB, k0, k1, k2⟩; have hx := KpL.toExt hx'; exact ⟨b, z0, z1, z2, rfl, hb, (hB.ext hx), k0, k1, k2⟩),
          FactW.mem [2, 8] [] [0] [] true (fun v w' => Own RV3 3 57 gg127 w106.heap.size w' v ((((usedL A_m).take k).map (plA A_m)) ++ [el2])) (by intro v w1 w2 hx h; exact Own.ext h RV3.flat (KpL.toExt hx)),
          FactW.pure [] [0] [0] true (fun v => v = (Iv (k : Int))),
          FactW.mem [9] [0] [] [] true (fun v w' => Own RV3 3 57 gg127 w106.heap.size w' v ((((usedL A_m).take k).map (plA A_m)) ++ [el2])) (by intro v w1 w2 hx h; exact Own.ext h RV3.flat (KpL.toExt hx))]) mixed (by kernel_rfl) ?_
      obtain ⟨w124, hw126⟩ : ∃ w', w' = World.drew w106 := ⟨_, rfl⟩; rw [← hw126]; have E125 : Ext w106 w124 := by rw [hw126]; exact Ext.draw _
      clear hw126
      have X143 := Ext.gr X110 E125
      refine RW2_d _ rfl (fun v => by dsimp only [List.set]; try rfl) (fun u hu hF => ?_) (fun v144 => ?_)
      · replace hu : KpL [gg127] _ _ := hu
        clear hF
        refine doesG_un rfl ?_
        refine (does_load (u := (.map (some bm53))) (ev rfl) Try.isAgg58 (Cells.at (Blk.cells ((((hB73.ext E78).kl E107 (ninS (Nat.ne_of_gt n69) (ninS (Nat.ne_of_gt n104) nin0))).ext E125).kl hu (ninS n140 nin0))) 0 rfl)).mono ?_; rintro _ _ ⟨rfl, rfl⟩
        exact ⟨rfl, KpL.refl _ _⟩
      refine RW2_d _ rfl (fun v => by dsimp only [List.set]; try rfl) (fun u hu hF => ?_) (fun v145 => ?_)
      · replace hu : KpL [gg127] _ _ := hu
        clear hF
        refine doesG_un rfl ?_
        refine (does_move (u := (Iv el1)) (ev rfl)).mono ?_; rintro _ _ ⟨rfl, rfl⟩
        exact ⟨rfl, KpL.refl _ _⟩
      refine RW2_d _ rfl (fun v => by dsimp only [List.set]; try rfl) (fun u hu hF => ?_) (fun v146 => ?_)
      · replace hu : KpL [] _ _ := hu
        clear hF
        refine doesG_un rfl ?_
        refine (does_move (u := (.slice p112 ((((usedL A_m).take k).map (plA A_m)).length) q113)) (ev rfl)).mono ?_; rintro _ _ ⟨rfl, rfl⟩
        exact ⟨rfl, KpL.refl _ _⟩
      refine RW2_d _ rfl (fun v => by dsimp only [List.set]; try rfl) (fun u hu hF => ?_) (fun v147 => ?_)
      · replace hu : KpL [] _ _ := hu
        clear hF
        refine doesG_un rfl ?_
        refine (does_fieldAddr (ev rfl) fa32_0).mono ?_; rintro _ _ ⟨rfl, rfl⟩
        exact ⟨rfl, KpL.refl _ _⟩
      refine RW2_d _ rfl (fun v => by dsimp only [List.set]; try rfl) (fun u hu hF => ?_) (fun v148 => ?_)
      · replace hu : KpL [] _ _ := hu
        have h24_ : v147 = (Pt b12 0) := hF.1
        clear hF
        refine doesG_un rfl ?_
        obtain rfl := h24_
        refine (does_load (u := (.slice p5 A_m.places.length q6)) (ev rfl) Try.isAgg30 (Cells.at (Blk.cells ((((((((((hB14.ext E22).ext E29).ext E46).ext E56).ext E65).wr W72 (Nat.ne_of_lt n67)).ext E78).kl E107 (ninS (Nat.ne_of_lt n59) (ninS (Nat.ne_of_lt (Nat.lt_of_lt_of_le n48 hN101)) nin0))).ext E125).ext (KpL.toExt hu))) 0 rfl)).mono ?_; rintro _ _ ⟨rfl, rfl⟩
        exact ⟨rfl, KpL.refl _ _⟩
      refine RW2_d _ rfl (fun v => by dsimp only [List.set]; try rfl) (fun u hu hF => ?_) (fun v149 => ?_)
      · replace hu : KpL [] _ _ := hu
        clear hF
        refine doesG_un rfl ?_
        refine (does_move (u := (Iv el1)) (ev rfl)).mono ?_; rintro _ _ ⟨rfl, rfl⟩
        exact ⟨rfl, KpL.refl _ _⟩
      refine RW2_d _ rfl (fun v => by dsimp only [List.set]; try rfl) (fun u hu hF => ?_) (fun v150 => ?_)
      · replace hu : KpL [] _ _ := hu
        have h25_ : v148 = (.slice p5 A_m.places.length q6) := hF.1
        have h26_ : v149 = (Iv el1) := hF.2.1
        clear hF
        refine doesG_un rfl ?_
        obtain rfl := h25_
        obtain rfl := h26_
        refine (does_indexSl0 (R := RV3) (i := el1) (xs := A_m.places) (e := el2) Try.underlying30 Try.sizeOf57 (ev rfl) (ev rfl) hs7 (by omega) hel2).mono ?_; rintro v u' ⟨b, of, cs, hv, hc, hR, hu'⟩; subst hu'
        exact ⟨⟨b, of, cs, hv, hc, hR⟩, KpL.refl _ _⟩
      refine RW2_d _ rfl (fun v => by dsimp only [List.set]; try rfl) (fun u hu hF => ?_) (fun v151 => ?_)
      · replace hu : KpL [] _ _ := hu
        have h27_ : PtrR RV3 w v150 el2 := hF.1
        clear hF
        refine doesG_un rfl ?_
        obtain ⟨b27_, o27_, _, rfl, hc27_, ⟨r27_1, r27_3, r27_5, rfl, h27_2, h27_4, h27_6⟩⟩ := h27_
        refine (does_loadAgg (cs := [(Fl r27_1), (Fl r27_3), (Fl r27_5)]) (ev rfl) Try.isAgg57 Try.sizeOf57 (hc27_.ext (Ext.gr (Ext.gr X110 E125) (KpL.toExt hu))) rfl).mono ?_; rintro _ _ ⟨rfl, rfl⟩
        exact ⟨⟨[(Fl r27_1), (Fl r27_3), (Fl r27_5)], rfl, ⟨r27_1, r27_3, r27_5, rfl, (by first | assumption | rfl), (by first | assumption | rfl), (by first | assumption | rfl)⟩⟩, KpL.refl _ _⟩
      refine RW2_d _ rfl (fun v => by dsimp only [List.set]; try rfl) (fun u hu hF => ?_) (fun v152 => ?_)
      · replace hu : KpL [] _ _ := hu
        have h28_ : ∃ cs_1 : List Value, v151 = (.agg cs_1.toArray) ∧ RV3 w el2 cs_1 := hF.1
        clear hF
        refine doesG_un rfl ?_
        obtain ⟨_, rfl, ⟨r28_1, r28_3, r28_5, rfl, h28_2, h28_4, h28_6⟩⟩ := h28_
        refine (does_buildSlice (e := 57) (parts' := [(0, (.agg #[(Fl r28_1), (Fl r28_3), (Fl r28_5)]))]) (cells := [(Fl r28_1), (Fl r28_3), (Fl r28_5)]) (evp rfl) (fun _ => by kernel_rfl)).mono ?_; rintro _ _ ⟨b, rfl, hb, hB, hx⟩
        exact ⟨⟨b, r28_1, r28_3, r28_5, rfl, Nat.le_trans (Nat.le_trans (Below.size E125) (KpL.size hu)) hb, hB, (by simp only [h28_2, h28_4, h28_6]), (by simp only [h28_2, h28_4, h28_6]), (by simp only [h28_2, h28_4, h28_6])⟩, (KpL.of_ext hx)⟩
      refine RW2_d _ rfl (fun v => by dsimp only [List.set]; try rfl) (fun u hu hF => ?_) (fun v153 => ?_)
      · replace hu : KpL [] _ _ := hu
        have h23_ : v146 = (.slice p112 ((((usedL A_m).take k).map (plA A_m)).length) q113) := hF.1
        have h29_ : ∃ b : Nat, ∃ r_1 : Nat, ∃ r_2 : Nat, ∃ r_3 : Nat, v152 = .slice (some ⟨b, 0, none⟩) 1 1 ∧ w106.heap.size ≤ b ∧ Blk u b [(Fl r_1), (Fl r_2), (Fl r_3)] ∧ cf .f32 r_1 = el2.x ∧ cf .f32 r_2 = el2.y ∧ cf .f32 r_3 = el2.z := hF.2.1
        clear hF
        refine doesG_un rfl ?_
        obtain rfl := h23_
        obtain ⟨b29_, r29_1, r29_2, r29_3, rfl, hb29_, hB29_, e29_0, e29_1, e29_2⟩ := h29_
        refine (does_appendA (R := RV3) (k := 3) (g1 := gg127) (N0 := w106.heap.size) (xs := (((usedL A_m).take k).map (plA A_m))) (ys := [el2]) Try.underlying30 inf57 rfl (by decide) (ev rfl) (ev rfl) (Own.klA (Own.klA hA130 RV3.flat (KpL.of_ext (L := []) E125) nin0) RV3.flat (KpL.of_ext (L := []) (KpL.toExt hu)) nin0) RV3.flat hB29_ rfl rfl rfl (fun i x hi => lit1 (R := RV3) (cs := [(Fl r29_1), (Fl r29_2), (Fl r29_3)]) (y := el2)  (⟨r29_1, r29_2, r29_3, rfl, (by assumption), (by assumption), (by assumption)⟩) i x hi) (by first | (simp only [List.length_append, List.length_cons, List.length_nil]; omega) | (simp only [List.length_append, List.length_map, List.length_take, List.length_cons, List.length_nil]; omega)) (Nat.le_trans (Below.size E125) (KpL.size hu))).mono ?_; rintro v u' ⟨hK, hO⟩
        exact ⟨hO, hK⟩
      refine RW2_d _ rfl (fun v => by dsimp only [List.set]; try rfl) (fun u hu hF => ?_) (fun v154 => ?_)
      · replace hu : KpL [gg127] _ _ := hu
        clear hF
        refine doesG_un rfl ?_
        refine (does_move (u := (Iv (k : Int))) (ev rfl)).mono ?_; rintro _ _ ⟨rfl, rfl⟩
        exact ⟨rfl, KpL.refl _ _⟩
      refine RW2_d _ rfl (fun v => by dsimp only [List.set]; try rfl) (fun u hu hF => ?_) (fun v155 => ?_)
      · replace hu : KpL [gg127] _ _ := hu
        have h30_ : Own RV3 3 57 gg127 w106.heap.size u v153 ((((usedL A_m).take k).map (plA A_m)) ++ [el2]) := hF.1
        clear hF
        refine doesG_un rfl ?_
        refine (does_assign (ev rfl)).mono ?_; rintro _ _ ⟨rfl, rfl⟩; exact ⟨h30_, KpL.refl _ _⟩
      refine RW2_fin ?_; intro w156 E157 hP158; replace E157 : KpL [gg127] _ _ := E157
      obtain ⟨⟨⟨⟨⟨⟨⟨⟨⟨⟨⟨⟨-, q159⟩, q160⟩, -⟩, -⟩, -⟩, -⟩, -⟩, -⟩, -⟩, -⟩, q161⟩, q162⟩ := hP158
      have X163 := Below.kl X143 E157 (allS g137 all0) (Nat.le_refl _)
      have q159 : v144 = (.map (some bm53)) := q159 rfl
      obtain rfl := q159
      have q160 : v145 = (Iv el1) := q160 rfl
      obtain rfl := q160
      have q161 : v154 = (Iv (k : Int)) := q161 rfl
      obtain rfl := q161
      have q162 : Own RV3 3 57 gg127 w106.heap.size w156 v155 ((((usedL A_m).take k).map (plA A_m)) ++ [el2]) := q162 rfl
      obtain ⟨p164, q165, rfl⟩ := Own.shape q162
      have hH166 : Hang w30.heap.size w156 (fun u => Sl RV3 3 u (.slice p164 (((((usedL A_m).take k).map (plA A_m)) ++ [el2]).length) q165) ((((usedL A_m).take k).map (plA A_m)) ++ [el2])) := Own.hang q162 RV3.flat (by decide) hN136 (Nat.le_trans (Nat.le_trans (Nat.le_trans (Nat.le_trans (Nat.le_trans (Below.size E46) (Below.size E56)) (Below.size E65)) (Nat.le_of_eq (Eq.symm (Wr.size W72)))) (Below.size E78)) (KpL.size E107))
      show wpList _ _ _ _ (fr [_, _, _, _, _, _, _, _, _, _, _, _, _, _, _, _, _, _, _, _, _, _, _, _, _, _, _, _, _, _, _, _, _, _, _, _, _, _]) _
      refine seqn rfl rfl (does_mapUpdate (l := (idxTo (usedL A_m) k)) (p := el1) (v := (k : Int)) kE2 Try.underlying58 (ev rfl) (ev rfl) (ev rfl) (MapL.kl (MapL.ext hM111 E125) E157 (ninS (by omega) nin0)) (by first | assumption | (refine ⟨?_, ?_⟩ <;> omega))) ?_; rintro _ w169 ⟨rfl, K167, hM168⟩
      have X170 := Below.kl X163 K167 (allS g61 all0) (Nat.le_refl _)
      show wpList _ _ _ _ (fr [_, _, _, _, _, _, _, _, _, _, _, _, _, _, _, _, _, _, _, _, _, _, _, _, _, _, _, _, _, _, _, _, _, _, _, _, _, _]) _
      refine wpList_nil (hK118 _ _ ?_)
      refine wp_region_lit ?_
      refine q_is rfl rfl (does_iarith (p := (k : Int)) (q := 1) (r := (k : Int) + 1) (ev rfl) (ev rfl) (.inl ⟨rfl, (in_i64 (by omega) (by omega)).symm⟩)) (by dsimp only [List.set]; try rfl) ?_
      refine q_is rfl rfl (does_move (u := (Iv ((k : Int) + 1))) (ev rfl)) (by dsimp only [List.set]; try rfl) ?_
      refine wpList_nil ?_
      have hM171 := MapL.cast (l' := ((fun (k : Nat) => idxTo (usedL A_m) k) (k + 1))) hM168 (by (try dsimp only); exact idxTo_succ hel1)
      have hO172 := Own.cast (ys := ((fun (k : Nat) => ((usedL A_m).take k).map (plA A_m)) (k + 1))) (Own.back (Own.kl q162 RV3.flat K167 (allS ⟨(by omega), .inl n134⟩ all0)) hg128 (KpL.size E107)) (by (try dsimp only); (rw [← map_take hel1, plA_at hel2] <;> first | rfl | (simp only [hel1, hel2]; done)))
      refine ⟨k + 1, ⟨fun t => (([(.agg #[(.slice p5 A_m.places.length q6), (.slice p8 A_m.tris.length q9)]), (Pt b12 0), (Pt b19 0), (Bo false), (.slice p164 (((((usedL A_m).take k).map (plA A_m)) ++ [el2]).length) q165), (Pt b62 0), (Iv (k : Int)), (Iv el1), (.agg #[(.slice p5 A_m.places.length q6), (.slice p8 A_m.tris.length q9)]), (Bo (meshOk A_m)), (Bo (!(meshOk A_m))), Ud, (.slice (some ⟨b42, 0, none⟩) 0 0), (.map (some bm53)), (.slice p89 ((usedL A_m).length) q90), (Iv (((usedL A_m).length) : Int)), (Iv ((k : Int) + 1)), (Bo (icmp .lss (k : Int) (((usedL A_m).length) : Int))), (Iv (k : Int)), (Pt b120 o121), (Iv el1), (.map (some bm53)), (Iv el1), v146, v147, v148, v149, v150, v151, v152, v153, (Iv (k : Int)), (Iv ((k : Int) + 1)), Ud, Ud, Ud, Ud, Ud] : List Value)[t]?).getD undef, (.slice p164 (((((usedL A_m).take k).map (plA A_m)) ++ [el2]).length) q165), ?_, (KpL.more (KpL.more (KpL.ext E107 E125) E157 (allS (hg128.imp (fun h => by simp [h]) id) all0)) K167 (allS (.inl (by simp)) all0)), hM171, hO172, ?_⟩, ?_⟩
      · first | rfl | (simp only [Int.natCast_add, Int.natCast_one]; rfl)
      · omega
      · omega
    have c117' := c117
    (try simp only [icmp, Bool.and_eq_true, Bool.or_eq_true, Bool.and_eq_false_iff, Bool.or_eq_false_iff, Bool.not_eq_true', Bool.not_eq_false', decide_eq_true_eq, decide_eq_false_iff_not, beq_iff_eq, bne_iff_ne, beq_eq_false_iff_ne, bne_eq_false_iff_eq] at c117')
    refine wp_exit ?_
    refine hK76 _ _ ?_
    refine wp_seq_k fun K173 hK173 => ?_
    refine wp_region_lit ?_
    refine q_is rfl rfl (does_move (u := (.slice p112 ((((usedL A_m).take k).map (plA A_m)).length) q113)) (ev rfl)) (by dsimp only [List.set]; try rfl) ?_
    refine q_is rfl rfl (does_fieldAddr (ev rfl) fa32_1) (by dsimp only [List.set]; try rfl) ?_
    refine q_is rfl rfl (does_load (u := (.slice p8 A_m.tris.length q9)) (ev rfl) Try.isAgg23 (Cells.at (Blk.cells ((((((((hB14.ext E22).ext E29).ext E46).ext E56).ext E65).wr W72 (Nat.ne_of_lt n67)).ext E78).kl E107 (ninS (Nat.ne_of_lt n59) (ninS (Nat.ne_of_lt (Nat.lt_of_lt_of_le n48 hN101)) nin0)))) 1 rfl)) (by dsimp only [List.set]; try rfl) ?_
    refine q_is rfl rfl (does_makeFunc (u := (.func (.func 36) #[] #[(Pt b62 0)])) (evs rfl) (evs rfl) rfl) (by dsimp only [List.set]; try rfl) ?_
    refine seqd rfl rfl (does_call (args := #[(.slice p112 ((((usedL A_m).take k).map (plA A_m)).length) q113), (.slice p8 A_m.tris.length q9), (.func (.func 36) #[] #[(Pt b62 0)])]) cal35 (evs rfl) (c_impl_renamed (.slice p112 ((((usedL A_m).take k).map (plA A_m)).length) q113) (((usedL A_m).take k).map (plA A_m)) (.slice p8 A_m.tris.length q9) A_m.tris (.func (.func 36) #[] #[(Pt b62 0)]) (fun X => X.length = 3 ∧ ∀ x ∈ X, 0 ≤ x ∧ x ≤ 1000000) (fun X => (reM (idxTo (usedL A_m) k) X)) _ hH114.get (Sl.ext hs10 (RS.mono RI.mono) X110) ⟨36, #[], #[(Pt b62 0)], rfl, cal36, fun y X u hD hu' hs => by simpa using (c_impl_TrimMesh_1 y X b62 0 bm53 (idxTo (usedL A_m) k) u hs (Blk.cells (((hB73.ext E78).kl E107 (ninS (Nat.ne_of_gt n69) (ninS (Nat.ne_of_gt n104) nin0))).ext hu')) (MapL.ext hM111 hu') hD.1 hD.2)⟩ (by (simp only [List.length_map, List.length_take]; omega)) (by exact fun t ht => by have h := mesh_tri hmt (List.getElem?_of_mem ht).choose_spec; exact ⟨h.1, fun x hx => by have := h.2 x hx; omega⟩) (by omega))) ?_; rintro _ w175 ⟨E174, ⟨cs177, Lw178, rfl, hh176, hw179⟩⟩
    have X180 := Ext.gr X110 E174
    have n181 : b12 < w106.heap.size := Blk.lt ((((((((hB14.ext E22).ext E29).ext E46).ext E56).ext E65).wr W72 (Nat.ne_of_lt n67)).ext E78).kl E107 (ninS (Nat.ne_of_lt n59) (ninS (Nat.ne_of_lt (Nat.lt_of_lt_of_le n48 hN101)) nin0)))
    have n182 : b19 < w106.heap.size := Blk.lt (((((((hB21.ext E29).ext E46).ext E56).ext E65).wr W72 (Nat.ne_of_lt n68)).ext E78).kl E107 (ninS (Nat.ne_of_lt n60) (ninS (Nat.ne_of_lt (Nat.lt_of_lt_of_le n49 hN101)) nin0)))
    have n183 : b62 < w106.heap.size := Blk.lt ((hB73.ext E78).kl E107 (ninS (Nat.ne_of_gt n69) (ninS (Nat.ne_of_gt n104) nin0)))
    have n184 : bm53 < w106.heap.size := MapL.lt hM111
    obtain ⟨y185, y187, rfl, h186, h188⟩ := hh176.get
    have h186l := Sl.len h186; obtain ⟨p189, q190, rfl⟩ := Sl.shape h186
    have hh191 : Hang w106.heap.size w175 (fun u => Sl RV3 3 u (.slice p189 (((MeshT.mk (((usedL A_m).take k).map (plA A_m)) (A_m.tris.map (fun X => (reM (idxTo (usedL A_m) k) X)))).places).length) q190) ((MeshT.mk (((usedL A_m).take k).map (plA A_m)) (A_m.tris.map (fun X => (reM (idxTo (usedL A_m) k) X)))).places)) := fun u hu => by obtain ⟨_, _, hq, _, _⟩ := hh176 u hu; cases hq; assumption
    have h188l := Sl.len h188; obtain ⟨p192, q193, rfl⟩ := Sl.shape h188
    have hh194 : Hang w106.heap.size w175 (fun u => Sl (RS RI 1) 1 u (.slice p192 (((MeshT.mk (((usedL A_m).take k).map (plA A_m)) (A_m.tris.map (fun X => (reM (idxTo (usedL A_m) k) X)))).tris).length) q193) ((MeshT.mk (((usedL A_m).take k).map (plA A_m)) (A_m.tris.map (fun X => (reM (idxTo (usedL A_m) k) X)))).tris)) := fun u hu => by obtain ⟨_, _, hq, _, _⟩ := hh176 u hu; cases hq; assumption
    have hw195 : WLM w106.heap.size w175 Lw178 (.slice p189 (((MeshT.mk (((usedL A_m).take k).map (plA A_m)) (A_m.tris.map (fun X => (reM (idxTo (usedL A_m) k) X)))).places).length) q190) (.slice p192 (((MeshT.mk (((usedL A_m).take k).map (plA A_m)) (A_m.tris.map (fun X => (reM (idxTo (usedL A_m) k) X)))).tris).length) q193) (MeshT.mk (((usedL A_m).take k).map (plA A_m)) (A_m.tris.map (fun X => (reM (idxTo (usedL A_m) k) X)))) := hw179
    show wpList _ _ _ _ (fr [_, _, _, _, _, _, _, _, _, _, _, _, _, _, _, _, _, _, _, _, _, _, _, _, _, _, _, _, _, _, _, _, _, _, _, _, _, _]) _
    refine seqn rfl rfl (does_store (n := 2) (cs := [(.slice none 0 0), (.slice none 0 0)]) (u := (.agg #[(.slice p189 (((MeshT.mk (((usedL A_m).take k).map (plA A_m)) (A_m.tris.map (fun X => (reM (idxTo (usedL A_m) k) X)))).places).length) q190), (.slice p192 (((MeshT.mk (((usedL A_m).take k).map (plA A_m)) (A_m.tris.map (fun X => (reM (idxTo (usedL A_m) k) X)))).tris).length) q193)])) (ev rfl) (ev rfl) Try.sizeOf32 rfl ((((((((hB21.ext E29).ext E46).ext E56).ext E65).wr W72 (Nat.ne_of_lt n68)).ext E78).kl E107 (ninS (Nat.ne_of_lt n60) (ninS (Nat.ne_of_lt (Nat.lt_of_lt_of_le n49 hN101)) nin0))).ext E174) (Nat.le_of_ble_eq_true rfl) rfl) ?_; rintro _ w198 ⟨rfl, W196, hB197⟩
    change Blk _ _ [(.slice p189 (((MeshT.mk (((usedL A_m).take k).map (plA A_m)) (A_m.tris.map (fun X => (reM (idxTo (usedL A_m) k) X)))).places).length) q190), (.slice p192 (((MeshT.mk (((usedL A_m).take k).map (plA A_m)) (A_m.tris.map (fun X => (reM (idxTo (usedL A_m) k) X)))).tris).length) q193)] at hB197
    have X199 := Below.wr X180 W196 g25
    refine q_is rfl rfl (does_assign (u := (Bo true)) (ev rfl)) (by dsimp only [List.set]; try rfl) ?_
    refine wpList_nil (hK173 _ _ ?_)
    refine wp_ret ?_
    refine ret_val (v := (.tuple #[(.agg #[(.slice p189 (((MeshT.mk (((usedL A_m).take k).map (plA A_m)) (A_m.tris.map (fun X => (reM (idxTo (usedL A_m) k) X)))).places).length) q190), (.slice p192 (((MeshT.mk (((usedL A_m).take k).map (plA A_m)) (A_m.tris.map (fun X => (reM (idxTo (usedL A_m) k) X)))).tris).length) q193)]), (Bo true)])) (res_CT rfl (slot rfl) (run_loadAgg (cs := [(.slice p189 (((MeshT.mk (((usedL A_m).take k).map (plA A_m)) (A_m.tris.map (fun X => (reM (idxTo (usedL A_m) k) X)))).places).length) q190), (.slice p192 (((MeshT.mk (((usedL A_m).take k).map (plA A_m)) (A_m.tris.map (fun X => (reM (idxTo (usedL A_m) k) X)))).tris).length) q193)]) Try.isAgg32 Try.sizeOf32 (Blk.cells hB197) rfl) (slot rfl)) X199 ?_
    have x200 : (meshOk A_m) = true := by first | exact hmf | exact hmt | (rw [trimM_f hmf] <;> rfl) | (rw [trim_alike hmt] <;> first | rfl | ((try dsimp only); rw [List.take_of_length_le (show (usedL A_m).length ≤ k by omega)]; done) | ((try dsimp only); rw [show k = (usedL A_m).length by omega]; done) | ((try dsimp only); rw [List.take_of_length_le (show (usedL A_m).length ≤ k by omega), show k = (usedL A_m).length by omega] <;> rfl))
    have x201 : ((MeshT.mk (((usedL A_m).take k).map (plA A_m)) (A_m.tris.map (fun X => (reM (idxTo (usedL A_m) k) X)))).places) = ((trimM A_m).places) := by first | exact hmf | exact hmt | (rw [trimM_f hmf] <;> rfl) | (rw [trim_alike hmt] <;> first | rfl | ((try dsimp only); rw [List.take_of_length_le (show (usedL A_m).length ≤ k by omega)]; done) | ((try dsimp only); rw [show k = (usedL A_m).length by omega]; done) | ((try dsimp only); rw [List.take_of_length_le (show (usedL A_m).length ≤ k by omega), show k = (usedL A_m).length by omega] <;> rfl))
    have x202 : ((MeshT.mk (((usedL A_m).take k).map (plA A_m)) (A_m.tris.map (fun X => (reM (idxTo (usedL A_m) k) X)))).tris) = ((trimM A_m).tris) := by first | exact hmf | exact hmt | (rw [trimM_f hmf] <;> rfl) | (rw [trim_alike hmt] <;> first | rfl | ((try dsimp only); rw [List.take_of_length_le (show (usedL A_m).length ≤ k by omega)]; done) | ((try dsimp only); rw [show k = (usedL A_m).length by omega]; done) | ((try dsimp only); rw [List.take_of_length_le (show (usedL A_m).length ≤ k by omega), show k = (usedL A_m).length by omega] <;> rfl))
    exact ⟨[(.slice p189 (((MeshT.mk (((usedL A_m).take k).map (plA A_m)) (A_m.tris.map (fun X => (reM (idxTo (usedL A_m) k) X)))).places).length) q190), (.slice p192 (((MeshT.mk (((usedL A_m).take k).map (plA A_m)) (A_m.tris.map (fun X => (reM (idxTo (usedL A_m) k) X)))).tris).length) q193)], Lw178, (by first | with_reducible rfl | rw [x200] | rfl), fun u hu => ⟨(.slice p189 (((MeshT.mk (((usedL A_m).take k).map (plA A_m)) (A_m.tris.map (fun X => (reM (idxTo (usedL A_m) k) X)))).places).length) q190), (.slice p192 (((MeshT.mk (((usedL A_m).take k).map (plA A_m)) (A_m.tris.map (fun X => (reM (idxTo (usedL A_m) k) X)))).tris).length) q193), rfl, (Hang.castL ((Hang.to hh191 ((Same.refl _ _).wr W196 (.inl n182))).le (Below.size (Below.kl (Ext.gr (Below.wr (Ext.gr (Ext.gr (Ext.gr (Ext.gr (Ext.gr (Ext.gr (Ext.refl _) E15) E22) E29) E46) E56) E65) W72 g70) E78) E107 (allS g61 (allS g102 all0)) (Nat.le_refl _)))) x201) u hu, (Hang.castL ((Hang.to hh194 ((Same.refl _ _).wr W196 (.inl n182))).le (Below.size (Below.kl (Ext.gr (Below.wr (Ext.gr (Ext.gr (Ext.gr (Ext.gr (Ext.gr (Ext.gr (Ext.refl _) E15) E22) E29) E46) E56) E65) W72 g70) E78) E107 (allS g61 (allS g102 all0)) (Nat.le_refl _)))) x202) u hu⟩, ((show (MeshT.mk (((usedL A_m).take k).map (plA A_m)) (A_m.tris.map (fun X => (reM (idxTo (usedL A_m) k) X)))) = (trimM A_m) from (by first | rfl | (first | exact hmf | exact hmt | (rw [trimM_f hmf] <;> rfl) | (rw [trim_alike hmt] <;> first | rfl | ((try dsimp only); rw [List.take_of_length_le (show (usedL A_m).length ≤ k by omega)]; done) | ((try dsimp only); rw [show k = (usedL A_m).length by omega]; done) | ((try dsimp only); rw [List.take_of_length_le (show (usedL A_m).length ≤ k by omega), show k = (usedL A_m).length by omega] <;> rfl))))) ▸ WLM.le (hw195.same ((Same.refl _ _).wr W196 (.inl n182))) (Below.size (Below.kl (Ext.gr (Below.wr (Ext.gr (Ext.gr (Ext.gr (Ext.gr (Ext.gr (Ext.gr (Ext.refl _) E15) E22) E29) E46) E56) E65) W72 g70) E78) E107 (allS g61 (allS g102 all0)) (Nat.le_refl _))))⟩

/- laws.heldVectorS -/
theorem c_laws_heldVectorS (a : Value) (L_a : List V3) (k : Int) (w : World) (hv_a : Sl RV3 3 w a L_a) (hm : L_a = mkL fV 3 k L_a.length) (h0 : 0 ≤ k) (h1 : k + (L_a.length : Int) * 3 ≤ 4611686018427387904) : Gives Try.prog 37 #[a, (Iv k)] w (fun v w' => v = (Iv (k + (L_a.length : Int) * 3))) := by
  have hlen_a := Sl.len hv_a; obtain ⟨p_a, q_a, rfl⟩ := Sl.shape hv_a
  refine enter [(.slice p_a L_a.length q_a), (Iv k), Ud, Ud, Ud, Ud, Ud, Ud, Ud, Ud, Ud, Ud, Ud, Ud, Ud, Ud, Ud, Ud, Ud, Ud, Ud, Ud, Ud, Ud, Ud, Ud, Ud, Ud, Ud, Ud, Ud, Ud, Ud, Ud, Ud, Ud, Ud, Ud, Ud, Ud, Ud, Ud, Ud] Try.func37 rfl Try.ntmps37 rfl ?_
  refine wp_seq_k fun K1 hK1 => ?_
  refine wp_region_lit ?_
  refine q_is rfl rfl (does_assign (u := (Iv 0)) (ev rfl)) (by dsimp only [List.set]; try rfl) ?_
  refine wpList_nil (hK1 _ _ ?_)
  refine wp_seq_k fun K2 hK2 => ?_
  refine wp_seq_k fun K3 hK3 => ?_
  refine wp_region_lit ?_
  refine q_is rfl rfl (does_assign (u := (Iv 0)) (ev rfl)) (by dsimp only [List.set]; try rfl) ?_
  refine wpList_nil (hK3 _ _ ?_)
  refine wp_block ?_
  refine loop_ghost (σ := Nat × Int) (fun s a w' => ∃ u4 : Nat → Value, a = fr [(.slice p_a L_a.length q_a), (Iv s.2), Ud, Ud, (u4 4), (Iv (s.1 : Int)), (u4 6), (u4 7), (u4 8), (u4 9), (u4 10), (u4 11), (u4 12), (u4 13), (u4 14), (u4 15), (u4 16), (u4 17), (u4 18), (u4 19), (u4 20), (u4 21), (u4 22), (u4 23), (u4 24), (u4 25), (u4 26), (u4 27), (u4 28), (u4 29), (u4 30), (u4 31), (u4 32), (u4 33), (u4 34), (u4 35), (u4 36), (u4 37), (u4 38), (u4 39), (u4 40), (u4 41), Ud] ∧ Ext w w' ∧ (s.1 ≤ L_a.length ∧ s.2 = k + (s.1 : Int) * 3)) (fun s => L_a.length - s.1) (0, k) ?_ ?_
  · refine ⟨fun t => (([(.slice p_a L_a.length q_a), (Iv k), Ud, Ud, (Iv 0), (Iv 0), Ud, Ud, Ud, Ud, Ud, Ud, Ud, Ud, Ud, Ud, Ud, Ud, Ud, Ud, Ud, Ud, Ud, Ud, Ud, Ud, Ud, Ud, Ud, Ud, Ud, Ud, Ud, Ud, Ud, Ud, Ud, Ud, Ud, Ud, Ud, Ud, Ud] : List Value)[t]?).getD undef, rfl, Ext.refl _, ?_⟩
    exact ⟨Nat.zero_le _, by simp⟩
  · rintro s a w5 ⟨u4, rfl, E6, ⟨hk, hn2⟩⟩
    have X8 := Ext.gr (Ext.refl w) E6
    refine wp_seq_k fun K9 hK9 => ?_
    refine wp_seq_k fun K10 hK10 => ?_
    refine wp_region_lit ?_
    refine q_is rfl rfl (does_move (u := (Iv (s.1 : Int))) (ev rfl)) (by dsimp only [List.set]; try rfl) ?_
    refine q_is rfl rfl (does_move (u := (.slice p_a L_a.length q_a)) (ev rfl)) (by dsimp only [List.set]; try rfl) ?_
    refine q_is rfl rfl (does_len_slice Try.underlying30 (ev rfl)) (by dsimp only [List.set]; try rfl) ?_
    refine q_is rfl rfl (does_icmp (p := (s.1 : Int)) (q := (L_a.length : Int)) (.inr (.inr (.inl rfl))) (ev rfl) (ev rfl)) (by dsimp only [List.set]; try rfl) ?_
    refine wpList_nil (hK10 _ _ ?_)
    refine wp_cond_split (t := icmp .lss (s.1 : Int) (L_a.length : Int)) (ev rfl) (fun c11 => ?_) (fun c11 => ?_)
    · have c11' := c11
      (try simp only [icmp, Bool.and_eq_true, Bool.or_eq_true, Bool.and_eq_false_iff, Bool.or_eq_false_iff, Bool.not_eq_true', Bool.not_eq_false', decide_eq_true_eq, decide_eq_false_iff_not, beq_iff_eq, bne_iff_ne, beq_eq_false_iff_ne, bne_eq_false_iff_eq] at c11')
      refine wp_skip (hK9 _ _ ?_)
      refine wp_seq_k fun K12 hK12 => ?_
      refine wp_block ?_
      refine wp_seq_k fun K13 hK13 => ?_
      refine wp_seq_k fun K14 hK14 => ?_
      refine wp_region_lit ?_
      refine q_is rfl rfl (does_move (u := (.slice p_a L_a.length q_a)) (ev rfl)) (by dsimp only [List.set]; try rfl) ?_
      refine q_is rfl rfl (does_move (u := (Iv (s.1 : Int))) (ev rfl)) (by dsimp only [List.set]; try rfl) ?_
      obtain ⟨el1, hel1⟩ : ∃ e, L_a[s.1]? = some e := ⟨_, List.getElem?_eq_getElem (by omega)⟩
      refine seqd rfl rfl (does_indexSl (R := RV3) (i := (s.1 : Int)) (xs := L_a) (e := el1) Try.underlying30 Try.sizeOf57 (ev rfl) (ev rfl) (Sl.ext hv_a RV3.mono X8) (by omega) hel1) ?_; rintro _ w5 ⟨b15, o16, _, rfl, hc18, ⟨r19, r21, r23, rfl, h20, h22, h24⟩, rfl⟩
      show wpList _ _ _ _ (fr [_, _, _, _, _, _, _, _, _, _, _, _, _, _, _, _, _, _, _, _, _, _, _, _, _, _, _, _, _, _, _, _, _, _, _, _, _, _, _, _, _, _, _]) _
      refine q_is rfl rfl (does_fieldAddr (ev rfl) fa57_0) (by dsimp only [List.set]; try rfl) ?_
      refine q_is rfl rfl (does_load (u := (Fl r19)) (ev rfl) Try.isAgg55 (Cells.at hc18 0 rfl)) (by dsimp only [List.set]; try rfl) ?_
      refine q_is rfl rfl (does_move (u := (Iv s.2)) (ev rfl)) (by dsimp only [List.set]; try rfl) ?_
      refine q_is rfl rfl (does_conv_if (k := .f32) Try.underlying3 Try.underlying55 (ev rfl)) (by dsimp only [List.set]; try rfl) ?_
      refine q_is rfl rfl (does_fcmp (.inr (.inl rfl)) (ev rfl) (ev rfl)) (by dsimp only [List.set]; try rfl) ?_
      refine wpList_nil (hK14 _ _ ?_)
      refine wp_cond_split (t := fcmp .neq (ford .f32 (cf .f32 r19) (cf .f32 (FloatKind.f32.nearest s.2)))) (ev rfl) (fun c25 => ?_) (fun c25 => ?_)
      · have c25' := c25
        exfalso; have he := mkL_at hm hel1; have e2 : s.2 = k + ((s.1 * 3 : Nat) : Int) := (by omega); simp only [hel1, h20, h22, h24] at c25; rw [he, e2] at c25; simp only [fV] at c25; exact Bool.false_ne_true ((fF_self (k + ((s.1 * 3 : Nat) : Int))).symm.trans c25)
      have c25' := c25
      refine wp_skip (hK13 _ _ ?_)
      refine wp_seq_k fun K26 hK26 => ?_
      refine wp_region_lit ?_
      refine q_is rfl rfl (does_move (u := (Iv s.2)) (ev rfl)) (by dsimp only [List.set]; try rfl) ?_
      refine q_is rfl rfl (does_iarith (p := s.2) (q := 1) (r := s.2 + 1) (ev rfl) (ev rfl) (.inl ⟨rfl, (in_i64 (by omega) (by omega)).symm⟩)) (by dsimp only [List.set]; try rfl) ?_
      refine q_is rfl rfl (does_assign (u := (Iv (s.2 + 1))) (ev rfl)) (by dsimp only [List.set]; try rfl) ?_
      refine wpList_nil (hK26 _ _ ?_)
      refine wp_seq_k fun K27 hK27 => ?_
      refine wp_seq_k fun K28 hK28 => ?_
      refine wp_region_lit ?_
      refine q_is rfl rfl (does_move (u := (.slice p_a L_a.length q_a)) (ev rfl)) (by dsimp only [List.set]; try rfl) ?_
      refine q_is rfl rfl (does_move (u := (Iv (s.1 : Int))) (ev rfl)) (by dsimp only [List.set]; try rfl) ?_
      refine seqd rfl rfl (does_indexSl (R := RV3) (i := (s.1 : Int)) (xs := L_a) (e := el1) Try.underlying30 Try.sizeOf57 (ev rfl) (ev rfl) (Sl.ext hv_a RV3.mono X8) (by omega) hel1) ?_; rintro _ w5 ⟨b29, o30, _, rfl, hc32, ⟨r33, r35, r37, rfl, h34, h36, h38⟩, rfl⟩
      show wpList _ _ _ _ (fr [_, _, _, _, _, _, _, _, _, _, _, _, _, _, _, _, _, _, _, _, _, _, _, _, _, _, _, _, _, _, _, _, _, _, _, _, _, _, _, _, _, _, _]) _
      refine q_is rfl rfl (does_fieldAddr (ev rfl) fa57_1) (by dsimp only [List.set]; try rfl) ?_
      refine q_is rfl rfl (does_load (u := (Fl r35)) (ev rfl) Try.isAgg55 (Cells.at hc32 1 rfl)) (by dsimp only [List.set]; try rfl) ?_
      refine q_is rfl rfl (does_move (u := (Iv (s.2 + 1))) (ev rfl)) (by dsimp only [List.set]; try rfl) ?_
      refine q_is rfl rfl (does_conv_if (k := .f32) Try.underlying3 Try.underlying55 (ev rfl)) (by dsimp only [List.set]; try rfl) ?_
      refine q_is rfl rfl (does_fcmp (.inr (.inl rfl)) (ev rfl) (ev rfl)) (by dsimp only [List.set]; try rfl) ?_
      refine wpList_nil (hK28 _ _ ?_)
      refine wp_cond_split (t := fcmp .neq (ford .f32 (cf .f32 r35) (cf .f32 (FloatKind.f32.nearest (s.2 + 1))))) (ev rfl) (fun c39 => ?_) (fun c39 => ?_)
      · have c39' := c39
        exfalso; have he := mkL_at hm hel1; have e2 : s.2 = k + ((s.1 * 3 : Nat) : Int) := (by omega); simp only [hel1, h20, h22, h24, h34, h36, h38] at c39; rw [he, e2] at c39; simp only [fV] at c39; exact Bool.false_ne_true ((fF_self (k + ((s.1 * 3 : Nat) : Int) + 1)).symm.trans c39)
      have c39' := c39
      refine wp_skip (hK27 _ _ ?_)
      refine wp_seq_k fun K40 hK40 => ?_
      refine wp_region_lit ?_
      refine q_is rfl rfl (does_move (u := (Iv (s.2 + 1))) (ev rfl)) (by dsimp only [List.set]; try rfl) ?_
      refine q_is rfl rfl (does_iarith (p := s.2 + 1) (q := 1) (r := (s.2 + 1) + 1) (ev rfl) (ev rfl) (.inl ⟨rfl, (in_i64 (by omega) (by omega)).symm⟩)) (by dsimp only [List.set]; try rfl) ?_
      refine q_is rfl rfl (does_assign (u := (Iv ((s.2 + 1) + 1))) (ev rfl)) (by dsimp only [List.set]; try rfl) ?_
      refine wpList_nil (hK40 _ _ ?_)
      refine wp_seq_k fun K41 hK41 => ?_
      refine wp_seq_k fun K42 hK42 => ?_
      refine wp_region_lit ?_
      refine q_is rfl rfl (does_move (u := (.slice p_a L_a.length q_a)) (ev rfl)) (by dsimp only [List.set]; try rfl) ?_
      refine q_is rfl rfl (does_move (u := (Iv (s.1 : Int))) (ev rfl)) (by dsimp only [List.set]; try rfl) ?_
      refine seqd rfl rfl (does_indexSl (R := RV3) (i := (s.1 : Int)) (xs := L_a) (e := el1) Try.underlying30 Try.sizeOf57 (ev rfl) (ev rfl) (Sl.ext hv_a RV3.mono X8) (by omega) hel1) ?_; rintro _ w5 ⟨b43, o44, _, rfl, hc46, ⟨r47, r49, r51, rfl, h48, h50, h52⟩, rfl⟩
      show wpList _ _ _ _ (fr [_, _, _, _, _, _, _, _, _, _, _, _, _, _, _, _, _, _, _, _, _, _, _, _, _, _, _, _, _, _, _, _, _, _, _, _, _, _, _, _, _, _, _]) _
      refine q_is rfl rfl (does_fieldAddr (ev rfl) fa57_2) (by dsimp only [List.set]; try rfl) ?_
      refine q_is rfl rfl (does_load (u := (Fl r51)) (ev rfl) Try.isAgg55 (Cells.at hc46 2 rfl)) (by dsimp only [List.set]; try rfl) ?_
      refine q_is rfl rfl (does_move (u := (Iv ((s.2 + 1) + 1))) (ev rfl)) (by dsimp only [List.set]; try rfl) ?_
      refine q_is rfl rfl (does_conv_if (k := .f32) Try.underlying3 Try.underlying55 (ev rfl)) (by dsimp only [List.set]; try rfl) ?_
      refine q_is rfl rfl (does_fcmp (.inr (.inl rfl)) (ev rfl) (ev rfl)) (by dsimp only [List.set]; try rfl) ?_
      refine wpList_nil (hK42 _ _ ?_)
      refine wp_cond_split (t := fcmp .neq (ford .f32 (cf .f32 r51) (cf .f32 (FloatKind.f32.nearest ((s.2 + 1) + 1))))) (ev rfl) (fun c53 => ?_) (fun c53 => ?_)
      · have c53' := c53
        exfalso; have he := mkL_at hm hel1; have e2 : s.2 = k + ((s.1 * 3 : Nat) : Int) := (by omega); simp only [hel1, h20, h22, h24, h34, h36, h38, h48, h50, h52] at c53; rw [he, e2] at c53; simp only [fV] at c53; rw [show k + ((s.1 * 3 : Nat) : Int) + 1 + 1 = k + ((s.1 * 3 : Nat) : Int) + 2 from (by omega)] at c53; exact Bool.false_ne_true ((fF_self (k + ((s.1 * 3 : Nat) : Int) + 2)).symm.trans c53)
      have c53' := c53
      refine wp_skip (hK41 _ _ ?_)
      refine wp_region_lit ?_
      refine q_is rfl rfl (does_move (u := (Iv ((s.2 + 1) + 1))) (ev rfl)) (by dsimp only [List.set]; try rfl) ?_
      refine q_is rfl rfl (does_iarith (p := (s.2 + 1) + 1) (q := 1) (r := ((s.2 + 1) + 1) + 1) (ev rfl) (ev rfl) (.inl ⟨rfl, (in_i64 (by omega) (by omega)).symm⟩)) (by dsimp only [List.set]; try rfl) ?_
      refine q_is rfl rfl (does_assign (u := (Iv (((s.2 + 1) + 1) + 1))) (ev rfl)) (by dsimp only [List.set]; try rfl) ?_
      refine wpList_nil (hK12 _ _ ?_)
      refine wp_region_lit ?_
      refine q_is rfl rfl (does_move (u := (Iv (s.1 : Int))) (ev rfl)) (by dsimp only [List.set]; try rfl) ?_
      refine q_is rfl rfl (does_iarith (p := (s.1 : Int)) (q := 1) (r := (s.1 : Int) + 1) (ev rfl) (ev rfl) (.inl ⟨rfl, (in_i64 (by omega) (by omega)).symm⟩)) (by dsimp only [List.set]; try rfl) ?_
      refine q_is rfl rfl (does_assign (u := (Iv ((s.1 : Int) + 1))) (ev rfl)) (by dsimp only [List.set]; try rfl) ?_
      refine wpList_nil ?_
      refine ⟨(s.1 + 1, ((s.2 + 1) + 1) + 1), ⟨fun t => (([(.slice p_a L_a.length q_a), (Iv (((s.2 + 1) + 1) + 1)), Ud, Ud, (u4 4), (Iv ((s.1 : Int) + 1)), (Iv (s.1 : Int)), (.slice p_a L_a.length q_a), (Iv (L_a.length : Int)), (Bo (icmp .lss (s.1 : Int) (L_a.length : Int))), (Iv (s.1 : Int)), (Iv ((s.1 : Int) + 1)), (.slice p_a L_a.length q_a), (Iv (s.1 : Int)), (Pt b15 o16), (Pt b15 o16), (Fl r19), (Iv s.2), (Fl (FloatKind.f32.nearest s.2)), (Bo (fcmp .neq (ford .f32 (cf .f32 r19) (cf .f32 (FloatKind.f32.nearest s.2))))), (Iv s.2), (Iv (s.2 + 1)), (.slice p_a L_a.length q_a), (Iv (s.1 : Int)), (Pt b29 o30), (Pt b29 (o30 + 1)), (Fl r35), (Iv (s.2 + 1)), (Fl (FloatKind.f32.nearest (s.2 + 1))), (Bo (fcmp .neq (ford .f32 (cf .f32 r35) (cf .f32 (FloatKind.f32.nearest (s.2 + 1)))))), (Iv (s.2 + 1)), (Iv ((s.2 + 1) + 1)), (.slice p_a L_a.length q_a), (Iv (s.1 : Int)), (Pt b43 o44), (Pt b43 (o44 + 2)), (Fl r51), (Iv ((s.2 + 1) + 1)), (Fl (FloatKind.f32.nearest ((s.2 + 1) + 1))), (Bo (fcmp .neq (ford .f32 (cf .f32 r51) (cf .f32 (FloatKind.f32.nearest ((s.2 + 1) + 1)))))), (Iv ((s.2 + 1) + 1)), (Iv (((s.2 + 1) + 1) + 1)), Ud] : List Value)[t]?).getD undef, ?_, E6, ?_⟩, ?_⟩
      · first | rfl | (simp only [Int.natCast_add, Int.natCast_one]; rfl)
      · (try dsimp only); exact ⟨by omega, by (try dsimp only); omega⟩
      · (try dsimp only); omega
    have c11' := c11
    (try simp only [icmp, Bool.and_eq_true, Bool.or_eq_true, Bool.and_eq_false_iff, Bool.or_eq_false_iff, Bool.not_eq_true', Bool.not_eq_false', decide_eq_true_eq, decide_eq_false_iff_not, beq_iff_eq, bne_iff_ne, beq_eq_false_iff_ne, bne_eq_false_iff_eq] at c11')
    refine wp_exit ?_
    refine hK2 _ _ ?_
    refine wp_seq_k fun K54 hK54 => ?_
    refine wp_region_lit ?_
    refine q_is rfl rfl (does_move (u := (Iv s.2)) (ev rfl)) (by dsimp only [List.set]; try rfl) ?_
    refine q_is rfl rfl (does_assign (u := (Iv s.2)) (ev rfl)) (by dsimp only [List.set]; try rfl) ?_
    refine wpList_nil (hK54 _ _ ?_)
    refine wp_ret ?_
    refine ret_val (v := (Iv s.2)) (res_T rfl (slot rfl)) X8 ?_
    have x55 : (k + (L_a.length : Int) * 3 : Int) = s.2 := by first | omega | (rw [hn2, show s.1 = L_a.length by omega])
    exact (by first | with_reducible rfl | rw [x55] | rfl)

/- laws.heldInt64SS -/
theorem c_laws_heldInt64SS (a : Value) (L_a : List (List Int)) (k : Int) (w : World) (hv_a : Sl (RS RI 1) 1 w a L_a) (hm : L_a = mkLL fI 1 (preK k L_a) L_a) (h0 : 0 ≤ k) (h1 : k + (liSum L_a L_a.length : Nat) ≤ 4611686018427387904) : Gives Try.prog 38 #[a, (Iv k)] w (fun v w' => v = (Iv (k + (liSum L_a L_a.length : Nat)))) := by
  have hlen_a := Sl.len hv_a; obtain ⟨p_a, q_a, rfl⟩ := Sl.shape hv_a
  refine enter [(.slice p_a L_a.length q_a), (Iv k), Ud, Ud, Ud, Ud, Ud, Ud, Ud, Ud, Ud, Ud, Ud, Ud, Ud, Ud, Ud, Ud, Ud, Ud, Ud] Try.func38 rfl Try.ntmps38 rfl ?_
  refine wp_seq_k fun K1 hK1 => ?_
  refine wp_region_lit ?_
  refine q_is (l' := [(.slice p_a L_a.length q_a), (Iv k), Ud, Ud, (Iv 0), Ud, Ud, Ud, Ud, Ud, Ud, Ud, Ud, Ud, Ud, Ud, Ud, Ud, Ud, Ud, Ud]) rfl rfl (does_assign (u := (Iv 0)) (ev rfl)) rfl ?_
  refine wpList_nil (hK1 _ _ ?_)
  refine wp_seq_k fun K2 hK2 => ?_
  refine wp_seq_k fun K3 hK3 => ?_
  refine wp_region_lit ?_
  refine q_is (l' := [(.slice p_a L_a.length q_a), (Iv k), Ud, Ud, (Iv 0), (Iv 0), Ud, Ud, Ud, Ud, Ud, Ud, Ud, Ud, Ud, Ud, Ud, Ud, Ud, Ud, Ud]) rfl rfl (does_assign (u := (Iv 0)) (ev rfl)) rfl ?_
  refine wpList_nil (hK3 _ _ ?_)
  refine wp_block ?_
  refine loop_ghost (σ := Nat × Int) (fun s a w' => ∃ u4 : Nat → Value, a = fr [(.slice p_a L_a.length q_a), (Iv s.2), Ud, Ud, (u4 4), (Iv (s.1 : Int)), (u4 6), (u4 7), (u4 8), (u4 9), (u4 10), (u4 11), (u4 12), (u4 13), (u4 14), (u4 15), (u4 16), (u4 17), (u4 18), (u4 19), Ud] ∧ Ext w w' ∧ (s.1 ≤ L_a.length ∧ s.2 = k + (liSum L_a s.1 : Nat))) (fun s => L_a.length - s.1) (0, k) ?_ ?_
  · refine ⟨fun t => (([(.slice p_a L_a.length q_a), (Iv k), Ud, Ud, (Iv 0), (Iv 0), Ud, Ud, Ud, Ud, Ud, Ud, Ud, Ud, Ud, Ud, Ud, Ud, Ud, Ud, Ud] : List Value)[t]?).getD undef, rfl, Ext.refl _, ?_⟩
    exact ⟨Nat.zero_le _, by simp [liSum]⟩
  · rintro s a w5 ⟨u4, rfl, E6, ⟨hk, hn2⟩⟩
    have X8 := Ext.gr (Ext.refl w) E6
    refine wp_seq_k fun K9 hK9 => ?_
    refine wp_seq_k fun K10 hK10 => ?_
    refine wp_region_lit ?_
    refine q_is (l' := [(.slice p_a L_a.length q_a), (Iv s.2), Ud, Ud, (u4 4), (Iv (s.1 : Int)), (Iv (s.1 : Int)), (u4 7), (u4 8), (u4 9), (u4 10), (u4 11), (u4 12), (u4 13), (u4 14), (u4 15), (u4 16), (u4 17), (u4 18), (u4 19), Ud]) rfl rfl (does_move (u := (Iv (s.1 : Int))) (ev rfl)) rfl ?_
    refine q_is (l' := [(.slice p_a L_a.length q_a), (Iv s.2), Ud, Ud, (u4 4), (Iv (s.1 : Int)), (Iv (s.1 : Int)), (.slice p_a L_a.length q_a), (u4 8), (u4 9), (u4 10), (u4 11), (u4 12), (u4 13), (u4 14), (u4 15), (u4 16), (u4 17), (u4 18), (u4 19), Ud]) rfl rfl (does_move (u := (.slice p_a L_a.length q_a)) (ev rfl)) rfl ?_
    refine q_is (l' := [(.slice p_a L_a.length q_a), (Iv s.2), Ud, Ud, (u4 4), (Iv (s.1 : Int)), (Iv (s.1 : Int)), (.slice p_a L_a.length q_a), (Iv (L_a.length : Int)), (u4 9), (u4 10), (u4 11), (u4 12), (u4 13), (u4 14), (u4 15), (u4 16), (u4 17), (u4 18), (u4 19), Ud]) rfl rfl (does_len_slice Try.underlying23 (ev rfl)) rfl ?_
    refine q_is (l' := [(.slice p_a L_a.length q_a), (Iv s.2), Ud, Ud, (u4 4), (Iv (s.1 : Int)), (Iv (s.1 : Int)), (.slice p_a L_a.length q_a), (Iv (L_a.length : Int)), (Bo (icmp .lss (s.1 : Int) (L_a.length : Int))), (u4 10), (u4 11), (u4 12), (u4 13), (u4 14), (u4 15), (u4 16), (u4 17), (u4 18), (u4 19), Ud]) rfl rfl (does_icmp (p := (s.1 : Int)) (q := (L_a.length : Int)) (.inr (.inr (.inl rfl))) (ev rfl) (ev rfl)) rfl ?_
    refine wpList_nil (hK10 _ _ ?_)
    refine wp_cond_split (t := icmp .lss (s.1 : Int) (L_a.length : Int)) (ev rfl) (fun c11 => ?_) (fun c11 => ?_)
    · have c11' := c11
      (try simp only [icmp, Bool.and_eq_true, Bool.or_eq_true, Bool.and_eq_false_iff, Bool.or_eq_false_iff, Bool.not_eq_true', Bool.not_eq_false', decide_eq_true_eq, decide_eq_false_iff_not, beq_iff_eq, bne_iff_ne, beq_eq_false_iff_ne, bne_eq_false_iff_eq] at c11')
      refine wp_skip (hK9 _ _ ?_)
      refine wp_seq_k fun K12 hK12 => ?_
      refine wp_block ?_
      refine wp_seq_k fun K13 hK13 => ?_
      refine wp_region_lit ?_
      refine q_is (l' := [(.slice p_a L_a.length q_a), (Iv s.2), Ud, Ud, (u4 4), (Iv (s.1 : Int)), (Iv (s.1 : Int)), (.slice p_a L_a.length q_a), (Iv (L_a.length : Int)), (Bo (icmp .lss (s.1 : Int) (L_a.length : Int))), (u4 10), (u4 11), (.slice p_a L_a.length q_a), (u4 13), (u4 14), (u4 15), (u4 16), (u4 17), (u4 18), (u4 19), Ud]) rfl rfl (does_move (u := (.slice p_a L_a.length q_a)) (ev rfl)) rfl ?_
      refine q_is (l' := [(.slice p_a L_a.length q_a), (Iv s.2), Ud, Ud, (u4 4), (Iv (s.1 : Int)), (Iv (s.1 : Int)), (.slice p_a L_a.length q_a), (Iv (L_a.length : Int)), (Bo (icmp .lss (s.1 : Int) (L_a.length : Int))), (u4 10), (u4 11), (.slice p_a L_a.length q_a), (Iv (s.1 : Int)), (u4 14), (u4 15), (u4 16), (u4 17), (u4 18), (u4 19), Ud]) rfl rfl (does_move (u := (Iv (s.1 : Int))) (ev rfl)) rfl ?_
      obtain ⟨x1, hx1⟩ : ∃ x, L_a[s.1]? = some x := ⟨_, List.getElem?_eq_getElem (by omega)⟩
      have hss := liSum_succ hx1
      have hmo := liSum_mono L_a (j := s.1 + 1) (k := L_a.length) (by omega)
      obtain ⟨el1, hel1⟩ : ∃ e, L_a[s.1]? = some e := ⟨_, List.getElem?_eq_getElem (by omega)⟩
      refine seqd rfl rfl (does_indexSl (R := (RS RI 1)) (i := (s.1 : Int)) (xs := L_a) (e := el1) Try.underlying23 Try.sizeOf27 (ev rfl) (ev rfl) (Sl.ext hv_a (RS.mono RI.mono) X8) (by omega) hel1) ?_; rintro _ w5 ⟨b14, o15, _, rfl, hc17, ⟨y18, rfl, h19⟩, rfl⟩
      have hs22 := h19; have hs22l := Sl.len h19; obtain ⟨p20, q21, rfl⟩ := Sl.shape h19
      show wpList _ _ _ _ (fr [(.slice p_a L_a.length q_a), (Iv s.2), Ud, Ud, (u4 4), (Iv (s.1 : Int)), (Iv (s.1 : Int)), (.slice p_a L_a.length q_a), (Iv (L_a.length : Int)), (Bo (icmp .lss (s.1 : Int) (L_a.length : Int))), (u4 10), (u4 11), (.slice p_a L_a.length q_a), (Iv (s.1 : Int)), (Pt b14 o15), (u4 15), (u4 16), (u4 17), (u4 18), (u4 19), Ud]) _
      refine q_is (l' := [(.slice p_a L_a.length q_a), (Iv s.2), Ud, Ud, (u4 4), (Iv (s.1 : Int)), (Iv (s.1 : Int)), (.slice p_a L_a.length q_a), (Iv (L_a.length : Int)), (Bo (icmp .lss (s.1 : Int) (L_a.length : Int))), (u4 10), (u4 11), (.slice p_a L_a.length q_a), (Iv (s.1 : Int)), (Pt b14 o15), (.slice p20 el1.length q21), (u4 16), (u4 17), (u4 18), (u4 19), Ud]) rfl rfl (does_load (u := (.slice p20 el1.length q21)) (ev rfl) Try.isAgg27 (Cells.at hc17 0 rfl)) rfl ?_
      refine q_is (l' := [(.slice p_a L_a.length q_a), (Iv s.2), Ud, Ud, (u4 4), (Iv (s.1 : Int)), (Iv (s.1 : Int)), (.slice p_a L_a.length q_a), (Iv (L_a.length : Int)), (Bo (icmp .lss (s.1 : Int) (L_a.length : Int))), (u4 10), (u4 11), (.slice p_a L_a.length q_a), (Iv (s.1 : Int)), (Pt b14 o15), (.slice p20 el1.length q21), (Iv s.2), (u4 17), (u4 18), (u4 19), Ud]) rfl rfl (does_move (u := (Iv s.2)) (ev rfl)) rfl ?_
      refine seqd rfl rfl (does_call (args := #[(.slice p20 el1.length q21), (Iv s.2)]) cal15 (evs rfl) (c_laws_heldInt64S (.slice p20 el1.length q21) el1 s.2 _ hs22 (by have hq := mkLL_el hm hel1; rw [show s.2 = preK k L_a s.1 from hn2]; exact hq) (by omega) (by (have hxe : el1.length = x1.length := (by rw [hx1] at hel1; cases hel1; rfl)); omega))) ?_; rintro _ w24 ⟨E23, rfl⟩
      have X25 := Ext.gr X8 E23
      show wpList _ _ _ _ (fr [(.slice p_a L_a.length q_a), (Iv s.2), Ud, Ud, (u4 4), (Iv (s.1 : Int)), (Iv (s.1 : Int)), (.slice p_a L_a.length q_a), (Iv (L_a.length : Int)), (Bo (icmp .lss (s.1 : Int) (L_a.length : Int))), (u4 10), (u4 11), (.slice p_a L_a.length q_a), (Iv (s.1 : Int)), (Pt b14 o15), (.slice p20 el1.length q21), (Iv s.2), (Iv (s.2 + (el1.length : Int) * 1)), (u4 18), (u4 19), Ud]) _
      refine q_is (l' := [(.slice p_a L_a.length q_a), (Iv (s.2 + (el1.length : Int) * 1)), Ud, Ud, (u4 4), (Iv (s.1 : Int)), (Iv (s.1 : Int)), (.slice p_a L_a.length q_a), (Iv (L_a.length : Int)), (Bo (icmp .lss (s.1 : Int) (L_a.length : Int))), (u4 10), (u4 11), (.slice p_a L_a.length q_a), (Iv (s.1 : Int)), (Pt b14 o15), (.slice p20 el1.length q21), (Iv s.2), (Iv (s.2 + (el1.length : Int) * 1)), (u4 18), (u4 19), Ud]) rfl rfl (does_assign (u := (Iv (s.2 + (el1.length : Int) * 1))) (ev rfl)) rfl ?_
      refine wpList_nil (hK13 _ _ ?_)
      refine wp_seq_k fun K26 hK26 => ?_
      refine wp_region_lit ?_
      refine q_is (l' := [(.slice p_a L_a.length q_a), (Iv (s.2 + (el1.length : Int) * 1)), Ud, Ud, (u4 4), (Iv (s.1 : Int)), (Iv (s.1 : Int)), (.slice p_a L_a.length q_a), (Iv (L_a.length : Int)), (Bo (icmp .lss (s.1 : Int) (L_a.length : Int))), (u4 10), (u4 11), (.slice p_a L_a.length q_a), (Iv (s.1 : Int)), (Pt b14 o15), (.slice p20 el1.length q21), (Iv s.2), (Iv (s.2 + (el1.length : Int) * 1)), (Iv (s.2 + (el1.length : Int) * 1)), (u4 19), Ud]) rfl rfl (does_move (u := (Iv (s.2 + (el1.length : Int) * 1))) (ev rfl)) rfl ?_
      refine q_is (l' := [(.slice p_a L_a.length q_a), (Iv (s.2 + (el1.length : Int) * 1)), Ud, Ud, (u4 4), (Iv (s.1 : Int)), (Iv (s.1 : Int)), (.slice p_a L_a.length q_a), (Iv (L_a.length : Int)), (Bo (icmp .lss (s.1 : Int) (L_a.length : Int))), (u4 10), (u4 11), (.slice p_a L_a.length q_a), (Iv (s.1 : Int)), (Pt b14 o15), (.slice p20 el1.length q21), (Iv s.2), (Iv (s.2 + (el1.length : Int) * 1)), (Iv (s.2 + (el1.length : Int) * 1)), (Bo (icmp .lss (s.2 + (el1.length : Int) * 1) 0)), Ud]) rfl rfl (does_icmp (p := s.2 + (el1.length : Int) * 1) (q := 0) (.inr (.inr (.inl rfl))) (ev rfl) (ev rfl)) rfl ?_
      refine wpList_nil (hK26 _ _ ?_)
      refine wp_cond_split (t := icmp .lss (s.2 + (el1.length : Int) * 1) 0) (ev rfl) (fun c27 => ?_) (fun c27 => ?_)
      · have c27' := c27
        (try simp only [icmp, Bool.and_eq_true, Bool.or_eq_true, Bool.and_eq_false_iff, Bool.or_eq_false_iff, Bool.not_eq_true', Bool.not_eq_false', decide_eq_true_eq, decide_eq_false_iff_not, beq_iff_eq, bne_iff_ne, beq_eq_false_iff_ne, bne_eq_false_iff_eq] at c27')
        exfalso; have hxe : el1.length = x1.length := (by rw [hx1] at hel1; cases hel1; rfl); simp only [icmp, decide_eq_true_eq] at c27; omega
      have c27' := c27
      (try simp only [icmp, Bool.and_eq_true, Bool.or_eq_true, Bool.and_eq_false_iff, Bool.or_eq_false_iff, Bool.not_eq_true', Bool.not_eq_false', decide_eq_true_eq, decide_eq_false_iff_not, beq_iff_eq, bne_iff_ne, beq_eq_false_iff_ne, bne_eq_false_iff_eq] at c27')
      have hxe : el1.length = x1.length := (by rw [hx1] at hel1; cases hel1; rfl)
      refine wp_skip (hK12 _ _ ?_)
      refine wp_region_lit ?_
      refine q_is (l' := [(.slice p_a L_a.length q_a), (Iv (s.2 + (el1.length : Int) * 1)), Ud, Ud, (u4 4), (Iv (s.1 : Int)), (Iv (s.1 : Int)), (.slice p_a L_a.length q_a), (Iv (L_a.length : Int)), (Bo (icmp .lss (s.1 : Int) (L_a.length : Int))), (Iv (s.1 : Int)), (u4 11), (.slice p_a L_a.length q_a), (Iv (s.1 : Int)), (Pt b14 o15), (.slice p20 el1.length q21), (Iv s.2), (Iv (s.2 + (el1.length : Int) * 1)), (Iv (s.2 + (el1.length : Int) * 1)), (Bo (icmp .lss (s.2 + (el1.length : Int) * 1) 0)), Ud]) rfl rfl (does_move (u := (Iv (s.1 : Int))) (ev rfl)) rfl ?_
      refine q_is (l' := [(.slice p_a L_a.length q_a), (Iv (s.2 + (el1.length : Int) * 1)), Ud, Ud, (u4 4), (Iv (s.1 : Int)), (Iv (s.1 : Int)), (.slice p_a L_a.length q_a), (Iv (L_a.length : Int)), (Bo (icmp .lss (s.1 : Int) (L_a.length : Int))), (Iv (s.1 : Int)), (Iv ((s.1 : Int) + 1)), (.slice p_a L_a.length q_a), (Iv (s.1 : Int)), (Pt b14 o15), (.slice p20 el1.length q21), (Iv s.2), (Iv (s.2 + (el1.length : Int) * 1)), (Iv (s.2 + (el1.length : Int) * 1)), (Bo (icmp .lss (s.2 + (el1.length : Int) * 1) 0)), Ud]) rfl rfl (does_iarith (p := (s.1 : Int)) (q := 1) (r := (s.1 : Int) + 1) (ev rfl) (ev rfl) (.inl ⟨rfl, (in_i64 (by omega) (by omega)).symm⟩)) rfl ?_
      refine q_is (l' := [(.slice p_a L_a.length q_a), (Iv (s.2 + (el1.length : Int) * 1)), Ud, Ud, (u4 4), (Iv ((s.1 : Int) + 1)), (Iv (s.1 : Int)), (.slice p_a L_a.length q_a), (Iv (L_a.length : Int)), (Bo (icmp .lss (s.1 : Int) (L_a.length : Int))), (Iv (s.1 : Int)), (Iv ((s.1 : Int) + 1)), (.slice p_a L_a.length q_a), (Iv (s.1 : Int)), (Pt b14 o15), (.slice p20 el1.length q21), (Iv s.2), (Iv (s.2 + (el1.length : Int) * 1)), (Iv (s.2 + (el1.length : Int) * 1)), (Bo (icmp .lss (s.2 + (el1.length : Int) * 1) 0)), Ud]) rfl rfl (does_assign (u := (Iv ((s.1 : Int) + 1))) (ev rfl)) rfl ?_
      refine wpList_nil ?_
      refine ⟨(s.1 + 1, s.2 + (el1.length : Int) * 1), ⟨fun t => (([(.slice p_a L_a.length q_a), (Iv (s.2 + (el1.length : Int) * 1)), Ud, Ud, (u4 4), (Iv ((s.1 : Int) + 1)), (Iv (s.1 : Int)), (.slice p_a L_a.length q_a), (Iv (L_a.length : Int)), (Bo (icmp .lss (s.1 : Int) (L_a.length : Int))), (Iv (s.1 : Int)), (Iv ((s.1 : Int) + 1)), (.slice p_a L_a.length q_a), (Iv (s.1 : Int)), (Pt b14 o15), (.slice p20 el1.length q21), (Iv s.2), (Iv (s.2 + (el1.length : Int) * 1)), (Iv (s.2 + (el1.length : Int) * 1)), (Bo (icmp .lss (s.2 + (el1.length : Int) * 1) 0)), Ud] : List Value)[t]?).getD undef, ?_, (Ext.gr E6 E23), ?_⟩, ?_⟩
      · first | rfl | (simp only [Int.natCast_add, Int.natCast_one]; rfl)
      · (try dsimp only); exact ⟨by omega, by (try dsimp only); omega⟩
      · (try dsimp only); omega
    have c11' := c11
    (try simp only [icmp, Bool.and_eq_true, Bool.or_eq_true, Bool.and_eq_false_iff, Bool.or_eq_false_iff, Bool.not_eq_true', Bool.not_eq_false', decide_eq_true_eq, decide_eq_false_iff_not, beq_iff_eq, bne_iff_ne, beq_eq_false_iff_ne, bne_eq_false_iff_eq] at c11')
    refine wp_exit ?_
    refine hK2 _ _ ?_
    refine wp_seq_k fun K28 hK28 => ?_
    refine wp_region_lit ?_
    refine q_is (l' := [(.slice p_a L_a.length q_a), (Iv s.2), Ud, Ud, (u4 4), (Iv (s.1 : Int)), (Iv (s.1 : Int)), (.slice p_a L_a.length q_a), (Iv (L_a.length : Int)), (Bo (icmp .lss (s.1 : Int) (L_a.length : Int))), (u4 10), (u4 11), (u4 12), (u4 13), (u4 14), (u4 15), (u4 16), (u4 17), (u4 18), (u4 19), (Iv s.2)]) rfl rfl (does_move (u := (Iv s.2)) (ev rfl)) rfl ?_
    refine q_is (l' := [(.slice p_a L_a.length q_a), (Iv s.2), Ud, Ud, (Iv s.2), (Iv (s.1 : Int)), (Iv (s.1 : Int)), (.slice p_a L_a.length q_a), (Iv (L_a.length : Int)), (Bo (icmp .lss (s.1 : Int) (L_a.length : Int))), (u4 10), (u4 11), (u4 12), (u4 13), (u4 14), (u4 15), (u4 16), (u4 17), (u4 18), (u4 19), (Iv s.2)]) rfl rfl (does_assign (u := (Iv s.2)) (ev rfl)) rfl ?_
    refine wpList_nil (hK28 _ _ ?_)
    refine wp_ret ?_
    refine ret_val (v := (Iv s.2)) (res_T rfl (slot rfl)) X8 ?_
    have x29 : (k + (liSum L_a L_a.length : Nat) : Int) = s.2 := by first | omega | (rw [hn2, show s.1 = L_a.length by omega])
    exact (by first | with_reducible rfl | rw [x29] | rfl)

/- laws.heldMesh -/
theorem c_laws_heldMesh (m : List Value) (A_m : MeshT) (k : Int) (w : World) (hv_m : RMeshT w A_m m) (hm1 : A_m.places = mkL fV 3 k A_m.places.length) (hm2 : A_m.tris = mkLL fI 1 (preK (k + (A_m.places.length : Int) * 3) A_m.tris) A_m.tris) (h0 : 0 ≤ k) (h1 : k + meSz A_m ≤ 4611686018427387904) : Gives Try.prog 18 #[(.agg m.toArray), (Iv k)] w (fun v w' => v = (Iv (k + meSz A_m))) := by
  obtain ⟨y1, y3, rfl, h2, h4⟩ := hv_m
  have hs7 := h2; have hs7l := Sl.len h2; obtain ⟨p5, q6, rfl⟩ := Sl.shape h2
  have hs10 := h4; have hs10l := Sl.len h4; obtain ⟨p8, q9, rfl⟩ := Sl.shape h4
  have hsz : meSz A_m = (A_m.places.length : Int) * 3 + (liSum A_m.tris A_m.tris.length : Nat) := rfl
  refine enter [(.agg #[(.slice p5 A_m.places.length q6), (.slice p8 A_m.tris.length q9)]), (Iv k), Ud, Ud, Ud, Ud, Ud, Ud, Ud, Ud, Ud, Ud, Ud, Ud, Ud, Ud, Ud, Ud] Try.func18 rfl Try.ntmps18 rfl ?_
  refine wp_seq_k fun K11 hK11 => ?_
  refine wp_region_lit ?_
  refine seqd rfl rfl (does_box (u := (.agg #[(.slice p5 A_m.places.length q6), (.slice p8 A_m.tris.length q9)])) (ev rfl)) ?_; rintro _ w16 ⟨b12, rfl, hb13, hB14, E15⟩
  have g17 : w.heap.size ≤ b12 := Nat.le_trans (Below.size (Ext.refl w)) hb13
  change Blk _ _ [(.slice p5 A_m.places.length q6), (.slice p8 A_m.tris.length q9)] at hB14
  have X18 := Ext.gr (Ext.refl w) E15
  show wpList _ _ _ _ (fr [(.agg #[(.slice p5 A_m.places.length q6), (.slice p8 A_m.tris.length q9)]), (Iv k), (Pt b12 0), Ud, Ud, Ud, Ud, Ud, Ud, Ud, Ud, Ud, Ud, Ud, Ud, Ud, Ud, Ud]) _
  refine q_is (l' := [(.agg #[(.slice p5 A_m.places.length q6), (.slice p8 A_m.tris.length q9)]), (Iv k), (Pt b12 0), Ud, (Iv 0), Ud, Ud, Ud, Ud, Ud, Ud, Ud, Ud, Ud, Ud, Ud, Ud, Ud]) rfl rfl (does_assign (u := (Iv 0)) (ev rfl)) rfl ?_
  refine wpList_nil (hK11 _ _ ?_)
  refine wp_seq_k fun K19 hK19 => ?_
  refine wp_region_lit ?_
  refine q_is (l' := [(.agg #[(.slice p5 A_m.places.length q6), (.slice p8 A_m.tris.length q9)]), (Iv k), (Pt b12 0), Ud, (Iv 0), (Pt b12 0), Ud, Ud, Ud, Ud, Ud, Ud, Ud, Ud, Ud, Ud, Ud, Ud]) rfl rfl (does_fieldAddr (ev rfl) fa32_0) rfl ?_
  refine q_is (l' := [(.agg #[(.slice p5 A_m.places.length q6), (.slice p8 A_m.tris.length q9)]), (Iv k), (Pt b12 0), Ud, (Iv 0), (Pt b12 0), (.slice p5 A_m.places.length q6), Ud, Ud, Ud, Ud, Ud, Ud, Ud, Ud, Ud, Ud, Ud]) rfl rfl (does_load (u := (.slice p5 A_m.places.length q6)) (ev rfl) Try.isAgg30 (Cells.at (Blk.cells hB14) 0 rfl)) rfl ?_
  refine q_is (l' := [(.agg #[(.slice p5 A_m.places.length q6), (.slice p8 A_m.tris.length q9)]), (Iv k), (Pt b12 0), Ud, (Iv 0), (Pt b12 0), (.slice p5 A_m.places.length q6), (Iv k), Ud, Ud, Ud, Ud, Ud, Ud, Ud, Ud, Ud, Ud]) rfl rfl (does_move (u := (Iv k)) (ev rfl)) rfl ?_
  refine seqd rfl rfl (does_call (args := #[(.slice p5 A_m.places.length q6), (Iv k)]) cal37 (evs rfl) (c_laws_heldVectorS (.slice p5 A_m.places.length q6) A_m.places k _ (Sl.ext hs7 RV3.mono X18) (by exact hm1) (by omega) (by omega))) ?_; rintro _ w21 ⟨E20, rfl⟩
  have X22 := Ext.gr X18 E20
  show wpList _ _ _ _ (fr [(.agg #[(.slice p5 A_m.places.length q6), (.slice p8 A_m.tris.length q9)]), (Iv k), (Pt b12 0), Ud, (Iv 0), (Pt b12 0), (.slice p5 A_m.places.length q6), (Iv k), (Iv (k + (A_m.places.length : Int) * 3)), Ud, Ud, Ud, Ud, Ud, Ud, Ud, Ud, Ud]) _
  refine q_is (l' := [(.agg #[(.slice p5 A_m.places.length q6), (.slice p8 A_m.tris.length q9)]), (Iv (k + (A_m.places.length : Int) * 3)), (Pt b12 0), Ud, (Iv 0), (Pt b12 0), (.slice p5 A_m.places.length q6), (Iv k), (Iv (k + (A_m.places.length : Int) * 3)), Ud, Ud, Ud, Ud, Ud, Ud, Ud, Ud, Ud]) rfl rfl (does_assign (u := (Iv (k + (A_m.places.length : Int) * 3))) (ev rfl)) rfl ?_
  refine wpList_nil (hK19 _ _ ?_)
  refine wp_seq_k fun K23 hK23 => ?_
  refine wp_seq_k fun K24 hK24 => ?_
  refine wp_region_lit ?_
  refine q_is (l' := [(.agg #[(.slice p5 A_m.places.length q6), (.slice p8 A_m.tris.length q9)]), (Iv (k + (A_m.places.length : Int) * 3)), (Pt b12 0), Ud, (Iv 0), (Pt b12 0), (.slice p5 A_m.places.length q6), (Iv k), (Iv (k + (A_m.places.length : Int) * 3)), (Iv (k + (A_m.places.length : Int) * 3)), Ud, Ud, Ud, Ud, Ud, Ud, Ud, Ud]) rfl rfl (does_move (u := (Iv (k + (A_m.places.length : Int) * 3))) (ev rfl)) rfl ?_
  refine q_is (l' := [(.agg #[(.slice p5 A_m.places.length q6), (.slice p8 A_m.tris.length q9)]), (Iv (k + (A_m.places.length : Int) * 3)), (Pt b12 0), Ud, (Iv 0), (Pt b12 0), (.slice p5 A_m.places.length q6), (Iv k), (Iv (k + (A_m.places.length : Int) * 3)), (Iv (k + (A_m.places.length : Int) * 3)), (Bo (icmp .lss (k + (A_m.places.length : Int) * 3) 0)), Ud, Ud, Ud, Ud, Ud, Ud, Ud]) rfl rfl (does_icmp (p := k + (A_m.places.length : Int) * 3) (q := 0) (.inr (.inr (.inl rfl))) (ev rfl) (ev rfl)) rfl ?_
  refine wpList_nil (hK24 _ _ ?_)
  refine wp_cond_split (t := icmp .lss (k + (A_m.places.length : Int) * 3) 0) (ev rfl) (fun c25 => ?_) (fun c25 => ?_)
  · have c25' := c25
    (try simp only [icmp, Bool.and_eq_true, Bool.or_eq_true, Bool.and_eq_false_iff, Bool.or_eq_false_iff, Bool.not_eq_true', Bool.not_eq_false', decide_eq_true_eq, decide_eq_false_iff_not, beq_iff_eq, bne_iff_ne, beq_eq_false_iff_ne, bne_eq_false_iff_eq] at c25')
    exfalso; simp only [icmp, decide_eq_true_eq] at c25; omega
  have c25' := c25
  (try simp only [icmp, Bool.and_eq_true, Bool.or_eq_true, Bool.and_eq_false_iff, Bool.or_eq_false_iff, Bool.not_eq_true', Bool.not_eq_false', decide_eq_true_eq, decide_eq_false_iff_not, beq_iff_eq, bne_iff_ne, beq_eq_false_iff_ne, bne_eq_false_iff_eq] at c25')
  refine wp_skip (hK23 _ _ ?_)
  refine wp_seq_k fun K26 hK26 => ?_
  refine wp_region_lit ?_
  refine q_is (l' := [(.agg #[(.slice p5 A_m.places.length q6), (.slice p8 A_m.tris.length q9)]), (Iv (k + (A_m.places.length : Int) * 3)), (Pt b12 0), Ud, (Iv 0), (Pt b12 0), (.slice p5 A_m.places.length q6), (Iv k), (Iv (k + (A_m.places.length : Int) * 3)), (Iv (k + (A_m.places.length : Int) * 3)), (Bo (icmp .lss (k + (A_m.places.length : Int) * 3) 0)), (Pt b12 1), Ud, Ud, Ud, Ud, Ud, Ud]) rfl rfl (does_fieldAddr (ev rfl) fa32_1) rfl ?_
  refine q_is (l' := [(.agg #[(.slice p5 A_m.places.length q6), (.slice p8 A_m.tris.length q9)]), (Iv (k + (A_m.places.length : Int) * 3)), (Pt b12 0), Ud, (Iv 0), (Pt b12 0), (.slice p5 A_m.places.length q6), (Iv k), (Iv (k + (A_m.places.length : Int) * 3)), (Iv (k + (A_m.places.length : Int) * 3)), (Bo (icmp .lss (k + (A_m.places.length : Int) * 3) 0)), (Pt b12 1), (.slice p8 A_m.tris.length q9), Ud, Ud, Ud, Ud, Ud]) rfl rfl (does_load (u := (.slice p8 A_m.tris.length q9)) (ev rfl) Try.isAgg23 (Cells.at (Blk.cells (hB14.ext E20)) 1 rfl)) rfl ?_
  refine q_is (l' := [(.agg #[(.slice p5 A_m.places.length q6), (.slice p8 A_m.tris.length q9)]), (Iv (k + (A_m.places.length : Int) * 3)), (Pt b12 0), Ud, (Iv 0), (Pt b12 0), (.slice p5 A_m.places.length q6), (Iv k), (Iv (k + (A_m.places.length : Int) * 3)), (Iv (k + (A_m.places.length : Int) * 3)), (Bo (icmp .lss (k + (A_m.places.length : Int) * 3) 0)), (Pt b12 1), (.slice p8 A_m.tris.length q9), (Iv (k + (A_m.places.length : Int) * 3)), Ud, Ud, Ud, Ud]) rfl rfl (does_move (u := (Iv (k + (A_m.places.length : Int) * 3))) (ev rfl)) rfl ?_
  refine seqd rfl rfl (does_call (args := #[(.slice p8 A_m.tris.length q9), (Iv (k + (A_m.places.length : Int) * 3))]) cal38 (evs rfl) (c_laws_heldInt64SS (.slice p8 A_m.tris.length q9) A_m.tris (k + (A_m.places.length : Int) * 3) _ (Sl.ext hs10 (RS.mono RI.mono) X22) (by exact hm2) (by omega) (by omega))) ?_; rintro _ w28 ⟨E27, rfl⟩
  have X29 := Ext.gr X22 E27
  show wpList _ _ _ _ (fr [(.agg #[(.slice p5 A_m.places.length q6), (.slice p8 A_m.tris.length q9)]), (Iv (k + (A_m.places.length : Int) * 3)), (Pt b12 0), Ud, (Iv 0), (Pt b12 0), (.slice p5 A_m.places.length q6), (Iv k), (Iv (k + (A_m.places.length : Int) * 3)), (Iv (k + (A_m.places.length : Int) * 3)), (Bo (icmp .lss (k + (A_m.places.length : Int) * 3) 0)), (Pt b12 1), (.slice p8 A_m.tris.length q9), (Iv (k + (A_m.places.length : Int) * 3)), (Iv ((k + (A_m.places.length : Int) * 3) + (liSum A_m.tris A_m.tris.length : Nat))), Ud, Ud, Ud]) _
  refine q_is (l' := [(.agg #[(.slice p5 A_m.places.length q6), (.slice p8 A_m.tris.length q9)]), (Iv ((k + (A_m.places.length : Int) * 3) + (liSum A_m.tris A_m.tris.length : Nat))), (Pt b12 0), Ud, (Iv 0), (Pt b12 0), (.slice p5 A_m.places.length q6), (Iv k), (Iv (k + (A_m.places.length : Int) * 3)), (Iv (k + (A_m.places.length : Int) * 3)), (Bo (icmp .lss (k + (A_m.places.length : Int) * 3) 0)), (Pt b12 1), (.slice p8 A_m.tris.length q9), (Iv (k + (A_m.places.length : Int) * 3)), (Iv ((k + (A_m.places.length : Int) * 3) + (liSum A_m.tris A_m.tris.length : Nat))), Ud, Ud, Ud]) rfl rfl (does_assign (u := (Iv ((k + (A_m.places.length : Int) * 3) + (liSum A_m.tris A_m.tris.length : Nat)))) (ev rfl)) rfl ?_
  refine wpList_nil (hK26 _ _ ?_)
  refine wp_seq_k fun K30 hK30 => ?_
  refine wp_seq_k fun K31 hK31 => ?_
  refine wp_region_lit ?_
  refine q_is (l' := [(.agg #[(.slice p5 A_m.places.length q6), (.slice p8 A_m.tris.length q9)]), (Iv ((k + (A_m.places.length : Int) * 3) + (liSum A_m.tris A_m.tris.length : Nat))), (Pt b12 0), Ud, (Iv 0), (Pt b12 0), (.slice p5 A_m.places.length q6), (Iv k), (Iv (k + (A_m.places.length : Int) * 3)), (Iv (k + (A_m.places.length : Int) * 3)), (Bo (icmp .lss (k + (A_m.places.length : Int) * 3) 0)), (Pt b12 1), (.slice p8 A_m.tris.length q9), (Iv (k + (A_m.places.length : Int) * 3)), (Iv ((k + (A_m.places.length : Int) * 3) + (liSum A_m.tris A_m.tris.length : Nat))), (Iv ((k + (A_m.places.length : Int) * 3) + (liSum A_m.tris A_m.tris.length : Nat))), Ud, Ud]) rfl rfl (does_move (u := (Iv ((k + (A_m.places.length : Int) * 3) + (liSum A_m.tris A_m.tris.length : Nat)))) (ev rfl)) rfl ?_
  refine q_is (l' := [(.agg #[(.slice p5 A_m.places.length q6), (.slice p8 A_m.tris.length q9)]), (Iv ((k + (A_m.places.length : Int) * 3) + (liSum A_m.tris A_m.tris.length : Nat))), (Pt b12 0), Ud, (Iv 0), (Pt b12 0), (.slice p5 A_m.places.length q6), (Iv k), (Iv (k + (A_m.places.length : Int) * 3)), (Iv (k + (A_m.places.length : Int) * 3)), (Bo (icmp .lss (k + (A_m.places.length : Int) * 3) 0)), (Pt b12 1), (.slice p8 A_m.tris.length q9), (Iv (k + (A_m.places.length : Int) * 3)), (Iv ((k + (A_m.places.length : Int) * 3) + (liSum A_m.tris A_m.tris.length : Nat))), (Iv ((k + (A_m.places.length : Int) * 3) + (liSum A_m.tris A_m.tris.length : Nat))), (Bo (icmp .lss ((k + (A_m.places.length : Int) * 3) + (liSum A_m.tris A_m.tris.length : Nat)) 0)), Ud]) rfl rfl (does_icmp (p := (k + (A_m.places.length : Int) * 3) + (liSum A_m.tris A_m.tris.length : Nat)) (q := 0) (.inr (.inr (.inl rfl))) (ev rfl) (ev rfl)) rfl ?_
  refine wpList_nil (hK31 _ _ ?_)
  refine wp_cond_split (t := icmp .lss ((k + (A_m.places.length : Int) * 3) + (liSum A_m.tris A_m.tris.length : Nat)) 0) (ev rfl) (fun c32 => ?_) (fun c32 => ?_)
  · have c32' := c32
    (try simp only [icmp, Bool.and_eq_true, Bool.or_eq_true, Bool.and_eq_false_iff, Bool.or_eq_false_iff, Bool.not_eq_true', Bool.not_eq_false', decide_eq_true_eq, decide_eq_false_iff_not, beq_iff_eq, bne_iff_ne, beq_eq_false_iff_ne, bne_eq_false_iff_eq] at c32')
    exfalso; simp only [icmp, decide_eq_true_eq] at c32; omega
  have c32' := c32
  (try simp only [icmp, Bool.and_eq_true, Bool.or_eq_true, Bool.and_eq_false_iff, Bool.or_eq_false_iff, Bool.not_eq_true', Bool.not_eq_false', decide_eq_true_eq, decide_eq_false_iff_not, beq_iff_eq, bne_iff_ne, beq_eq_false_iff_ne, bne_eq_false_iff_eq] at c32')
  refine wp_skip (hK30 _ _ ?_)
  refine wp_seq_k fun K33 hK33 => ?_
  refine wp_region_lit ?_
  refine q_is (l' := [(.agg #[(.slice p5 A_m.places.length q6), (.slice p8 A_m.tris.length q9)]), (Iv ((k + (A_m.places.length : Int) * 3) + (liSum A_m.tris A_m.tris.length : Nat))), (Pt b12 0), Ud, (Iv 0), (Pt b12 0), (.slice p5 A_m.places.length q6), (Iv k), (Iv (k + (A_m.places.length : Int) * 3)), (Iv (k + (A_m.places.length : Int) * 3)), (Bo (icmp .lss (k + (A_m.places.length : Int) * 3) 0)), (Pt b12 1), (.slice p8 A_m.tris.length q9), (Iv (k + (A_m.places.length : Int) * 3)), (Iv ((k + (A_m.places.length : Int) * 3) + (liSum A_m.tris A_m.tris.length : Nat))), (Iv ((k + (A_m.places.length : Int) * 3) + (liSum A_m.tris A_m.tris.length : Nat))), (Bo (icmp .lss ((k + (A_m.places.length : Int) * 3) + (liSum A_m.tris A_m.tris.length : Nat)) 0)), (Iv ((k + (A_m.places.length : Int) * 3) + (liSum A_m.tris A_m.tris.length : Nat)))]) rfl rfl (does_move (u := (Iv ((k + (A_m.places.length : Int) * 3) + (liSum A_m.tris A_m.tris.length : Nat)))) (ev rfl)) rfl ?_
  refine q_is (l' := [(.agg #[(.slice p5 A_m.places.length q6), (.slice p8 A_m.tris.length q9)]), (Iv ((k + (A_m.places.length : Int) * 3) + (liSum A_m.tris A_m.tris.length : Nat))), (Pt b12 0), Ud, (Iv ((k + (A_m.places.length : Int) * 3) + (liSum A_m.tris A_m.tris.length : Nat))), (Pt b12 0), (.slice p5 A_m.places.length q6), (Iv k), (Iv (k + (A_m.places.length : Int) * 3)), (Iv (k + (A_m.places.length : Int) * 3)), (Bo (icmp .lss (k + (A_m.places.length : Int) * 3) 0)), (Pt b12 1), (.slice p8 A_m.tris.length q9), (Iv (k + (A_m.places.length : Int) * 3)), (Iv ((k + (A_m.places.length : Int) * 3) + (liSum A_m.tris A_m.tris.length : Nat))), (Iv ((k + (A_m.places.length : Int) * 3) + (liSum A_m.tris A_m.tris.length : Nat))), (Bo (icmp .lss ((k + (A_m.places.length : Int) * 3) + (liSum A_m.tris A_m.tris.length : Nat)) 0)), (Iv ((k + (A_m.places.length : Int) * 3) + (liSum A_m.tris A_m.tris.length : Nat)))]) rfl rfl (does_assign (u := (Iv ((k + (A_m.places.length : Int) * 3) + (liSum A_m.tris A_m.tris.length : Nat)))) (ev rfl)) rfl ?_
  refine wpList_nil (hK33 _ _ ?_)
  refine wp_ret ?_
  refine ret_val (v := (Iv ((k + (A_m.places.length : Int) * 3) + (liSum A_m.tris A_m.tris.length : Nat)))) (res_T rfl (slot rfl)) X29 ?_
  have x34 : (k + meSz A_m : Int) = ((k + (A_m.places.length : Int) * 3) + (liSum A_m.tris A_m.tris.length : Nat)) := by omega
  exact (by first | with_reducible rfl | rw [x34] | rfl)

end Go.Proofs.Ytoblnfkpjgghiaa
