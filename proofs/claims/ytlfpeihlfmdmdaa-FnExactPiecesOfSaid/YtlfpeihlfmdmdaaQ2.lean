/- contracts of functions, each walked once -/
import Derived.Test.YtlfpeihlfmdmdaaQ
namespace Go.Proofs.Ytlfpeihlfmdmdaa
open Go Go.RowKit
set_option maxRecDepth 100000
set_option maxHeartbeats 3200000
set_option linter.unusedVariables false
set_option linter.unusedSimpArgs false

/- spec.PiecesOf -/
theorem c_spec_PiecesOf (m : List Value) (A_m : MeshT) (w : World) (hv_m : RMeshT w A_m m) : Gives Try.prog 6 #[(.agg m.toArray)] w (fun v w' => ∃ y_1 : Value, v = (.tuple #[y_1, (Iv ((pcsM A_m).2)), (Bo (meshOk A_m))]) ∧ Hang w.heap.size w' (fun u => Sl RI 1 u y_1 ((pcsM A_m).1))) := by
  obtain ⟨y1, y3, rfl, h2, h4⟩ := hv_m
  have hs7 := h2; have hs7l := Sl.len h2; obtain ⟨p5, q6, rfl⟩ := Sl.shape h2
  have hs10 := h4; have hs10l := Sl.len h4; obtain ⟨p8, q9, rfl⟩ := Sl.shape h4
  refine enter [(.agg #[(.slice p5 A_m.places.length q6), (.slice p8 A_m.tris.length q9)]), Ud, Ud, Ud, Ud, Ud, Ud, Ud, Ud, Ud, Ud, Ud, Ud, Ud, Ud, Ud, Ud, Ud, Ud, Ud, Ud, Ud, Ud, Ud, Ud, Ud, Ud, Ud, Ud, Ud, Ud, Ud, Ud, Ud, Ud, Ud, Ud, Ud, Ud, Ud, Ud, Ud, Ud, Ud, Ud, Ud, Ud, Ud, Ud, Ud, Ud, Ud, Ud, Ud, Ud, Ud, Ud, Ud, Ud, Ud, Ud, Ud, Ud, Ud, Ud, Ud, Ud, Ud, Ud, Ud, Ud, Ud, Ud, Ud, Ud, Ud, Ud, Ud, Ud, Ud, Ud, Ud, Ud, Ud, Ud, Ud, Ud, Ud, Ud, Ud, Ud, Ud, Ud, Ud, Ud, Ud, Ud, Ud, Ud, Ud, Ud, Ud, Ud, Ud, Ud, Ud, Ud, Ud, Ud, Ud, Ud, Ud, Ud, Ud, Ud, Ud, Ud, Ud, Ud, Ud, Ud, Ud, Ud, Ud, Ud, Ud, Ud, Ud, Ud, Ud, Ud, Ud, Ud, Ud, Ud, Ud, Ud, Ud, Ud, Ud, Ud, Ud, Ud, Ud, Ud, Ud] Try.func6 rfl Try.ntmps6 rfl ?_
  refine wp_seq_k fun K11 hK11 => ?_
  refine wp_region_lit ?_
  refine seqd rfl rfl (does_box (u := (.agg #[(.slice p5 A_m.places.length q6), (.slice p8 A_m.tris.length q9)])) (ev rfl)) ?_; rintro _ w16 ⟨b12, rfl, hb13, hB14, E15⟩
  have g17 : w.heap.size ≤ b12 := Nat.le_trans (Below.size (Ext.refl w)) hb13
  change Blk _ _ [(.slice p5 A_m.places.length q6), (.slice p8 A_m.tris.length q9)] at hB14
  have X18 := Ext.gr (Ext.refl w) E15
  show wpList _ _ _ _ (fr [_, _, _, _, _, _, _, _, _, _, _, _, _, _, _, _, _, _, _, _, _, _, _, _, _, _, _, _, _, _, _, _, _, _, _, _, _, _, _, _, _, _, _, _, _, _, _, _, _, _, _, _, _, _, _, _, _, _, _, _, _, _, _, _, _, _, _, _, _, _, _, _, _, _, _, _, _, _, _, _, _, _, _, _, _, _, _, _, _, _, _, _, _, _, _, _, _, _, _, _, _, _, _, _, _, _, _, _, _, _, _, _, _, _, _, _, _, _, _, _, _, _, _, _, _, _, _, _, _, _, _, _, _, _, _, _, _, _, _, _, _, _, _, _, _, _]) _
  refine q_is rfl rfl (does_assign (u := (.slice none 0 0)) (ev rfl)) (by dsimp only [List.set]; try rfl) ?_
  refine q_is rfl rfl (does_assign (u := (Iv 0)) (ev rfl)) (by dsimp only [List.set]; try rfl) ?_
  refine q_is rfl rfl (does_assign (u := (Bo false)) (ev rfl)) (by dsimp only [List.set]; try rfl) ?_
  refine wpList_nil (hK11 _ _ ?_)
  refine wp_seq_k fun K19 hK19 => ?_
  refine wp_seq_k fun K20 hK20 => ?_
  refine wp_region_lit ?_
  refine seqd rfl rfl (does_call (args := #[(Pt b12 0)]) cal22 (evs rfl) (c_spec_l07Is b12 0 [(.slice p5 A_m.places.length q6), (.slice p8 A_m.tris.length q9)] A_m _ (Blk.cells hB14) ⟨(.slice p5 A_m.places.length q6), (.slice p8 A_m.tris.length q9), rfl, (Sl.ext hs7 RV3.mono X18), (Sl.ext hs10 (RS.mono RI.mono) X18)⟩)) ?_; rintro _ w22 ⟨E21, rfl⟩
  have X23 := Ext.gr X18 E21
  show wpList _ _ _ _ (fr [_, _, _, _, _, _, _, _, _, _, _, _, _, _, _, _, _, _, _, _, _, _, _, _, _, _, _, _, _, _, _, _, _, _, _, _, _, _, _, _, _, _, _, _, _, _, _, _, _, _, _, _, _, _, _, _, _, _, _, _, _, _, _, _, _, _, _, _, _, _, _, _, _, _, _, _, _, _, _, _, _, _, _, _, _, _, _, _, _, _, _, _, _, _, _, _, _, _, _, _, _, _, _, _, _, _, _, _, _, _, _, _, _, _, _, _, _, _, _, _, _, _, _, _, _, _, _, _, _, _, _, _, _, _, _, _, _, _, _, _, _, _, _, _, _, _]) _
  refine q_is rfl rfl (does_not (ev rfl)) (by dsimp only [List.set]; try rfl) ?_
  refine wpList_nil (hK20 _ _ ?_)
  refine wp_cond_split (t := !(meshOk A_m)) (ev rfl) (fun c24 => ?_) (fun c24 => ?_)
  · rw [Bool.not_eq_true'] at c24
    have c24' := c24
    have hmf : meshOk A_m = false := c24
    refine wp_seq_k fun K25 hK25 => ?_
    refine wp_region_lit ?_
    refine q_is rfl rfl (does_assign (u := (.slice none 0 0)) (ev rfl)) (by dsimp only [List.set]; try rfl) ?_
    refine q_is rfl rfl (does_assign (u := (Iv 0)) (ev rfl)) (by dsimp only [List.set]; try rfl) ?_
    refine q_is rfl rfl (does_assign (u := (Bo false)) (ev rfl)) (by dsimp only [List.set]; try rfl) ?_
    refine wpList_nil (hK25 _ _ ?_)
    refine wp_ret ?_
    dsimp only [Exit.then, Exit.inBlock]
    refine ret_val (v := (.tuple #[(.slice none 0 0), (Iv 0), (Bo false)])) (res_TTT rfl (slot rfl) (slot rfl) (slot rfl)) X23 ?_
    have x26 : ((pcsM A_m).2 : Int) = 0 := by first | exact hmf | exact hmt | (rw [pcsM_f hmf]; done) | (rw [pcsM_f hmf]; rfl) | (rw [pcsM_t hmt]; done) | (rw [pcsM_t hmt]; rfl) | (rw [pcsM_s hmt, show k = A_m.places.length by omega]; done) | (rw [pcsM_s hmt, show k = A_m.places.length by omega])
    have x27 : (meshOk A_m) = false := by first | exact hmf | exact hmt | (rw [pcsM_f hmf]; done) | (rw [pcsM_f hmf]; rfl) | (rw [pcsM_t hmt]; done) | (rw [pcsM_t hmt]; rfl) | (rw [pcsM_s hmt, show k = A_m.places.length by omega]; done) | (rw [pcsM_s hmt, show k = A_m.places.length by omega])
    have x28 : ([]) = ((pcsM A_m).1) := by first | exact hmf | exact hmt | (rw [pcsM_f hmf]; done) | (rw [pcsM_f hmf]; rfl) | (rw [pcsM_t hmt]; done) | (rw [pcsM_t hmt]; rfl) | (rw [pcsM_s hmt, show k = A_m.places.length by omega]; done) | (rw [pcsM_s hmt, show k = A_m.places.length by omega])
    exact ⟨(.slice none 0 0), (by first | with_reducible rfl | rw [x26, x27] | rw [x27, x26] | rfl), (Hang.castL (Sl.hang_nil _ _ _ _) x28)⟩
  rw [Bool.not_eq_false'] at c24
  have c24' := c24
  have hmt : meshOk A_m = true := c24
  have hml := mesh_len hmt
  have hnl := nextL_len A_m
  refine wp_skip (hK19 _ _ ?_)
  refine wp_seq_k fun K29 hK29 => ?_
  refine wp_region_lit ?_
  refine seqd rfl rfl (does_call (args := #[(Pt b12 0)]) cal23 (evs rfl) (c_spec_l07Next b12 0 [(.slice p5 A_m.places.length q6), (.slice p8 A_m.tris.length q9)] A_m _ (Blk.cells (hB14.ext E21)) ⟨(.slice p5 A_m.places.length q6), (.slice p8 A_m.tris.length q9), rfl, (Sl.ext hs7 RV3.mono X23), (Sl.ext hs10 (RS.mono RI.mono) X23)⟩ (by exact hmt))) ?_; rintro _ w31 ⟨E30, ⟨y33, rfl, hh32⟩⟩
  have X34 := Ext.gr X23 E30
  have n35 : b12 < w22.heap.size := Blk.lt (hB14.ext E21)
  obtain ⟨p36, q37, rfl⟩ := Sl.shape hh32.get
  show wpList _ _ _ _ (fr [_, _, _, _, _, _, _, _, _, _, _, _, _, _, _, _, _, _, _, _, _, _, _, _, _, _, _, _, _, _, _, _, _, _, _, _, _, _, _, _, _, _, _, _, _, _, _, _, _, _, _, _, _, _, _, _, _, _, _, _, _, _, _, _, _, _, _, _, _, _, _, _, _, _, _, _, _, _, _, _, _, _, _, _, _, _, _, _, _, _, _, _, _, _, _, _, _, _, _, _, _, _, _, _, _, _, _, _, _, _, _, _, _, _, _, _, _, _, _, _, _, _, _, _, _, _, _, _, _, _, _, _, _, _, _, _, _, _, _, _, _, _, _, _, _, _]) _
  refine q_is rfl rfl (does_assign (u := (.slice p36 ((nextL A_m).length) q37)) (ev rfl)) (by dsimp only [List.set]; try rfl) ?_
  refine wpList_nil (hK29 _ _ ?_)
  refine wp_seq_k fun K38 hK38 => ?_
  refine wp_region_lit ?_
  refine q_is rfl rfl (does_fieldAddr (ev rfl) fa32_0) (by dsimp only [List.set]; try rfl) ?_
  refine q_is rfl rfl (does_load (u := (.slice p5 A_m.places.length q6)) (ev rfl) Try.isAgg30 (Cells.at (Blk.cells ((hB14.ext E21).ext E30)) 0 rfl)) (by dsimp only [List.set]; try rfl) ?_
  refine q_is rfl rfl (does_len_slice Try.underlying30 (ev rfl)) (by dsimp only [List.set]; try rfl) ?_
  refine seqd rfl rfl (does_makeSlice (n := A_m.places.length) Try.underlying23 inf27 (ev rfl) (ev rfl) (by omega)) ?_; rintro _ w43 ⟨b39, rfl, hb40, ⟨cs44, hB41, hl45, hz46⟩, E42⟩
  have n47 : b12 < b39 := Nat.lt_of_lt_of_le (Blk.lt ((hB14.ext E21).ext E30)) hb40
  have g48 : w.heap.size ≤ b39 := Nat.le_trans (Below.size X34) hb40
  have X49 := Ext.gr X34 E42
  have hR50 : RowG RVl 1 w43 b39 (List.replicate A_m.places.length (.slice none 0 0)) := RowG.made (z := (.slice none 0 0)) hB41 rfl rfl hz46 rfl
  have n52 : b12 < w43.heap.size := Blk.lt (((hB14.ext E21).ext E30).ext E42)
  have n53 : b39 < w43.heap.size := RowG.lt hR50
  have hN51 : NxI 2 w43.heap.size w43 (List.replicate A_m.places.length (.slice none 0 0)) (List.replicate A_m.places.length []) := NxI.zero _ (Nat.le_refl _)
  show wpList _ _ _ _ (fr [_, _, _, _, _, _, _, _, _, _, _, _, _, _, _, _, _, _, _, _, _, _, _, _, _, _, _, _, _, _, _, _, _, _, _, _, _, _, _, _, _, _, _, _, _, _, _, _, _, _, _, _, _, _, _, _, _, _, _, _, _, _, _, _, _, _, _, _, _, _, _, _, _, _, _, _, _, _, _, _, _, _, _, _, _, _, _, _, _, _, _, _, _, _, _, _, _, _, _, _, _, _, _, _, _, _, _, _, _, _, _, _, _, _, _, _, _, _, _, _, _, _, _, _, _, _, _, _, _, _, _, _, _, _, _, _, _, _, _, _, _, _, _, _, _, _]) _
  refine q_is rfl rfl (does_assign (u := (.slice (some ⟨b39, 0, none⟩) A_m.places.length A_m.places.length)) (ev rfl)) (by dsimp only [List.set]; try rfl) ?_
  refine wpList_nil (hK38 _ _ ?_)
  refine wp_seq_k fun K54 hK54 => ?_
  refine wp_seq_k fun K55 hK55 => ?_
  refine wp_region_lit ?_
  refine q_is rfl rfl (does_move (u := (.slice p36 ((nextL A_m).length) q37)) (ev rfl)) (by dsimp only [List.set]; try rfl) ?_
  refine q_is rfl rfl (does_len_slice Try.underlying23 (ev rfl)) (by dsimp only [List.set]; try rfl) ?_
  refine q_is rfl rfl (does_move (u := (Iv 0)) (ev rfl)) (by dsimp only [List.set]; try rfl) ?_
  refine wpList_nil (hK55 _ _ ?_)
  refine wp_block ?_
  refine loop_ghost (σ := Nat) (fun kb a w' => ∃ u56 : Nat → Value, a = fr [(.agg #[(.slice p5 A_m.places.length q6), (.slice p8 A_m.tris.length q9)]), (Pt b12 0), (.slice none 0 0), (Iv 0), (Bo false), (.slice p36 ((nextL A_m).length) q37), (.slice (some ⟨b39, 0, none⟩) A_m.places.length A_m.places.length), (u56 7), (u56 8), (u56 9), Ud, Ud, Ud, Ud, Ud, Ud, Ud, (Bo (meshOk A_m)), (Bo (!(meshOk A_m))), (.slice p36 ((nextL A_m).length) q37), (Pt b12 0), (.slice p5 A_m.places.length q6), (Iv (A_m.places.length : Int)), (.slice (some ⟨b39, 0, none⟩) A_m.places.length A_m.places.length), (.slice p36 ((nextL A_m).length) q37), (Iv (((nextL A_m).length) : Int)), (Iv (kb : Int)), (u56 27), (u56 28), (u56 29), (u56 30), (u56 31), (u56 32), (u56 33), (u56 34), (u56 35), (u56 36), (u56 37), (u56 38), (u56 39), (u56 40), (u56 41), (u56 42), (u56 43), (u56 44), (u56 45), (u56 46), (u56 47), (u56 48), (u56 49), (u56 50), (u56 51), (u56 52), (u56 53), (u56 54), (u56 55), Ud, Ud, Ud, Ud, Ud, Ud, Ud, Ud, Ud, Ud, Ud, Ud, Ud, Ud, Ud, Ud, Ud, Ud, Ud, Ud, Ud, Ud, Ud, Ud, Ud, Ud, Ud, Ud, Ud, Ud, Ud, Ud, Ud, Ud, Ud, Ud, Ud, Ud, Ud, Ud, Ud, Ud, Ud, Ud, Ud, Ud, Ud, Ud, Ud, Ud, Ud, Ud, Ud, Ud, Ud, Ud, Ud, Ud, Ud, Ud, Ud, Ud, Ud, Ud, Ud, Ud, Ud, Ud, Ud, Ud, Ud, Ud, Ud, Ud, Ud, Ud, Ud, Ud, Ud, Ud, Ud, Ud, Ud, Ud, Ud, Ud, Ud, Ud, Ud, Ud] ∧ KpC w43.heap.size [b39] w43 w' ∧ (∃ vs, RowG RVl 1 w' b39 vs ∧ NxI 2 w43.heap.size w' vs (bkTo A_m kb)) ∧ (kb ≤ (nextL A_m).length)) (fun kb => (nextL A_m).length - kb) 0 ?_ ?_
  · refine ⟨fun t => (([(.agg #[(.slice p5 A_m.places.length q6), (.slice p8 A_m.tris.length q9)]), (Pt b12 0), (.slice none 0 0), (Iv 0), (Bo false), (.slice p36 ((nextL A_m).length) q37), (.slice (some ⟨b39, 0, none⟩) A_m.places.length A_m.places.length), Ud, Ud, Ud, Ud, Ud, Ud, Ud, Ud, Ud, Ud, (Bo (meshOk A_m)), (Bo (!(meshOk A_m))), (.slice p36 ((nextL A_m).length) q37), (Pt b12 0), (.slice p5 A_m.places.length q6), (Iv (A_m.places.length : Int)), (.slice (some ⟨b39, 0, none⟩) A_m.places.length A_m.places.length), (.slice p36 ((nextL A_m).length) q37), (Iv (((nextL A_m).length) : Int)), (Iv 0), Ud, Ud, Ud, Ud, Ud, Ud, Ud, Ud, Ud, Ud, Ud, Ud, Ud, Ud, Ud, Ud, Ud, Ud, Ud, Ud, Ud, Ud, Ud, Ud, Ud, Ud, Ud, Ud, Ud, Ud, Ud, Ud, Ud, Ud, Ud, Ud, Ud, Ud, Ud, Ud, Ud, Ud, Ud, Ud, Ud, Ud, Ud, Ud, Ud, Ud, Ud, Ud, Ud, Ud, Ud, Ud, Ud, Ud, Ud, Ud, Ud, Ud, Ud, Ud, Ud, Ud, Ud, Ud, Ud, Ud, Ud, Ud, Ud, Ud, Ud, Ud, Ud, Ud, Ud, Ud, Ud, Ud, Ud, Ud, Ud, Ud, Ud, Ud, Ud, Ud, Ud, Ud, Ud, Ud, Ud, Ud, Ud, Ud, Ud, Ud, Ud, Ud, Ud, Ud, Ud, Ud, Ud, Ud, Ud, Ud, Ud, Ud, Ud, Ud, Ud, Ud, Ud, Ud, Ud] : List Value)[t]?).getD undef, rfl, KpC.refl _ _ _, ⟨_, hR50, NxI.cast (NxI.zero _ (Nat.le_refl _)) (by (try dsimp only); rfl)⟩, ?_⟩
    exact Nat.zero_le _
  · rintro kb a w57 ⟨u56, rfl, E58, ⟨vs0_kb, hRv0, hNx0⟩, hkb⟩
    obtain ⟨Lx60, K61, hL62⟩ := E58
    have X63 := Below.kl X49 K61 (fun c hc => (hL62 c hc).elim ((allS g48 all0) c) (fun h => Nat.le_trans (Below.size X49) h)) (Nat.le_refl _)
    have hR64 := hRv0; have hN65 := hNx0; clear hRv0 hNx0; have hvl65 := (NxI.len hN65).trans (show (bkTo A_m kb).length = A_m.places.length from by simp only [bkQ_len, bkTo_len, numTo_len, List.length_replicate, List.length_set])
    refine wp_seq_k fun K66 hK66 => ?_
    refine wp_region_lit ?_
    refine q_is rfl rfl (does_icmp (p := (kb : Int)) (q := (((nextL A_m).length) : Int)) (.inr (.inr (.inl rfl))) (ev rfl) (ev rfl)) (by dsimp only [List.set]; try rfl) ?_
    refine wpList_nil (hK66 _ _ ?_)
    refine wp_seq_k fun K67 hK67 => ?_
    refine wp_cond_split (t := icmp .lss (kb : Int) (((nextL A_m).length) : Int)) (ev rfl) (fun c68 => ?_) (fun c68 => ?_)
    · have c68' := c68
      (try simp only [icmp, Bool.and_eq_true, Bool.or_eq_true, Bool.and_eq_false_iff, Bool.or_eq_false_iff, Bool.not_eq_true', Bool.not_eq_false', decide_eq_true_eq, decide_eq_false_iff_not, beq_iff_eq, bne_iff_ne, beq_eq_false_iff_ne, bne_eq_false_iff_eq] at c68')
      refine wp_skip (hK67 _ _ ?_)
      refine wp_seq_k fun K69 hK69 => ?_
      refine wp_block ?_
      refine wp_seq_k fun K70 hK70 => ?_
      refine wp_region_lit ?_
      refine q_is rfl rfl (does_move (u := (Iv (kb : Int))) (ev rfl)) (by dsimp only [List.set]; try rfl) ?_
      refine q_is rfl rfl (does_assign (u := (Iv (kb : Int))) (ev rfl)) (by dsimp only [List.set]; try rfl) ?_
      refine wpList_nil (hK70 _ _ ?_)
      refine wp_seq_k fun K71 hK71 => ?_
      refine wp_region_lit ?_
      refine q_is rfl rfl (does_move (u := (.slice p36 ((nextL A_m).length) q37)) (ev rfl)) (by dsimp only [List.set]; try rfl) ?_
      refine q_is rfl rfl (does_move (u := (Iv (kb : Int))) (ev rfl)) (by dsimp only [List.set]; try rfl) ?_
      obtain ⟨el1, hel1⟩ : ∃ e, (nextL A_m)[kb]? = some e := ⟨_, List.getElem?_eq_getElem (by omega)⟩
      refine seqd rfl rfl (does_indexSl (R := (RS RI 1)) (i := (kb : Int)) (xs := (nextL A_m)) (e := el1) Try.underlying23 Try.sizeOf27 (ev rfl) (ev rfl) (hh32 _ (((Same.refl _ _).ext E42).kl K61 (fun c hc => (hL62 c hc).elim ((allS (p := fun c => c < w22.heap.size ∨ w31.heap.size ≤ c) (.inr (Nat.le_trans (Nat.le_refl _) hb40)) all0) c) (fun h => .inr (Nat.le_trans (Below.size E42) h))))) (by omega) hel1) ?_; rintro _ w57 ⟨b72, o73, _, rfl, hc75, ⟨y76, rfl, h77⟩, rfl⟩
      have hs80 := h77; have hs80l := Sl.len h77; obtain ⟨p78, q79, rfl⟩ := Sl.shape h77
      show wpList _ _ _ _ (fr [_, _, _, _, _, _, _, _, _, _, _, _, _, _, _, _, _, _, _, _, _, _, _, _, _, _, _, _, _, _, _, _, _, _, _, _, _, _, _, _, _, _, _, _, _, _, _, _, _, _, _, _, _, _, _, _, _, _, _, _, _, _, _, _, _, _, _, _, _, _, _, _, _, _, _, _, _, _, _, _, _, _, _, _, _, _, _, _, _, _, _, _, _, _, _, _, _, _, _, _, _, _, _, _, _, _, _, _, _, _, _, _, _, _, _, _, _, _, _, _, _, _, _, _, _, _, _, _, _, _, _, _, _, _, _, _, _, _, _, _, _, _, _, _, _, _]) _
      refine q_is rfl rfl (does_load (u := (.slice p78 el1.length q79)) (ev rfl) Try.isAgg27 (Cells.at hc75 0 rfl)) (by dsimp only [List.set]; try rfl) ?_
      refine q_is rfl rfl (does_len_slice Try.underlying27 (ev rfl)) (by dsimp only [List.set]; try rfl) ?_
      refine q_is rfl rfl (does_move (u := (Iv 0)) (ev rfl)) (by dsimp only [List.set]; try rfl) ?_
      refine wpList_nil (hK71 _ _ ?_)
      refine wp_block ?_
      refine loop_ghost (σ := Nat) (fun qb a w' => ∃ u81 : Nat → Value, a = fr [(.agg #[(.slice p5 A_m.places.length q6), (.slice p8 A_m.tris.length q9)]), (Pt b12 0), (.slice none 0 0), (Iv 0), (Bo false), (.slice p36 ((nextL A_m).length) q37), (.slice (some ⟨b39, 0, none⟩) A_m.places.length A_m.places.length), (Iv (kb : Int)), (u81 8), (u81 9), Ud, Ud, Ud, Ud, Ud, Ud, Ud, (Bo (meshOk A_m)), (Bo (!(meshOk A_m))), (.slice p36 ((nextL A_m).length) q37), (Pt b12 0), (.slice p5 A_m.places.length q6), (Iv (A_m.places.length : Int)), (.slice (some ⟨b39, 0, none⟩) A_m.places.length A_m.places.length), (.slice p36 ((nextL A_m).length) q37), (Iv (((nextL A_m).length) : Int)), (Iv (kb : Int)), (Bo (icmp .lss (kb : Int) (((nextL A_m).length) : Int))), (Iv (kb : Int)), (.slice p36 ((nextL A_m).length) q37), (Iv (kb : Int)), (Pt b72 o73), (.slice p78 el1.length q79), (Iv (el1.length : Int)), (Iv (qb : Int)), (u81 35), (u81 36), (u81 37), (u81 38), (u81 39), (u81 40), (u81 41), (u81 42), (u81 43), (u81 44), (u81 45), (u81 46), (u81 47), (u81 48), (u81 49), (u81 50), (u81 51), (u81 52), (u81 53), (u81 54), (u56 55), Ud, Ud, Ud, Ud, Ud, Ud, Ud, Ud, Ud, Ud, Ud, Ud, Ud, Ud, Ud, Ud, Ud, Ud, Ud, Ud, Ud, Ud, Ud, Ud, Ud, Ud, Ud, Ud, Ud, Ud, Ud, Ud, Ud, Ud, Ud, Ud, Ud, Ud, Ud, Ud, Ud, Ud, Ud, Ud, Ud, Ud, Ud, Ud, Ud, Ud, Ud, Ud, Ud, Ud, Ud, Ud, Ud, Ud, Ud, Ud, Ud, Ud, Ud, Ud, Ud, Ud, Ud, Ud, Ud, Ud, Ud, Ud, Ud, Ud, Ud, Ud, Ud, Ud, Ud, Ud, Ud, Ud, Ud, Ud, Ud, Ud, Ud, Ud, Ud, Ud] ∧ KpC w43.heap.size [b39] w57 w' ∧ (∃ vs, RowG RVl 1 w' b39 vs ∧ NxI 2 w43.heap.size w' vs (bkQ kb el1 (bkTo A_m kb) qb)) ∧ (qb ≤ el1.length)) (fun qb => el1.length - qb) 0 ?_ ?_
      · refine ⟨fun t => (([(.agg #[(.slice p5 A_m.places.length q6), (.slice p8 A_m.tris.length q9)]), (Pt b12 0), (.slice none 0 0), (Iv 0), (Bo false), (.slice p36 ((nextL A_m).length) q37), (.slice (some ⟨b39, 0, none⟩) A_m.places.length A_m.places.length), (Iv (kb : Int)), (u56 8), (u56 9), Ud, Ud, Ud, Ud, Ud, Ud, Ud, (Bo (meshOk A_m)), (Bo (!(meshOk A_m))), (.slice p36 ((nextL A_m).length) q37), (Pt b12 0), (.slice p5 A_m.places.length q6), (Iv (A_m.places.length : Int)), (.slice (some ⟨b39, 0, none⟩) A_m.places.length A_m.places.length), (.slice p36 ((nextL A_m).length) q37), (Iv (((nextL A_m).length) : Int)), (Iv (kb : Int)), (Bo (icmp .lss (kb : Int) (((nextL A_m).length) : Int))), (Iv (kb : Int)), (.slice p36 ((nextL A_m).length) q37), (Iv (kb : Int)), (Pt b72 o73), (.slice p78 el1.length q79), (Iv (el1.length : Int)), (Iv 0), (u56 35), (u56 36), (u56 37), (u56 38), (u56 39), (u56 40), (u56 41), (u56 42), (u56 43), (u56 44), (u56 45), (u56 46), (u56 47), (u56 48), (u56 49), (u56 50), (u56 51), (u56 52), (u56 53), (u56 54), (u56 55), Ud, Ud, Ud, Ud, Ud, Ud, Ud, Ud, Ud, Ud, Ud, Ud, Ud, Ud, Ud, Ud, Ud, Ud, Ud, Ud, Ud, Ud, Ud, Ud, Ud, Ud, Ud, Ud, Ud, Ud, Ud, Ud, Ud, Ud, Ud, Ud, Ud, Ud, Ud, Ud, Ud, Ud, Ud, Ud, Ud, Ud, Ud, Ud, Ud, Ud, Ud, Ud, Ud, Ud, Ud, Ud, Ud, Ud, Ud, Ud, Ud, Ud, Ud, Ud, Ud, Ud, Ud, Ud, Ud, Ud, Ud, Ud, Ud, Ud, Ud, Ud, Ud, Ud, Ud, Ud, Ud, Ud, Ud, Ud, Ud, Ud, Ud, Ud, Ud, Ud] : List Value)[t]?).getD undef, rfl, KpC.refl _ _ _, ⟨_, hR64, NxI.cast hN65 (by (try dsimp only); rfl)⟩, ?_⟩
        exact Nat.zero_le _
      · rintro qb a w82 ⟨u81, rfl, E83, ⟨vs0_qb, hRv0, hNx0⟩, hqb⟩
        obtain ⟨Lx85, K86, hL87⟩ := E83
        have X88 := Below.kl X63 K86 (fun c hc => (hL87 c hc).elim ((allS g48 all0) c) (fun h => Nat.le_trans (Below.size (Ext.gr (Ext.gr (Ext.gr (Ext.gr (Ext.refl _) E15) E21) E30) E42)) h)) (Nat.le_refl _)
        have hR89 := hRv0; have hN90 := hNx0; clear hRv0 hNx0; have hvl90 := (NxI.len hN90).trans (show (bkQ kb el1 (bkTo A_m kb) qb).length = A_m.places.length from by simp only [bkQ_len, bkTo_len, numTo_len, List.length_replicate, List.length_set])
        refine wp_seq_k fun K91 hK91 => ?_
        refine wp_region_lit ?_
        refine q_is rfl rfl (does_icmp (p := (qb : Int)) (q := (el1.length : Int)) (.inr (.inr (.inl rfl))) (ev rfl) (ev rfl)) (by dsimp only [List.set]; try rfl) ?_
        refine wpList_nil (hK91 _ _ ?_)
        refine wp_seq_k fun K92 hK92 => ?_
        refine wp_cond_split (t := icmp .lss (qb : Int) (el1.length : Int)) (ev rfl) (fun c93 => ?_) (fun c93 => ?_)
        · have c93' := c93
          (try simp only [icmp, Bool.and_eq_true, Bool.or_eq_true, Bool.and_eq_false_iff, Bool.or_eq_false_iff, Bool.not_eq_true', Bool.not_eq_false', decide_eq_true_eq, decide_eq_false_iff_not, beq_iff_eq, bne_iff_ne, beq_eq_false_iff_ne, bne_eq_false_iff_eq] at c93')
          refine wp_skip (hK92 _ _ ?_)
          refine wp_seq_k fun K94 hK94 => ?_
          refine wp_block ?_
          refine wp_seq_k fun K95 hK95 => ?_
          refine wp_region_lit ?_
          refine q_is rfl rfl (does_move (u := (Iv (qb : Int))) (ev rfl)) (by dsimp only [List.set]; try rfl) ?_
          refine q_is rfl rfl (does_assign (u := (Iv (qb : Int))) (ev rfl)) (by dsimp only [List.set]; try rfl) ?_
          refine wpList_nil (hK95 _ _ ?_)
          refine wp_seq_k fun K96 hK96 => ?_
          refine wp_region_lit ?_
          refine q_is rfl rfl (does_move (u := (.slice p36 ((nextL A_m).length) q37)) (ev rfl)) (by dsimp only [List.set]; try rfl) ?_
          refine q_is rfl rfl (does_move (u := (Iv (kb : Int))) (ev rfl)) (by dsimp only [List.set]; try rfl) ?_
          refine seqd rfl rfl (does_indexSl (R := (RS RI 1)) (i := (kb : Int)) (xs := (nextL A_m)) (e := el1) Try.underlying23 Try.sizeOf27 (ev rfl) (ev rfl) (hh32 _ ((((Same.refl _ _).ext E42).kl K61 (fun c hc => (hL62 c hc).elim ((allS (p := fun c => c < w22.heap.size ∨ w31.heap.size ≤ c) (.inr (Nat.le_trans (Nat.le_refl _) hb40)) all0) c) (fun h => .inr (Nat.le_trans (Below.size E42) h)))).kl K86 (fun c hc => (hL87 c hc).elim ((allS (p := fun c => c < w22.heap.size ∨ w31.heap.size ≤ c) (.inr (Nat.le_trans (Nat.le_refl _) hb40)) all0) c) (fun h => .inr (Nat.le_trans (Below.size E42) h))))) (by omega) hel1) ?_; rintro _ w82 ⟨b97, o98, _, rfl, hc100, ⟨y101, rfl, h102⟩, rfl⟩
          have hs105 := h102; have hs105l := Sl.len h102; obtain ⟨p103, q104, rfl⟩ := Sl.shape h102
          show wpList _ _ _ _ (fr [_, _, _, _, _, _, _, _, _, _, _, _, _, _, _, _, _, _, _, _, _, _, _, _, _, _, _, _, _, _, _, _, _, _, _, _, _, _, _, _, _, _, _, _, _, _, _, _, _, _, _, _, _, _, _, _, _, _, _, _, _, _, _, _, _, _, _, _, _, _, _, _, _, _, _, _, _, _, _, _, _, _, _, _, _, _, _, _, _, _, _, _, _, _, _, _, _, _, _, _, _, _, _, _, _, _, _, _, _, _, _, _, _, _, _, _, _, _, _, _, _, _, _, _, _, _, _, _, _, _, _, _, _, _, _, _, _, _, _, _, _, _, _, _, _, _]) _
          refine q_is rfl rfl (does_load (u := (.slice p103 el1.length q104)) (ev rfl) Try.isAgg27 (Cells.at hc100 0 rfl)) (by dsimp only [List.set]; try rfl) ?_
          refine q_is rfl rfl (does_move (u := (Iv (qb : Int))) (ev rfl)) (by dsimp only [List.set]; try rfl) ?_
          obtain ⟨el2, hel2⟩ : ∃ e, el1[qb]? = some e := ⟨_, List.getElem?_eq_getElem (by omega)⟩
          refine seqd rfl rfl (does_indexSl (R := RI) (i := (qb : Int)) (xs := el1) (e := el2) Try.underlying27 Try.sizeOf2 (ev rfl) (ev rfl) hs105 (by omega) hel2) ?_; rintro _ w82 ⟨b106, o107, _, rfl, hc109, rfl, rfl⟩
          show wpList _ _ _ _ (fr [_, _, _, _, _, _, _, _, _, _, _, _, _, _, _, _, _, _, _, _, _, _, _, _, _, _, _, _, _, _, _, _, _, _, _, _, _, _, _, _, _, _, _, _, _, _, _, _, _, _, _, _, _, _, _, _, _, _, _, _, _, _, _, _, _, _, _, _, _, _, _, _, _, _, _, _, _, _, _, _, _, _, _, _, _, _, _, _, _, _, _, _, _, _, _, _, _, _, _, _, _, _, _, _, _, _, _, _, _, _, _, _, _, _, _, _, _, _, _, _, _, _, _, _, _, _, _, _, _, _, _, _, _, _, _, _, _, _, _, _, _, _, _, _, _, _]) _
          refine q_is rfl rfl (does_load (u := (Iv el2)) (ev rfl) Try.isAgg2 (Cells.at hc109 0 rfl)) (by dsimp only [List.set]; try rfl) ?_
          refine q_is rfl rfl (does_assign (u := (Iv el2)) (ev rfl)) (by dsimp only [List.set]; try rfl) ?_
          refine wpList_nil (hK96 _ _ ?_)
          refine wp_region_lit ?_
          refine q_is rfl rfl (does_move (u := (.slice (some ⟨b39, 0, none⟩) A_m.places.length A_m.places.length)) (ev rfl)) (by dsimp only [List.set]; try rfl) ?_
          refine q_is rfl rfl (does_move (u := (Iv el2)) (ev rfl)) (by dsimp only [List.set]; try rfl) ?_
          refine q_is rfl rfl (does_move (u := (.slice (some ⟨b39, 0, none⟩) A_m.places.length A_m.places.length)) (ev rfl)) (by dsimp only [List.set]; try rfl) ?_
          refine q_is rfl rfl (does_move (u := (Iv el2)) (ev rfl)) (by dsimp only [List.set]; try rfl) ?_
          have hbk := next_row hmt hel1 _ (List.mem_of_getElem? hel2)
          refine q_is rfl rfl (does_indexOwn (b := b39) (n := A_m.places.length) (i := el2) Try.underlying23 Try.sizeOf27 (ev rfl) (ev rfl) (by omega) (by omega)) (by dsimp only [List.set]; try rfl) ?_
          obtain ⟨el3, hel3⟩ : ∃ e, vs0_qb[el2.toNat]? = some e := ⟨_, List.getElem?_eq_getElem (by first | assumption | omega | (simp only [bkQ_len, bkTo_len, numTo_len, List.length_replicate, List.length_set, List.length_set, List.length_replicate]; omega) | (simp only [bkQ_len, bkTo_len, numTo_len, List.length_replicate, List.length_set, List.length_set, List.length_replicate]; done))⟩
          obtain ⟨xl4, hxl4⟩ : ∃ x, (bkQ kb el1 (bkTo A_m kb) qb)[el2.toNat]? = some x := ⟨_, List.getElem?_eq_getElem (by rw [← NxI.len hN90]; first | assumption | omega | (simp only [bkQ_len, bkTo_len, numTo_len, List.length_replicate, List.length_set, List.length_set, List.length_replicate]; omega) | (simp only [bkQ_len, bkTo_len, numTo_len, List.length_replicate, List.length_set, List.length_set, List.length_replicate]; done))⟩
          obtain ⟨gg110, hC111, hgb4, hA113⟩ := NxI.own hN90 hel3 hxl4
          obtain ⟨px4, qx4, rfl⟩ := Own.shape (hA113 0)
          have g112 : w.heap.size ≤ gg110 := Nat.le_trans (Nat.le_trans (Nat.le_trans (Nat.le_trans (Below.size E15) (Below.size E21)) (Below.size E30)) (Below.size E42)) hC111
          refine q_is rfl rfl (does_loadRowV (xs := vs0_qb) (i := el2.toNat) (e := (.slice px4 xl4.length qx4)) (ev rfl) Try.isAgg27 hR89 rfl hel3) (by dsimp only [List.set]; try rfl) ?_
          refine q_is rfl rfl (does_move (u := (Iv (kb : Int))) (ev rfl)) (by dsimp only [List.set]; try rfl) ?_
          refine seqd rfl rfl (does_buildSlice (e := 2) (parts' := [(0, (Iv (kb : Int)))]) (cells := [(Iv (kb : Int))]) (evp rfl) (fun _ => by kernel_rfl)) ?_; rintro _ w118 ⟨b114, rfl, hb115, hB116, E117⟩
          have n119 : b12 < b114 := Nat.lt_of_lt_of_le (Blk.lt (((((hB14.ext E21).ext E30).ext E42).kl K61 (fun hc => (hL62 _ hc).elim (fun h => absurd h (ninS (Nat.ne_of_lt n47) nin0)) (fun h => absurd h (Nat.not_le_of_lt n52)))).kl K86 (fun hc => (hL87 _ hc).elim (fun h => absurd h (ninS (Nat.ne_of_lt n47) nin0)) (fun h => absurd h (Nat.not_le_of_lt n52))))) hb115
          have n121 : b39 < b114 := Nat.lt_of_lt_of_le (RowG.lt hR89) hb115
          have n122 : b97 < b114 := Nat.lt_of_lt_of_le (cell_lt (Cells.at hc100 0 rfl)) hb115
          have n123 : b106 < b114 := Nat.lt_of_lt_of_le (cell_lt (Cells.at hc109 0 rfl)) hb115
          have g124 : w.heap.size ≤ b114 := Nat.le_trans (Below.size X88) hb115
          have X125 := Ext.gr X88 E117
          show wpList _ _ _ _ (fr [_, _, _, _, _, _, _, _, _, _, _, _, _, _, _, _, _, _, _, _, _, _, _, _, _, _, _, _, _, _, _, _, _, _, _, _, _, _, _, _, _, _, _, _, _, _, _, _, _, _, _, _, _, _, _, _, _, _, _, _, _, _, _, _, _, _, _, _, _, _, _, _, _, _, _, _, _, _, _, _, _, _, _, _, _, _, _, _, _, _, _, _, _, _, _, _, _, _, _, _, _, _, _, _, _, _, _, _, _, _, _, _, _, _, _, _, _, _, _, _, _, _, _, _, _, _, _, _, _, _, _, _, _, _, _, _, _, _, _, _, _, _, _, _, _, _]) _
          refine seqd rfl rfl (does_append (R := RI) (k := 1) (g0 := gg110) (B := w82.heap.size) (xs := xl4) (ys := [(kb : Int)]) Try.underlying27 inf2 rfl (by decide) (ev rfl) (ev rfl) (Own.same (hA113 _) RI.flat ((Same.refl _ _).ext E117) hC111 (Nat.le_trans (KpL.size K61) (KpL.size K86))) RI.flat hB116 rfl rfl rfl (fun i x hi => lit1 (R := RI) (cs := [(Iv (kb : Int))]) (y := (kb : Int))  rfl i x hi) (by first | (simp only [List.length_append, List.length_cons, List.length_nil]; omega) | (first | (have hbn := bkQ_most hmt hel1 (by omega) hxl4; first | omega | (simp only [List.length_cons, List.length_nil]; omega)) | (have h1 := tot_at (xss := nextL A_m) hel8; have h2 := nextL_tot hmt; have h3 := bkL_most hmt el7; rw [atL_some' hel9] at h3; omega) | (have h1 := tot_at (xss := nextL A_m) hel8; have h2 := nextL_tot hmt; omega) | (simp only [List.length_replicate, List.length_append, List.length_cons, List.length_nil]; omega))) (Below.size E117)) ?_; rintro y' w126 ⟨gg127, hg128, K129, hO130⟩
          have hN131 : w43.heap.size ≤ gg127 := by rcases hg128 with h | h; exact h ▸ hC111; exact Nat.le_trans (Nat.le_trans (KpL.size K61) (KpL.size K86)) h
          have g132 : w.heap.size ≤ gg127 := Nat.le_trans (Nat.le_trans (Nat.le_trans (Nat.le_trans (Below.size E15) (Below.size E21)) (Below.size E30)) (Below.size E42)) hN131
          have X133 := Below.kl X125 K129 (allS g132 all0) (Nat.le_refl _)
          obtain ⟨p134, q135, rfl⟩ := Own.shape hO130
          have hH136 : Hang w43.heap.size w126 (fun u => Sl RI 1 u (.slice p134 ((xl4 ++ [(kb : Int)]).length) q135) (xl4 ++ [(kb : Int)])) := Own.hang hO130 RI.flat (by decide) hC111 (Nat.le_trans (KpL.size K61) (KpL.size K86))
          show wpList _ _ _ _ (fr [_, _, _, _, _, _, _, _, _, _, _, _, _, _, _, _, _, _, _, _, _, _, _, _, _, _, _, _, _, _, _, _, _, _, _, _, _, _, _, _, _, _, _, _, _, _, _, _, _, _, _, _, _, _, _, _, _, _, _, _, _, _, _, _, _, _, _, _, _, _, _, _, _, _, _, _, _, _, _, _, _, _, _, _, _, _, _, _, _, _, _, _, _, _, _, _, _, _, _, _, _, _, _, _, _, _, _, _, _, _, _, _, _, _, _, _, _, _, _, _, _, _, _, _, _, _, _, _, _, _, _, _, _, _, _, _, _, _, _, _, _, _, _, _, _, _]) _
          refine q_is rfl rfl (does_indexOwn (b := b39) (n := A_m.places.length) (i := el2) Try.underlying23 Try.sizeOf27 (ev rfl) (ev rfl) (by omega) (by omega)) (by dsimp only [List.set]; try rfl) ?_
          have hN140 := NxI.put hN90 hel3 hgb4 (KpL.more (KpL.ext (KpL.refl _ _) E117) K129 (allS (hg128.imp (fun h => by simp [h]) id) all0)) hO130 (Nat.le_refl _)
          refine seqn rfl rfl (does_storeRowG (R := RVl) (k := 1) (xs := vs0_qb) (i := el2.toNat) (u := (.slice p134 ((xl4 ++ [(kb : Int)]).length) q135)) (e := (.slice p134 ((xl4 ++ [(kb : Int)]).length) q135)) (ev rfl) (ev rfl) Try.sizeOf27 rfl rfl RVl.flat (RowG.kl (RowG.ext hR89 RVl.flat E117) RVl.flat K129 (ninS (Nat.ne_of_lt (Nat.lt_of_lt_of_le n53 hN131)) nin0)) rfl (by first | assumption | omega | (simp only [bkQ_len, bkTo_len, numTo_len, List.length_replicate, List.length_set, List.length_set, List.length_replicate]; omega) | (simp only [bkQ_len, bkTo_len, numTo_len, List.length_replicate, List.length_set, List.length_set, List.length_replicate]; done)) rfl) ?_; rintro _ w139 ⟨rfl, W137, hR138⟩
          have X141 := Below.wr X133 W137 g48
          refine wpList_nil (hK94 _ _ ?_)
          refine wp_region_lit ?_
          refine q_is rfl rfl (does_iarith (p := (qb : Int)) (q := 1) (r := (qb : Int) + 1) (ev rfl) (ev rfl) (.inl ⟨rfl, (in_i64 (by omega) (by omega)).symm⟩)) (by dsimp only [List.set]; try rfl) ?_
          refine q_is rfl rfl (does_move (u := (Iv ((qb : Int) + 1))) (ev rfl)) (by dsimp only [List.set]; try rfl) ?_
          refine wpList_nil ?_
          have hN142 := NxI.cast (yss := ((fun (qb : Nat) => bkQ kb el1 (bkTo A_m kb) qb) (qb + 1))) (NxI.wr hN140 W137 n53) (by (try dsimp only); exact bkQ_step hel2 hxl4)
          refine ⟨qb + 1, ⟨fun t => (([(.agg #[(.slice p5 A_m.places.length q6), (.slice p8 A_m.tris.length q9)]), (Pt b12 0), (.slice none 0 0), (Iv 0), (Bo false), (.slice p36 ((nextL A_m).length) q37), (.slice (some ⟨b39, 0, none⟩) A_m.places.length A_m.places.length), (Iv (kb : Int)), (Iv (qb : Int)), (Iv el2), Ud, Ud, Ud, Ud, Ud, Ud, Ud, (Bo (meshOk A_m)), (Bo (!(meshOk A_m))), (.slice p36 ((nextL A_m).length) q37), (Pt b12 0), (.slice p5 A_m.places.length q6), (Iv (A_m.places.length : Int)), (.slice (some ⟨b39, 0, none⟩) A_m.places.length A_m.places.length), (.slice p36 ((nextL A_m).length) q37), (Iv (((nextL A_m).length) : Int)), (Iv (kb : Int)), (Bo (icmp .lss (kb : Int) (((nextL A_m).length) : Int))), (Iv (kb : Int)), (.slice p36 ((nextL A_m).length) q37), (Iv (kb : Int)), (Pt b72 o73), (.slice p78 el1.length q79), (Iv (el1.length : Int)), (Iv ((qb : Int) + 1)), (Bo (icmp .lss (qb : Int) (el1.length : Int))), (Iv (qb : Int)), (.slice p36 ((nextL A_m).length) q37), (Iv (kb : Int)), (Pt b97 o98), (.slice p103 el1.length q104), (Iv (qb : Int)), (Pt b106 o107), (Iv el2), (.slice (some ⟨b39, 0, none⟩) A_m.places.length A_m.places.length), (Iv el2), (.slice (some ⟨b39, 0, none⟩) A_m.places.length A_m.places.length), (Iv el2), (Pt b39 (el2.toNat * 1)), (.slice px4 xl4.length qx4), (Iv (kb : Int)), (.slice (some ⟨b114, 0, none⟩) 1 1), (.slice p134 ((xl4 ++ [(kb : Int)]).length) q135), (Pt b39 (el2.toNat * 1)), (Iv ((qb : Int) + 1)), (u56 55), Ud, Ud, Ud, Ud, Ud, Ud, Ud, Ud, Ud, Ud, Ud, Ud, Ud, Ud, Ud, Ud, Ud, Ud, Ud, Ud, Ud, Ud, Ud, Ud, Ud, Ud, Ud, Ud, Ud, Ud, Ud, Ud, Ud, Ud, Ud, Ud, Ud, Ud, Ud, Ud, Ud, Ud, Ud, Ud, Ud, Ud, Ud, Ud, Ud, Ud, Ud, Ud, Ud, Ud, Ud, Ud, Ud, Ud, Ud, Ud, Ud, Ud, Ud, Ud, Ud, Ud, Ud, Ud, Ud, Ud, Ud, Ud, Ud, Ud, Ud, Ud, Ud, Ud, Ud, Ud, Ud, Ud, Ud, Ud, Ud, Ud, Ud, Ud, Ud, Ud] : List Value)[t]?).getD undef, ?_, (KpC.kl (KpC.kl (KpC.ext (KpC.mk K86 hL87) E117) K129 (allS (.inr (Nat.le_trans (Nat.le_refl _) hN131)) all0)) (KpL.of_wr W137) (allS (.inl (by simp)) all0)), ⟨_, hR138, hN142⟩, ?_⟩, ?_⟩
          · first | rfl | (simp only [Int.natCast_add, Int.natCast_one]; rfl)
          · (try dsimp only); omega
          · (try dsimp only); omega
        have c93' := c93
        (try simp only [icmp, Bool.and_eq_true, Bool.or_eq_true, Bool.and_eq_false_iff, Bool.or_eq_false_iff, Bool.not_eq_true', Bool.not_eq_false', decide_eq_true_eq, decide_eq_false_iff_not, beq_iff_eq, bne_iff_ne, beq_eq_false_iff_ne, bne_eq_false_iff_eq] at c93')
        refine wp_exit ?_
        refine hK69 _ _ ?_
        refine wp_region_lit ?_
        refine q_is rfl rfl (does_iarith (p := (kb : Int)) (q := 1) (r := (kb : Int) + 1) (ev rfl) (ev rfl) (.inl ⟨rfl, (in_i64 (by omega) (by omega)).symm⟩)) (by dsimp only [List.set]; try rfl) ?_
        refine q_is rfl rfl (does_move (u := (Iv ((kb : Int) + 1))) (ev rfl)) (by dsimp only [List.set]; try rfl) ?_
        refine wpList_nil ?_
        have hN143 := NxI.cast (yss := ((fun (kb : Nat) => bkTo A_m kb) (kb + 1))) hN90 (by (try dsimp only); exact bkTo_step hel1 (by omega))
        refine ⟨kb + 1, ⟨fun t => (([(.agg #[(.slice p5 A_m.places.length q6), (.slice p8 A_m.tris.length q9)]), (Pt b12 0), (.slice none 0 0), (Iv 0), (Bo false), (.slice p36 ((nextL A_m).length) q37), (.slice (some ⟨b39, 0, none⟩) A_m.places.length A_m.places.length), (Iv (kb : Int)), (u81 8), (u81 9), Ud, Ud, Ud, Ud, Ud, Ud, Ud, (Bo (meshOk A_m)), (Bo (!(meshOk A_m))), (.slice p36 ((nextL A_m).length) q37), (Pt b12 0), (.slice p5 A_m.places.length q6), (Iv (A_m.places.length : Int)), (.slice (some ⟨b39, 0, none⟩) A_m.places.length A_m.places.length), (.slice p36 ((nextL A_m).length) q37), (Iv (((nextL A_m).length) : Int)), (Iv ((kb : Int) + 1)), (Bo (icmp .lss (kb : Int) (((nextL A_m).length) : Int))), (Iv (kb : Int)), (.slice p36 ((nextL A_m).length) q37), (Iv (kb : Int)), (Pt b72 o73), (.slice p78 el1.length q79), (Iv (el1.length : Int)), (Iv (qb : Int)), (Bo (icmp .lss (qb : Int) (el1.length : Int))), (u81 36), (u81 37), (u81 38), (u81 39), (u81 40), (u81 41), (u81 42), (u81 43), (u81 44), (u81 45), (u81 46), (u81 47), (u81 48), (u81 49), (u81 50), (u81 51), (u81 52), (u81 53), (u81 54), (Iv ((kb : Int) + 1)), Ud, Ud, Ud, Ud, Ud, Ud, Ud, Ud, Ud, Ud, Ud, Ud, Ud, Ud, Ud, Ud, Ud, Ud, Ud, Ud, Ud, Ud, Ud, Ud, Ud, Ud, Ud, Ud, Ud, Ud, Ud, Ud, Ud, Ud, Ud, Ud, Ud, Ud, Ud, Ud, Ud, Ud, Ud, Ud, Ud, Ud, Ud, Ud, Ud, Ud, Ud, Ud, Ud, Ud, Ud, Ud, Ud, Ud, Ud, Ud, Ud, Ud, Ud, Ud, Ud, Ud, Ud, Ud, Ud, Ud, Ud, Ud, Ud, Ud, Ud, Ud, Ud, Ud, Ud, Ud, Ud, Ud, Ud, Ud, Ud, Ud, Ud, Ud, Ud, Ud] : List Value)[t]?).getD undef, ?_, (KpC.kl (KpC.mk K61 hL62) K86 (fun c hc => (hL87 c hc).imp (fun h => by simpa using h) id)), ⟨_, hR89, hN143⟩, ?_⟩, ?_⟩
        · first | rfl | (simp only [Int.natCast_add, Int.natCast_one]; rfl)
        · (try dsimp only); omega
        · omega
    have c68' := c68
    (try simp only [icmp, Bool.and_eq_true, Bool.or_eq_true, Bool.and_eq_false_iff, Bool.or_eq_false_iff, Bool.not_eq_true', Bool.not_eq_false', decide_eq_true_eq, decide_eq_false_iff_not, beq_iff_eq, bne_iff_ne, beq_eq_false_iff_ne, bne_eq_false_iff_eq] at c68')
    refine wp_exit ?_
    refine hK54 _ _ ?_
    refine wp_seq_k fun K144 hK144 => ?_
    have hzl145 : (bkTo A_m kb).length = A_m.places.length := by first | (simp only [bkQ_len, bkTo_len, numTo_len, List.length_replicate, List.length_set]; done) | first | assumption | omega | (simp only [bkQ_len, bkTo_len, numTo_len, List.length_replicate, List.length_set, List.length_set, List.length_replicate]; omega) | (simp only [bkQ_len, bkTo_len, numTo_len, List.length_replicate, List.length_set, List.length_set, List.length_replicate]; done)
    have hzv146 : vs0_kb.length = A_m.places.length := by rw [NxI.len hN65]; exact hzl145
    have hn149 : (bkTo A_m kb) = (bkL A_m) := by (rw [show kb = A_m.places.length by omega]; rfl)
    have hz147 : Hang w31.heap.size w57 (fun u => Sl (RS RI 1) 1 u (.slice (some ⟨b39, 0, none⟩) A_m.places.length A_m.places.length) (bkL A_m)) := Hang.castL (NxI.hang hN65 hR64 hzl145 hb40 (Below.size E42) (Nat.le_refl _) (by omega)) hn149
    have hy148 : Hang w31.heap.size w57 (fun u => Sl RVl 1 u (.slice (some ⟨b39, 0, none⟩) A_m.places.length A_m.places.length) vs0_kb) := RowG.hang hR64 RVl.flat hzv146 hb40 (Nat.le_refl _) (by omega) (by decide)
    have hzl : (bkL A_m).length = A_m.places.length := hn149 ▸ hzl145; have hzv : vs0_kb.length = A_m.places.length := hzv146
    refine wp_region_lit ?_
    have n156 : b12 < w57.heap.size := Blk.lt ((((hB14.ext E21).ext E30).ext E42).kl K61 (fun hc => (hL62 _ hc).elim (fun h => absurd h (ninS (Nat.ne_of_lt n47) nin0)) (fun h => absurd h (Nat.not_le_of_lt n52))))
    refine seqd rfl rfl (does_slice0 (e := 2) (fun _ => by kernel_rfl)) ?_; rintro _ w155 ⟨b150, rfl, hb151, hl152, hO153, E154⟩
    have X157 := Ext.gr X63 E154
    have hO158 := hO153 _ RI 1
    have hH159 : Hang w57.heap.size w155 (fun u => Sl RI 1 u (.slice (some ⟨b150, 0, none⟩) 0 0) ([])) := Own.hang hO158 RI.flat (by decide) hb151 (Below.size E154)
    show wpList _ _ _ _ (fr [_, _, _, _, _, _, _, _, _, _, _, _, _, _, _, _, _, _, _, _, _, _, _, _, _, _, _, _, _, _, _, _, _, _, _, _, _, _, _, _, _, _, _, _, _, _, _, _, _, _, _, _, _, _, _, _, _, _, _, _, _, _, _, _, _, _, _, _, _, _, _, _, _, _, _, _, _, _, _, _, _, _, _, _, _, _, _, _, _, _, _, _, _, _, _, _, _, _, _, _, _, _, _, _, _, _, _, _, _, _, _, _, _, _, _, _, _, _, _, _, _, _, _, _, _, _, _, _, _, _, _, _, _, _, _, _, _, _, _, _, _, _, _, _, _, _]) _
    refine q_is rfl rfl (does_assign (u := (.slice (some ⟨b150, 0, none⟩) 0 0)) (ev rfl)) (by dsimp only [List.set]; try rfl) ?_
    refine wpList_nil (hK144 _ _ ?_)
    refine wp_seq_k fun K160 hK160 => ?_
    refine wp_seq_k fun K161 hK161 => ?_
    refine wp_region_lit ?_
    refine q_is rfl rfl (does_fieldAddr (ev rfl) fa32_0) (by dsimp only [List.set]; try rfl) ?_
    refine q_is rfl rfl (does_load (u := (.slice p5 A_m.places.length q6)) (ev rfl) Try.isAgg30 (Cells.at (Blk.cells (((((hB14.ext E21).ext E30).ext E42).kl K61 (fun hc => (hL62 _ hc).elim (fun h => absurd h (ninS (Nat.ne_of_lt n47) nin0)) (fun h => absurd h (Nat.not_le_of_lt n52)))).ext E154)) 0 rfl)) (by dsimp only [List.set]; try rfl) ?_
    refine q_is rfl rfl (does_len_slice Try.underlying30 (ev rfl)) (by dsimp only [List.set]; try rfl) ?_
    refine q_is rfl rfl (does_move (u := (Iv 0)) (ev rfl)) (by dsimp only [List.set]; try rfl) ?_
    refine wpList_nil (hK161 _ _ ?_)
    refine wp_block ?_
    have n167 : b12 < w155.heap.size := Blk.lt (((((hB14.ext E21).ext E30).ext E42).kl K61 (fun hc => (hL62 _ hc).elim (fun h => absurd h (ninS (Nat.ne_of_lt n47) nin0)) (fun h => absurd h (Nat.not_le_of_lt n52)))).ext E154)
    obtain ⟨gg163, hg164, hg165, hO166⟩ := Own.start' hO158 hO158
    have hN168 : w57.heap.size ≤ gg163 := by rcases hg164 with h | h; exact h ▸ hb151; exact Nat.le_trans (Below.size E154) h
    have g169 : w.heap.size ≤ gg163 := Nat.le_trans (Nat.le_trans (Nat.le_trans (Nat.le_trans (Nat.le_trans (Below.size E15) (Below.size E21)) (Below.size E30)) (Below.size E42)) (KpL.size K61)) hN168
    have hg170 : gg163 < w155.heap.size := by rcases hg165 with h | h; exact h ▸ Nat.lt_of_lt_of_le hl152 (Nat.le_refl _); exact h
    refine loop_ghost (σ := Nat) (fun z a w' => ∃ u162 : Nat → Value, ∃ y10 : Value, a = fr [(.agg #[(.slice p5 A_m.places.length q6), (.slice p8 A_m.tris.length q9)]), (Pt b12 0), (.slice none 0 0), (Iv 0), (Bo false), (.slice p36 ((nextL A_m).length) q37), (.slice (some ⟨b39, 0, none⟩) A_m.places.length A_m.places.length), (u56 7), (u56 8), (u56 9), y10, Ud, Ud, Ud, Ud, Ud, Ud, (Bo (meshOk A_m)), (Bo (!(meshOk A_m))), (.slice p36 ((nextL A_m).length) q37), (Pt b12 0), (.slice p5 A_m.places.length q6), (Iv (A_m.places.length : Int)), (.slice (some ⟨b39, 0, none⟩) A_m.places.length A_m.places.length), (.slice p36 ((nextL A_m).length) q37), (Iv (((nextL A_m).length) : Int)), (Iv (kb : Int)), (Bo (icmp .lss (kb : Int) (((nextL A_m).length) : Int))), (u56 28), (u56 29), (u56 30), (u56 31), (u56 32), (u56 33), (u56 34), (u56 35), (u56 36), (u56 37), (u56 38), (u56 39), (u56 40), (u56 41), (u56 42), (u56 43), (u56 44), (u56 45), (u56 46), (u56 47), (u56 48), (u56 49), (u56 50), (u56 51), (u56 52), (u56 53), (u56 54), (u56 55), (.slice (some ⟨b150, 0, none⟩) 0 0), (Pt b12 0), (.slice p5 A_m.places.length q6), (Iv (A_m.places.length : Int)), (Iv (z : Int)), (u162 61), (u162 62), (u162 63), (u162 64), (u162 65), Ud, Ud, Ud, Ud, Ud, Ud, Ud, Ud, Ud, Ud, Ud, Ud, Ud, Ud, Ud, Ud, Ud, Ud, Ud, Ud, Ud, Ud, Ud, Ud, Ud, Ud, Ud, Ud, Ud, Ud, Ud, Ud, Ud, Ud, Ud, Ud, Ud, Ud, Ud, Ud, Ud, Ud, Ud, Ud, Ud, Ud, Ud, Ud, Ud, Ud, Ud, Ud, Ud, Ud, Ud, Ud, Ud, Ud, Ud, Ud, Ud, Ud, Ud, Ud, Ud, Ud, Ud, Ud, Ud, Ud, Ud, Ud, Ud, Ud, Ud, Ud, Ud, Ud, Ud, Ud] ∧ KpL [gg163] w155 w' ∧ Own RI 1 2 gg163 w155.heap.size w' y10 (List.replicate z (-1)) ∧ (z ≤ A_m.places.length)) (fun z => A_m.places.length - z) 0 ?_ ?_
    · refine ⟨fun t => (([(.agg #[(.slice p5 A_m.places.length q6), (.slice p8 A_m.tris.length q9)]), (Pt b12 0), (.slice none 0 0), (Iv 0), (Bo false), (.slice p36 ((nextL A_m).length) q37), (.slice (some ⟨b39, 0, none⟩) A_m.places.length A_m.places.length), (u56 7), (u56 8), (u56 9), (.slice (some ⟨b150, 0, none⟩) 0 0), Ud, Ud, Ud, Ud, Ud, Ud, (Bo (meshOk A_m)), (Bo (!(meshOk A_m))), (.slice p36 ((nextL A_m).length) q37), (Pt b12 0), (.slice p5 A_m.places.length q6), (Iv (A_m.places.length : Int)), (.slice (some ⟨b39, 0, none⟩) A_m.places.length A_m.places.length), (.slice p36 ((nextL A_m).length) q37), (Iv (((nextL A_m).length) : Int)), (Iv (kb : Int)), (Bo (icmp .lss (kb : Int) (((nextL A_m).length) : Int))), (u56 28), (u56 29), (u56 30), (u56 31), (u56 32), (u56 33), (u56 34), (u56 35), (u56 36), (u56 37), (u56 38), (u56 39), (u56 40), (u56 41), (u56 42), (u56 43), (u56 44), (u56 45), (u56 46), (u56 47), (u56 48), (u56 49), (u56 50), (u56 51), (u56 52), (u56 53), (u56 54), (u56 55), (.slice (some ⟨b150, 0, none⟩) 0 0), (Pt b12 0), (.slice p5 A_m.places.length q6), (Iv (A_m.places.length : Int)), (Iv 0), Ud, Ud, Ud, Ud, Ud, Ud, Ud, Ud, Ud, Ud, Ud, Ud, Ud, Ud, Ud, Ud, Ud, Ud, Ud, Ud, Ud, Ud, Ud, Ud, Ud, Ud, Ud, Ud, Ud, Ud, Ud, Ud, Ud, Ud, Ud, Ud, Ud, Ud, Ud, Ud, Ud, Ud, Ud, Ud, Ud, Ud, Ud, Ud, Ud, Ud, Ud, Ud, Ud, Ud, Ud, Ud, Ud, Ud, Ud, Ud, Ud, Ud, Ud, Ud, Ud, Ud, Ud, Ud, Ud, Ud, Ud, Ud, Ud, Ud, Ud, Ud, Ud, Ud, Ud, Ud, Ud, Ud, Ud, Ud, Ud] : List Value)[t]?).getD undef, (.slice (some ⟨b150, 0, none⟩) 0 0), rfl, KpL.refl _ _, (Own.cast hO166 (by rfl)), ?_⟩
      exact Nat.zero_le _
    · rintro z a w171 ⟨u162, y10, rfl, E172, hO174, hz⟩
      have X175 := Below.kl X157 E172 (allS g169 all0) (Nat.le_refl _)
      obtain ⟨p176, q177, rfl⟩ := Own.shape hO174
      have hH178 : Hang w57.heap.size w171 (fun u => Sl RI 1 u (.slice p176 ((List.replicate z (-1)).length) q177) (List.replicate z (-1))) := Own.hang hO174 RI.flat (by decide) hN168 (Below.size E154)
      have hzr : (List.replicate z (-1 : Int)).length = z := List.length_replicate
      refine wp_seq_k fun K179 hK179 => ?_
      refine wp_region_lit ?_
      refine q_is rfl rfl (does_icmp (p := (z : Int)) (q := (A_m.places.length : Int)) (.inr (.inr (.inl rfl))) (ev rfl) (ev rfl)) (by dsimp only [List.set]; try rfl) ?_
      refine wpList_nil (hK179 _ _ ?_)
      refine wp_seq_k fun K180 hK180 => ?_
      refine wp_cond_split (t := icmp .lss (z : Int) (A_m.places.length : Int)) (ev rfl) (fun c181 => ?_) (fun c181 => ?_)
      · have c181' := c181
        (try simp only [icmp, Bool.and_eq_true, Bool.or_eq_true, Bool.and_eq_false_iff, Bool.or_eq_false_iff, Bool.not_eq_true', Bool.not_eq_false', decide_eq_true_eq, decide_eq_false_iff_not, beq_iff_eq, bne_iff_ne, beq_eq_false_iff_ne, bne_eq_false_iff_eq] at c181')
        refine wp_skip (hK180 _ _ ?_)
        refine wp_seq_k fun K182 hK182 => ?_
        refine wp_block ?_
        refine wp_region_lit ?_
        refine q_is rfl rfl (does_move (u := (.slice p176 ((List.replicate z (-1)).length) q177)) (ev rfl)) (by dsimp only [List.set]; try rfl) ?_
        refine seqd rfl rfl (does_buildSlice (e := 2) (parts' := [(0, (Iv (-1)))]) (cells := [(Iv (-1))]) (evp rfl) (fun _ => by kernel_rfl)) ?_; rintro _ w187 ⟨b183, rfl, hb184, hB185, E186⟩
        have n188 : b12 < b183 := Nat.lt_of_lt_of_le (Blk.lt ((((((hB14.ext E21).ext E30).ext E42).kl K61 (fun hc => (hL62 _ hc).elim (fun h => absurd h (ninS (Nat.ne_of_lt n47) nin0)) (fun h => absurd h (Nat.not_le_of_lt n52)))).ext E154).kl E172 (ninS (Nat.ne_of_lt (Nat.lt_of_lt_of_le n156 hN168)) nin0))) hb184
        have g189 : w.heap.size ≤ b183 := Nat.le_trans (Below.size X175) hb184
        have X190 := Ext.gr X175 E186
        show wpList _ _ _ _ (fr [_, _, _, _, _, _, _, _, _, _, _, _, _, _, _, _, _, _, _, _, _, _, _, _, _, _, _, _, _, _, _, _, _, _, _, _, _, _, _, _, _, _, _, _, _, _, _, _, _, _, _, _, _, _, _, _, _, _, _, _, _, _, _, _, _, _, _, _, _, _, _, _, _, _, _, _, _, _, _, _, _, _, _, _, _, _, _, _, _, _, _, _, _, _, _, _, _, _, _, _, _, _, _, _, _, _, _, _, _, _, _, _, _, _, _, _, _, _, _, _, _, _, _, _, _, _, _, _, _, _, _, _, _, _, _, _, _, _, _, _, _, _, _, _, _, _]) _
        refine seqd rfl rfl (does_append (R := RI) (k := 1) (g0 := gg163) (B := w155.heap.size) (xs := (List.replicate z (-1))) (ys := [-1]) Try.underlying27 inf2 rfl (by decide) (ev rfl) (ev rfl) (Own.same hO174 RI.flat ((Same.refl _ _).ext E186) hN168 (Below.size E154)) RI.flat hB185 rfl rfl rfl (fun i x hi => lit1 (R := RI) (cs := [(Iv (-1))]) (y := -1)  rfl i x hi) (by first | (simp only [List.length_append, List.length_cons, List.length_nil]; omega) | (first | (have hbn := bkQ_most hmt hel1 (by omega) hxl4; first | omega | (simp only [List.length_cons, List.length_nil]; omega)) | (have h1 := tot_at (xss := nextL A_m) hel8; have h2 := nextL_tot hmt; have h3 := bkL_most hmt el7; rw [atL_some' hel9] at h3; omega) | (have h1 := tot_at (xss := nextL A_m) hel8; have h2 := nextL_tot hmt; omega) | (simp only [List.length_replicate, List.length_append, List.length_cons, List.length_nil]; omega))) (Nat.le_trans (KpL.size E172) (Below.size E186))) ?_; rintro y' w191 ⟨gg192, hg193, K194, hO195⟩
        have hN196 : w57.heap.size ≤ gg192 := by rcases hg193 with h | h; exact h ▸ hN168; exact Nat.le_trans (Below.size E154) h
        have g197 : w.heap.size ≤ gg192 := Nat.le_trans (Nat.le_trans (Nat.le_trans (Nat.le_trans (Nat.le_trans (Below.size E15) (Below.size E21)) (Below.size E30)) (Below.size E42)) (KpL.size K61)) hN196
        have n198 : b12 ≠ gg192 := hg193.elim (fun h => by rw [h]; exact (Nat.ne_of_lt (Nat.lt_of_lt_of_le n156 hN168))) (fun h => Nat.ne_of_lt (Nat.lt_of_lt_of_le n167 h))
        have X199 := Below.kl X190 K194 (allS g197 all0) (Nat.le_refl _)
        obtain ⟨p200, q201, rfl⟩ := Own.shape hO195
        have hH202 : Hang w57.heap.size w191 (fun u => Sl RI 1 u (.slice p200 (((List.replicate z (-1)) ++ [-1]).length) q201) ((List.replicate z (-1)) ++ [-1])) := Own.hang hO195 RI.flat (by decide) hN168 (Below.size E154)
        show wpList _ _ _ _ (fr [_, _, _, _, _, _, _, _, _, _, _, _, _, _, _, _, _, _, _, _, _, _, _, _, _, _, _, _, _, _, _, _, _, _, _, _, _, _, _, _, _, _, _, _, _, _, _, _, _, _, _, _, _, _, _, _, _, _, _, _, _, _, _, _, _, _, _, _, _, _, _, _, _, _, _, _, _, _, _, _, _, _, _, _, _, _, _, _, _, _, _, _, _, _, _, _, _, _, _, _, _, _, _, _, _, _, _, _, _, _, _, _, _, _, _, _, _, _, _, _, _, _, _, _, _, _, _, _, _, _, _, _, _, _, _, _, _, _, _, _, _, _, _, _, _, _]) _
        refine q_is rfl rfl (does_assign (u := (.slice p200 (((List.replicate z (-1)) ++ [-1]).length) q201)) (ev rfl)) (by dsimp only [List.set]; try rfl) ?_
        refine wpList_nil (hK182 _ _ ?_)
        refine wp_region_lit ?_
        refine q_is rfl rfl (does_iarith (p := (z : Int)) (q := 1) (r := (z : Int) + 1) (ev rfl) (ev rfl) (.inl ⟨rfl, (in_i64 (by omega) (by omega)).symm⟩)) (by dsimp only [List.set]; try rfl) ?_
        refine q_is rfl rfl (does_move (u := (Iv ((z : Int) + 1))) (ev rfl)) (by dsimp only [List.set]; try rfl) ?_
        refine wpList_nil ?_
        have hO203 := Own.cast (ys := ((fun (z : Nat) => List.replicate z (-1)) (z + 1))) hO195 (by (try dsimp only); exact List.replicate_succ'.symm)
        refine ⟨z + 1, ⟨fun t => (([(.agg #[(.slice p5 A_m.places.length q6), (.slice p8 A_m.tris.length q9)]), (Pt b12 0), (.slice none 0 0), (Iv 0), (Bo false), (.slice p36 ((nextL A_m).length) q37), (.slice (some ⟨b39, 0, none⟩) A_m.places.length A_m.places.length), (u56 7), (u56 8), (u56 9), (.slice p200 (((List.replicate z (-1)) ++ [-1]).length) q201), Ud, Ud, Ud, Ud, Ud, Ud, (Bo (meshOk A_m)), (Bo (!(meshOk A_m))), (.slice p36 ((nextL A_m).length) q37), (Pt b12 0), (.slice p5 A_m.places.length q6), (Iv (A_m.places.length : Int)), (.slice (some ⟨b39, 0, none⟩) A_m.places.length A_m.places.length), (.slice p36 ((nextL A_m).length) q37), (Iv (((nextL A_m).length) : Int)), (Iv (kb : Int)), (Bo (icmp .lss (kb : Int) (((nextL A_m).length) : Int))), (u56 28), (u56 29), (u56 30), (u56 31), (u56 32), (u56 33), (u56 34), (u56 35), (u56 36), (u56 37), (u56 38), (u56 39), (u56 40), (u56 41), (u56 42), (u56 43), (u56 44), (u56 45), (u56 46), (u56 47), (u56 48), (u56 49), (u56 50), (u56 51), (u56 52), (u56 53), (u56 54), (u56 55), (.slice (some ⟨b150, 0, none⟩) 0 0), (Pt b12 0), (.slice p5 A_m.places.length q6), (Iv (A_m.places.length : Int)), (Iv ((z : Int) + 1)), (Bo (icmp .lss (z : Int) (A_m.places.length : Int))), (.slice p176 ((List.replicate z (-1)).length) q177), (.slice (some ⟨b183, 0, none⟩) 1 1), (.slice p200 (((List.replicate z (-1)) ++ [-1]).length) q201), (Iv ((z : Int) + 1)), Ud, Ud, Ud, Ud, Ud, Ud, Ud, Ud, Ud, Ud, Ud, Ud, Ud, Ud, Ud, Ud, Ud, Ud, Ud, Ud, Ud, Ud, Ud, Ud, Ud, Ud, Ud, Ud, Ud, Ud, Ud, Ud, Ud, Ud, Ud, Ud, Ud, Ud, Ud, Ud, Ud, Ud, Ud, Ud, Ud, Ud, Ud, Ud, Ud, Ud, Ud, Ud, Ud, Ud, Ud, Ud, Ud, Ud, Ud, Ud, Ud, Ud, Ud, Ud, Ud, Ud, Ud, Ud, Ud, Ud, Ud, Ud, Ud, Ud, Ud, Ud, Ud, Ud, Ud, Ud] : List Value)[t]?).getD undef, (.slice p200 (((List.replicate z (-1)) ++ [-1]).length) q201), ?_, (KpL.more (KpL.ext E172 E186) K194 (allS (hg193.imp (fun h => by simp [h]) id) all0)), hO203, ?_⟩, ?_⟩
        · first | rfl | (simp only [Int.natCast_add, Int.natCast_one]; rfl)
        · (try dsimp only); omega
        · omega
      have c181' := c181
      (try simp only [icmp, Bool.and_eq_true, Bool.or_eq_true, Bool.and_eq_false_iff, Bool.or_eq_false_iff, Bool.not_eq_true', Bool.not_eq_false', decide_eq_true_eq, decide_eq_false_iff_not, beq_iff_eq, bne_iff_ne, beq_eq_false_iff_ne, bne_eq_false_iff_eq] at c181')
      have hzl : (List.replicate z (-1 : Int)).length = A_m.places.length := by rw [List.length_replicate]; omega
      refine wp_exit ?_
      refine hK160 _ _ ?_
      refine wp_seq_k fun K204 hK204 => ?_
      refine wp_region_lit ?_
      refine q_is rfl rfl (does_assign (u := (Iv 0)) (ev rfl)) (by dsimp only [List.set]; try rfl) ?_
      refine wpList_nil (hK204 _ _ ?_)
      refine wp_seq_k fun K205 hK205 => ?_
      refine wp_seq_k fun K206 hK206 => ?_
      rcases Nat.eq_zero_or_pos A_m.places.length with hz0 | hz0
      · refine wp_region_lit ?_
        refine q_is rfl rfl (does_move (u := (.slice p176 ((List.replicate z (-1)).length) q177)) (ev rfl)) (by dsimp only [List.set]; try rfl) ?_
        refine q_is rfl rfl (does_len_slice Try.underlying27 (ev rfl)) (by dsimp only [List.set]; try rfl) ?_
        refine q_is rfl rfl (does_move (u := (Iv 0)) (ev rfl)) (by dsimp only [List.set]; try rfl) ?_
        refine wpList_nil (hK206 _ _ ?_)
        refine wp_block ?_
        refine loop_unroll 1 ?_
        refine un_step ?_
        refine wp_seq_k fun K207 hK207 => ?_
        refine wp_region_lit ?_
        refine q_is rfl rfl (does_icmp (p := 0) (q := (((List.replicate z (-1)).length) : Int)) (.inr (.inr (.inl rfl))) (ev rfl) (ev rfl)) (by dsimp only [List.set]; try rfl) ?_
        refine wpList_nil (hK207 _ _ ?_)
        refine wp_seq_k fun K208 hK208 => ?_
        refine wp_cond_split (t := icmp .lss 0 (((List.replicate z (-1)).length) : Int)) (ev rfl) (fun c209 => ?_) (fun c209 => ?_)
        · have c209' := c209
          (try simp only [icmp, Bool.and_eq_true, Bool.or_eq_true, Bool.and_eq_false_iff, Bool.or_eq_false_iff, Bool.not_eq_true', Bool.not_eq_false', decide_eq_true_eq, decide_eq_false_iff_not, beq_iff_eq, bne_iff_ne, beq_eq_false_iff_ne, bne_eq_false_iff_eq] at c209')
          exfalso; simp only [icmp, decide_eq_true_eq] at c209; omega
        have c209' := c209
        (try simp only [icmp, Bool.and_eq_true, Bool.or_eq_true, Bool.and_eq_false_iff, Bool.or_eq_false_iff, Bool.not_eq_true', Bool.not_eq_false', decide_eq_true_eq, decide_eq_false_iff_not, beq_iff_eq, bne_iff_ne, beq_eq_false_iff_ne, bne_eq_false_iff_eq] at c209')
        refine wp_exit ?_
        refine hK205 _ _ ?_
        refine wp_seq_k fun K210 hK210 => ?_
        refine wp_region_lit ?_
        refine q_is rfl rfl (does_move (u := (.slice p176 ((List.replicate z (-1)).length) q177)) (ev rfl)) (by dsimp only [List.set]; try rfl) ?_
        refine q_is rfl rfl (does_move (u := (Iv 0)) (ev rfl)) (by dsimp only [List.set]; try rfl) ?_
        refine q_is rfl rfl (does_assign (u := (.slice p176 ((List.replicate z (-1)).length) q177)) (ev rfl)) (by dsimp only [List.set]; try rfl) ?_
        refine q_is rfl rfl (does_assign (u := (Iv 0)) (ev rfl)) (by dsimp only [List.set]; try rfl) ?_
        refine q_is rfl rfl (does_assign (u := (Bo true)) (ev rfl)) (by dsimp only [List.set]; try rfl) ?_
        refine wpList_nil (hK210 _ _ ?_)
        refine wp_ret ?_
        refine ret_val (v := (.tuple #[(.slice p176 ((List.replicate z (-1)).length) q177), (Iv 0), (Bo true)])) (res_TTT rfl (slot rfl) (slot rfl) (slot rfl)) X175 ?_
        have x211 : ((pcsM A_m).2 : Int) = 0 := by first | exact hmt | (rw [pcsM_0 hmt hz0]; done) | (rw [pcsM_0 hmt hz0, show z = 0 by omega]; rfl) | (rw [pcsM_0 hmt hz0]; rfl)
        have x212 : (meshOk A_m) = true := by first | exact hmt | (rw [pcsM_0 hmt hz0]; done) | (rw [pcsM_0 hmt hz0, show z = 0 by omega]; rfl) | (rw [pcsM_0 hmt hz0]; rfl)
        have x213 : (List.replicate z (-1)) = ((pcsM A_m).1) := by first | exact hmt | (rw [pcsM_0 hmt hz0]; done) | (rw [pcsM_0 hmt hz0, show z = 0 by omega]; rfl) | (rw [pcsM_0 hmt hz0]; rfl)
        exact ⟨(.slice p176 ((List.replicate z (-1)).length) q177), (by first | with_reducible rfl | rw [x211, x212] | rw [x212, x211] | rfl), (Hang.castL (Own.hang hO174 RI.flat (by decide) (Nat.le_trans (Nat.le_trans (Nat.le_trans (Nat.le_trans (Nat.le_trans (Below.size E15) (Below.size E21)) (Below.size E30)) (Below.size E42)) (KpL.size K61)) hN168) (Nat.le_trans (Nat.le_trans (Nat.le_trans (Nat.le_trans (Nat.le_trans (Below.size E15) (Below.size E21)) (Below.size E30)) (Below.size E42)) (KpL.size K61)) (Below.size E154))) x213)⟩
      refine wp_region_lit ?_
      refine q_is rfl rfl (does_move (u := (.slice p176 ((List.replicate z (-1)).length) q177)) (ev rfl)) (by dsimp only [List.set]; try rfl) ?_
      refine q_is rfl rfl (does_len_slice Try.underlying27 (ev rfl)) (by dsimp only [List.set]; try rfl) ?_
      refine q_is rfl rfl (does_move (u := (Iv 0)) (ev rfl)) (by dsimp only [List.set]; try rfl) ?_
      refine wpList_nil (hK206 _ _ ?_)
      refine wp_block ?_
      have n214 : b12 < w171.heap.size := Blk.lt ((((((hB14.ext E21).ext E30).ext E42).kl K61 (fun hc => (hL62 _ hc).elim (fun h => absurd h (ninS (Nat.ne_of_lt n47) nin0)) (fun h => absurd h (Nat.not_le_of_lt n52)))).ext E154).kl E172 (ninS (Nat.ne_of_lt (Nat.lt_of_lt_of_le n156 hN168)) nin0))
      obtain ⟨gr215, hp216, hg221, hR218, hcap219⟩ := Own.rowg hO174 (by omega)
      have hB220 : w57.heap.size ≤ gr215 := by rcases hg221 with h | h; exact h ▸ hN168; exact Nat.le_trans (Below.size E154) h
      have n222 : b12 ≠ gr215 := Nat.ne_of_lt (Nat.lt_of_lt_of_le n156 hB220)
      have g223 : w.heap.size ≤ gr215 := Nat.le_trans (Nat.le_trans (Nat.le_trans (Nat.le_trans (Nat.le_trans (Below.size E15) (Below.size E21)) (Below.size E30)) (Below.size E42)) (KpL.size K61)) hB220
      subst hp216
      have hl224 := RowG.lt hR218
      refine loop_ghost (σ := Nat) (fun k a w' => ∃ u225 : Nat → Value, a = fr [(.agg #[(.slice p5 A_m.places.length q6), (.slice p8 A_m.tris.length q9)]), (Pt b12 0), (.slice none 0 0), (Iv 0), (Bo false), (.slice p36 ((nextL A_m).length) q37), (.slice (some ⟨b39, 0, none⟩) A_m.places.length A_m.places.length), (u56 7), (u56 8), (u56 9), (.slice (some ⟨gr215, 0, none⟩) ((List.replicate z (-1)).length) q177), (Iv ((numTo A_m.places.length (cS A_m) (nS A_m) k).2)), (u225 12), (u225 13), (u225 14), (u225 15), (u225 16), (Bo (meshOk A_m)), (Bo (!(meshOk A_m))), (.slice p36 ((nextL A_m).length) q37), (Pt b12 0), (.slice p5 A_m.places.length q6), (Iv (A_m.places.length : Int)), (.slice (some ⟨b39, 0, none⟩) A_m.places.length A_m.places.length), (.slice p36 ((nextL A_m).length) q37), (Iv (((nextL A_m).length) : Int)), (Iv (kb : Int)), (Bo (icmp .lss (kb : Int) (((nextL A_m).length) : Int))), (u56 28), (u56 29), (u56 30), (u56 31), (u56 32), (u56 33), (u56 34), (u56 35), (u56 36), (u56 37), (u56 38), (u56 39), (u56 40), (u56 41), (u56 42), (u56 43), (u56 44), (u56 45), (u56 46), (u56 47), (u56 48), (u56 49), (u56 50), (u56 51), (u56 52), (u56 53), (u56 54), (u56 55), (.slice (some ⟨b150, 0, none⟩) 0 0), (Pt b12 0), (.slice p5 A_m.places.length q6), (Iv (A_m.places.length : Int)), (Iv (z : Int)), (Bo (icmp .lss (z : Int) (A_m.places.length : Int))), (u162 62), (u162 63), (u162 64), (u162 65), (.slice (some ⟨gr215, 0, none⟩) ((List.replicate z (-1)).length) q177), (Iv (((List.replicate z (-1)).length) : Int)), (Iv (k : Int)), (u225 69), (u225 70), (u225 71), (u225 72), (u225 73), (u225 74), (u225 75), (u225 76), (u225 77), (u225 78), (u225 79), (u225 80), (u225 81), (u225 82), (u225 83), (u225 84), (u225 85), (u225 86), (u225 87), (u225 88), (u225 89), (u225 90), (u225 91), (u225 92), (u225 93), (u225 94), (u225 95), (u225 96), (u225 97), (u225 98), (u225 99), (u225 100), (u225 101), (u225 102), (u225 103), (u225 104), (u225 105), (u225 106), (u225 107), (u225 108), (u225 109), (u225 110), (u225 111), (u225 112), (u225 113), (u225 114), (u225 115), (u225 116), (u225 117), (u225 118), (u225 119), (u225 120), (u225 121), (u225 122), (u225 123), (u225 124), (u225 125), (u225 126), (u225 127), (u225 128), (u225 129), (u225 130), (u225 131), (u225 132), (u225 133), (u225 134), (u225 135), (u225 136), (u225 137), (u225 138), (u225 139), (u225 140), (u225 141), (u225 142), (u225 143), Ud, Ud] ∧ KpL [gr215] w171 w' ∧ RowG RI 1 w' gr215 ((numTo A_m.places.length (cS A_m) (nS A_m) k).1) ∧ (k ≤ A_m.places.length)) (fun k => A_m.places.length - k) 0 ?_ ?_
      · refine ⟨fun t => (([(.agg #[(.slice p5 A_m.places.length q6), (.slice p8 A_m.tris.length q9)]), (Pt b12 0), (.slice none 0 0), (Iv 0), (Bo false), (.slice p36 ((nextL A_m).length) q37), (.slice (some ⟨b39, 0, none⟩) A_m.places.length A_m.places.length), (u56 7), (u56 8), (u56 9), (.slice (some ⟨gr215, 0, none⟩) ((List.replicate z (-1)).length) q177), (Iv 0), Ud, Ud, Ud, Ud, Ud, (Bo (meshOk A_m)), (Bo (!(meshOk A_m))), (.slice p36 ((nextL A_m).length) q37), (Pt b12 0), (.slice p5 A_m.places.length q6), (Iv (A_m.places.length : Int)), (.slice (some ⟨b39, 0, none⟩) A_m.places.length A_m.places.length), (.slice p36 ((nextL A_m).length) q37), (Iv (((nextL A_m).length) : Int)), (Iv (kb : Int)), (Bo (icmp .lss (kb : Int) (((nextL A_m).length) : Int))), (u56 28), (u56 29), (u56 30), (u56 31), (u56 32), (u56 33), (u56 34), (u56 35), (u56 36), (u56 37), (u56 38), (u56 39), (u56 40), (u56 41), (u56 42), (u56 43), (u56 44), (u56 45), (u56 46), (u56 47), (u56 48), (u56 49), (u56 50), (u56 51), (u56 52), (u56 53), (u56 54), (u56 55), (.slice (some ⟨b150, 0, none⟩) 0 0), (Pt b12 0), (.slice p5 A_m.places.length q6), (Iv (A_m.places.length : Int)), (Iv (z : Int)), (Bo (icmp .lss (z : Int) (A_m.places.length : Int))), (u162 62), (u162 63), (u162 64), (u162 65), (.slice (some ⟨gr215, 0, none⟩) ((List.replicate z (-1)).length) q177), (Iv (((List.replicate z (-1)).length) : Int)), (Iv 0), Ud, Ud, Ud, Ud, Ud, Ud, Ud, Ud, Ud, Ud, Ud, Ud, Ud, Ud, Ud, Ud, Ud, Ud, Ud, Ud, Ud, Ud, Ud, Ud, Ud, Ud, Ud, Ud, Ud, Ud, Ud, Ud, Ud, Ud, Ud, Ud, Ud, Ud, Ud, Ud, Ud, Ud, Ud, Ud, Ud, Ud, Ud, Ud, Ud, Ud, Ud, Ud, Ud, Ud, Ud, Ud, Ud, Ud, Ud, Ud, Ud, Ud, Ud, Ud, Ud, Ud, Ud, Ud, Ud, Ud, Ud, Ud, Ud, Ud, Ud, Ud, Ud] : List Value)[t]?).getD undef, rfl, KpL.refl _ _, (RowG.cast hR218 (by (try dsimp only); rw [show z = A_m.places.length by omega]; rfl)), ?_⟩
        exact Nat.zero_le _
      · rintro k a w226 ⟨u225, rfl, E227, hRg0, hk⟩
        have X229 := Below.kl X175 E227 (allS g223 all0) (Nat.le_refl _)
        have hR230 := hRg0; clear hRg0
        have hkl := numTo_len A_m.places.length (cS A_m) (nS A_m) k
        have hkm := numTo_m A_m.places.length (cS A_m) (nS A_m) k
        refine wp_seq_k fun K231 hK231 => ?_
        refine wp_region_lit ?_
        refine q_is rfl rfl (does_icmp (p := (k : Int)) (q := (((List.replicate z (-1)).length) : Int)) (.inr (.inr (.inl rfl))) (ev rfl) (ev rfl)) (by dsimp only [List.set]; try rfl) ?_
        refine wpList_nil (hK231 _ _ ?_)
        refine wp_seq_k fun K232 hK232 => ?_
        refine wp_cond_split (t := icmp .lss (k : Int) (((List.replicate z (-1)).length) : Int)) (ev rfl) (fun c233 => ?_) (fun c233 => ?_)
        · have c233' := c233
          (try simp only [icmp, Bool.and_eq_true, Bool.or_eq_true, Bool.and_eq_false_iff, Bool.or_eq_false_iff, Bool.not_eq_true', Bool.not_eq_false', decide_eq_true_eq, decide_eq_false_iff_not, beq_iff_eq, bne_iff_ne, beq_eq_false_iff_ne, bne_eq_false_iff_eq] at c233')
          refine wp_skip (hK232 _ _ ?_)
          refine wp_seq_k fun K234 hK234 => ?_
          refine wp_block ?_
          refine wp_seq_k fun K235 hK235 => ?_
          refine wp_region_lit ?_
          refine q_is rfl rfl (does_move (u := (Iv (k : Int))) (ev rfl)) (by dsimp only [List.set]; try rfl) ?_
          refine q_is rfl rfl (does_assign (u := (Iv (k : Int))) (ev rfl)) (by dsimp only [List.set]; try rfl) ?_
          refine wpList_nil (hK235 _ _ ?_)
          refine wp_seq_k fun K236 hK236 => ?_
          refine wp_seq_k fun K237 hK237 => ?_
          obtain ⟨el5, hel5⟩ : ∃ e, ((numTo A_m.places.length (cS A_m) (nS A_m) k).1)[k]? = some e := ⟨_, List.getElem?_eq_getElem (by first | assumption | omega | (simp only [bkQ_len, bkTo_len, numTo_len, List.length_replicate, List.length_set, List.length_set, List.length_replicate]; omega) | (simp only [bkQ_len, bkTo_len, numTo_len, List.length_replicate, List.length_set, List.length_set, List.length_replicate]; done))⟩
          obtain ⟨el6, hel6⟩ : ∃ e, (nextL A_m)[k]? = some e := ⟨_, List.getElem?_eq_getElem (by omega)⟩
          obtain ⟨β1, hβ1⟩ : ∃ b : Bool, b = (icmp .eql (el6.length : Int) 0) := ⟨_, rfl⟩
          refine region_text (
            [Fact.pure [] (fun v => v = (.slice (some ⟨gr215, 0, none⟩) ((List.replicate z (-1)).length) q177)),
    Fact.pure [] (fun v => v = (Iv (k : Int))),
    Fact.pure [71, 72] (fun v => v = (Pt gr215 (k * 1))),
    Fact.pure [73] (fun v => v = (Iv el5)),
    Fact.pure [74] (fun v => v = (Bo (icmp .geq el5 0))),
    Fact.pure [75] (fun v => v = (Bo (icmp .geq el5 0))),
    Fact.pure [76] (fun v => (icmp .geq el5 0) = false → v = (.slice p36 ((nextL A_m).length) q37)),
    Fact.pure [76] (fun v => (icmp .geq el5 0) = false → v = (Iv (k : Int))),
    Fact.mem [77, 78, 76] (fun v w' => (icmp .geq el5 0) = false → PtrR (RS RI 1) w' v el6) (by intro v w1 w2 hx h; exact fun hg1 => (h hg1).ext (RS.mono RI.mono) hx),
    Fact.mem [79, 76] (fun v w' => (icmp .geq el5 0) = false → ∃ y_1 : Value, v = y_1 ∧ Sl RI 1 w' y_1 el6) (by intro v w1 w2 hx h hg1; obtain ⟨z1, rfl, k0⟩ := h hg1; exact ⟨_, rfl, (k0.ext RI.mono hx)⟩),
    Fact.pure [80, 76] (fun v => (icmp .geq el5 0) = false → v = (Iv (el6.length : Int))),
    Fact.pure [81, 76] (fun v => (icmp .geq el5 0) = false → v = (Bo β1)),
    Fact.pure [76, 82] (fun v => v = (Bo ((icmp .geq el5 0) || β1)))]) (by simp [Fact.pure, Fact.mem]) ?_
          refine RW_d _ rfl (fun v => by dsimp only [List.set]; try rfl) (fun u hu hF => ?_) (fun v238 => ?_)
          · clear hF
            refine doesG_un rfl ?_
            refine (does_move (u := (.slice (some ⟨gr215, 0, none⟩) ((List.replicate z (-1)).length) q177)) (ev rfl)).mono ?_; rintro _ _ ⟨rfl, rfl⟩
            exact ⟨rfl, Ext.refl _⟩
          refine RW_d _ rfl (fun v => by dsimp only [List.set]; try rfl) (fun u hu hF => ?_) (fun v239 => ?_)
          · clear hF
            refine doesG_un rfl ?_
            refine (does_move (u := (Iv (k : Int))) (ev rfl)).mono ?_; rintro _ _ ⟨rfl, rfl⟩
            exact ⟨rfl, Ext.refl _⟩
          refine RW_d _ rfl (fun v => by dsimp only [List.set]; try rfl) (fun u hu hF => ?_) (fun v240 => ?_)
          · have h71_ : v238 = (.slice (some ⟨gr215, 0, none⟩) ((List.replicate z (-1)).length) q177) := hF.1
            have h72_ : v239 = (Iv (k : Int)) := hF.2.1
            clear hF
            refine doesG_un rfl ?_
            obtain rfl := h71_
            obtain rfl := h72_
            refine (does_indexOwn (b := gr215) (n := (List.replicate z (-1)).length) (i := (k : Int)) Try.underlying27 Try.sizeOf2 (ev rfl) (ev rfl) (by omega) (by omega)).mono ?_; rintro _ _ ⟨rfl, rfl⟩
            exact ⟨rfl, Ext.refl _⟩
          refine RW_d _ rfl (fun v => by dsimp only [List.set]; try rfl) (fun u hu hF => ?_) (fun v241 => ?_)
          · have h73_ : v240 = (Pt gr215 (k * 1)) := hF.1
            clear hF
            refine doesG_un rfl ?_
            obtain rfl := h73_
            refine (does_loadRowI (xs := ((numTo A_m.places.length (cS A_m) (nS A_m) k).1)) (i := k) (e := el5) (ev rfl) Try.isAgg2 (RowG.ext hR230 RI.flat hu) rfl hel5).mono ?_; rintro _ _ ⟨rfl, rfl⟩
            exact ⟨rfl, Ext.refl _⟩
          refine RW_d _ rfl (fun v => by dsimp only [List.set]; try rfl) (fun u hu hF => ?_) (fun v242 => ?_)
          · have h74_ : v241 = (Iv el5) := hF.1
            clear hF
            refine doesG_un rfl ?_
            obtain rfl := h74_
            refine (does_icmp (p := el5) (q := 0) (.inr (.inr (.inr (.inr (.inr rfl))))) (ev rfl) (ev rfl)).mono ?_; rintro _ _ ⟨rfl, rfl⟩
            exact ⟨rfl, Ext.refl _⟩
          refine RW_d _ rfl (fun v => by dsimp only [List.set]; try rfl) (fun u hu hF => ?_) (fun v243 => ?_)
          · have h75_ : v242 = (Bo (icmp .geq el5 0)) := hF.1
            clear hF
            refine doesG_un rfl ?_
            obtain rfl := h75_
            refine (does_move (u := (Bo (icmp .geq el5 0))) (ev rfl)).mono ?_; rintro _ _ ⟨rfl, rfl⟩
            exact ⟨rfl, Ext.refl _⟩
          refine RW_d _ rfl (fun v => by dsimp only [List.set]; try rfl) (fun u hu hF => ?_) (fun v244 => ?_)
          · have h76_ : v243 = (Bo (icmp .geq el5 0)) := hF.1
            clear hF
            obtain rfl := h76_
            refine doesG_g (b := (icmp .geq el5 0)) rfl (yld rfl rfl) (fun hg1 => ?_) (fun hc => ⟨fun hg1 => absurd hg1 hc, Ext.refl _⟩)
            refine (does_move (u := (.slice p36 ((nextL A_m).length) q37)) (ev rfl)).mono ?_; rintro _ _ ⟨rfl, rfl⟩
            exact ⟨fun _ => rfl, Ext.refl _⟩
          refine RW_d _ rfl (fun v => by dsimp only [List.set]; try rfl) (fun u hu hF => ?_) (fun v245 => ?_)
          · have h76_ : v243 = (Bo (icmp .geq el5 0)) := hF.1
            clear hF
            obtain rfl := h76_
            refine doesG_g (b := (icmp .geq el5 0)) rfl (yld rfl rfl) (fun hg1 => ?_) (fun hc => ⟨fun hg1 => absurd hg1 hc, Ext.refl _⟩)
            refine (does_move (u := (Iv (k : Int))) (ev rfl)).mono ?_; rintro _ _ ⟨rfl, rfl⟩
            exact ⟨fun _ => rfl, Ext.refl _⟩
          refine RW_d _ rfl (fun v => by dsimp only [List.set]; try rfl) (fun u hu hF => ?_) (fun v246 => ?_)
          · have h77_ : (icmp .geq el5 0) = false → v244 = (.slice p36 ((nextL A_m).length) q37) := hF.1
            have h78_ : (icmp .geq el5 0) = false → v245 = (Iv (k : Int)) := hF.2.1
            have h76_ : v243 = (Bo (icmp .geq el5 0)) := hF.2.2.1
            clear hF
            obtain rfl := h76_
            refine doesG_g (b := (icmp .geq el5 0)) rfl (yld rfl rfl) (fun hg1 => ?_) (fun hc => ⟨fun hg1 => absurd hg1 hc, Ext.refl _⟩)
            obtain rfl := h77_ hg1
            obtain rfl := h78_ hg1
            refine (does_indexSl (R := (RS RI 1)) (i := (k : Int)) (xs := (nextL A_m)) (e := el6) Try.underlying23 Try.sizeOf27 (ev rfl) (ev rfl) (Sl.ext (hh32 _ ((((((Same.refl _ _).ext E42).kl K61 (fun c hc => (hL62 c hc).elim ((allS (p := fun c => c < w22.heap.size ∨ w31.heap.size ≤ c) (.inr (Nat.le_trans (Nat.le_refl _) hb40)) all0) c) (fun h => .inr (Nat.le_trans (Below.size E42) h)))).ext E154).kl E172 (allS (.inr (Nat.le_trans (Nat.le_trans (Below.size E42) (KpL.size K61)) hN168)) all0)).kl E227 (allS (.inr (Nat.le_trans (Nat.le_trans (Below.size E42) (KpL.size K61)) hB220)) all0))) (RS.mono RI.mono) hu) (by first | omega | (simp only [icmp, Bool.or_eq_false_iff, Bool.not_eq_false', Bool.not_eq_true', decide_eq_true_eq, decide_eq_false_iff_not, bne_eq_false_iff_eq] at hg1; omega) | (simp only [icmp, Bool.or_eq_false_iff, Bool.not_eq_false', Bool.not_eq_true', decide_eq_true_eq, decide_eq_false_iff_not, bne_eq_false_iff_eq] at hg1 hg2; omega)) hel6).mono ?_; rintro v u' ⟨b, of, cs, hv, hc, hR, hu'⟩; subst hu'
            exact ⟨fun _ => ⟨b, of, cs, hv, hc, hR⟩, Ext.refl _⟩
          refine RW_d _ rfl (fun v => by dsimp only [List.set]; try rfl) (fun u hu hF => ?_) (fun v247 => ?_)
          · have h79_ : (icmp .geq el5 0) = false → PtrR (RS RI 1) u v246 el6 := hF.1
            have h76_ : v243 = (Bo (icmp .geq el5 0)) := hF.2.1
            clear hF
            obtain rfl := h76_
            refine doesG_g (b := (icmp .geq el5 0)) rfl (yld rfl rfl) (fun hg1 => ?_) (fun hc => ⟨fun hg1 => absurd hg1 hc, Ext.refl _⟩)
            obtain ⟨b79_, o79_, _, rfl, hc79_, ⟨y79_1, rfl, h79_2⟩⟩ := h79_ hg1
            have hh79_2 := h79_2; obtain ⟨p79_3, q79_4, rfl⟩ := Sl.shape h79_2
            refine (does_load (u := (.slice p79_3 el6.length q79_4)) (ev rfl) Try.isAgg27 (Cells.at hc79_ 0 rfl)).mono ?_; rintro _ _ ⟨rfl, rfl⟩
            exact ⟨fun _ => ⟨(.slice p79_3 el6.length q79_4), rfl, (by assumption)⟩, Ext.refl _⟩
          refine RW_d _ rfl (fun v => by dsimp only [List.set]; try rfl) (fun u hu hF => ?_) (fun v248 => ?_)
          · have h80_ : (icmp .geq el5 0) = false → ∃ y_1 : Value, v247 = y_1 ∧ Sl RI 1 u y_1 el6 := hF.1
            have h76_ : v243 = (Bo (icmp .geq el5 0)) := hF.2.1
            clear hF
            obtain rfl := h76_
            refine doesG_g (b := (icmp .geq el5 0)) rfl (yld rfl rfl) (fun hg1 => ?_) (fun hc => ⟨fun hg1 => absurd hg1 hc, Ext.refl _⟩)
            obtain ⟨y80_1, rfl, h80_2⟩ := h80_ hg1
            have hh80_2 := h80_2; obtain ⟨p80_3, q80_4, rfl⟩ := Sl.shape h80_2
            refine (does_len_slice Try.underlying27 (ev rfl)).mono ?_; rintro _ _ ⟨rfl, rfl⟩
            exact ⟨fun _ => rfl, Ext.refl _⟩
          refine RW_d _ rfl (fun v => by dsimp only [List.set]; try rfl) (fun u hu hF => ?_) (fun v249 => ?_)
          · have h81_ : (icmp .geq el5 0) = false → v248 = (Iv (el6.length : Int)) := hF.1
            have h76_ : v243 = (Bo (icmp .geq el5 0)) := hF.2.1
            clear hF
            obtain rfl := h76_
            refine doesG_g (b := (icmp .geq el5 0)) rfl (yld rfl rfl) (fun hg1 => ?_) (fun hc => ⟨fun hg1 => absurd hg1 hc, Ext.refl _⟩)
            obtain rfl := h81_ hg1
            refine (does_icmp (p := (el6.length : Int)) (q := 0) (.inl rfl) (ev rfl) (ev rfl)).mono ?_; rintro _ _ ⟨rfl, rfl⟩
            exact ⟨fun _ => (by first | rfl | (show _ = _; simp only [hβ1]; done) | (show _ = _; simp only [hβ1]; rfl)), Ext.refl _⟩
          refine RW_d _ rfl (fun v => by dsimp only [List.set]; try rfl) (fun u hu hF => ?_) (fun v250 => ?_)
          · have h76_ : v243 = (Bo (icmp .geq el5 0)) := hF.1
            have h82_ : (icmp .geq el5 0) = false → v249 = (Bo β1) := hF.2.1
            clear hF
            refine doesG_un rfl ?_
            skip
            obtain rfl := h76_
            refine (does_pick (b := (icmp .geq el5 0)) (u := (Bo true)) (v := v249) (ev rfl) (ev rfl) (ev rfl)).mono ?_; rintro _ _ ⟨rfl, rfl⟩; refine ⟨?_, Ext.refl _⟩; skip
            cases hbb : (icmp .geq el5 0)
            all_goals first | (show _ = _; simp only [↓reduceIte, Bool.true_and, Bool.false_and, Bool.true_or, Bool.false_or, Bool.false_eq_true]; done) | (have e_ := h82_ hbb; subst e_; show _ = _; simp only [↓reduceIte, Bool.true_and, Bool.false_and, Bool.true_or, Bool.false_or, Bool.false_eq_true]; done) | rfl | (have e_ := h82_ hbb; subst e_; rfl) | (simp [hbb] at h82_ ⊢; first | done | rfl | (subst h82_; rfl) | simp_all) | (simp [hbb] at h82_ ⊢; done)
          refine RW_fin ?_; intro w251 E252 hP253
          obtain ⟨⟨⟨⟨⟨⟨⟨⟨⟨⟨⟨⟨⟨-, -⟩, -⟩, -⟩, -⟩, -⟩, -⟩, -⟩, -⟩, -⟩, -⟩, -⟩, -⟩, q254⟩ := hP253
          have X255 := Ext.gr X229 E252
          have q254 : v250 = (Bo ((icmp .geq el5 0) || β1)) := q254
          obtain rfl := q254
          show wpList _ _ _ _ (fr [_, _, _, _, _, _, _, _, _, _, _, _, _, _, _, _, _, _, _, _, _, _, _, _, _, _, _, _, _, _, _, _, _, _, _, _, _, _, _, _, _, _, _, _, _, _, _, _, _, _, _, _, _, _, _, _, _, _, _, _, _, _, _, _, _, _, _, _, _, _, _, _, _, _, _, _, _, _, _, _, _, _, _, _, _, _, _, _, _, _, _, _, _, _, _, _, _, _, _, _, _, _, _, _, _, _, _, _, _, _, _, _, _, _, _, _, _, _, _, _, _, _, _, _, _, _, _, _, _, _, _, _, _, _, _, _, _, _, _, _, _, _, _, _, _, _]) _
          refine wpList_nil (hK237 _ _ ?_)
          refine wp_cond_split (t := (icmp .geq el5 0) || β1) (ev rfl) (fun c256 => ?_) (fun c256 => ?_)
          · have c256' := c256
            (try simp only [hβ1] at c256')
            (try simp only [icmp, Bool.and_eq_true, Bool.or_eq_true, Bool.and_eq_false_iff, Bool.or_eq_false_iff, Bool.not_eq_true', Bool.not_eq_false', decide_eq_true_eq, decide_eq_false_iff_not, beq_iff_eq, bne_iff_ne, beq_eq_false_iff_ne, bne_eq_false_iff_eq] at c256')
            have hsk : 0 ≤ iAt (numTo A_m.places.length (cS A_m) (nS A_m) k).1 k ∨ cS A_m (k : Int) = false := by rw [show iAt (numTo A_m.places.length (cS A_m) (nS A_m) k).1 k = el5 by simp [iAt, hel5]]; refine c256'.imp id fun h => ?_; unfold cS hasA; rw [atL_some hel6]; simp only [decide_eq_false_iff_not]; omega
            refine wp_exit ?_
            refine hK234 _ _ ?_
            refine wp_region_lit ?_
            refine q_is rfl rfl (does_iarith (p := (k : Int)) (q := 1) (r := (k : Int) + 1) (ev rfl) (ev rfl) (.inl ⟨rfl, (in_i64 (by omega) (by omega)).symm⟩)) (by dsimp only [List.set]; try rfl) ?_
            refine q_is rfl rfl (does_move (u := (Iv ((k : Int) + 1))) (ev rfl)) (by dsimp only [List.set]; try rfl) ?_
            refine wpList_nil ?_
            have hR257 := RowG.cast (ys := ((fun (k : Nat) => (numTo A_m.places.length (cS A_m) (nS A_m) k).1) (k + 1))) (RowG.ext hR230 RI.flat E252) (by (try dsimp only); first | exact (congrArg Prod.fst (numTo_skip hsk)).symm | (rw [numTo_new hn1 hnw.2]; exact Fld.finish (grS hmt) (by omega) hnw.2 hfr (hs0 ▸ hfd)))
            refine ⟨k + 1, ⟨fun t => (([(.agg #[(.slice p5 A_m.places.length q6), (.slice p8 A_m.tris.length q9)]), (Pt b12 0), (.slice none 0 0), (Iv 0), (Bo false), (.slice p36 ((nextL A_m).length) q37), (.slice (some ⟨b39, 0, none⟩) A_m.places.length A_m.places.length), (u56 7), (u56 8), (u56 9), (.slice (some ⟨gr215, 0, none⟩) ((List.replicate z (-1)).length) q177), (Iv ((numTo A_m.places.length (cS A_m) (nS A_m) k).2)), (Iv (k : Int)), (u225 13), (u225 14), (u225 15), (u225 16), (Bo (meshOk A_m)), (Bo (!(meshOk A_m))), (.slice p36 ((nextL A_m).length) q37), (Pt b12 0), (.slice p5 A_m.places.length q6), (Iv (A_m.places.length : Int)), (.slice (some ⟨b39, 0, none⟩) A_m.places.length A_m.places.length), (.slice p36 ((nextL A_m).length) q37), (Iv (((nextL A_m).length) : Int)), (Iv (kb : Int)), (Bo (icmp .lss (kb : Int) (((nextL A_m).length) : Int))), (u56 28), (u56 29), (u56 30), (u56 31), (u56 32), (u56 33), (u56 34), (u56 35), (u56 36), (u56 37), (u56 38), (u56 39), (u56 40), (u56 41), (u56 42), (u56 43), (u56 44), (u56 45), (u56 46), (u56 47), (u56 48), (u56 49), (u56 50), (u56 51), (u56 52), (u56 53), (u56 54), (u56 55), (.slice (some ⟨b150, 0, none⟩) 0 0), (Pt b12 0), (.slice p5 A_m.places.length q6), (Iv (A_m.places.length : Int)), (Iv (z : Int)), (Bo (icmp .lss (z : Int) (A_m.places.length : Int))), (u162 62), (u162 63), (u162 64), (u162 65), (.slice (some ⟨gr215, 0, none⟩) ((List.replicate z (-1)).length) q177), (Iv (((List.replicate z (-1)).length) : Int)), (Iv ((k : Int) + 1)), (Bo (icmp .lss (k : Int) (((List.replicate z (-1)).length) : Int))), (Iv (k : Int)), v238, v239, v240, v241, v242, v243, v244, v245, v246, v247, v248, v249, (Bo ((icmp .geq el5 0) || β1)), (u225 84), (u225 85), (u225 86), (u225 87), (u225 88), (u225 89), (u225 90), (u225 91), (u225 92), (u225 93), (u225 94), (u225 95), (u225 96), (u225 97), (u225 98), (u225 99), (u225 100), (u225 101), (u225 102), (u225 103), (u225 104), (u225 105), (u225 106), (u225 107), (u225 108), (u225 109), (u225 110), (u225 111), (u225 112), (u225 113), (u225 114), (u225 115), (u225 116), (u225 117), (u225 118), (u225 119), (u225 120), (u225 121), (u225 122), (u225 123), (u225 124), (u225 125), (u225 126), (u225 127), (u225 128), (u225 129), (u225 130), (u225 131), (u225 132), (u225 133), (u225 134), (u225 135), (u225 136), (u225 137), (u225 138), (u225 139), (u225 140), (u225 141), (u225 142), (Iv ((k : Int) + 1)), Ud, Ud] : List Value)[t]?).getD undef, ?_, (KpL.ext E227 E252), hR257, ?_⟩, ?_⟩
            · first | (rw [numTo_skip hsk]; rfl) | (rw [numTo_new hn1 hnw.2]; rfl)
            · omega
            · omega
          have c256' := c256
          (try simp only [hβ1] at c256')
          (try simp only [icmp, Bool.and_eq_true, Bool.or_eq_true, Bool.and_eq_false_iff, Bool.or_eq_false_iff, Bool.not_eq_true', Bool.not_eq_false', decide_eq_true_eq, decide_eq_false_iff_not, beq_iff_eq, bne_iff_ne, beq_eq_false_iff_ne, bne_eq_false_iff_eq] at c256')
          have hnw : el5 < 0 ∧ cS A_m (k : Int) = true := ⟨by have h := c256'.1; omega, by have h := c256'.2; unfold cS hasA; rw [atL_some hel6]; simp only [decide_eq_true_eq]; omega⟩
          have hn1 : iAt (numTo A_m.places.length (cS A_m) (nS A_m) k).1 k < 0 := by rw [show iAt (numTo A_m.places.length (cS A_m) (nS A_m) k).1 k = el5 by simp [iAt, hel5]]; exact hnw.1
          have hfr : ∀ j : Nat, j < A_m.places.length → Conn (cS A_m) (nS A_m) (k : Int) j → iAt (numTo A_m.places.length (cS A_m) (nS A_m) k).1 j < 0 := fun j hj hc => numTo_free (grS hmt) (by omega) hn1 hnw.2 hj hc
          refine wp_skip (hK236 _ _ ?_)
          refine wp_seq_k fun K258 hK258 => ?_
          refine wp_region_lit ?_
          refine q_is rfl rfl (does_move (u := (Iv (k : Int))) (ev rfl)) (by dsimp only [List.set]; try rfl) ?_
          refine seqd rfl rfl (does_buildSlice (e := 2) (parts' := [(0, (Iv (k : Int)))]) (cells := [(Iv (k : Int))]) (evp rfl) (fun _ => by kernel_rfl)) ?_; rintro _ w263 ⟨b259, rfl, hb260, hB261, E262⟩
          have n264 : b12 < b259 := Nat.lt_of_lt_of_le (Blk.lt ((((((((hB14.ext E21).ext E30).ext E42).kl K61 (fun hc => (hL62 _ hc).elim (fun h => absurd h (ninS (Nat.ne_of_lt n47) nin0)) (fun h => absurd h (Nat.not_le_of_lt n52)))).ext E154).kl E172 (ninS (Nat.ne_of_lt (Nat.lt_of_lt_of_le n156 hN168)) nin0)).kl E227 (ninS n222 nin0)).ext E252)) hb260
          have n265 : gr215 < b259 := Nat.lt_of_lt_of_le (RowG.lt (RowG.ext hR230 RI.flat E252)) hb260
          have g266 : w.heap.size ≤ b259 := Nat.le_trans (Below.size X255) hb260
          have X267 := Ext.gr X255 E262
          show wpList _ _ _ _ (fr [_, _, _, _, _, _, _, _, _, _, _, _, _, _, _, _, _, _, _, _, _, _, _, _, _, _, _, _, _, _, _, _, _, _, _, _, _, _, _, _, _, _, _, _, _, _, _, _, _, _, _, _, _, _, _, _, _, _, _, _, _, _, _, _, _, _, _, _, _, _, _, _, _, _, _, _, _, _, _, _, _, _, _, _, _, _, _, _, _, _, _, _, _, _, _, _, _, _, _, _, _, _, _, _, _, _, _, _, _, _, _, _, _, _, _, _, _, _, _, _, _, _, _, _, _, _, _, _, _, _, _, _, _, _, _, _, _, _, _, _, _, _, _, _, _, _]) _
          refine q_is rfl rfl (does_assign (u := (.slice (some ⟨b259, 0, none⟩) 1 1)) (ev rfl)) (by dsimp only [List.set]; try rfl) ?_
          refine wpList_nil (hK258 _ _ ?_)
          refine wp_seq_k fun K268 hK268 => ?_
          refine wp_region_lit ?_
          refine q_is rfl rfl (does_move (u := (.slice (some ⟨gr215, 0, none⟩) ((List.replicate z (-1)).length) q177)) (ev rfl)) (by dsimp only [List.set]; try rfl) ?_
          refine q_is rfl rfl (does_move (u := (Iv (k : Int))) (ev rfl)) (by dsimp only [List.set]; try rfl) ?_
          refine q_is rfl rfl (does_move (u := (Iv ((numTo A_m.places.length (cS A_m) (nS A_m) k).2))) (ev rfl)) (by dsimp only [List.set]; try rfl) ?_
          refine q_is rfl rfl (does_indexOwn (b := gr215) (n := (List.replicate z (-1)).length) (i := (k : Int)) Try.underlying27 Try.sizeOf2 (ev rfl) (ev rfl) (by omega) (by omega)) (by dsimp only [List.set]; try rfl) ?_
          refine seqn rfl rfl (does_storeRowG (R := RI) (k := 1) (xs := ((numTo A_m.places.length (cS A_m) (nS A_m) k).1)) (i := k) (u := (Iv ((numTo A_m.places.length (cS A_m) (nS A_m) k).2))) (e := ((numTo A_m.places.length (cS A_m) (nS A_m) k).2)) (ev rfl) (ev rfl) Try.sizeOf2 rfl rfl RI.flat (RowG.ext (RowG.ext hR230 RI.flat E252) RI.flat E262) rfl (by first | assumption | omega | (simp only [bkQ_len, bkTo_len, numTo_len, List.length_replicate, List.length_set, List.length_set, List.length_replicate]; omega) | (simp only [bkQ_len, bkTo_len, numTo_len, List.length_replicate, List.length_set, List.length_set, List.length_replicate]; done)) rfl) ?_; rintro _ w271 ⟨rfl, W269, hR270⟩
          have X272 := Below.wr X267 W269 g223
          refine wpList_nil (hK268 _ _ ?_)
          refine wp_seq_k fun K273 hK273 => ?_
          refine wp_seq_k fun K274 hK274 => ?_
          refine wp_region_lit ?_
          refine q_is rfl rfl (does_assign (u := (Iv 0)) (ev rfl)) (by dsimp only [List.set]; try rfl) ?_
          refine wpList_nil (hK274 _ _ ?_)
          refine wp_block ?_
          have n276 : b12 < w271.heap.size := Blk.lt ((((((((((hB14.ext E21).ext E30).ext E42).kl K61 (fun hc => (hL62 _ hc).elim (fun h => absurd h (ninS (Nat.ne_of_lt n47) nin0)) (fun h => absurd h (Nat.not_le_of_lt n52)))).ext E154).kl E172 (ninS (Nat.ne_of_lt (Nat.lt_of_lt_of_le n156 hN168)) nin0)).kl E227 (ninS n222 nin0)).ext E252).ext E262).wr W269 n222)
          have n277 : b259 < w271.heap.size := Blk.lt (hB261.wr W269 (Nat.ne_of_gt n265))
          have n278 : gr215 < w271.heap.size := RowG.lt hR270
          have hO279 : OwnQ RI 1 2 b259 w271.heap.size w271 (.slice (some ⟨b259, 0, none⟩) 1 1) [(k : Int)] := OwnQ.lit1 (hB261.wr W269 (Nat.ne_of_gt n265)) rfl
          have hg280 : b259 < w271.heap.size := Blk.lt (hB261.wr W269 (Nat.ne_of_gt n265))
          have hH281 : Hang w251.heap.size w271 (fun u => Sl RI 1 u (.slice (some ⟨b259, 0, none⟩) 1 1) ([(k : Int)])) := OwnQ.hang hO279 RI.flat (by decide) hb260 (Nat.le_trans (Below.size E262) (Nat.le_of_eq (Eq.symm (Wr.size W269))))
          obtain ⟨gg282, hg283, hg284, hO285⟩ := OwnQ.start' hO279 hO279
          have hN286 : w251.heap.size ≤ gg282 := by rcases hg283 with h | h; exact h ▸ hb260; exact Nat.le_trans (Nat.le_trans (Below.size E262) (Nat.le_of_eq (Eq.symm (Wr.size W269)))) h
          have g287 : w.heap.size ≤ gg282 := Nat.le_trans (Nat.le_trans (Nat.le_trans (Nat.le_trans (Nat.le_trans (Nat.le_trans (Nat.le_trans (Nat.le_trans (Nat.le_trans (Below.size E15) (Below.size E21)) (Below.size E30)) (Below.size E42)) (KpL.size K61)) (Below.size E154)) (KpL.size E172)) (KpL.size E227)) (Below.size E252)) hN286
          have hg288 : gg282 < w271.heap.size := by rcases hg284 with h | h; exact h ▸ Nat.lt_of_lt_of_le hg280 (Nat.le_refl _); exact h
          refine loop_ghost (σ := List Int × List Int × Nat) (fun s a w' => ∃ u275 : Nat → Value, ∃ y13 : Value, a = fr [(.agg #[(.slice p5 A_m.places.length q6), (.slice p8 A_m.tris.length q9)]), (Pt b12 0), (.slice none 0 0), (Iv 0), (Bo false), (.slice p36 ((nextL A_m).length) q37), (.slice (some ⟨b39, 0, none⟩) A_m.places.length A_m.places.length), (u56 7), (u56 8), (u56 9), (.slice (some ⟨gr215, 0, none⟩) ((List.replicate z (-1)).length) q177), (Iv ((numTo A_m.places.length (cS A_m) (nS A_m) k).2)), (Iv (k : Int)), y13, (Iv (s.2.2 : Int)), (u275 15), (u275 16), (Bo (meshOk A_m)), (Bo (!(meshOk A_m))), (.slice p36 ((nextL A_m).length) q37), (Pt b12 0), (.slice p5 A_m.places.length q6), (Iv (A_m.places.length : Int)), (.slice (some ⟨b39, 0, none⟩) A_m.places.length A_m.places.length), (.slice p36 ((nextL A_m).length) q37), (Iv (((nextL A_m).length) : Int)), (Iv (kb : Int)), (Bo (icmp .lss (kb : Int) (((nextL A_m).length) : Int))), (u56 28), (u56 29), (u56 30), (u56 31), (u56 32), (u56 33), (u56 34), (u56 35), (u56 36), (u56 37), (u56 38), (u56 39), (u56 40), (u56 41), (u56 42), (u56 43), (u56 44), (u56 45), (u56 46), (u56 47), (u56 48), (u56 49), (u56 50), (u56 51), (u56 52), (u56 53), (u56 54), (u56 55), (.slice (some ⟨b150, 0, none⟩) 0 0), (Pt b12 0), (.slice p5 A_m.places.length q6), (Iv (A_m.places.length : Int)), (Iv (z : Int)), (Bo (icmp .lss (z : Int) (A_m.places.length : Int))), (u162 62), (u162 63), (u162 64), (u162 65), (.slice (some ⟨gr215, 0, none⟩) ((List.replicate z (-1)).length) q177), (Iv (((List.replicate z (-1)).length) : Int)), (Iv (k : Int)), (Bo (icmp .lss (k : Int) (((List.replicate z (-1)).length) : Int))), (Iv (k : Int)), v238, v239, v240, v241, v242, v243, v244, v245, v246, v247, v248, v249, (Bo ((icmp .geq el5 0) || β1)), (Iv (k : Int)), (.slice (some ⟨b259, 0, none⟩) 1 1), (.slice (some ⟨gr215, 0, none⟩) ((List.replicate z (-1)).length) q177), (Iv (k : Int)), (Iv ((numTo A_m.places.length (cS A_m) (nS A_m) k).2)), (Pt gr215 (k * 1)), (u275 90), (u275 91), (u275 92), (u275 93), (u275 94), (u275 95), (u275 96), (u275 97), (u275 98), (u275 99), (u275 100), (u275 101), (u275 102), (u275 103), (u275 104), (u275 105), (u275 106), (u275 107), (u275 108), (u275 109), (u275 110), (u275 111), (u275 112), (u275 113), (u275 114), (u275 115), (u275 116), (u275 117), (u275 118), (u275 119), (u275 120), (u275 121), (u275 122), (u275 123), (u275 124), (u275 125), (u275 126), (u275 127), (u275 128), (u275 129), (u275 130), (u275 131), (u275 132), (u275 133), (u275 134), (u275 135), (u275 136), (u275 137), (u275 138), (u275 139), (u275 140), (u225 141), (u225 142), (u225 143), Ud, Ud] ∧ KpL [gr215, gg282] w271 w' ∧ RowG RI 1 w' gr215 s.1 ∧ OwnQ RI 1 2 gg282 w271.heap.size w' y13 s.2.1 ∧ (Fld A_m.places.length (cS A_m) (nS A_m) (numTo A_m.places.length (cS A_m) (nS A_m) k).1 (k : Int) (numTo A_m.places.length (cS A_m) (nS A_m) k).2 s.1 (s.2.1.drop s.2.2) ∧ s.2.2 ≤ s.2.1.length ∧ neg s.1 + s.2.1.length ≤ A_m.places.length)) (fun s => neg s.1 + s.2.1.length - s.2.2) ((numTo A_m.places.length (cS A_m) (nS A_m) k).1.set k (numTo A_m.places.length (cS A_m) (nS A_m) k).2, [(k : Int)], 0) ?_ ?_
          · refine ⟨fun t => (([(.agg #[(.slice p5 A_m.places.length q6), (.slice p8 A_m.tris.length q9)]), (Pt b12 0), (.slice none 0 0), (Iv 0), (Bo false), (.slice p36 ((nextL A_m).length) q37), (.slice (some ⟨b39, 0, none⟩) A_m.places.length A_m.places.length), (u56 7), (u56 8), (u56 9), (.slice (some ⟨gr215, 0, none⟩) ((List.replicate z (-1)).length) q177), (Iv ((numTo A_m.places.length (cS A_m) (nS A_m) k).2)), (Iv (k : Int)), (.slice (some ⟨b259, 0, none⟩) 1 1), (Iv 0), (u225 15), (u225 16), (Bo (meshOk A_m)), (Bo (!(meshOk A_m))), (.slice p36 ((nextL A_m).length) q37), (Pt b12 0), (.slice p5 A_m.places.length q6), (Iv (A_m.places.length : Int)), (.slice (some ⟨b39, 0, none⟩) A_m.places.length A_m.places.length), (.slice p36 ((nextL A_m).length) q37), (Iv (((nextL A_m).length) : Int)), (Iv (kb : Int)), (Bo (icmp .lss (kb : Int) (((nextL A_m).length) : Int))), (u56 28), (u56 29), (u56 30), (u56 31), (u56 32), (u56 33), (u56 34), (u56 35), (u56 36), (u56 37), (u56 38), (u56 39), (u56 40), (u56 41), (u56 42), (u56 43), (u56 44), (u56 45), (u56 46), (u56 47), (u56 48), (u56 49), (u56 50), (u56 51), (u56 52), (u56 53), (u56 54), (u56 55), (.slice (some ⟨b150, 0, none⟩) 0 0), (Pt b12 0), (.slice p5 A_m.places.length q6), (Iv (A_m.places.length : Int)), (Iv (z : Int)), (Bo (icmp .lss (z : Int) (A_m.places.length : Int))), (u162 62), (u162 63), (u162 64), (u162 65), (.slice (some ⟨gr215, 0, none⟩) ((List.replicate z (-1)).length) q177), (Iv (((List.replicate z (-1)).length) : Int)), (Iv (k : Int)), (Bo (icmp .lss (k : Int) (((List.replicate z (-1)).length) : Int))), (Iv (k : Int)), v238, v239, v240, v241, v242, v243, v244, v245, v246, v247, v248, v249, (Bo ((icmp .geq el5 0) || β1)), (Iv (k : Int)), (.slice (some ⟨b259, 0, none⟩) 1 1), (.slice (some ⟨gr215, 0, none⟩) ((List.replicate z (-1)).length) q177), (Iv (k : Int)), (Iv ((numTo A_m.places.length (cS A_m) (nS A_m) k).2)), (Pt gr215 (k * 1)), (u225 90), (u225 91), (u225 92), (u225 93), (u225 94), (u225 95), (u225 96), (u225 97), (u225 98), (u225 99), (u225 100), (u225 101), (u225 102), (u225 103), (u225 104), (u225 105), (u225 106), (u225 107), (u225 108), (u225 109), (u225 110), (u225 111), (u225 112), (u225 113), (u225 114), (u225 115), (u225 116), (u225 117), (u225 118), (u225 119), (u225 120), (u225 121), (u225 122), (u225 123), (u225 124), (u225 125), (u225 126), (u225 127), (u225 128), (u225 129), (u225 130), (u225 131), (u225 132), (u225 133), (u225 134), (u225 135), (u225 136), (u225 137), (u225 138), (u225 139), (u225 140), (u225 141), (u225 142), (u225 143), Ud, Ud] : List Value)[t]?).getD undef, (.slice (some ⟨b259, 0, none⟩) 1 1), rfl, KpL.refl _ _, (RowG.cast hR270 (by (try dsimp only); try rfl)), (OwnQ.cast hO285 (by try rfl)), ?_⟩
            have hst0 := Fld.start (nb := nS A_m) (c := cS A_m) (by omega) hkl hel5 hnw.1 hkm.1 hfr; exact ⟨hst0, Nat.zero_le _, hst0.sz⟩
          · rintro s a w289 ⟨u275, y13, rfl, E290, hRg0, hO292, ⟨hfd, hs2, hsn⟩⟩
            have X293 := Below.kl X272 E290 (allS g223 (allS g287 all0)) (Nat.le_refl _)
            have hR294 := hRg0; clear hRg0
            obtain ⟨p295, q296, rfl⟩ := OwnQ.shape hO292
            have hH297 : Hang w251.heap.size w289 (fun u => Sl RI 1 u (.slice p295 s.2.1.length q296) s.2.1) := OwnQ.hang hO292 RI.flat (by decide) hN286 (Nat.le_trans (Below.size E262) (Nat.le_of_eq (Eq.symm (Wr.size W269))))
            have hsl := hfd.len
            refine wp_seq_k fun K298 hK298 => ?_
            refine wp_seq_k fun K299 hK299 => ?_
            refine wp_region_lit ?_
            refine q_is rfl rfl (does_move (u := (Iv (s.2.2 : Int))) (ev rfl)) (by dsimp only [List.set]; try rfl) ?_
            refine q_is rfl rfl (does_move (u := (.slice p295 s.2.1.length q296)) (ev rfl)) (by dsimp only [List.set]; try rfl) ?_
            refine q_is rfl rfl (does_len_slice Try.underlying27 (ev rfl)) (by dsimp only [List.set]; try rfl) ?_
            refine q_is rfl rfl (does_icmp (p := (s.2.2 : Int)) (q := (s.2.1.length : Int)) (.inr (.inr (.inl rfl))) (ev rfl) (ev rfl)) (by dsimp only [List.set]; try rfl) ?_
            refine wpList_nil (hK299 _ _ ?_)
            refine wp_cond_split (t := icmp .lss (s.2.2 : Int) (s.2.1.length : Int)) (ev rfl) (fun c300 => ?_) (fun c300 => ?_)
            · have c300' := c300
              (try simp only [hβ1] at c300')
              (try simp only [icmp, Bool.and_eq_true, Bool.or_eq_true, Bool.and_eq_false_iff, Bool.or_eq_false_iff, Bool.not_eq_true', Bool.not_eq_false', decide_eq_true_eq, decide_eq_false_iff_not, beq_iff_eq, bne_iff_ne, beq_eq_false_iff_ne, bne_eq_false_iff_eq] at c300')
              obtain ⟨x0, hx0q⟩ : ∃ x, s.2.1[s.2.2]? = some x := ⟨_, List.getElem?_eq_getElem (by omega)⟩
              have hdr := drop_at hx0q
              have hx0 := hfd.tdc x0 (by rw [hdr]; simp)
              have hxr := hx0.rng (grS hmt) (by omega) hnw.2
              refine wp_skip (hK298 _ _ ?_)
              refine wp_seq_k fun K301 hK301 => ?_
              refine wp_block ?_
              refine wp_seq_k fun K302 hK302 => ?_
              have n306 : b12 < w289.heap.size := Blk.lt (((((((((((hB14.ext E21).ext E30).ext E42).kl K61 (fun hc => (hL62 _ hc).elim (fun h => absurd h (ninS (Nat.ne_of_lt n47) nin0)) (fun h => absurd h (Nat.not_le_of_lt n52)))).ext E154).kl E172 (ninS (Nat.ne_of_lt (Nat.lt_of_lt_of_le n156 hN168)) nin0)).kl E227 (ninS n222 nin0)).ext E252).ext E262).wr W269 n222).kl E290 (ninS n222 (ninS (by omega) nin0)))
              have n307 : gr215 < w289.heap.size := RowG.lt hR294
              obtain ⟨el7, hel7⟩ : ∃ e, s.2.1[s.2.2]? = some e := ⟨_, List.getElem?_eq_getElem (by omega)⟩
              have hLx : el7 = x0 := Option.some.inj (hel7.symm.trans hx0q)
              subst hLx
              have hxn := hxr.1
              obtain ⟨el8, hel8⟩ : ∃ e, (nextL A_m)[el7.toNat]? = some e := ⟨_, List.getElem?_eq_getElem (by omega)⟩
              have hbl : (bkL A_m).length = A_m.places.length := bkL_len A_m
              obtain ⟨el9, hel9⟩ : ∃ e, (bkL A_m)[el7.toNat]? = some e := ⟨_, List.getElem?_eq_getElem (by omega)⟩
              refine region_any2 [] [0, 0, 0, 0, 12, 28, 62, 126, 255, 0, 0, 0, 3072, 7168, 15872, 32256, 65535, 131071] [] (
                [FactW.mem [] [] [] [] true (fun v w' => ∃ bo_1 : Nat, v = (.slice (some ⟨bo_1, 0, none⟩) 0 0) ∧ w289.heap.size ≤ bo_1 ∧ bo_1 < w'.heap.size ∧ Own RI 1 2 bo_1 0 w' (.slice (some ⟨bo_1, 0, none⟩) 0 0) []) (by rintro v w1 w2 hx' ⟨z1, rfl, k0, k1, k2⟩; have hx := KpL.toExt hx'; exact ⟨_, rfl, k0, (Nat.lt_of_lt_of_le k1 hx.size), (Own.ext k2 RI.flat hx)⟩),
                  FactW.pure [] [] [] true (fun v => v = (.slice p36 ((nextL A_m).length) q37)),
                  FactW.pure [] [] [] true (fun v => v = (.slice p295 s.2.1.length q296)),
                  FactW.pure [] [] [] true (fun v => v = (Iv (s.2.2 : Int))),
                  FactW.mem [2, 3] [] [] [] true (fun v w' => PtrR RI w' v el7) (by intro v w1 w2 hx' h; have hx := KpL.toExt hx'; exact h.ext RI.mono hx),
                  FactW.pure [4] [] [] true (fun v => v = (Iv el7)),
                  FactW.mem [1, 5] [] [] [] true (fun v w' => PtrR (RS RI 1) w' v el8) (by intro v w1 w2 hx' h; have hx := KpL.toExt hx'; exact h.ext (RS.mono RI.mono) hx),
                  FactW.mem [6] [] [] [] true (fun v w' => ∃ y_1 : Value, v = y_1 ∧ Sl RI 1 w' y_1 el8) (by rintro v w1 w2 hx' ⟨z1, rfl, k0⟩; have hx := KpL.toExt hx'; exact ⟨_, rfl, (k0.ext RI.mono hx)⟩),
                  FactW.mem [0, 7] [] [] [] true (fun v w' => ∃ y_1 : Value, ∃ bo_2 : Nat, v = y_1 ∧ w289.heap.size ≤ bo_2 ∧ Own RI 1 2 bo_2 w289.heap.size w' y_1 el8) (by rintro v w1 w2 hx' ⟨z1, z2, rfl, k0, k1⟩; have hx := KpL.toExt hx'; exact ⟨_, _, rfl, k0, (Own.ext k1 RI.flat hx)⟩),
                  FactW.pure [] [] [] true (fun v => v = (.slice (some ⟨b39, 0, none⟩) A_m.places.length A_m.places.length)),
                  FactW.pure [] [] [] true (fun v => v = (.slice p295 s.2.1.length q296)),
                  FactW.pure [] [] [] true (fun v => v = (Iv (s.2.2 : Int))),
                  FactW.mem [10, 11] [] [] [] true (fun v w' => PtrR RI w' v el7) (by intro v w1 w2 hx' h; have hx := KpL.toExt hx'; exact h.ext RI.mono hx),
                  FactW.pure [12] [] [] true (fun v => v = (Iv el7)),
                  FactW.mem [9, 13] [] [] [] true (fun v w' => PtrR (RS RI 1) w' v el9) (by intro v w1 w2 hx' h; have hx := KpL.toExt hx'; exact h.ext (RS.mono RI.mono) hx),
                  FactW.mem [14] [] [] [] true (fun v w' => ∃ y_1 : Value, v = y_1 ∧ Sl RI 1 w' y_1 el9) (by rintro v w1 w2 hx' ⟨z1, rfl, k0⟩; have hx := KpL.toExt hx'; exact ⟨_, rfl, (k0.ext RI.mono hx)⟩)]) mixed (by kernel_rfl) ?_
              obtain ⟨w303, hw305⟩ : ∃ w', w' = World.drew w289 := ⟨_, rfl⟩; rw [← hw305]; have E304 : Ext w289 w303 := by rw [hw305]; exact Ext.draw _
              clear hw305
              have X308 := Ext.gr X293 E304
              refine RW2_d _ rfl (fun v => by dsimp only [List.set]; try rfl) (fun u hu hF => ?_) (fun v309 => ?_)
              · replace hu : KpL [] _ _ := hu
                clear hF
                refine doesG_un rfl ?_
                refine (does_slice0 (e := 2) (fun _ => by kernel_rfl)).mono ?_; rintro _ _ ⟨b, rfl, hb, hl, hO, hx⟩
                exact ⟨⟨b, rfl, Nat.le_trans (Nat.le_trans (Below.size E304) (KpL.size hu)) hb, hl, Own.reB (hO _ RI 1)⟩, (KpL.of_ext hx)⟩
              refine RW2_d _ rfl (fun v => by dsimp only [List.set]; try rfl) (fun u hu hF => ?_) (fun v310 => ?_)
              · replace hu : KpL [] _ _ := hu
                clear hF
                refine doesG_un rfl ?_
                refine (does_move (u := (.slice p36 ((nextL A_m).length) q37)) (ev rfl)).mono ?_; rintro _ _ ⟨rfl, rfl⟩
                exact ⟨rfl, KpL.refl _ _⟩
              refine RW2_d _ rfl (fun v => by dsimp only [List.set]; try rfl) (fun u hu hF => ?_) (fun v311 => ?_)
              · replace hu : KpL [] _ _ := hu
                clear hF
                refine doesG_un rfl ?_
                refine (does_move (u := (.slice p295 s.2.1.length q296)) (ev rfl)).mono ?_; rintro _ _ ⟨rfl, rfl⟩
                exact ⟨rfl, KpL.refl _ _⟩
              refine RW2_d _ rfl (fun v => by dsimp only [List.set]; try rfl) (fun u hu hF => ?_) (fun v312 => ?_)
              · replace hu : KpL [] _ _ := hu
                clear hF
                refine doesG_un rfl ?_
                refine (does_move (u := (Iv (s.2.2 : Int))) (ev rfl)).mono ?_; rintro _ _ ⟨rfl, rfl⟩
                exact ⟨rfl, KpL.refl _ _⟩
              refine RW2_d _ rfl (fun v => by dsimp only [List.set]; try rfl) (fun u hu hF => ?_) (fun v313 => ?_)
              · replace hu : KpL [] _ _ := hu
                have h98_ : v311 = (.slice p295 s.2.1.length q296) := hF.1
                have h99_ : v312 = (Iv (s.2.2 : Int)) := hF.2.1
                clear hF
                refine doesG_un rfl ?_
                obtain rfl := h98_
                obtain rfl := h99_
                refine (does_indexSl (R := RI) (i := (s.2.2 : Int)) (xs := s.2.1) (e := el7) Try.underlying27 Try.sizeOf2 (ev rfl) (ev rfl) (hH297 _ (((Same.refl _ _).ext E304).ext (KpL.toExt hu))) (by omega) hel7).mono ?_; rintro v u' ⟨b, of, cs, hv, hc, hR, hu'⟩; subst hu'
                exact ⟨⟨b, of, cs, hv, hc, hR⟩, KpL.refl _ _⟩
              refine RW2_d _ rfl (fun v => by dsimp only [List.set]; try rfl) (fun u hu hF => ?_) (fun v314 => ?_)
              · replace hu : KpL [] _ _ := hu
                have h100_ : PtrR RI u v313 el7 := hF.1
                clear hF
                refine doesG_un rfl ?_
                obtain ⟨b100_, o100_, _, rfl, hc100_, rfl⟩ := h100_
                refine (does_load (u := (Iv el7)) (ev rfl) Try.isAgg2 (Cells.at hc100_ 0 rfl)).mono ?_; rintro _ _ ⟨rfl, rfl⟩
                exact ⟨rfl, KpL.refl _ _⟩
              refine RW2_d _ rfl (fun v => by dsimp only [List.set]; try rfl) (fun u hu hF => ?_) (fun v315 => ?_)
              · replace hu : KpL [] _ _ := hu
                have h97_ : v310 = (.slice p36 ((nextL A_m).length) q37) := hF.1
                have h101_ : v314 = (Iv el7) := hF.2.1
                clear hF
                refine doesG_un rfl ?_
                obtain rfl := h97_
                obtain rfl := h101_
                refine (does_indexSl (R := (RS RI 1)) (i := el7) (xs := (nextL A_m)) (e := el8) Try.underlying23 Try.sizeOf27 (ev rfl) (ev rfl) (hh32 _ ((((((((((((Same.refl _ _).ext E42).kl K61 (fun c hc => (hL62 c hc).elim ((allS (p := fun c => c < w22.heap.size ∨ w31.heap.size ≤ c) (.inr (Nat.le_trans (Nat.le_refl _) hb40)) all0) c) (fun h => .inr (Nat.le_trans (Below.size E42) h)))).ext E154).kl E172 (allS (.inr (Nat.le_trans (Nat.le_trans (Below.size E42) (KpL.size K61)) hN168)) all0)).kl E227 (allS (.inr (Nat.le_trans (Nat.le_trans (Below.size E42) (KpL.size K61)) hB220)) all0)).ext E252).ext E262).wr W269 (.inr (Nat.le_trans (Nat.le_trans (Below.size E42) (KpL.size K61)) hB220))).kl E290 (allS (.inr (Nat.le_trans (Nat.le_trans (Below.size E42) (KpL.size K61)) hB220)) (allS (.inr (Nat.le_trans (Nat.le_trans (Nat.le_trans (Nat.le_trans (Nat.le_trans (Nat.le_trans (Below.size E42) (KpL.size K61)) (Below.size E154)) (KpL.size E172)) (KpL.size E227)) (Below.size E252)) hN286)) all0))).ext E304).ext (KpL.toExt hu))) (by omega) hel8).mono ?_; rintro v u' ⟨b, of, cs, hv, hc, hR, hu'⟩; subst hu'
                exact ⟨⟨b, of, cs, hv, hc, hR⟩, KpL.refl _ _⟩
              refine RW2_d _ rfl (fun v => by dsimp only [List.set]; try rfl) (fun u hu hF => ?_) (fun v316 => ?_)
              · replace hu : KpL [] _ _ := hu
                have h102_ : PtrR (RS RI 1) u v315 el8 := hF.1
                clear hF
                refine doesG_un rfl ?_
                obtain ⟨b102_, o102_, _, rfl, hc102_, ⟨y102_1, rfl, h102_2⟩⟩ := h102_
                have hh102_2 := h102_2; obtain ⟨p102_3, q102_4, rfl⟩ := Sl.shape h102_2
                refine (does_load (u := (.slice p102_3 el8.length q102_4)) (ev rfl) Try.isAgg27 (Cells.at hc102_ 0 rfl)).mono ?_; rintro _ _ ⟨rfl, rfl⟩
                exact ⟨⟨(.slice p102_3 el8.length q102_4), rfl, (by assumption)⟩, KpL.refl _ _⟩
              refine RW2_d _ rfl (fun v => by dsimp only [List.set]; try rfl) (fun u hu hF => ?_) (fun v317 => ?_)
              · replace hu : KpL [] _ _ := hu
                have h96_ : ∃ bo_1 : Nat, v309 = (.slice (some ⟨bo_1, 0, none⟩) 0 0) ∧ w289.heap.size ≤ bo_1 ∧ bo_1 < u.heap.size ∧ Own RI 1 2 bo_1 0 u (.slice (some ⟨bo_1, 0, none⟩) 0 0) [] := hF.1
                have h103_ : ∃ y_1 : Value, v316 = y_1 ∧ Sl RI 1 u y_1 el8 := hF.2.1
                clear hF
                refine doesG_un rfl ?_
                obtain ⟨bo96_1, rfl, h96_2, h96_3, h96_4⟩ := h96_
                obtain ⟨y103_1, rfl, h103_2⟩ := h103_
                have hh103_2 := h103_2; obtain ⟨p103_3, q103_4, rfl⟩ := Sl.shape h103_2
                refine (does_appendE (R := RI) (k := 1) (bo := bo96_1) (N := w289.heap.size) (ys := el8) Try.underlying27 inf2 rfl (by decide) oneRI (ev rfl) (ev rfl) h96_4 h96_2 (Nat.le_trans (Below.size E304) (KpL.size hu)) RI.flat hh103_2 (by (first | (have hbn := bkQ_most hmt hel1 (by omega) hxl4; first | omega | (simp only [List.length_cons, List.length_nil]; omega)) | (have h1 := tot_at (xss := nextL A_m) hel8; have h2 := nextL_tot hmt; have h3 := bkL_most hmt el7; rw [atL_some' hel9] at h3; omega) | (have h1 := tot_at (xss := nextL A_m) hel8; have h2 := nextL_tot hmt; omega) | (simp only [List.length_replicate, List.length_append, List.length_cons, List.length_nil]; omega)))).mono ?_; rintro v u' ⟨hx, ⟨yn1, bon2, hv, k0, k1⟩⟩
                exact ⟨⟨yn1, bon2, hv, (by simp only [k0]), k1⟩, (KpL.of_ext hx)⟩
              refine RW2_d _ rfl (fun v => by dsimp only [List.set]; try rfl) (fun u hu hF => ?_) (fun v318 => ?_)
              · replace hu : KpL [] _ _ := hu
                clear hF
                refine doesG_un rfl ?_
                refine (does_move (u := (.slice (some ⟨b39, 0, none⟩) A_m.places.length A_m.places.length)) (ev rfl)).mono ?_; rintro _ _ ⟨rfl, rfl⟩
                exact ⟨rfl, KpL.refl _ _⟩
              refine RW2_d _ rfl (fun v => by dsimp only [List.set]; try rfl) (fun u hu hF => ?_) (fun v319 => ?_)
              · replace hu : KpL [] _ _ := hu
                clear hF
                refine doesG_un rfl ?_
                refine (does_move (u := (.slice p295 s.2.1.length q296)) (ev rfl)).mono ?_; rintro _ _ ⟨rfl, rfl⟩
                exact ⟨rfl, KpL.refl _ _⟩
              refine RW2_d _ rfl (fun v => by dsimp only [List.set]; try rfl) (fun u hu hF => ?_) (fun v320 => ?_)
              · replace hu : KpL [] _ _ := hu
                clear hF
                refine doesG_un rfl ?_
                refine (does_move (u := (Iv (s.2.2 : Int))) (ev rfl)).mono ?_; rintro _ _ ⟨rfl, rfl⟩
                exact ⟨rfl, KpL.refl _ _⟩
              refine RW2_d _ rfl (fun v => by dsimp only [List.set]; try rfl) (fun u hu hF => ?_) (fun v321 => ?_)
              · replace hu : KpL [] _ _ := hu
                have h106_ : v319 = (.slice p295 s.2.1.length q296) := hF.1
                have h107_ : v320 = (Iv (s.2.2 : Int)) := hF.2.1
                clear hF
                refine doesG_un rfl ?_
                obtain rfl := h106_
                obtain rfl := h107_
                refine (does_indexSl (R := RI) (i := (s.2.2 : Int)) (xs := s.2.1) (e := el7) Try.underlying27 Try.sizeOf2 (ev rfl) (ev rfl) (hH297 _ (((Same.refl _ _).ext E304).ext (KpL.toExt hu))) (by omega) hel7).mono ?_; rintro v u' ⟨b, of, cs, hv, hc, hR, hu'⟩; subst hu'
                exact ⟨⟨b, of, cs, hv, hc, hR⟩, KpL.refl _ _⟩
              refine RW2_d _ rfl (fun v => by dsimp only [List.set]; try rfl) (fun u hu hF => ?_) (fun v322 => ?_)
              · replace hu : KpL [] _ _ := hu
                have h108_ : PtrR RI u v321 el7 := hF.1
                clear hF
                refine doesG_un rfl ?_
                obtain ⟨b108_, o108_, _, rfl, hc108_, rfl⟩ := h108_
                refine (does_load (u := (Iv el7)) (ev rfl) Try.isAgg2 (Cells.at hc108_ 0 rfl)).mono ?_; rintro _ _ ⟨rfl, rfl⟩
                exact ⟨rfl, KpL.refl _ _⟩
              refine RW2_d _ rfl (fun v => by dsimp only [List.set]; try rfl) (fun u hu hF => ?_) (fun v323 => ?_)
              · replace hu : KpL [] _ _ := hu
                have h105_ : v318 = (.slice (some ⟨b39, 0, none⟩) A_m.places.length A_m.places.length) := hF.1
                have h109_ : v322 = (Iv el7) := hF.2.1
                clear hF
                refine doesG_un rfl ?_
                obtain rfl := h105_
                obtain rfl := h109_
                refine (does_indexSl (R := (RS RI 1)) (i := el7) (xs := (bkL A_m)) (e := el9) Try.underlying23 Try.sizeOf27 (ev rfl) (ev rfl) (hz147 _ ((((((((((Same.refl _ _).ext E154).kl E172 (allS (.inr (Nat.le_trans (Nat.le_refl _) hN168)) all0)).kl E227 (allS (.inr (Nat.le_trans (Nat.le_refl _) hB220)) all0)).ext E252).ext E262).wr W269 (.inr (Nat.le_trans (Nat.le_refl _) hB220))).kl E290 (allS (.inr (Nat.le_trans (Nat.le_refl _) hB220)) (allS (.inr (Nat.le_trans (Nat.le_trans (Nat.le_trans (Nat.le_trans (Below.size E154) (KpL.size E172)) (KpL.size E227)) (Below.size E252)) hN286)) all0))).ext E304).ext (KpL.toExt hu))) (by omega) hel9).mono ?_; rintro v u' ⟨b, of, cs, hv, hc, hR, hu'⟩; subst hu'
                exact ⟨⟨b, of, cs, hv, hc, hR⟩, KpL.refl _ _⟩
              refine RW2_d _ rfl (fun v => by dsimp only [List.set]; try rfl) (fun u hu hF => ?_) (fun v324 => ?_)
              · replace hu : KpL [] _ _ := hu
                have h110_ : PtrR (RS RI 1) u v323 el9 := hF.1
                clear hF
                refine doesG_un rfl ?_
                obtain ⟨b110_, o110_, _, rfl, hc110_, ⟨y110_1, rfl, h110_2⟩⟩ := h110_
                have hh110_2 := h110_2; obtain ⟨p110_3, q110_4, rfl⟩ := Sl.shape h110_2
                refine (does_load (u := (.slice p110_3 el9.length q110_4)) (ev rfl) Try.isAgg27 (Cells.at hc110_ 0 rfl)).mono ?_; rintro _ _ ⟨rfl, rfl⟩
                exact ⟨⟨(.slice p110_3 el9.length q110_4), rfl, (by assumption)⟩, KpL.refl _ _⟩
              refine RW2_fin ?_; intro w325 E326 hP327; replace E326 : KpL [] _ _ := E326
              obtain ⟨⟨⟨⟨⟨⟨⟨⟨⟨⟨⟨⟨⟨⟨⟨⟨-, -⟩, -⟩, -⟩, -⟩, -⟩, -⟩, -⟩, -⟩, q328⟩, -⟩, -⟩, -⟩, -⟩, -⟩, -⟩, q329⟩ := hP327
              have X330 := Below.kl X308 E326 all0 (Nat.le_refl _)
              have q328 : ∃ y_1 : Value, ∃ bo_2 : Nat, v317 = y_1 ∧ w289.heap.size ≤ bo_2 ∧ Own RI 1 2 bo_2 w289.heap.size w325 y_1 el8 := q328 rfl
              obtain ⟨y331, bo332, rfl, hb333, hO334⟩ := q328
              have g335 : w.heap.size ≤ bo332 := Nat.le_trans (Nat.le_trans (Nat.le_trans (Nat.le_trans (Nat.le_trans (Nat.le_trans (Nat.le_trans (Nat.le_trans (Nat.le_trans (Nat.le_trans (Nat.le_trans (Nat.le_trans (Below.size E15) (Below.size E21)) (Below.size E30)) (Below.size E42)) (KpL.size K61)) (Below.size E154)) (KpL.size E172)) (KpL.size E227)) (Below.size E252)) (Below.size E262)) (Nat.le_of_eq (Eq.symm (Wr.size W269)))) (KpL.size E290)) hb333
              obtain ⟨p336, q337, rfl⟩ := Own.shape hO334
              have hH338 : Hang w289.heap.size w325 (fun u => Sl RI 1 u (.slice p336 el8.length q337) el8) := Own.hang hO334 RI.flat (by decide) hb333 (Nat.le_refl _)
              have q329 : ∃ y_1 : Value, v324 = y_1 ∧ Sl RI 1 w325 y_1 el9 := q329 rfl
              obtain ⟨y339, rfl, h340⟩ := q329
              have hs343 := h340; have hs343l := Sl.len h340; obtain ⟨p341, q342, rfl⟩ := Sl.shape h340
              show wpList _ _ _ _ (fr [_, _, _, _, _, _, _, _, _, _, _, _, _, _, _, _, _, _, _, _, _, _, _, _, _, _, _, _, _, _, _, _, _, _, _, _, _, _, _, _, _, _, _, _, _, _, _, _, _, _, _, _, _, _, _, _, _, _, _, _, _, _, _, _, _, _, _, _, _, _, _, _, _, _, _, _, _, _, _, _, _, _, _, _, _, _, _, _, _, _, _, _, _, _, _, _, _, _, _, _, _, _, _, _, _, _, _, _, _, _, _, _, _, _, _, _, _, _, _, _, _, _, _, _, _, _, _, _, _, _, _, _, _, _, _, _, _, _, _, _, _, _, _, _, _, _]) _
              refine seqd rfl rfl (does_appendS' (R := RI) (k := 1) (g0 := bo332) (B := w289.heap.size) (xs := el8) (ys := el9) Try.underlying27 inf2 rfl (by decide) oneRI (ev rfl) (ev rfl) hO334 RI.flat hs343 (by first | (simp only [List.length_nil]; omega) | omega | (first | (have hbn := bkQ_most hmt hel1 (by omega) hxl4; first | omega | (simp only [List.length_cons, List.length_nil]; omega)) | (have h1 := tot_at (xss := nextL A_m) hel8; have h2 := nextL_tot hmt; have h3 := bkL_most hmt el7; rw [atL_some' hel9] at h3; omega) | (have h1 := tot_at (xss := nextL A_m) hel8; have h2 := nextL_tot hmt; omega) | (simp only [List.length_replicate, List.length_append, List.length_cons, List.length_nil]; omega))) (Nat.le_trans (Below.size E304) (KpL.size E326))) ?_; rintro y' w344 ⟨gg345, hg346, K347, hO348⟩
              have hN349 : w289.heap.size ≤ gg345 := by rcases hg346 with h | h; exact h ▸ hb333; exact Nat.le_trans (Nat.le_refl _) h
              have g350 : w.heap.size ≤ gg345 := Nat.le_trans (Nat.le_trans (Nat.le_trans (Nat.le_trans (Nat.le_trans (Nat.le_trans (Nat.le_trans (Nat.le_trans (Nat.le_trans (Nat.le_trans (Nat.le_trans (Nat.le_trans (Below.size E15) (Below.size E21)) (Below.size E30)) (Below.size E42)) (KpL.size K61)) (Below.size E154)) (KpL.size E172)) (KpL.size E227)) (Below.size E252)) (Below.size E262)) (Nat.le_of_eq (Eq.symm (Wr.size W269)))) (KpL.size E290)) hN349
              have X351 := Below.kl X330 K347 (allS g350 all0) (Nat.le_refl _)
              obtain ⟨p352, q353, rfl⟩ := Own.shape hO348
              have hH354 : Hang w289.heap.size w344 (fun u => Sl RI 1 u (.slice p352 ((el8 ++ el9).length) q353) (el8 ++ el9)) := Own.hang hO348 RI.flat (by decide) hb333 (Nat.le_refl _)
              show wpList _ _ _ _ (fr [_, _, _, _, _, _, _, _, _, _, _, _, _, _, _, _, _, _, _, _, _, _, _, _, _, _, _, _, _, _, _, _, _, _, _, _, _, _, _, _, _, _, _, _, _, _, _, _, _, _, _, _, _, _, _, _, _, _, _, _, _, _, _, _, _, _, _, _, _, _, _, _, _, _, _, _, _, _, _, _, _, _, _, _, _, _, _, _, _, _, _, _, _, _, _, _, _, _, _, _, _, _, _, _, _, _, _, _, _, _, _, _, _, _, _, _, _, _, _, _, _, _, _, _, _, _, _, _, _, _, _, _, _, _, _, _, _, _, _, _, _, _, _, _, _, _]) _
              refine q_is rfl rfl (does_assign (u := (.slice p352 ((el8 ++ el9).length) q353)) (ev rfl)) (by dsimp only [List.set]; try rfl) ?_
              refine wpList_nil (hK302 _ _ ?_)
              refine wp_seq_k fun K355 hK355 => ?_
              refine wp_region_lit ?_
              have hnear : el8 ++ el9 = nS A_m el7 := by unfold nS; rw [atL_some' hel8, atL_some' hel9]
              have hnel : (el8 ++ el9).length = (nS A_m el7).length := by rw [hnear]
              have hnsl := nS_len hmt el7
              refine q_is rfl rfl (does_move (u := (.slice p352 ((el8 ++ el9).length) q353)) (ev rfl)) (by dsimp only [List.set]; try rfl) ?_
              refine q_is rfl rfl (does_len_slice Try.underlying27 (ev rfl)) (by dsimp only [List.set]; try rfl) ?_
              refine q_is rfl rfl (does_move (u := (Iv 0)) (ev rfl)) (by dsimp only [List.set]; try rfl) ?_
              refine wpList_nil (hK355 _ _ ?_)
              refine wp_block ?_
              have n361 : b12 < w344.heap.size := Blk.lt ((((((((((((((hB14.ext E21).ext E30).ext E42).kl K61 (fun hc => (hL62 _ hc).elim (fun h => absurd h (ninS (Nat.ne_of_lt n47) nin0)) (fun h => absurd h (Nat.not_le_of_lt n52)))).ext E154).kl E172 (ninS (Nat.ne_of_lt (Nat.lt_of_lt_of_le n156 hN168)) nin0)).kl E227 (ninS n222 nin0)).ext E252).ext E262).wr W269 n222).kl E290 (ninS n222 (ninS (by omega) nin0))).ext E304).kl E326 nin0).kl K347 (ninS (Nat.ne_of_lt (Nat.lt_of_lt_of_le n306 hN349)) nin0))
              have n362 : gr215 < w344.heap.size := RowG.lt (RowG.kl (RowG.kl (RowG.ext hR294 RI.flat E304) RI.flat E326 nin0) RI.flat K347 (ninS (Nat.ne_of_lt (Nat.lt_of_lt_of_le n307 hN349)) nin0))
              obtain ⟨gg357, hg358, hg359, hO360⟩ := OwnQ.start' hO292 (OwnQ.same hO292 RI.flat ((((Same.refl _ _).ext E304).kl E326 all0).kl K347 (allS (.inr (Nat.le_trans (Nat.le_refl _) hN349)) all0)) hN286 (Nat.le_trans (Below.size E262) (Nat.le_of_eq (Eq.symm (Wr.size W269)))))
              have hN363 : w251.heap.size ≤ gg357 := by rcases hg358 with h | h; exact h ▸ hN286; exact Nat.le_trans (Nat.le_trans (Below.size E262) (Nat.le_of_eq (Eq.symm (Wr.size W269)))) h
              have g364 : w.heap.size ≤ gg357 := Nat.le_trans (Nat.le_trans (Nat.le_trans (Nat.le_trans (Nat.le_trans (Nat.le_trans (Nat.le_trans (Nat.le_trans (Nat.le_trans (Below.size E15) (Below.size E21)) (Below.size E30)) (Below.size E42)) (KpL.size K61)) (Below.size E154)) (KpL.size E172)) (KpL.size E227)) (Below.size E252)) hN363
              have hg365 : gg357 < w289.heap.size := by rcases hg359 with h | h; exact h ▸ Nat.lt_of_lt_of_le hg288 (KpL.size E290); exact h
              have n366 : gg357 < w289.heap.size := Nat.lt_of_lt_of_le hg365 (Nat.le_refl _)
              refine loop_ghost (σ := List Int × List Int × Nat) (fun q a w' => ∃ u356 : Nat → Value, ∃ y13 : Value, a = fr [(.agg #[(.slice p5 A_m.places.length q6), (.slice p8 A_m.tris.length q9)]), (Pt b12 0), (.slice none 0 0), (Iv 0), (Bo false), (.slice p36 ((nextL A_m).length) q37), (.slice (some ⟨b39, 0, none⟩) A_m.places.length A_m.places.length), (u56 7), (u56 8), (u56 9), (.slice (some ⟨gr215, 0, none⟩) ((List.replicate z (-1)).length) q177), (Iv ((numTo A_m.places.length (cS A_m) (nS A_m) k).2)), (Iv (k : Int)), y13, (Iv (s.2.2 : Int)), (.slice p352 ((el8 ++ el9).length) q353), (u356 16), (Bo (meshOk A_m)), (Bo (!(meshOk A_m))), (.slice p36 ((nextL A_m).length) q37), (Pt b12 0), (.slice p5 A_m.places.length q6), (Iv (A_m.places.length : Int)), (.slice (some ⟨b39, 0, none⟩) A_m.places.length A_m.places.length), (.slice p36 ((nextL A_m).length) q37), (Iv (((nextL A_m).length) : Int)), (Iv (kb : Int)), (Bo (icmp .lss (kb : Int) (((nextL A_m).length) : Int))), (u56 28), (u56 29), (u56 30), (u56 31), (u56 32), (u56 33), (u56 34), (u56 35), (u56 36), (u56 37), (u56 38), (u56 39), (u56 40), (u56 41), (u56 42), (u56 43), (u56 44), (u56 45), (u56 46), (u56 47), (u56 48), (u56 49), (u56 50), (u56 51), (u56 52), (u56 53), (u56 54), (u56 55), (.slice (some ⟨b150, 0, none⟩) 0 0), (Pt b12 0), (.slice p5 A_m.places.length q6), (Iv (A_m.places.length : Int)), (Iv (z : Int)), (Bo (icmp .lss (z : Int) (A_m.places.length : Int))), (u162 62), (u162 63), (u162 64), (u162 65), (.slice (some ⟨gr215, 0, none⟩) ((List.replicate z (-1)).length) q177), (Iv (((List.replicate z (-1)).length) : Int)), (Iv (k : Int)), (Bo (icmp .lss (k : Int) (((List.replicate z (-1)).length) : Int))), (Iv (k : Int)), v238, v239, v240, v241, v242, v243, v244, v245, v246, v247, v248, v249, (Bo ((icmp .geq el5 0) || β1)), (Iv (k : Int)), (.slice (some ⟨b259, 0, none⟩) 1 1), (.slice (some ⟨gr215, 0, none⟩) ((List.replicate z (-1)).length) q177), (Iv (k : Int)), (Iv ((numTo A_m.places.length (cS A_m) (nS A_m) k).2)), (Pt gr215 (k * 1)), (Iv (s.2.2 : Int)), (.slice p295 s.2.1.length q296), (Iv (s.2.1.length : Int)), (Bo (icmp .lss (s.2.2 : Int) (s.2.1.length : Int))), (u275 94), (u275 95), v309, v310, v311, v312, v313, v314, v315, v316, (.slice p336 el8.length q337), v318, v319, v320, v321, v322, v323, (.slice p341 el9.length q342), (.slice p352 ((el8 ++ el9).length) q353), (.slice p352 ((el8 ++ el9).length) q353), (Iv (((el8 ++ el9).length) : Int)), (Iv (q.2.2 : Int)), (u356 116), (u356 117), (u356 118), (u356 119), (u356 120), (u356 121), (u356 122), (u356 123), (u356 124), (u356 125), (u356 126), (u356 127), (u356 128), (u356 129), (u356 130), (u356 131), (u356 132), (u356 133), (u356 134), (u356 135), (u356 136), (u356 137), (u356 138), (u356 139), (u356 140), (u225 141), (u225 142), (u225 143), Ud, Ud] ∧ KpL [gr215, gg357] w344 w' ∧ RowG RI 1 w' gr215 q.1 ∧ OwnQ RI 1 2 gg357 w344.heap.size w' y13 q.2.1 ∧ (Fld A_m.places.length (cS A_m) (nS A_m) (numTo A_m.places.length (cS A_m) (nS A_m) k).1 (k : Int) (numTo A_m.places.length (cS A_m) (nS A_m) k).2 q.1 (el7 :: q.2.1.drop (s.2.2 + 1)) ∧ Pre (cS A_m) (nS A_m el7) q.1 q.2.2 ∧ neg q.1 + q.2.1.length = neg s.1 + s.2.1.length ∧ q.2.2 ≤ (nS A_m el7).length ∧ s.2.2 + 1 ≤ q.2.1.length)) (fun q => (nS A_m el7).length - q.2.2) (s.1, s.2.1, 0) ?_ ?_
              · refine ⟨fun t => (([(.agg #[(.slice p5 A_m.places.length q6), (.slice p8 A_m.tris.length q9)]), (Pt b12 0), (.slice none 0 0), (Iv 0), (Bo false), (.slice p36 ((nextL A_m).length) q37), (.slice (some ⟨b39, 0, none⟩) A_m.places.length A_m.places.length), (u56 7), (u56 8), (u56 9), (.slice (some ⟨gr215, 0, none⟩) ((List.replicate z (-1)).length) q177), (Iv ((numTo A_m.places.length (cS A_m) (nS A_m) k).2)), (Iv (k : Int)), (.slice p295 s.2.1.length q296), (Iv (s.2.2 : Int)), (.slice p352 ((el8 ++ el9).length) q353), (u275 16), (Bo (meshOk A_m)), (Bo (!(meshOk A_m))), (.slice p36 ((nextL A_m).length) q37), (Pt b12 0), (.slice p5 A_m.places.length q6), (Iv (A_m.places.length : Int)), (.slice (some ⟨b39, 0, none⟩) A_m.places.length A_m.places.length), (.slice p36 ((nextL A_m).length) q37), (Iv (((nextL A_m).length) : Int)), (Iv (kb : Int)), (Bo (icmp .lss (kb : Int) (((nextL A_m).length) : Int))), (u56 28), (u56 29), (u56 30), (u56 31), (u56 32), (u56 33), (u56 34), (u56 35), (u56 36), (u56 37), (u56 38), (u56 39), (u56 40), (u56 41), (u56 42), (u56 43), (u56 44), (u56 45), (u56 46), (u56 47), (u56 48), (u56 49), (u56 50), (u56 51), (u56 52), (u56 53), (u56 54), (u56 55), (.slice (some ⟨b150, 0, none⟩) 0 0), (Pt b12 0), (.slice p5 A_m.places.length q6), (Iv (A_m.places.length : Int)), (Iv (z : Int)), (Bo (icmp .lss (z : Int) (A_m.places.length : Int))), (u162 62), (u162 63), (u162 64), (u162 65), (.slice (some ⟨gr215, 0, none⟩) ((List.replicate z (-1)).length) q177), (Iv (((List.replicate z (-1)).length) : Int)), (Iv (k : Int)), (Bo (icmp .lss (k : Int) (((List.replicate z (-1)).length) : Int))), (Iv (k : Int)), v238, v239, v240, v241, v242, v243, v244, v245, v246, v247, v248, v249, (Bo ((icmp .geq el5 0) || β1)), (Iv (k : Int)), (.slice (some ⟨b259, 0, none⟩) 1 1), (.slice (some ⟨gr215, 0, none⟩) ((List.replicate z (-1)).length) q177), (Iv (k : Int)), (Iv ((numTo A_m.places.length (cS A_m) (nS A_m) k).2)), (Pt gr215 (k * 1)), (Iv (s.2.2 : Int)), (.slice p295 s.2.1.length q296), (Iv (s.2.1.length : Int)), (Bo (icmp .lss (s.2.2 : Int) (s.2.1.length : Int))), (u275 94), (u275 95), v309, v310, v311, v312, v313, v314, v315, v316, (.slice p336 el8.length q337), v318, v319, v320, v321, v322, v323, (.slice p341 el9.length q342), (.slice p352 ((el8 ++ el9).length) q353), (.slice p352 ((el8 ++ el9).length) q353), (Iv (((el8 ++ el9).length) : Int)), (Iv 0), (u275 116), (u275 117), (u275 118), (u275 119), (u275 120), (u275 121), (u275 122), (u275 123), (u275 124), (u275 125), (u275 126), (u275 127), (u275 128), (u275 129), (u275 130), (u275 131), (u275 132), (u275 133), (u275 134), (u275 135), (u275 136), (u275 137), (u275 138), (u275 139), (u275 140), (u225 141), (u225 142), (u225 143), Ud, Ud] : List Value)[t]?).getD undef, (.slice p295 s.2.1.length q296), rfl, KpL.refl _ _, (RowG.cast (RowG.kl (RowG.kl (RowG.ext hR294 RI.flat E304) RI.flat E326 nin0) RI.flat K347 (ninS (Nat.ne_of_lt (Nat.lt_of_lt_of_le n307 hN349)) nin0)) (by (try dsimp only); try rfl)), (OwnQ.cast hO360 (by try rfl)), ?_⟩
                exact ⟨hdr ▸ hfd, Pre.start, rfl, Nat.zero_le _, by (try dsimp only); omega⟩
              · rintro q a w367 ⟨u356, y13, rfl, E368, hRg0, hO370, ⟨hfd1, hpre, hng, hq2, hq3⟩⟩
                have X371 := Below.kl X351 E368 (allS g223 (allS g364 all0)) (Nat.le_refl _)
                have hR372 := hRg0; clear hRg0
                obtain ⟨p373, q374, rfl⟩ := OwnQ.shape hO370
                have hH375 : Hang w251.heap.size w367 (fun u => Sl RI 1 u (.slice p373 q.2.1.length q374) q.2.1) := OwnQ.hang hO370 RI.flat (by decide) hN363 (Nat.le_trans (Nat.le_trans (Nat.le_trans (Nat.le_trans (Nat.le_trans (Below.size E262) (Nat.le_of_eq (Eq.symm (Wr.size W269)))) (KpL.size E290)) (Below.size E304)) (KpL.size E326)) (KpL.size K347))
                have hql := hfd1.len
                refine wp_seq_k fun K376 hK376 => ?_
                refine wp_region_lit ?_
                refine q_is rfl rfl (does_icmp (p := (q.2.2 : Int)) (q := (((el8 ++ el9).length) : Int)) (.inr (.inr (.inl rfl))) (ev rfl) (ev rfl)) (by dsimp only [List.set]; try rfl) ?_
                refine wpList_nil (hK376 _ _ ?_)
                refine wp_seq_k fun K377 hK377 => ?_
                refine wp_cond_split (t := icmp .lss (q.2.2 : Int) (((el8 ++ el9).length) : Int)) (ev rfl) (fun c378 => ?_) (fun c378 => ?_)
                · have c378' := c378
                  (try simp only [hβ1] at c378')
                  (try simp only [icmp, Bool.and_eq_true, Bool.or_eq_true, Bool.and_eq_false_iff, Bool.or_eq_false_iff, Bool.not_eq_true', Bool.not_eq_false', decide_eq_true_eq, decide_eq_false_iff_not, beq_iff_eq, bne_iff_ne, beq_eq_false_iff_ne, bne_eq_false_iff_eq] at c378')
                  refine wp_skip (hK377 _ _ ?_)
                  refine wp_seq_k fun K379 hK379 => ?_
                  refine wp_block ?_
                  refine wp_seq_k fun K380 hK380 => ?_
                  refine wp_region_lit ?_
                  refine q_is rfl rfl (does_move (u := (Iv (q.2.2 : Int))) (ev rfl)) (by dsimp only [List.set]; try rfl) ?_
                  refine q_is rfl rfl (does_assign (u := (Iv (q.2.2 : Int))) (ev rfl)) (by dsimp only [List.set]; try rfl) ?_
                  refine wpList_nil (hK380 _ _ ?_)
                  refine wp_seq_k fun K381 hK381 => ?_
                  refine wp_region_lit ?_
                  refine q_is rfl rfl (does_move (u := (.slice (some ⟨gr215, 0, none⟩) ((List.replicate z (-1)).length) q177)) (ev rfl)) (by dsimp only [List.set]; try rfl) ?_
                  refine q_is rfl rfl (does_move (u := (.slice p352 ((el8 ++ el9).length) q353)) (ev rfl)) (by dsimp only [List.set]; try rfl) ?_
                  refine q_is rfl rfl (does_move (u := (Iv (q.2.2 : Int))) (ev rfl)) (by dsimp only [List.set]; try rfl) ?_
                  obtain ⟨el10, hel10⟩ : ∃ e, (el8 ++ el9)[q.2.2]? = some e := ⟨_, List.getElem?_eq_getElem (by omega)⟩
                  refine seqd rfl rfl (does_indexSl (R := RI) (i := (q.2.2 : Int)) (xs := el8 ++ el9) (e := el10) Try.underlying27 Try.sizeOf2 (ev rfl) (ev rfl) (hH354 _ ((Same.refl _ _).kl E368 (allS (.inl n307) (allS (.inl n366) all0)))) (by omega) hel10) ?_; rintro _ w367 ⟨b382, o383, _, rfl, hc385, rfl, rfl⟩
                  show wpList _ _ _ _ (fr [_, _, _, _, _, _, _, _, _, _, _, _, _, _, _, _, _, _, _, _, _, _, _, _, _, _, _, _, _, _, _, _, _, _, _, _, _, _, _, _, _, _, _, _, _, _, _, _, _, _, _, _, _, _, _, _, _, _, _, _, _, _, _, _, _, _, _, _, _, _, _, _, _, _, _, _, _, _, _, _, _, _, _, _, _, _, _, _, _, _, _, _, _, _, _, _, _, _, _, _, _, _, _, _, _, _, _, _, _, _, _, _, _, _, _, _, _, _, _, _, _, _, _, _, _, _, _, _, _, _, _, _, _, _, _, _, _, _, _, _, _, _, _, _, _, _]) _
                  refine q_is rfl rfl (does_load (u := (Iv el10)) (ev rfl) Try.isAgg2 (Cells.at hc385 0 rfl)) (by dsimp only [List.set]; try rfl) ?_
                  have hJm : el10 ∈ nS A_m el7 := by rw [← hnear]; exact List.mem_of_getElem? hel10
                  have hJr := nS_rng hmt hxr.1.1 hJm
                  refine q_is rfl rfl (does_indexOwn (b := gr215) (n := (List.replicate z (-1)).length) (i := el10) Try.underlying27 Try.sizeOf2 (ev rfl) (ev rfl) (by omega) (by omega)) (by dsimp only [List.set]; try rfl) ?_
                  obtain ⟨el11, hel11⟩ : ∃ e, q.1[el10.toNat]? = some e := ⟨_, List.getElem?_eq_getElem (by first | assumption | omega | (simp only [bkQ_len, bkTo_len, numTo_len, List.length_replicate, List.length_set, List.length_set, List.length_replicate]; omega) | (simp only [bkQ_len, bkTo_len, numTo_len, List.length_replicate, List.length_set, List.length_set, List.length_replicate]; done))⟩
                  refine q_is rfl rfl (does_loadRowI (xs := q.1) (i := el10.toNat) (e := el11) (ev rfl) Try.isAgg2 hR372 rfl hel11) (by dsimp only [List.set]; try rfl) ?_
                  refine q_is rfl rfl (does_icmp (p := el11) (q := 0) (.inr (.inr (.inl rfl))) (ev rfl) (ev rfl)) (by dsimp only [List.set]; try rfl) ?_
                  refine wpList_nil (hK381 _ _ ?_)
                  refine wp_cond_split (t := icmp .lss el11 0) (ev rfl) (fun c386 => ?_) (fun c386 => ?_)
                  · have c386' := c386
                    (try simp only [hβ1] at c386')
                    (try simp only [icmp, Bool.and_eq_true, Bool.or_eq_true, Bool.and_eq_false_iff, Bool.or_eq_false_iff, Bool.not_eq_true', Bool.not_eq_false', decide_eq_true_eq, decide_eq_false_iff_not, beq_iff_eq, bne_iff_ne, beq_eq_false_iff_ne, bne_eq_false_iff_eq] at c386')
                    have hput : el11 < 0 ∧ cS A_m el10 = true := ⟨c386', nS_c hmt hxr.1.1 hJm⟩
                    have hng2 := neg_set hel11 hput.1 hkm.1
                    refine wp_seq_k fun K387 hK387 => ?_
                    refine wp_region_lit ?_
                    refine q_is rfl rfl (does_move (u := (.slice (some ⟨gr215, 0, none⟩) ((List.replicate z (-1)).length) q177)) (ev rfl)) (by dsimp only [List.set]; try rfl) ?_
                    refine q_is rfl rfl (does_move (u := (.slice p352 ((el8 ++ el9).length) q353)) (ev rfl)) (by dsimp only [List.set]; try rfl) ?_
                    refine q_is rfl rfl (does_move (u := (Iv (q.2.2 : Int))) (ev rfl)) (by dsimp only [List.set]; try rfl) ?_
                    refine seqd rfl rfl (does_indexSl (R := RI) (i := (q.2.2 : Int)) (xs := el8 ++ el9) (e := el10) Try.underlying27 Try.sizeOf2 (ev rfl) (ev rfl) (hH354 _ ((Same.refl _ _).kl E368 (allS (.inl n307) (allS (.inl n366) all0)))) (by omega) hel10) ?_; rintro _ w367 ⟨b388, o389, _, rfl, hc391, rfl, rfl⟩
                    show wpList _ _ _ _ (fr [_, _, _, _, _, _, _, _, _, _, _, _, _, _, _, _, _, _, _, _, _, _, _, _, _, _, _, _, _, _, _, _, _, _, _, _, _, _, _, _, _, _, _, _, _, _, _, _, _, _, _, _, _, _, _, _, _, _, _, _, _, _, _, _, _, _, _, _, _, _, _, _, _, _, _, _, _, _, _, _, _, _, _, _, _, _, _, _, _, _, _, _, _, _, _, _, _, _, _, _, _, _, _, _, _, _, _, _, _, _, _, _, _, _, _, _, _, _, _, _, _, _, _, _, _, _, _, _, _, _, _, _, _, _, _, _, _, _, _, _, _, _, _, _, _, _]) _
                    refine q_is rfl rfl (does_load (u := (Iv el10)) (ev rfl) Try.isAgg2 (Cells.at hc391 0 rfl)) (by dsimp only [List.set]; try rfl) ?_
                    refine q_is rfl rfl (does_move (u := (Iv ((numTo A_m.places.length (cS A_m) (nS A_m) k).2))) (ev rfl)) (by dsimp only [List.set]; try rfl) ?_
                    refine q_is rfl rfl (does_indexOwn (b := gr215) (n := (List.replicate z (-1)).length) (i := el10) Try.underlying27 Try.sizeOf2 (ev rfl) (ev rfl) (by omega) (by omega)) (by dsimp only [List.set]; try rfl) ?_
                    refine seqn rfl rfl (does_storeRowG (R := RI) (k := 1) (xs := q.1) (i := el10.toNat) (u := (Iv ((numTo A_m.places.length (cS A_m) (nS A_m) k).2))) (e := ((numTo A_m.places.length (cS A_m) (nS A_m) k).2)) (ev rfl) (ev rfl) Try.sizeOf2 rfl rfl RI.flat hR372 rfl (by first | assumption | omega | (simp only [bkQ_len, bkTo_len, numTo_len, List.length_replicate, List.length_set, List.length_set, List.length_replicate]; omega) | (simp only [bkQ_len, bkTo_len, numTo_len, List.length_replicate, List.length_set, List.length_set, List.length_replicate]; done)) rfl) ?_; rintro _ w394 ⟨rfl, W392, hR393⟩
                    have X395 := Below.wr X371 W392 g223
                    refine wpList_nil (hK387 _ _ ?_)
                    refine wp_region_lit ?_
                    refine q_is rfl rfl (does_move (u := (.slice p373 q.2.1.length q374)) (ev rfl)) (by dsimp only [List.set]; try rfl) ?_
                    refine q_is rfl rfl (does_move (u := (.slice p352 ((el8 ++ el9).length) q353)) (ev rfl)) (by dsimp only [List.set]; try rfl) ?_
                    refine q_is rfl rfl (does_move (u := (Iv (q.2.2 : Int))) (ev rfl)) (by dsimp only [List.set]; try rfl) ?_
                    refine seqd rfl rfl (does_indexSl (R := RI) (i := (q.2.2 : Int)) (xs := el8 ++ el9) (e := el10) Try.underlying27 Try.sizeOf2 (ev rfl) (ev rfl) (hH354 _ (((Same.refl _ _).kl E368 (allS (.inl n307) (allS (.inl n366) all0))).wr W392 (.inl n307))) (by omega) hel10) ?_; rintro _ w394 ⟨b396, o397, _, rfl, hc399, rfl, rfl⟩
                    show wpList _ _ _ _ (fr [_, _, _, _, _, _, _, _, _, _, _, _, _, _, _, _, _, _, _, _, _, _, _, _, _, _, _, _, _, _, _, _, _, _, _, _, _, _, _, _, _, _, _, _, _, _, _, _, _, _, _, _, _, _, _, _, _, _, _, _, _, _, _, _, _, _, _, _, _, _, _, _, _, _, _, _, _, _, _, _, _, _, _, _, _, _, _, _, _, _, _, _, _, _, _, _, _, _, _, _, _, _, _, _, _, _, _, _, _, _, _, _, _, _, _, _, _, _, _, _, _, _, _, _, _, _, _, _, _, _, _, _, _, _, _, _, _, _, _, _, _, _, _, _, _, _]) _
                    refine q_is rfl rfl (does_load (u := (Iv el10)) (ev rfl) Try.isAgg2 (Cells.at hc399 0 rfl)) (by dsimp only [List.set]; try rfl) ?_
                    refine seqd rfl rfl (does_buildSlice (e := 2) (parts' := [(0, (Iv el10))]) (cells := [(Iv el10)]) (evp rfl) (fun _ => by kernel_rfl)) ?_; rintro _ w404 ⟨b400, rfl, hb401, hB402, E403⟩
                    have n405 : b12 < b400 := Nat.lt_of_lt_of_le (Blk.lt ((((((((((((((((hB14.ext E21).ext E30).ext E42).kl K61 (fun hc => (hL62 _ hc).elim (fun h => absurd h (ninS (Nat.ne_of_lt n47) nin0)) (fun h => absurd h (Nat.not_le_of_lt n52)))).ext E154).kl E172 (ninS (Nat.ne_of_lt (Nat.lt_of_lt_of_le n156 hN168)) nin0)).kl E227 (ninS n222 nin0)).ext E252).ext E262).wr W269 n222).kl E290 (ninS n222 (ninS (by omega) nin0))).ext E304).kl E326 nin0).kl K347 (ninS (Nat.ne_of_lt (Nat.lt_of_lt_of_le n306 hN349)) nin0)).kl E368 (ninS n222 (ninS (by omega) nin0))).wr W392 n222)) hb401
                    have n406 : gr215 < b400 := Nat.lt_of_lt_of_le (RowG.lt hR393) hb401
                    have n407 : b396 < b400 := Nat.lt_of_lt_of_le (cell_lt (Cells.at hc399 0 rfl)) hb401
                    have g408 : w.heap.size ≤ b400 := Nat.le_trans (Below.size X395) hb401
                    have X409 := Ext.gr X395 E403
                    show wpList _ _ _ _ (fr [_, _, _, _, _, _, _, _, _, _, _, _, _, _, _, _, _, _, _, _, _, _, _, _, _, _, _, _, _, _, _, _, _, _, _, _, _, _, _, _, _, _, _, _, _, _, _, _, _, _, _, _, _, _, _, _, _, _, _, _, _, _, _, _, _, _, _, _, _, _, _, _, _, _, _, _, _, _, _, _, _, _, _, _, _, _, _, _, _, _, _, _, _, _, _, _, _, _, _, _, _, _, _, _, _, _, _, _, _, _, _, _, _, _, _, _, _, _, _, _, _, _, _, _, _, _, _, _, _, _, _, _, _, _, _, _, _, _, _, _, _, _, _, _, _, _]) _
                    refine seqd rfl rfl (does_appendQ (R := RI) (k := 1) (g0 := gg357) (B := w344.heap.size) (xs := q.2.1) (x := el10) Try.underlying27 inf2 rfl (ev rfl) (ev rfl) (OwnQ.ext (OwnQ.kl hO370 RI.flat (KpL.of_wr W392) (allS ⟨(by omega), .inl n362⟩ all0)) RI.flat E403) RI.flat hB402 rfl rfl (by first | omega | (first | (have hbn := bkQ_most hmt hel1 (by omega) hxl4; first | omega | (simp only [List.length_cons, List.length_nil]; omega)) | (have h1 := tot_at (xss := nextL A_m) hel8; have h2 := nextL_tot hmt; have h3 := bkL_most hmt el7; rw [atL_some' hel9] at h3; omega) | (have h1 := tot_at (xss := nextL A_m) hel8; have h2 := nextL_tot hmt; omega) | (simp only [List.length_replicate, List.length_append, List.length_cons, List.length_nil]; omega))) (Nat.le_trans (Nat.le_trans (KpL.size E368) (Nat.le_of_eq (Eq.symm (Wr.size W392)))) (Below.size E403))) ?_; rintro y' w410 ⟨gg411, hg412, K413, hO414⟩
                    have hN415 : w251.heap.size ≤ gg411 := by rcases hg412 with h | h; exact h ▸ hN363; exact Nat.le_trans (Nat.le_trans (Nat.le_trans (Nat.le_trans (Nat.le_trans (Nat.le_trans (Below.size E262) (Nat.le_of_eq (Eq.symm (Wr.size W269)))) (KpL.size E290)) (Below.size E304)) (KpL.size E326)) (KpL.size K347)) h
                    have g416 : w.heap.size ≤ gg411 := Nat.le_trans (Nat.le_trans (Nat.le_trans (Nat.le_trans (Nat.le_trans (Nat.le_trans (Nat.le_trans (Nat.le_trans (Nat.le_trans (Below.size E15) (Below.size E21)) (Below.size E30)) (Below.size E42)) (KpL.size K61)) (Below.size E154)) (KpL.size E172)) (KpL.size E227)) (Below.size E252)) hN415
                    have X417 := Below.kl X409 K413 (allS g416 all0) (Nat.le_refl _)
                    obtain ⟨p418, q419, rfl⟩ := OwnQ.shape hO414
                    have hH420 : Hang w251.heap.size w410 (fun u => Sl RI 1 u (.slice p418 ((q.2.1 ++ [el10]).length) q419) (q.2.1 ++ [el10])) := OwnQ.hang hO414 RI.flat (by decide) hN363 (Nat.le_trans (Nat.le_trans (Nat.le_trans (Nat.le_trans (Nat.le_trans (Below.size E262) (Nat.le_of_eq (Eq.symm (Wr.size W269)))) (KpL.size E290)) (Below.size E304)) (KpL.size E326)) (KpL.size K347))
                    show wpList _ _ _ _ (fr [_, _, _, _, _, _, _, _, _, _, _, _, _, _, _, _, _, _, _, _, _, _, _, _, _, _, _, _, _, _, _, _, _, _, _, _, _, _, _, _, _, _, _, _, _, _, _, _, _, _, _, _, _, _, _, _, _, _, _, _, _, _, _, _, _, _, _, _, _, _, _, _, _, _, _, _, _, _, _, _, _, _, _, _, _, _, _, _, _, _, _, _, _, _, _, _, _, _, _, _, _, _, _, _, _, _, _, _, _, _, _, _, _, _, _, _, _, _, _, _, _, _, _, _, _, _, _, _, _, _, _, _, _, _, _, _, _, _, _, _, _, _, _, _, _, _]) _
                    refine q_is rfl rfl (does_assign (u := (.slice p418 ((q.2.1 ++ [el10]).length) q419)) (ev rfl)) (by dsimp only [List.set]; try rfl) ?_
                    refine wpList_nil (hK379 _ _ ?_)
                    refine wp_region_lit ?_
                    refine q_is rfl rfl (does_iarith (p := (q.2.2 : Int)) (q := 1) (r := (q.2.2 : Int) + 1) (ev rfl) (ev rfl) (.inl ⟨rfl, (in_i64 (by omega) (by omega)).symm⟩)) (by dsimp only [List.set]; try rfl) ?_
                    refine q_is rfl rfl (does_move (u := (Iv ((q.2.2 : Int) + 1))) (ev rfl)) (by dsimp only [List.set]; try rfl) ?_
                    refine wpList_nil ?_
                    have hR421 := RowG.cast (ys := ((fun (q : List Int × List Int × Nat) => q.1) ((q.1.set el10.toNat ((numTo A_m.places.length (cS A_m) (nS A_m) k).2)), q.2.1 ++ [el10], q.2.2 + 1))) (RowG.kl (RowG.ext hR393 RI.flat E403) RI.flat K413 (ninS (by omega) nin0)) (by (try dsimp only); try rfl)
                    have hO422 := OwnQ.cast (ys := ((fun (q : List Int × List Int × Nat) => q.2.1) ((q.1.set el10.toNat ((numTo A_m.places.length (cS A_m) (nS A_m) k).2)), q.2.1 ++ [el10], q.2.2 + 1))) hO414 (by (try dsimp only); try rfl)
                    refine ⟨((q.1.set el10.toNat ((numTo A_m.places.length (cS A_m) (nS A_m) k).2)), q.2.1 ++ [el10], q.2.2 + 1), ⟨fun t => (([(.agg #[(.slice p5 A_m.places.length q6), (.slice p8 A_m.tris.length q9)]), (Pt b12 0), (.slice none 0 0), (Iv 0), (Bo false), (.slice p36 ((nextL A_m).length) q37), (.slice (some ⟨b39, 0, none⟩) A_m.places.length A_m.places.length), (u56 7), (u56 8), (u56 9), (.slice (some ⟨gr215, 0, none⟩) ((List.replicate z (-1)).length) q177), (Iv ((numTo A_m.places.length (cS A_m) (nS A_m) k).2)), (Iv (k : Int)), (.slice p418 ((q.2.1 ++ [el10]).length) q419), (Iv (s.2.2 : Int)), (.slice p352 ((el8 ++ el9).length) q353), (Iv (q.2.2 : Int)), (Bo (meshOk A_m)), (Bo (!(meshOk A_m))), (.slice p36 ((nextL A_m).length) q37), (Pt b12 0), (.slice p5 A_m.places.length q6), (Iv (A_m.places.length : Int)), (.slice (some ⟨b39, 0, none⟩) A_m.places.length A_m.places.length), (.slice p36 ((nextL A_m).length) q37), (Iv (((nextL A_m).length) : Int)), (Iv (kb : Int)), (Bo (icmp .lss (kb : Int) (((nextL A_m).length) : Int))), (u56 28), (u56 29), (u56 30), (u56 31), (u56 32), (u56 33), (u56 34), (u56 35), (u56 36), (u56 37), (u56 38), (u56 39), (u56 40), (u56 41), (u56 42), (u56 43), (u56 44), (u56 45), (u56 46), (u56 47), (u56 48), (u56 49), (u56 50), (u56 51), (u56 52), (u56 53), (u56 54), (u56 55), (.slice (some ⟨b150, 0, none⟩) 0 0), (Pt b12 0), (.slice p5 A_m.places.length q6), (Iv (A_m.places.length : Int)), (Iv (z : Int)), (Bo (icmp .lss (z : Int) (A_m.places.length : Int))), (u162 62), (u162 63), (u162 64), (u162 65), (.slice (some ⟨gr215, 0, none⟩) ((List.replicate z (-1)).length) q177), (Iv (((List.replicate z (-1)).length) : Int)), (Iv (k : Int)), (Bo (icmp .lss (k : Int) (((List.replicate z (-1)).length) : Int))), (Iv (k : Int)), v238, v239, v240, v241, v242, v243, v244, v245, v246, v247, v248, v249, (Bo ((icmp .geq el5 0) || β1)), (Iv (k : Int)), (.slice (some ⟨b259, 0, none⟩) 1 1), (.slice (some ⟨gr215, 0, none⟩) ((List.replicate z (-1)).length) q177), (Iv (k : Int)), (Iv ((numTo A_m.places.length (cS A_m) (nS A_m) k).2)), (Pt gr215 (k * 1)), (Iv (s.2.2 : Int)), (.slice p295 s.2.1.length q296), (Iv (s.2.1.length : Int)), (Bo (icmp .lss (s.2.2 : Int) (s.2.1.length : Int))), (u275 94), (u275 95), v309, v310, v311, v312, v313, v314, v315, v316, (.slice p336 el8.length q337), v318, v319, v320, v321, v322, v323, (.slice p341 el9.length q342), (.slice p352 ((el8 ++ el9).length) q353), (.slice p352 ((el8 ++ el9).length) q353), (Iv (((el8 ++ el9).length) : Int)), (Iv ((q.2.2 : Int) + 1)), (Bo (icmp .lss (q.2.2 : Int) (((el8 ++ el9).length) : Int))), (Iv (q.2.2 : Int)), (.slice (some ⟨gr215, 0, none⟩) ((List.replicate z (-1)).length) q177), (.slice p352 ((el8 ++ el9).length) q353), (Iv (q.2.2 : Int)), (Pt b382 o383), (Iv el10), (Pt gr215 (el10.toNat * 1)), (Iv el11), (Bo (icmp .lss el11 0)), (.slice (some ⟨gr215, 0, none⟩) ((List.replicate z (-1)).length) q177), (.slice p352 ((el8 ++ el9).length) q353), (Iv (q.2.2 : Int)), (Pt b388 o389), (Iv el10), (Iv ((numTo A_m.places.length (cS A_m) (nS A_m) k).2)), (Pt gr215 (el10.toNat * 1)), (.slice p373 q.2.1.length q374), (.slice p352 ((el8 ++ el9).length) q353), (Iv (q.2.2 : Int)), (Pt b396 o397), (Iv el10), (.slice (some ⟨b400, 0, none⟩) 1 1), (.slice p418 ((q.2.1 ++ [el10]).length) q419), (Iv ((q.2.2 : Int) + 1)), (u225 141), (u225 142), (u225 143), Ud, Ud] : List Value)[t]?).getD undef, (.slice p418 ((q.2.1 ++ [el10]).length) q419), ?_, (KpL.more (KpL.ext (KpL.more E368 (KpL.of_wr W392) (allS (.inl (by simp)) all0)) E403) K413 (allS (hg412.imp (fun h => by simp [h]) id) all0)), hR421, hO422, ?_⟩, ?_⟩
                    · first | rfl | (simp only [Int.natCast_add, Int.natCast_one]; rfl)
                    · (try dsimp only); have hJ2 := hnear ▸ hel10; first | exact ⟨by rw [List.drop_append_of_le_length hq3]; exact hfd1.put hJm hput.2 hJr hel11 hput.1 hkm.1, hpre.put hJ2 (by omega) hkm.1, by simp only [List.length_append, List.length_cons, List.length_nil]; omega, by (try dsimp only); omega, by simp only [List.length_append, List.length_cons, List.length_nil]; omega⟩ | exact ⟨hfd1, hpre.skip hJ2 hnput, hng, by (try dsimp only); omega, hq3⟩
                    · (try dsimp only); omega
                  have c386' := c386
                  (try simp only [hβ1] at c386')
                  (try simp only [icmp, Bool.and_eq_true, Bool.or_eq_true, Bool.and_eq_false_iff, Bool.or_eq_false_iff, Bool.not_eq_true', Bool.not_eq_false', decide_eq_true_eq, decide_eq_false_iff_not, beq_iff_eq, bne_iff_ne, beq_eq_false_iff_ne, bne_eq_false_iff_eq] at c386')
                  have hnput : cS A_m el10 = true → 0 ≤ iAt q.1 el10.toNat := fun _ => by rw [show iAt q.1 el10.toNat = el11 by simp [iAt, hel11]]; have h := c386'; omega
                  refine wp_skip (hK379 _ _ ?_)
                  refine wp_region_lit ?_
                  refine q_is rfl rfl (does_iarith (p := (q.2.2 : Int)) (q := 1) (r := (q.2.2 : Int) + 1) (ev rfl) (ev rfl) (.inl ⟨rfl, (in_i64 (by omega) (by omega)).symm⟩)) (by dsimp only [List.set]; try rfl) ?_
                  refine q_is rfl rfl (does_move (u := (Iv ((q.2.2 : Int) + 1))) (ev rfl)) (by dsimp only [List.set]; try rfl) ?_
                  refine wpList_nil ?_
                  have hR423 := RowG.cast (ys := ((fun (q : List Int × List Int × Nat) => q.1) (q.1, q.2.1, q.2.2 + 1))) hR372 (by (try dsimp only); try rfl)
                  have hO424 := OwnQ.cast (ys := ((fun (q : List Int × List Int × Nat) => q.2.1) (q.1, q.2.1, q.2.2 + 1))) hO370 (by (try dsimp only); try rfl)
                  refine ⟨(q.1, q.2.1, q.2.2 + 1), ⟨fun t => (([(.agg #[(.slice p5 A_m.places.length q6), (.slice p8 A_m.tris.length q9)]), (Pt b12 0), (.slice none 0 0), (Iv 0), (Bo false), (.slice p36 ((nextL A_m).length) q37), (.slice (some ⟨b39, 0, none⟩) A_m.places.length A_m.places.length), (u56 7), (u56 8), (u56 9), (.slice (some ⟨gr215, 0, none⟩) ((List.replicate z (-1)).length) q177), (Iv ((numTo A_m.places.length (cS A_m) (nS A_m) k).2)), (Iv (k : Int)), (.slice p373 q.2.1.length q374), (Iv (s.2.2 : Int)), (.slice p352 ((el8 ++ el9).length) q353), (Iv (q.2.2 : Int)), (Bo (meshOk A_m)), (Bo (!(meshOk A_m))), (.slice p36 ((nextL A_m).length) q37), (Pt b12 0), (.slice p5 A_m.places.length q6), (Iv (A_m.places.length : Int)), (.slice (some ⟨b39, 0, none⟩) A_m.places.length A_m.places.length), (.slice p36 ((nextL A_m).length) q37), (Iv (((nextL A_m).length) : Int)), (Iv (kb : Int)), (Bo (icmp .lss (kb : Int) (((nextL A_m).length) : Int))), (u56 28), (u56 29), (u56 30), (u56 31), (u56 32), (u56 33), (u56 34), (u56 35), (u56 36), (u56 37), (u56 38), (u56 39), (u56 40), (u56 41), (u56 42), (u56 43), (u56 44), (u56 45), (u56 46), (u56 47), (u56 48), (u56 49), (u56 50), (u56 51), (u56 52), (u56 53), (u56 54), (u56 55), (.slice (some ⟨b150, 0, none⟩) 0 0), (Pt b12 0), (.slice p5 A_m.places.length q6), (Iv (A_m.places.length : Int)), (Iv (z : Int)), (Bo (icmp .lss (z : Int) (A_m.places.length : Int))), (u162 62), (u162 63), (u162 64), (u162 65), (.slice (some ⟨gr215, 0, none⟩) ((List.replicate z (-1)).length) q177), (Iv (((List.replicate z (-1)).length) : Int)), (Iv (k : Int)), (Bo (icmp .lss (k : Int) (((List.replicate z (-1)).length) : Int))), (Iv (k : Int)), v238, v239, v240, v241, v242, v243, v244, v245, v246, v247, v248, v249, (Bo ((icmp .geq el5 0) || β1)), (Iv (k : Int)), (.slice (some ⟨b259, 0, none⟩) 1 1), (.slice (some ⟨gr215, 0, none⟩) ((List.replicate z (-1)).length) q177), (Iv (k : Int)), (Iv ((numTo A_m.places.length (cS A_m) (nS A_m) k).2)), (Pt gr215 (k * 1)), (Iv (s.2.2 : Int)), (.slice p295 s.2.1.length q296), (Iv (s.2.1.length : Int)), (Bo (icmp .lss (s.2.2 : Int) (s.2.1.length : Int))), (u275 94), (u275 95), v309, v310, v311, v312, v313, v314, v315, v316, (.slice p336 el8.length q337), v318, v319, v320, v321, v322, v323, (.slice p341 el9.length q342), (.slice p352 ((el8 ++ el9).length) q353), (.slice p352 ((el8 ++ el9).length) q353), (Iv (((el8 ++ el9).length) : Int)), (Iv ((q.2.2 : Int) + 1)), (Bo (icmp .lss (q.2.2 : Int) (((el8 ++ el9).length) : Int))), (Iv (q.2.2 : Int)), (.slice (some ⟨gr215, 0, none⟩) ((List.replicate z (-1)).length) q177), (.slice p352 ((el8 ++ el9).length) q353), (Iv (q.2.2 : Int)), (Pt b382 o383), (Iv el10), (Pt gr215 (el10.toNat * 1)), (Iv el11), (Bo (icmp .lss el11 0)), (u356 126), (u356 127), (u356 128), (u356 129), (u356 130), (u356 131), (u356 132), (u356 133), (u356 134), (u356 135), (u356 136), (u356 137), (u356 138), (u356 139), (Iv ((q.2.2 : Int) + 1)), (u225 141), (u225 142), (u225 143), Ud, Ud] : List Value)[t]?).getD undef, (.slice p373 q.2.1.length q374), ?_, E368, hR423, hO424, ?_⟩, ?_⟩
                  · first | rfl | (simp only [Int.natCast_add, Int.natCast_one]; rfl)
                  · (try dsimp only); have hJ2 := hnear ▸ hel10; first | exact ⟨by rw [List.drop_append_of_le_length hq3]; exact hfd1.put hJm hput.2 hJr hel11 hput.1 hkm.1, hpre.put hJ2 (by omega) hkm.1, by simp only [List.length_append, List.length_cons, List.length_nil]; omega, by (try dsimp only); omega, by simp only [List.length_append, List.length_cons, List.length_nil]; omega⟩ | exact ⟨hfd1, hpre.skip hJ2 hnput, hng, by (try dsimp only); omega, hq3⟩
                  · (try dsimp only); omega
                have c378' := c378
                (try simp only [hβ1] at c378')
                (try simp only [icmp, Bool.and_eq_true, Bool.or_eq_true, Bool.and_eq_false_iff, Bool.or_eq_false_iff, Bool.not_eq_true', Bool.not_eq_false', decide_eq_true_eq, decide_eq_false_iff_not, beq_iff_eq, bne_iff_ne, beq_eq_false_iff_ne, bne_eq_false_iff_eq] at c378')
                refine wp_exit ?_
                refine hK301 _ _ ?_
                refine wp_region_lit ?_
                refine q_is rfl rfl (does_move (u := (Iv (s.2.2 : Int))) (ev rfl)) (by dsimp only [List.set]; try rfl) ?_
                refine q_is rfl rfl (does_iarith (p := (s.2.2 : Int)) (q := 1) (r := (s.2.2 : Int) + 1) (ev rfl) (ev rfl) (.inl ⟨rfl, (in_i64 (by omega) (by omega)).symm⟩)) (by dsimp only [List.set]; try rfl) ?_
                refine q_is rfl rfl (does_assign (u := (Iv ((s.2.2 : Int) + 1))) (ev rfl)) (by dsimp only [List.set]; try rfl) ?_
                refine wpList_nil ?_
                have hR425 := RowG.cast (ys := ((fun (s : List Int × List Int × Nat) => s.1) (q.1, q.2.1, s.2.2 + 1))) hR372 (by (try dsimp only); try rfl)
                have hO426 := OwnQ.cast (ys := ((fun (s : List Int × List Int × Nat) => s.2.1) (q.1, q.2.1, s.2.2 + 1))) (OwnQ.back hO370 hg358 (Nat.le_trans (Nat.le_trans (Nat.le_trans (KpL.size E290) (Below.size E304)) (KpL.size E326)) (KpL.size K347))) (by (try dsimp only); try rfl)
                refine ⟨(q.1, q.2.1, s.2.2 + 1), ⟨fun t => (([(.agg #[(.slice p5 A_m.places.length q6), (.slice p8 A_m.tris.length q9)]), (Pt b12 0), (.slice none 0 0), (Iv 0), (Bo false), (.slice p36 ((nextL A_m).length) q37), (.slice (some ⟨b39, 0, none⟩) A_m.places.length A_m.places.length), (u56 7), (u56 8), (u56 9), (.slice (some ⟨gr215, 0, none⟩) ((List.replicate z (-1)).length) q177), (Iv ((numTo A_m.places.length (cS A_m) (nS A_m) k).2)), (Iv (k : Int)), (.slice p373 q.2.1.length q374), (Iv ((s.2.2 : Int) + 1)), (.slice p352 ((el8 ++ el9).length) q353), (u356 16), (Bo (meshOk A_m)), (Bo (!(meshOk A_m))), (.slice p36 ((nextL A_m).length) q37), (Pt b12 0), (.slice p5 A_m.places.length q6), (Iv (A_m.places.length : Int)), (.slice (some ⟨b39, 0, none⟩) A_m.places.length A_m.places.length), (.slice p36 ((nextL A_m).length) q37), (Iv (((nextL A_m).length) : Int)), (Iv (kb : Int)), (Bo (icmp .lss (kb : Int) (((nextL A_m).length) : Int))), (u56 28), (u56 29), (u56 30), (u56 31), (u56 32), (u56 33), (u56 34), (u56 35), (u56 36), (u56 37), (u56 38), (u56 39), (u56 40), (u56 41), (u56 42), (u56 43), (u56 44), (u56 45), (u56 46), (u56 47), (u56 48), (u56 49), (u56 50), (u56 51), (u56 52), (u56 53), (u56 54), (u56 55), (.slice (some ⟨b150, 0, none⟩) 0 0), (Pt b12 0), (.slice p5 A_m.places.length q6), (Iv (A_m.places.length : Int)), (Iv (z : Int)), (Bo (icmp .lss (z : Int) (A_m.places.length : Int))), (u162 62), (u162 63), (u162 64), (u162 65), (.slice (some ⟨gr215, 0, none⟩) ((List.replicate z (-1)).length) q177), (Iv (((List.replicate z (-1)).length) : Int)), (Iv (k : Int)), (Bo (icmp .lss (k : Int) (((List.replicate z (-1)).length) : Int))), (Iv (k : Int)), v238, v239, v240, v241, v242, v243, v244, v245, v246, v247, v248, v249, (Bo ((icmp .geq el5 0) || β1)), (Iv (k : Int)), (.slice (some ⟨b259, 0, none⟩) 1 1), (.slice (some ⟨gr215, 0, none⟩) ((List.replicate z (-1)).length) q177), (Iv (k : Int)), (Iv ((numTo A_m.places.length (cS A_m) (nS A_m) k).2)), (Pt gr215 (k * 1)), (Iv (s.2.2 : Int)), (.slice p295 s.2.1.length q296), (Iv (s.2.1.length : Int)), (Bo (icmp .lss (s.2.2 : Int) (s.2.1.length : Int))), (Iv (s.2.2 : Int)), (Iv ((s.2.2 : Int) + 1)), v309, v310, v311, v312, v313, v314, v315, v316, (.slice p336 el8.length q337), v318, v319, v320, v321, v322, v323, (.slice p341 el9.length q342), (.slice p352 ((el8 ++ el9).length) q353), (.slice p352 ((el8 ++ el9).length) q353), (Iv (((el8 ++ el9).length) : Int)), (Iv (q.2.2 : Int)), (Bo (icmp .lss (q.2.2 : Int) (((el8 ++ el9).length) : Int))), (u356 117), (u356 118), (u356 119), (u356 120), (u356 121), (u356 122), (u356 123), (u356 124), (u356 125), (u356 126), (u356 127), (u356 128), (u356 129), (u356 130), (u356 131), (u356 132), (u356 133), (u356 134), (u356 135), (u356 136), (u356 137), (u356 138), (u356 139), (u356 140), (u225 141), (u225 142), (u225 143), Ud, Ud] : List Value)[t]?).getD undef, (.slice p373 q.2.1.length q374), ?_, (KpL.more (KpL.more (KpL.more (KpL.ext E290 E304) E326 all0) K347 (allS (.inr (Nat.le_trans E290.size hN349)) all0)) E368 (allS (.inl (by simp)) (allS (hg358.imp (fun h => by simp [h]) id) all0))), hR425, hO426, ?_⟩, ?_⟩
                · first | rfl | (simp only [Int.natCast_add, Int.natCast_one]; rfl)
                · (try dsimp only); exact ⟨hfd1.pop (hpre.all (by omega)), hq3, by (try dsimp only); omega⟩
                · (try dsimp only); omega
            have c300' := c300
            (try simp only [hβ1] at c300')
            (try simp only [icmp, Bool.and_eq_true, Bool.or_eq_true, Bool.and_eq_false_iff, Bool.or_eq_false_iff, Bool.not_eq_true', Bool.not_eq_false', decide_eq_true_eq, decide_eq_false_iff_not, beq_iff_eq, bne_iff_ne, beq_eq_false_iff_ne, bne_eq_false_iff_eq] at c300')
            have hs0 : s.2.1.drop s.2.2 = [] := List.drop_of_length_le (by omega)
            refine wp_exit ?_
            refine hK273 _ _ ?_
            refine wp_region_lit ?_
            refine q_is rfl rfl (does_move (u := (Iv ((numTo A_m.places.length (cS A_m) (nS A_m) k).2))) (ev rfl)) (by dsimp only [List.set]; try rfl) ?_
            refine q_is rfl rfl (does_iarith (p := (numTo A_m.places.length (cS A_m) (nS A_m) k).2) (q := 1) (r := ((numTo A_m.places.length (cS A_m) (nS A_m) k).2) + 1) (ev rfl) (ev rfl) (.inl ⟨rfl, (in_i64 (by omega) (by omega)).symm⟩)) (by dsimp only [List.set]; try rfl) ?_
            refine q_is rfl rfl (does_assign (u := (Iv (((numTo A_m.places.length (cS A_m) (nS A_m) k).2) + 1))) (ev rfl)) (by dsimp only [List.set]; try rfl) ?_
            refine wpList_nil (hK234 _ _ ?_)
            refine wp_region_lit ?_
            refine q_is rfl rfl (does_iarith (p := (k : Int)) (q := 1) (r := (k : Int) + 1) (ev rfl) (ev rfl) (.inl ⟨rfl, (in_i64 (by omega) (by omega)).symm⟩)) (by dsimp only [List.set]; try rfl) ?_
            refine q_is rfl rfl (does_move (u := (Iv ((k : Int) + 1))) (ev rfl)) (by dsimp only [List.set]; try rfl) ?_
            refine wpList_nil ?_
            have hR427 := RowG.cast (ys := ((fun (k : Nat) => (numTo A_m.places.length (cS A_m) (nS A_m) k).1) (k + 1))) hR294 (by (try dsimp only); first | exact (congrArg Prod.fst (numTo_skip hsk)).symm | (rw [numTo_new hn1 hnw.2]; exact Fld.finish (grS hmt) (by omega) hnw.2 hfr (hs0 ▸ hfd)))
            refine ⟨k + 1, ⟨fun t => (([(.agg #[(.slice p5 A_m.places.length q6), (.slice p8 A_m.tris.length q9)]), (Pt b12 0), (.slice none 0 0), (Iv 0), (Bo false), (.slice p36 ((nextL A_m).length) q37), (.slice (some ⟨b39, 0, none⟩) A_m.places.length A_m.places.length), (u56 7), (u56 8), (u56 9), (.slice (some ⟨gr215, 0, none⟩) ((List.replicate z (-1)).length) q177), (Iv (((numTo A_m.places.length (cS A_m) (nS A_m) k).2) + 1)), (Iv (k : Int)), (.slice p295 s.2.1.length q296), (Iv (s.2.2 : Int)), (u275 15), (u275 16), (Bo (meshOk A_m)), (Bo (!(meshOk A_m))), (.slice p36 ((nextL A_m).length) q37), (Pt b12 0), (.slice p5 A_m.places.length q6), (Iv (A_m.places.length : Int)), (.slice (some ⟨b39, 0, none⟩) A_m.places.length A_m.places.length), (.slice p36 ((nextL A_m).length) q37), (Iv (((nextL A_m).length) : Int)), (Iv (kb : Int)), (Bo (icmp .lss (kb : Int) (((nextL A_m).length) : Int))), (u56 28), (u56 29), (u56 30), (u56 31), (u56 32), (u56 33), (u56 34), (u56 35), (u56 36), (u56 37), (u56 38), (u56 39), (u56 40), (u56 41), (u56 42), (u56 43), (u56 44), (u56 45), (u56 46), (u56 47), (u56 48), (u56 49), (u56 50), (u56 51), (u56 52), (u56 53), (u56 54), (u56 55), (.slice (some ⟨b150, 0, none⟩) 0 0), (Pt b12 0), (.slice p5 A_m.places.length q6), (Iv (A_m.places.length : Int)), (Iv (z : Int)), (Bo (icmp .lss (z : Int) (A_m.places.length : Int))), (u162 62), (u162 63), (u162 64), (u162 65), (.slice (some ⟨gr215, 0, none⟩) ((List.replicate z (-1)).length) q177), (Iv (((List.replicate z (-1)).length) : Int)), (Iv ((k : Int) + 1)), (Bo (icmp .lss (k : Int) (((List.replicate z (-1)).length) : Int))), (Iv (k : Int)), v238, v239, v240, v241, v242, v243, v244, v245, v246, v247, v248, v249, (Bo ((icmp .geq el5 0) || β1)), (Iv (k : Int)), (.slice (some ⟨b259, 0, none⟩) 1 1), (.slice (some ⟨gr215, 0, none⟩) ((List.replicate z (-1)).length) q177), (Iv (k : Int)), (Iv ((numTo A_m.places.length (cS A_m) (nS A_m) k).2)), (Pt gr215 (k * 1)), (Iv (s.2.2 : Int)), (.slice p295 s.2.1.length q296), (Iv (s.2.1.length : Int)), (Bo (icmp .lss (s.2.2 : Int) (s.2.1.length : Int))), (u275 94), (u275 95), (u275 96), (u275 97), (u275 98), (u275 99), (u275 100), (u275 101), (u275 102), (u275 103), (u275 104), (u275 105), (u275 106), (u275 107), (u275 108), (u275 109), (u275 110), (u275 111), (u275 112), (u275 113), (u275 114), (u275 115), (u275 116), (u275 117), (u275 118), (u275 119), (u275 120), (u275 121), (u275 122), (u275 123), (u275 124), (u275 125), (u275 126), (u275 127), (u275 128), (u275 129), (u275 130), (u275 131), (u275 132), (u275 133), (u275 134), (u275 135), (u275 136), (u275 137), (u275 138), (u275 139), (u275 140), (Iv ((numTo A_m.places.length (cS A_m) (nS A_m) k).2)), (Iv (((numTo A_m.places.length (cS A_m) (nS A_m) k).2) + 1)), (Iv ((k : Int) + 1)), Ud, Ud] : List Value)[t]?).getD undef, ?_, (KpL.more (KpL.more (KpL.ext (KpL.ext E227 E252) E262) (KpL.of_wr W269) (allS (.inl (by simp)) all0)) E290 (allS (.inl (by simp)) (allS (.inr (Nat.le_trans (KpL.ext E227 E252).size hN286)) all0))), hR427, ?_⟩, ?_⟩
            · first | (rw [numTo_skip hsk]; rfl) | (rw [numTo_new hn1 hnw.2]; rfl)
            · omega
            · omega
        have c233' := c233
        (try simp only [icmp, Bool.and_eq_true, Bool.or_eq_true, Bool.and_eq_false_iff, Bool.or_eq_false_iff, Bool.not_eq_true', Bool.not_eq_false', decide_eq_true_eq, decide_eq_false_iff_not, beq_iff_eq, bne_iff_ne, beq_eq_false_iff_ne, bne_eq_false_iff_eq] at c233')
        refine wp_exit ?_
        refine hK205 _ _ ?_
        refine wp_seq_k fun K428 hK428 => ?_
        refine wp_region_lit ?_
        refine q_is rfl rfl (does_move (u := (.slice (some ⟨gr215, 0, none⟩) ((List.replicate z (-1)).length) q177)) (ev rfl)) (by dsimp only [List.set]; try rfl) ?_
        refine q_is rfl rfl (does_move (u := (Iv ((numTo A_m.places.length (cS A_m) (nS A_m) k).2))) (ev rfl)) (by dsimp only [List.set]; try rfl) ?_
        refine q_is rfl rfl (does_assign (u := (.slice (some ⟨gr215, 0, none⟩) ((List.replicate z (-1)).length) q177)) (ev rfl)) (by dsimp only [List.set]; try rfl) ?_
        refine q_is rfl rfl (does_assign (u := (Iv ((numTo A_m.places.length (cS A_m) (nS A_m) k).2))) (ev rfl)) (by dsimp only [List.set]; try rfl) ?_
        refine q_is rfl rfl (does_assign (u := (Bo true)) (ev rfl)) (by dsimp only [List.set]; try rfl) ?_
        refine wpList_nil (hK428 _ _ ?_)
        refine wp_ret ?_
        refine ret_val (v := (.tuple #[(.slice (some ⟨gr215, 0, none⟩) ((List.replicate z (-1)).length) q177), (Iv ((numTo A_m.places.length (cS A_m) (nS A_m) k).2)), (Bo true)])) (res_TTT rfl (slot rfl) (slot rfl) (slot rfl)) X229 ?_
        have x429 : ((pcsM A_m).2 : Int) = ((numTo A_m.places.length (cS A_m) (nS A_m) k).2) := by first | exact hmf | exact hmt | (rw [pcsM_f hmf]; done) | (rw [pcsM_f hmf]; rfl) | (rw [pcsM_t hmt]; done) | (rw [pcsM_t hmt]; rfl) | (rw [pcsM_s hmt, show k = A_m.places.length by omega]; done) | (rw [pcsM_s hmt, show k = A_m.places.length by omega])
        have x430 : (meshOk A_m) = true := by first | exact hmf | exact hmt | (rw [pcsM_f hmf]; done) | (rw [pcsM_f hmf]; rfl) | (rw [pcsM_t hmt]; done) | (rw [pcsM_t hmt]; rfl) | (rw [pcsM_s hmt, show k = A_m.places.length by omega]; done) | (rw [pcsM_s hmt, show k = A_m.places.length by omega])
        have x431 : ((numTo A_m.places.length (cS A_m) (nS A_m) k).1) = ((pcsM A_m).1) := by first | exact hmf | exact hmt | (rw [pcsM_f hmf]; done) | (rw [pcsM_f hmf]; rfl) | (rw [pcsM_t hmt]; done) | (rw [pcsM_t hmt]; rfl) | (rw [pcsM_s hmt, show k = A_m.places.length by omega]; done) | (rw [pcsM_s hmt, show k = A_m.places.length by omega])
        exact ⟨(.slice (some ⟨gr215, 0, none⟩) ((List.replicate z (-1)).length) q177), (by first | with_reducible rfl | rw [x429, x430] | rw [x430, x429] | rfl), (Hang.castL (RowG.hang hR230 RI.flat (by first | assumption | omega | (simp only [bkQ_len, bkTo_len, numTo_len, List.length_replicate, List.length_set, List.length_set, List.length_replicate]; omega) | (simp only [bkQ_len, bkTo_len, numTo_len, List.length_replicate, List.length_set, List.length_set, List.length_replicate]; done)) g223 hcap219 (by omega) (by decide)) x431)⟩

/- laws.toVector -/
theorem c_laws_toVector (a : List Value) (A_a : V3) (w : World) (hv_a : RV3 w A_a a) : Gives Try.prog 37 #[(.agg a.toArray)] w (fun v w' => ∃ cs_1 : List Value, v = (.agg cs_1.toArray) ∧ RV3 w A_a cs_1) := by
  obtain ⟨r1, r3, r5, rfl, h2, h4, h6⟩ := hv_a
  refine enter [(.agg #[(Fl r1), (Fl r3), (Fl r5)]), Ud, Ud, Ud, Ud, Ud, Ud, Ud, Ud, Ud, Ud, Ud, Ud, Ud] Try.func37 rfl Try.ntmps37 rfl ?_
  refine wp_seq_k fun K7 hK7 => ?_
  refine wp_region_lit ?_
  refine seqd rfl rfl (does_box (u := (.agg #[(Fl r1), (Fl r3), (Fl r5)])) (ev rfl)) ?_; rintro _ w12 ⟨b8, rfl, hb9, hB10, E11⟩
  have g13 : w.heap.size ≤ b8 := Nat.le_trans (Below.size (Ext.refl w)) hb9
  change Blk _ _ [(Fl r1), (Fl r3), (Fl r5)] at hB10
  have X14 := Ext.gr (Ext.refl w) E11
  show wpList _ _ _ _ (fr [(.agg #[(Fl r1), (Fl r3), (Fl r5)]), (Pt b8 0), Ud, Ud, Ud, Ud, Ud, Ud, Ud, Ud, Ud, Ud, Ud, Ud]) _
  refine seqd rfl rfl (does_alloc z47) ?_; rintro _ w19 ⟨b15, rfl, hb16, hB17, E18⟩
  have n20 : b8 < b15 := Nat.lt_of_lt_of_le (Blk.lt hB10) hb16
  have g21 : w.heap.size ≤ b15 := Nat.le_trans (Below.size X14) hb16
  change Blk _ _ [(Fl 0), (Fl 0), (Fl 0)] at hB17
  have X22 := Ext.gr X14 E18
  show wpList _ _ _ _ (fr [(.agg #[(Fl r1), (Fl r3), (Fl r5)]), (Pt b8 0), (Pt b15 0), Ud, Ud, Ud, Ud, Ud, Ud, Ud, Ud, Ud, Ud, Ud]) _
  refine wpList_nil (hK7 _ _ ?_)
  refine wp_seq_k fun K23 hK23 => ?_
  refine wp_region_lit ?_
  refine seqd rfl rfl (does_alloc z47) ?_; rintro _ w28 ⟨b24, rfl, hb25, hB26, E27⟩
  have n29 : b8 < b24 := Nat.lt_of_lt_of_le (Blk.lt (hB10.ext E18)) hb25
  have n30 : b15 < b24 := Nat.lt_of_lt_of_le (Blk.lt hB17) hb25
  have g31 : w.heap.size ≤ b24 := Nat.le_trans (Below.size X22) hb25
  change Blk _ _ [(Fl 0), (Fl 0), (Fl 0)] at hB26
  have X32 := Ext.gr X22 E27
  show wpList _ _ _ _ (fr [(.agg #[(Fl r1), (Fl r3), (Fl r5)]), (Pt b8 0), (Pt b15 0), (Pt b24 0), Ud, Ud, Ud, Ud, Ud, Ud, Ud, Ud, Ud, Ud]) _
  refine wpList_nil (hK23 _ _ ?_)
  refine wp_seq_k fun K33 hK33 => ?_
  refine wp_region_lit ?_
  refine q_is (l' := [(.agg #[(Fl r1), (Fl r3), (Fl r5)]), (Pt b8 0), (Pt b15 0), (Pt b24 0), (Pt b8 0), Ud, Ud, Ud, Ud, Ud, Ud, Ud, Ud, Ud]) rfl rfl (does_fieldAddr (ev rfl) fa41_0) rfl ?_
  refine q_is (l' := [(.agg #[(Fl r1), (Fl r3), (Fl r5)]), (Pt b8 0), (Pt b15 0), (Pt b24 0), (Pt b8 0), (Fl r1), Ud, Ud, Ud, Ud, Ud, Ud, Ud, Ud]) rfl rfl (does_load (u := (Fl r1)) (ev rfl) Try.isAgg39 (Cells.at (Blk.cells ((hB10.ext E18).ext E27)) 0 rfl)) rfl ?_
  refine q_is (l' := [(.agg #[(Fl r1), (Fl r3), (Fl r5)]), (Pt b8 0), (Pt b15 0), (Pt b24 0), (Pt b8 0), (Fl r1), (Pt b24 0), Ud, Ud, Ud, Ud, Ud, Ud, Ud]) rfl rfl (does_fieldAddr (ev rfl) fa47_0) rfl ?_
  refine seqn rfl rfl (does_store (n := 1) (cs := [(Fl 0), (Fl 0), (Fl 0)]) (u := (Fl r1)) (ev rfl) (ev rfl) Try.sizeOf39 rfl hB26 (Nat.le_of_ble_eq_true rfl) rfl) ?_; rintro _ w36 ⟨rfl, W34, hB35⟩
  change Blk _ _ [(Fl r1), (Fl 0), (Fl 0)] at hB35
  have X37 := Below.wr X32 W34 g31
  refine wpList_nil (hK33 _ _ ?_)
  refine wp_seq_k fun K38 hK38 => ?_
  refine wp_region_lit ?_
  refine q_is (l' := [(.agg #[(Fl r1), (Fl r3), (Fl r5)]), (Pt b8 0), (Pt b15 0), (Pt b24 0), (Pt b8 0), (Fl r1), (Pt b24 0), (Pt b8 1), Ud, Ud, Ud, Ud, Ud, Ud]) rfl rfl (does_fieldAddr (ev rfl) fa41_1) rfl ?_
  refine q_is (l' := [(.agg #[(Fl r1), (Fl r3), (Fl r5)]), (Pt b8 0), (Pt b15 0), (Pt b24 0), (Pt b8 0), (Fl r1), (Pt b24 0), (Pt b8 1), (Fl r3), Ud, Ud, Ud, Ud, Ud]) rfl rfl (does_load (u := (Fl r3)) (ev rfl) Try.isAgg39 (Cells.at (Blk.cells (((hB10.ext E18).ext E27).wr W34 (Nat.ne_of_lt n29))) 1 rfl)) rfl ?_
  refine q_is (l' := [(.agg #[(Fl r1), (Fl r3), (Fl r5)]), (Pt b8 0), (Pt b15 0), (Pt b24 0), (Pt b8 0), (Fl r1), (Pt b24 0), (Pt b8 1), (Fl r3), (Pt b24 1), Ud, Ud, Ud, Ud]) rfl rfl (does_fieldAddr (ev rfl) fa47_1) rfl ?_
  refine seqn rfl rfl (does_store (n := 1) (cs := [(Fl r1), (Fl 0), (Fl 0)]) (u := (Fl r3)) (ev rfl) (ev rfl) Try.sizeOf39 rfl hB35 (Nat.le_of_ble_eq_true rfl) rfl) ?_; rintro _ w41 ⟨rfl, W39, hB40⟩
  change Blk _ _ [(Fl r1), (Fl r3), (Fl 0)] at hB40
  have X42 := Below.wr X37 W39 g31
  refine wpList_nil (hK38 _ _ ?_)
  refine wp_seq_k fun K43 hK43 => ?_
  refine wp_region_lit ?_
  refine q_is (l' := [(.agg #[(Fl r1), (Fl r3), (Fl r5)]), (Pt b8 0), (Pt b15 0), (Pt b24 0), (Pt b8 0), (Fl r1), (Pt b24 0), (Pt b8 1), (Fl r3), (Pt b24 1), (Pt b8 2), Ud, Ud, Ud]) rfl rfl (does_fieldAddr (ev rfl) fa41_2) rfl ?_
  refine q_is (l' := [(.agg #[(Fl r1), (Fl r3), (Fl r5)]), (Pt b8 0), (Pt b15 0), (Pt b24 0), (Pt b8 0), (Fl r1), (Pt b24 0), (Pt b8 1), (Fl r3), (Pt b24 1), (Pt b8 2), (Fl r5), Ud, Ud]) rfl rfl (does_load (u := (Fl r5)) (ev rfl) Try.isAgg39 (Cells.at (Blk.cells ((((hB10.ext E18).ext E27).wr W34 (Nat.ne_of_lt n29)).wr W39 (Nat.ne_of_lt n29))) 2 rfl)) rfl ?_
  refine q_is (l' := [(.agg #[(Fl r1), (Fl r3), (Fl r5)]), (Pt b8 0), (Pt b15 0), (Pt b24 0), (Pt b8 0), (Fl r1), (Pt b24 0), (Pt b8 1), (Fl r3), (Pt b24 1), (Pt b8 2), (Fl r5), (Pt b24 2), Ud]) rfl rfl (does_fieldAddr (ev rfl) fa47_2) rfl ?_
  refine seqn rfl rfl (does_store (n := 1) (cs := [(Fl r1), (Fl r3), (Fl 0)]) (u := (Fl r5)) (ev rfl) (ev rfl) Try.sizeOf39 rfl hB40 (Nat.le_of_ble_eq_true rfl) rfl) ?_; rintro _ w46 ⟨rfl, W44, hB45⟩
  change Blk _ _ [(Fl r1), (Fl r3), (Fl r5)] at hB45
  have X47 := Below.wr X42 W44 g31
  refine wpList_nil (hK43 _ _ ?_)
  refine wp_seq_k fun K48 hK48 => ?_
  refine wp_region_lit ?_
  refine q_is (l' := [(.agg #[(Fl r1), (Fl r3), (Fl r5)]), (Pt b8 0), (Pt b15 0), (Pt b24 0), (Pt b8 0), (Fl r1), (Pt b24 0), (Pt b8 1), (Fl r3), (Pt b24 1), (Pt b8 2), (Fl r5), (Pt b24 2), (.agg #[(Fl r1), (Fl r3), (Fl r5)])]) rfl rfl (does_loadAgg (cs := [(Fl r1), (Fl r3), (Fl r5)]) (ev rfl) Try.isAgg47 Try.sizeOf47 (Blk.cells hB45) rfl) rfl ?_
  refine seqn rfl rfl (does_store (n := 3) (cs := [(Fl 0), (Fl 0), (Fl 0)]) (u := (.agg #[(Fl r1), (Fl r3), (Fl r5)])) (ev rfl) (ev rfl) Try.sizeOf47 rfl ((((hB17.ext E27).wr W34 (Nat.ne_of_lt n30)).wr W39 (Nat.ne_of_lt n30)).wr W44 (Nat.ne_of_lt n30)) (Nat.le_of_ble_eq_true rfl) rfl) ?_; rintro _ w51 ⟨rfl, W49, hB50⟩
  change Blk _ _ [(Fl r1), (Fl r3), (Fl r5)] at hB50
  have X52 := Below.wr X47 W49 g21
  refine wpList_nil (hK48 _ _ ?_)
  refine wp_ret ?_
  refine ret_val (v := (.agg #[(Fl r1), (Fl r3), (Fl r5)])) (res_C rfl (slot rfl) (run_loadAgg (cs := [(Fl r1), (Fl r3), (Fl r5)]) Try.isAgg47 Try.sizeOf47 (Blk.cells hB50) rfl)) X52 ?_
  exact ⟨[(Fl r1), (Fl r3), (Fl r5)], rfl, ⟨r1, r3, r5, rfl, h2, h4, h6⟩⟩

/- laws.toVectorS -/
theorem c_laws_toVectorS (a : Value) (L_a : List V3) (w : World) (hv_a : Sl RV3 3 w a L_a) (hsz : L_a.length ≤ 1048576) : Gives Try.prog 24 #[a] w (fun v w' => ∃ y_1 : Value, ∃ Lw_2 : List Nat, v = y_1 ∧ Hang w.heap.size w' (fun u => Sl RV3 3 u y_1 L_a) ∧ WL 3 w.heap.size w' Lw_2 y_1 L_a.length) := by
  have hlen_a := Sl.len hv_a; obtain ⟨p_a, q_a, rfl⟩ := Sl.shape hv_a
  refine enter [(.slice p_a L_a.length q_a), Ud, Ud, Ud, Ud, Ud, Ud, Ud, Ud, Ud, Ud, Ud, Ud, Ud, Ud, Ud, Ud, Ud, Ud, Ud, Ud, Ud, Ud] Try.func24 rfl Try.ntmps24 rfl ?_
  refine wp_seq_k fun K1 hK1 => ?_
  refine wp_region_lit ?_
  refine q_is (l' := [(.slice p_a L_a.length q_a), Ud, (.slice none 0 0), Ud, Ud, Ud, Ud, Ud, Ud, Ud, Ud, Ud, Ud, Ud, Ud, Ud, Ud, Ud, Ud, Ud, Ud, Ud, Ud]) rfl rfl (does_assign (u := (.slice none 0 0)) (ev rfl)) rfl ?_
  refine wpList_nil (hK1 _ _ ?_)
  refine wp_seq_k fun K2 hK2 => ?_
  refine wp_region_lit ?_
  refine q_is (l' := [(.slice p_a L_a.length q_a), Ud, (.slice none 0 0), Ud, Ud, (.slice p_a L_a.length q_a), Ud, Ud, Ud, Ud, Ud, Ud, Ud, Ud, Ud, Ud, Ud, Ud, Ud, Ud, Ud, Ud, Ud]) rfl rfl (does_move (u := (.slice p_a L_a.length q_a)) (ev rfl)) rfl ?_
  refine q_is (l' := [(.slice p_a L_a.length q_a), Ud, (.slice none 0 0), Ud, Ud, (.slice p_a L_a.length q_a), (Iv (L_a.length : Int)), Ud, Ud, Ud, Ud, Ud, Ud, Ud, Ud, Ud, Ud, Ud, Ud, Ud, Ud, Ud, Ud]) rfl rfl (does_len_slice Try.underlying22 (ev rfl)) rfl ?_
  refine seqd rfl rfl (does_makeSlice (n := L_a.length) Try.underlying30 inf47 (ev rfl) (ev rfl) (by omega)) ?_; rintro _ w7 ⟨b3, rfl, hb4, ⟨cs8, hB5, hl9, hz10⟩, E6⟩
  have g11 : w.heap.size ≤ b3 := Nat.le_trans (Below.size (Ext.refl w)) hb4
  have X12 := Ext.gr (Ext.refl w) E6
  show wpList _ _ _ _ (fr [(.slice p_a L_a.length q_a), Ud, (.slice none 0 0), Ud, Ud, (.slice p_a L_a.length q_a), (Iv (L_a.length : Int)), (.slice (some ⟨b3, 0, none⟩) L_a.length L_a.length), Ud, Ud, Ud, Ud, Ud, Ud, Ud, Ud, Ud, Ud, Ud, Ud, Ud, Ud, Ud]) _
  refine q_is (l' := [(.slice p_a L_a.length q_a), Ud, (.slice none 0 0), (.slice (some ⟨b3, 0, none⟩) L_a.length L_a.length), Ud, (.slice p_a L_a.length q_a), (Iv (L_a.length : Int)), (.slice (some ⟨b3, 0, none⟩) L_a.length L_a.length), Ud, Ud, Ud, Ud, Ud, Ud, Ud, Ud, Ud, Ud, Ud, Ud, Ud, Ud, Ud]) rfl rfl (does_assign (u := (.slice (some ⟨b3, 0, none⟩) L_a.length L_a.length)) (ev rfl)) rfl ?_
  refine wpList_nil (hK2 _ _ ?_)
  refine wp_seq_k fun K13 hK13 => ?_
  refine wp_seq_k fun K14 hK14 => ?_
  refine wp_region_lit ?_
  refine q_is (l' := [(.slice p_a L_a.length q_a), Ud, (.slice none 0 0), (.slice (some ⟨b3, 0, none⟩) L_a.length L_a.length), (Iv 0), (.slice p_a L_a.length q_a), (Iv (L_a.length : Int)), (.slice (some ⟨b3, 0, none⟩) L_a.length L_a.length), Ud, Ud, Ud, Ud, Ud, Ud, Ud, Ud, Ud, Ud, Ud, Ud, Ud, Ud, Ud]) rfl rfl (does_assign (u := (Iv 0)) (ev rfl)) rfl ?_
  refine wpList_nil (hK14 _ _ ?_)
  refine wp_block ?_
  have hF0 : Fill RV3 3 w7 b3 L_a.length L_a 0 := Fill.zero hB5 hl9
  refine loop_ghost (σ := Nat) (fun k a w' => ∃ u15 : Nat → Value, a = fr [(.slice p_a L_a.length q_a), Ud, (.slice none 0 0), (.slice (some ⟨b3, 0, none⟩) L_a.length L_a.length), (Iv (k : Int)), (.slice p_a L_a.length q_a), (Iv (L_a.length : Int)), (.slice (some ⟨b3, 0, none⟩) L_a.length L_a.length), (u15 8), (u15 9), (u15 10), (u15 11), (u15 12), (u15 13), (u15 14), (u15 15), (u15 16), (u15 17), (u15 18), (u15 19), (u15 20), (u15 21), Ud] ∧ KpL [b3] w7 w' ∧ Fill RV3 3 w' b3 L_a.length L_a k ∧ (k ≤ L_a.length)) (fun k => L_a.length - k) 0 ?_ ?_
  · refine ⟨fun t => (([(.slice p_a L_a.length q_a), Ud, (.slice none 0 0), (.slice (some ⟨b3, 0, none⟩) L_a.length L_a.length), (Iv 0), (.slice p_a L_a.length q_a), (Iv (L_a.length : Int)), (.slice (some ⟨b3, 0, none⟩) L_a.length L_a.length), Ud, Ud, Ud, Ud, Ud, Ud, Ud, Ud, Ud, Ud, Ud, Ud, Ud, Ud, Ud] : List Value)[t]?).getD undef, rfl, KpL.refl _ _, hF0, ?_⟩
    exact Nat.zero_le _
  · rintro k a w16 ⟨u15, rfl, E17, hF18, hk⟩
    have X19 := Below.kl X12 E17 (allS g11 all0) (Nat.le_refl _)
    refine wp_seq_k fun K20 hK20 => ?_
    refine wp_seq_k fun K21 hK21 => ?_
    refine wp_region_lit ?_
    refine q_is (l' := [(.slice p_a L_a.length q_a), Ud, (.slice none 0 0), (.slice (some ⟨b3, 0, none⟩) L_a.length L_a.length), (Iv (k : Int)), (.slice p_a L_a.length q_a), (Iv (L_a.length : Int)), (.slice (some ⟨b3, 0, none⟩) L_a.length L_a.length), (Iv (k : Int)), (u15 9), (u15 10), (u15 11), (u15 12), (u15 13), (u15 14), (u15 15), (u15 16), (u15 17), (u15 18), (u15 19), (u15 20), (u15 21), Ud]) rfl rfl (does_move (u := (Iv (k : Int))) (ev rfl)) rfl ?_
    refine q_is (l' := [(.slice p_a L_a.length q_a), Ud, (.slice none 0 0), (.slice (some ⟨b3, 0, none⟩) L_a.length L_a.length), (Iv (k : Int)), (.slice p_a L_a.length q_a), (Iv (L_a.length : Int)), (.slice (some ⟨b3, 0, none⟩) L_a.length L_a.length), (Iv (k : Int)), (.slice p_a L_a.length q_a), (u15 10), (u15 11), (u15 12), (u15 13), (u15 14), (u15 15), (u15 16), (u15 17), (u15 18), (u15 19), (u15 20), (u15 21), Ud]) rfl rfl (does_move (u := (.slice p_a L_a.length q_a)) (ev rfl)) rfl ?_
    refine q_is (l' := [(.slice p_a L_a.length q_a), Ud, (.slice none 0 0), (.slice (some ⟨b3, 0, none⟩) L_a.length L_a.length), (Iv (k : Int)), (.slice p_a L_a.length q_a), (Iv (L_a.length : Int)), (.slice (some ⟨b3, 0, none⟩) L_a.length L_a.length), (Iv (k : Int)), (.slice p_a L_a.length q_a), (Iv (L_a.length : Int)), (u15 11), (u15 12), (u15 13), (u15 14), (u15 15), (u15 16), (u15 17), (u15 18), (u15 19), (u15 20), (u15 21), Ud]) rfl rfl (does_len_slice Try.underlying22 (ev rfl)) rfl ?_
    refine q_is (l' := [(.slice p_a L_a.length q_a), Ud, (.slice none 0 0), (.slice (some ⟨b3, 0, none⟩) L_a.length L_a.length), (Iv (k : Int)), (.slice p_a L_a.length q_a), (Iv (L_a.length : Int)), (.slice (some ⟨b3, 0, none⟩) L_a.length L_a.length), (Iv (k : Int)), (.slice p_a L_a.length q_a), (Iv (L_a.length : Int)), (Bo (icmp .lss (k : Int) (L_a.length : Int))), (u15 12), (u15 13), (u15 14), (u15 15), (u15 16), (u15 17), (u15 18), (u15 19), (u15 20), (u15 21), Ud]) rfl rfl (does_icmp (p := (k : Int)) (q := (L_a.length : Int)) (.inr (.inr (.inl rfl))) (ev rfl) (ev rfl)) rfl ?_
    refine wpList_nil (hK21 _ _ ?_)
    refine wp_cond_split (t := icmp .lss (k : Int) (L_a.length : Int)) (ev rfl) (fun c22 => ?_) (fun c22 => ?_)
    · have c22' := c22
      (try simp only [icmp, Bool.and_eq_true, Bool.or_eq_true, Bool.and_eq_false_iff, Bool.or_eq_false_iff, Bool.not_eq_true', Bool.not_eq_false', decide_eq_true_eq, decide_eq_false_iff_not, beq_iff_eq, bne_iff_ne, beq_eq_false_iff_ne, bne_eq_false_iff_eq] at c22')
      refine wp_skip (hK20 _ _ ?_)
      refine wp_seq_k fun K23 hK23 => ?_
      refine wp_block ?_
      refine wp_region_lit ?_
      refine q_is (l' := [(.slice p_a L_a.length q_a), Ud, (.slice none 0 0), (.slice (some ⟨b3, 0, none⟩) L_a.length L_a.length), (Iv (k : Int)), (.slice p_a L_a.length q_a), (Iv (L_a.length : Int)), (.slice (some ⟨b3, 0, none⟩) L_a.length L_a.length), (Iv (k : Int)), (.slice p_a L_a.length q_a), (Iv (L_a.length : Int)), (Bo (icmp .lss (k : Int) (L_a.length : Int))), (u15 12), (u15 13), (.slice (some ⟨b3, 0, none⟩) L_a.length L_a.length), (u15 15), (u15 16), (u15 17), (u15 18), (u15 19), (u15 20), (u15 21), Ud]) rfl rfl (does_move (u := (.slice (some ⟨b3, 0, none⟩) L_a.length L_a.length)) (ev rfl)) rfl ?_
      refine q_is (l' := [(.slice p_a L_a.length q_a), Ud, (.slice none 0 0), (.slice (some ⟨b3, 0, none⟩) L_a.length L_a.length), (Iv (k : Int)), (.slice p_a L_a.length q_a), (Iv (L_a.length : Int)), (.slice (some ⟨b3, 0, none⟩) L_a.length L_a.length), (Iv (k : Int)), (.slice p_a L_a.length q_a), (Iv (L_a.length : Int)), (Bo (icmp .lss (k : Int) (L_a.length : Int))), (u15 12), (u15 13), (.slice (some ⟨b3, 0, none⟩) L_a.length L_a.length), (Iv (k : Int)), (u15 16), (u15 17), (u15 18), (u15 19), (u15 20), (u15 21), Ud]) rfl rfl (does_move (u := (Iv (k : Int))) (ev rfl)) rfl ?_
      refine q_is (l' := [(.slice p_a L_a.length q_a), Ud, (.slice none 0 0), (.slice (some ⟨b3, 0, none⟩) L_a.length L_a.length), (Iv (k : Int)), (.slice p_a L_a.length q_a), (Iv (L_a.length : Int)), (.slice (some ⟨b3, 0, none⟩) L_a.length L_a.length), (Iv (k : Int)), (.slice p_a L_a.length q_a), (Iv (L_a.length : Int)), (Bo (icmp .lss (k : Int) (L_a.length : Int))), (u15 12), (u15 13), (.slice (some ⟨b3, 0, none⟩) L_a.length L_a.length), (Iv (k : Int)), (.slice p_a L_a.length q_a), (u15 17), (u15 18), (u15 19), (u15 20), (u15 21), Ud]) rfl rfl (does_move (u := (.slice p_a L_a.length q_a)) (ev rfl)) rfl ?_
      refine q_is (l' := [(.slice p_a L_a.length q_a), Ud, (.slice none 0 0), (.slice (some ⟨b3, 0, none⟩) L_a.length L_a.length), (Iv (k : Int)), (.slice p_a L_a.length q_a), (Iv (L_a.length : Int)), (.slice (some ⟨b3, 0, none⟩) L_a.length L_a.length), (Iv (k : Int)), (.slice p_a L_a.length q_a), (Iv (L_a.length : Int)), (Bo (icmp .lss (k : Int) (L_a.length : Int))), (u15 12), (u15 13), (.slice (some ⟨b3, 0, none⟩) L_a.length L_a.length), (Iv (k : Int)), (.slice p_a L_a.length q_a), (Iv (k : Int)), (u15 18), (u15 19), (u15 20), (u15 21), Ud]) rfl rfl (does_move (u := (Iv (k : Int))) (ev rfl)) rfl ?_
      obtain ⟨el1, hel1⟩ : ∃ e, L_a[k]? = some e := ⟨_, List.getElem?_eq_getElem (by omega)⟩
      refine seqd rfl rfl (does_indexSl (R := RV3) (i := (k : Int)) (xs := L_a) (e := el1) Try.underlying22 Try.sizeOf41 (ev rfl) (ev rfl) (Sl.ext hv_a RV3.mono X19) (by omega) hel1) ?_; rintro _ w16 ⟨b24, o25, _, rfl, hc27, ⟨r28, r30, r32, rfl, h29, h31, h33⟩, rfl⟩
      show wpList _ _ _ _ (fr [(.slice p_a L_a.length q_a), Ud, (.slice none 0 0), (.slice (some ⟨b3, 0, none⟩) L_a.length L_a.length), (Iv (k : Int)), (.slice p_a L_a.length q_a), (Iv (L_a.length : Int)), (.slice (some ⟨b3, 0, none⟩) L_a.length L_a.length), (Iv (k : Int)), (.slice p_a L_a.length q_a), (Iv (L_a.length : Int)), (Bo (icmp .lss (k : Int) (L_a.length : Int))), (u15 12), (u15 13), (.slice (some ⟨b3, 0, none⟩) L_a.length L_a.length), (Iv (k : Int)), (.slice p_a L_a.length q_a), (Iv (k : Int)), (Pt b24 o25), (u15 19), (u15 20), (u15 21), Ud]) _
      refine q_is (l' := [(.slice p_a L_a.length q_a), Ud, (.slice none 0 0), (.slice (some ⟨b3, 0, none⟩) L_a.length L_a.length), (Iv (k : Int)), (.slice p_a L_a.length q_a), (Iv (L_a.length : Int)), (.slice (some ⟨b3, 0, none⟩) L_a.length L_a.length), (Iv (k : Int)), (.slice p_a L_a.length q_a), (Iv (L_a.length : Int)), (Bo (icmp .lss (k : Int) (L_a.length : Int))), (u15 12), (u15 13), (.slice (some ⟨b3, 0, none⟩) L_a.length L_a.length), (Iv (k : Int)), (.slice p_a L_a.length q_a), (Iv (k : Int)), (Pt b24 o25), (.agg #[(Fl r28), (Fl r30), (Fl r32)]), (u15 20), (u15 21), Ud]) rfl rfl (does_loadAgg (cs := [(Fl r28), (Fl r30), (Fl r32)]) (ev rfl) Try.isAgg41 Try.sizeOf41 hc27 rfl) rfl ?_
      refine seqd rfl rfl (does_call (args := #[(.agg #[(Fl r28), (Fl r30), (Fl r32)])]) cal37 (evs rfl) (c_laws_toVector [(Fl r28), (Fl r30), (Fl r32)] el1 _ ⟨r28, r30, r32, rfl, h29, h31, h33⟩)) ?_; rintro _ w35 ⟨E34, ⟨_, rfl, ⟨r36, r38, r40, rfl, h37, h39, h41⟩⟩⟩
      have X42 := Ext.gr X19 E34
      show wpList _ _ _ _ (fr [(.slice p_a L_a.length q_a), Ud, (.slice none 0 0), (.slice (some ⟨b3, 0, none⟩) L_a.length L_a.length), (Iv (k : Int)), (.slice p_a L_a.length q_a), (Iv (L_a.length : Int)), (.slice (some ⟨b3, 0, none⟩) L_a.length L_a.length), (Iv (k : Int)), (.slice p_a L_a.length q_a), (Iv (L_a.length : Int)), (Bo (icmp .lss (k : Int) (L_a.length : Int))), (u15 12), (u15 13), (.slice (some ⟨b3, 0, none⟩) L_a.length L_a.length), (Iv (k : Int)), (.slice p_a L_a.length q_a), (Iv (k : Int)), (Pt b24 o25), (.agg #[(Fl r28), (Fl r30), (Fl r32)]), (.agg #[(Fl r36), (Fl r38), (Fl r40)]), (u15 21), Ud]) _
      refine q_is (l' := [(.slice p_a L_a.length q_a), Ud, (.slice none 0 0), (.slice (some ⟨b3, 0, none⟩) L_a.length L_a.length), (Iv (k : Int)), (.slice p_a L_a.length q_a), (Iv (L_a.length : Int)), (.slice (some ⟨b3, 0, none⟩) L_a.length L_a.length), (Iv (k : Int)), (.slice p_a L_a.length q_a), (Iv (L_a.length : Int)), (Bo (icmp .lss (k : Int) (L_a.length : Int))), (u15 12), (u15 13), (.slice (some ⟨b3, 0, none⟩) L_a.length L_a.length), (Iv (k : Int)), (.slice p_a L_a.length q_a), (Iv (k : Int)), (Pt b24 o25), (.agg #[(Fl r28), (Fl r30), (Fl r32)]), (.agg #[(Fl r36), (Fl r38), (Fl r40)]), (Pt b3 (k * 3)), Ud]) rfl rfl (does_indexOwn (b := b3) (n := L_a.length) (i := (k : Int)) Try.underlying30 Try.sizeOf47 (ev rfl) (ev rfl) (by omega) (by omega)) rfl ?_
      refine seqn rfl rfl (does_fill (R := RV3) (k := 3) (n := L_a.length) (j := k) (xs := L_a) (u := (.agg #[(Fl r36), (Fl r38), (Fl r40)])) (e := el1) (ev rfl) (ev rfl) Try.sizeOf47 rfl rfl (Fill.ext hF18 RV3.mono E34) (by omega) hel1 (fun _ => ⟨r36, r38, r40, rfl, h37, h39, h41⟩) (fun _ _ _ _ h => h)) ?_; rintro _ w45 ⟨rfl, W43, hF44⟩
      have X46 := Below.wr X42 W43 g11
      refine wpList_nil (hK23 _ _ ?_)
      refine wp_region_lit ?_
      refine q_is (l' := [(.slice p_a L_a.length q_a), Ud, (.slice none 0 0), (.slice (some ⟨b3, 0, none⟩) L_a.length L_a.length), (Iv (k : Int)), (.slice p_a L_a.length q_a), (Iv (L_a.length : Int)), (.slice (some ⟨b3, 0, none⟩) L_a.length L_a.length), (Iv (k : Int)), (.slice p_a L_a.length q_a), (Iv (L_a.length : Int)), (Bo (icmp .lss (k : Int) (L_a.length : Int))), (Iv (k : Int)), (u15 13), (.slice (some ⟨b3, 0, none⟩) L_a.length L_a.length), (Iv (k : Int)), (.slice p_a L_a.length q_a), (Iv (k : Int)), (Pt b24 o25), (.agg #[(Fl r28), (Fl r30), (Fl r32)]), (.agg #[(Fl r36), (Fl r38), (Fl r40)]), (Pt b3 (k * 3)), Ud]) rfl rfl (does_move (u := (Iv (k : Int))) (ev rfl)) rfl ?_
      refine q_is (l' := [(.slice p_a L_a.length q_a), Ud, (.slice none 0 0), (.slice (some ⟨b3, 0, none⟩) L_a.length L_a.length), (Iv (k : Int)), (.slice p_a L_a.length q_a), (Iv (L_a.length : Int)), (.slice (some ⟨b3, 0, none⟩) L_a.length L_a.length), (Iv (k : Int)), (.slice p_a L_a.length q_a), (Iv (L_a.length : Int)), (Bo (icmp .lss (k : Int) (L_a.length : Int))), (Iv (k : Int)), (Iv ((k : Int) + 1)), (.slice (some ⟨b3, 0, none⟩) L_a.length L_a.length), (Iv (k : Int)), (.slice p_a L_a.length q_a), (Iv (k : Int)), (Pt b24 o25), (.agg #[(Fl r28), (Fl r30), (Fl r32)]), (.agg #[(Fl r36), (Fl r38), (Fl r40)]), (Pt b3 (k * 3)), Ud]) rfl rfl (does_iarith (p := (k : Int)) (q := 1) (r := (k : Int) + 1) (ev rfl) (ev rfl) (.inl ⟨rfl, (in_i64 (by omega) (by omega)).symm⟩)) rfl ?_
      refine q_is (l' := [(.slice p_a L_a.length q_a), Ud, (.slice none 0 0), (.slice (some ⟨b3, 0, none⟩) L_a.length L_a.length), (Iv ((k : Int) + 1)), (.slice p_a L_a.length q_a), (Iv (L_a.length : Int)), (.slice (some ⟨b3, 0, none⟩) L_a.length L_a.length), (Iv (k : Int)), (.slice p_a L_a.length q_a), (Iv (L_a.length : Int)), (Bo (icmp .lss (k : Int) (L_a.length : Int))), (Iv (k : Int)), (Iv ((k : Int) + 1)), (.slice (some ⟨b3, 0, none⟩) L_a.length L_a.length), (Iv (k : Int)), (.slice p_a L_a.length q_a), (Iv (k : Int)), (Pt b24 o25), (.agg #[(Fl r28), (Fl r30), (Fl r32)]), (.agg #[(Fl r36), (Fl r38), (Fl r40)]), (Pt b3 (k * 3)), Ud]) rfl rfl (does_assign (u := (Iv ((k : Int) + 1))) (ev rfl)) rfl ?_
      refine wpList_nil ?_
      refine ⟨k + 1, ⟨fun t => (([(.slice p_a L_a.length q_a), Ud, (.slice none 0 0), (.slice (some ⟨b3, 0, none⟩) L_a.length L_a.length), (Iv ((k : Int) + 1)), (.slice p_a L_a.length q_a), (Iv (L_a.length : Int)), (.slice (some ⟨b3, 0, none⟩) L_a.length L_a.length), (Iv (k : Int)), (.slice p_a L_a.length q_a), (Iv (L_a.length : Int)), (Bo (icmp .lss (k : Int) (L_a.length : Int))), (Iv (k : Int)), (Iv ((k : Int) + 1)), (.slice (some ⟨b3, 0, none⟩) L_a.length L_a.length), (Iv (k : Int)), (.slice p_a L_a.length q_a), (Iv (k : Int)), (Pt b24 o25), (.agg #[(Fl r28), (Fl r30), (Fl r32)]), (.agg #[(Fl r36), (Fl r38), (Fl r40)]), (Pt b3 (k * 3)), Ud] : List Value)[t]?).getD undef, ?_, (KpL.more (KpL.ext E17 E34) (KpL.of_wr W43) (allS (.inl (by simp)) all0)), hF44, ?_⟩, ?_⟩
      · first | rfl | (simp only [Int.natCast_add, Int.natCast_one]; rfl)
      · omega
      · omega
    have c22' := c22
    (try simp only [icmp, Bool.and_eq_true, Bool.or_eq_true, Bool.and_eq_false_iff, Bool.or_eq_false_iff, Bool.not_eq_true', Bool.not_eq_false', decide_eq_true_eq, decide_eq_false_iff_not, beq_iff_eq, bne_iff_ne, beq_eq_false_iff_ne, bne_eq_false_iff_eq] at c22')
    refine wp_exit ?_
    refine hK13 _ _ ?_
    refine wp_seq_k fun K47 hK47 => ?_
    refine wp_region_lit ?_
    refine q_is (l' := [(.slice p_a L_a.length q_a), Ud, (.slice none 0 0), (.slice (some ⟨b3, 0, none⟩) L_a.length L_a.length), (Iv (k : Int)), (.slice p_a L_a.length q_a), (Iv (L_a.length : Int)), (.slice (some ⟨b3, 0, none⟩) L_a.length L_a.length), (Iv (k : Int)), (.slice p_a L_a.length q_a), (Iv (L_a.length : Int)), (Bo (icmp .lss (k : Int) (L_a.length : Int))), (u15 12), (u15 13), (u15 14), (u15 15), (u15 16), (u15 17), (u15 18), (u15 19), (u15 20), (u15 21), (.slice (some ⟨b3, 0, none⟩) L_a.length L_a.length)]) rfl rfl (does_move (u := (.slice (some ⟨b3, 0, none⟩) L_a.length L_a.length)) (ev rfl)) rfl ?_
    refine q_is (l' := [(.slice p_a L_a.length q_a), Ud, (.slice (some ⟨b3, 0, none⟩) L_a.length L_a.length), (.slice (some ⟨b3, 0, none⟩) L_a.length L_a.length), (Iv (k : Int)), (.slice p_a L_a.length q_a), (Iv (L_a.length : Int)), (.slice (some ⟨b3, 0, none⟩) L_a.length L_a.length), (Iv (k : Int)), (.slice p_a L_a.length q_a), (Iv (L_a.length : Int)), (Bo (icmp .lss (k : Int) (L_a.length : Int))), (u15 12), (u15 13), (u15 14), (u15 15), (u15 16), (u15 17), (u15 18), (u15 19), (u15 20), (u15 21), (.slice (some ⟨b3, 0, none⟩) L_a.length L_a.length)]) rfl rfl (does_assign (u := (.slice (some ⟨b3, 0, none⟩) L_a.length L_a.length)) (ev rfl)) rfl ?_
    refine wpList_nil (hK47 _ _ ?_)
    refine wp_ret ?_
    refine ret_val (v := (.slice (some ⟨b3, 0, none⟩) L_a.length L_a.length)) (res_T rfl (slot rfl)) X19 ?_
    exact ⟨(.slice (some ⟨b3, 0, none⟩) L_a.length L_a.length), [b3], rfl, (Fill.hang hF18 RV3.flat g11 (by omega) rfl (by omega) (by decide)), (Fill.wl hF18 g11)⟩

/- laws.toInt64S -/
theorem c_laws_toInt64S (a : Value) (L_a : List Int) (w : World) (hv_a : Sl RI 1 w a L_a) (hsz : L_a.length ≤ 1048576) : Gives Try.prog 48 #[a] w (fun v w' => ∃ y_1 : Value, ∃ Lw_2 : List Nat, v = y_1 ∧ Hang w.heap.size w' (fun u => Sl RI 1 u y_1 L_a) ∧ WL 1 w.heap.size w' Lw_2 y_1 L_a.length) := by
  have hlen_a := Sl.len hv_a; obtain ⟨p_a, q_a, rfl⟩ := Sl.shape hv_a
  refine enter [(.slice p_a L_a.length q_a), Ud, Ud, Ud, Ud, Ud, Ud, Ud, Ud, Ud, Ud, Ud, Ud, Ud, Ud, Ud, Ud, Ud, Ud, Ud, Ud, Ud] Try.func48 rfl Try.ntmps48 rfl ?_
  refine wp_seq_k fun K1 hK1 => ?_
  refine wp_region_lit ?_
  refine q_is (l' := [(.slice p_a L_a.length q_a), Ud, (.slice none 0 0), Ud, Ud, Ud, Ud, Ud, Ud, Ud, Ud, Ud, Ud, Ud, Ud, Ud, Ud, Ud, Ud, Ud, Ud, Ud]) rfl rfl (does_assign (u := (.slice none 0 0)) (ev rfl)) rfl ?_
  refine wpList_nil (hK1 _ _ ?_)
  refine wp_seq_k fun K2 hK2 => ?_
  refine wp_region_lit ?_
  refine q_is (l' := [(.slice p_a L_a.length q_a), Ud, (.slice none 0 0), Ud, Ud, (.slice p_a L_a.length q_a), Ud, Ud, Ud, Ud, Ud, Ud, Ud, Ud, Ud, Ud, Ud, Ud, Ud, Ud, Ud, Ud]) rfl rfl (does_move (u := (.slice p_a L_a.length q_a)) (ev rfl)) rfl ?_
  refine q_is (l' := [(.slice p_a L_a.length q_a), Ud, (.slice none 0 0), Ud, Ud, (.slice p_a L_a.length q_a), (Iv (L_a.length : Int)), Ud, Ud, Ud, Ud, Ud, Ud, Ud, Ud, Ud, Ud, Ud, Ud, Ud, Ud, Ud]) rfl rfl (does_len_slice Try.underlying27 (ev rfl)) rfl ?_
  refine seqd rfl rfl (does_makeSlice (n := L_a.length) Try.underlying27 inf2 (ev rfl) (ev rfl) (by omega)) ?_; rintro _ w7 ⟨b3, rfl, hb4, ⟨cs8, hB5, hl9, hz10⟩, E6⟩
  have g11 : w.heap.size ≤ b3 := Nat.le_trans (Below.size (Ext.refl w)) hb4
  have X12 := Ext.gr (Ext.refl w) E6
  show wpList _ _ _ _ (fr [(.slice p_a L_a.length q_a), Ud, (.slice none 0 0), Ud, Ud, (.slice p_a L_a.length q_a), (Iv (L_a.length : Int)), (.slice (some ⟨b3, 0, none⟩) L_a.length L_a.length), Ud, Ud, Ud, Ud, Ud, Ud, Ud, Ud, Ud, Ud, Ud, Ud, Ud, Ud]) _
  refine q_is (l' := [(.slice p_a L_a.length q_a), Ud, (.slice none 0 0), (.slice (some ⟨b3, 0, none⟩) L_a.length L_a.length), Ud, (.slice p_a L_a.length q_a), (Iv (L_a.length : Int)), (.slice (some ⟨b3, 0, none⟩) L_a.length L_a.length), Ud, Ud, Ud, Ud, Ud, Ud, Ud, Ud, Ud, Ud, Ud, Ud, Ud, Ud]) rfl rfl (does_assign (u := (.slice (some ⟨b3, 0, none⟩) L_a.length L_a.length)) (ev rfl)) rfl ?_
  refine wpList_nil (hK2 _ _ ?_)
  refine wp_seq_k fun K13 hK13 => ?_
  refine wp_seq_k fun K14 hK14 => ?_
  refine wp_region_lit ?_
  refine q_is (l' := [(.slice p_a L_a.length q_a), Ud, (.slice none 0 0), (.slice (some ⟨b3, 0, none⟩) L_a.length L_a.length), (Iv 0), (.slice p_a L_a.length q_a), (Iv (L_a.length : Int)), (.slice (some ⟨b3, 0, none⟩) L_a.length L_a.length), Ud, Ud, Ud, Ud, Ud, Ud, Ud, Ud, Ud, Ud, Ud, Ud, Ud, Ud]) rfl rfl (does_assign (u := (Iv 0)) (ev rfl)) rfl ?_
  refine wpList_nil (hK14 _ _ ?_)
  refine wp_block ?_
  have hF0 : Fill RI 1 w7 b3 L_a.length L_a 0 := Fill.zero hB5 hl9
  refine loop_ghost (σ := Nat) (fun k a w' => ∃ u15 : Nat → Value, a = fr [(.slice p_a L_a.length q_a), Ud, (.slice none 0 0), (.slice (some ⟨b3, 0, none⟩) L_a.length L_a.length), (Iv (k : Int)), (.slice p_a L_a.length q_a), (Iv (L_a.length : Int)), (.slice (some ⟨b3, 0, none⟩) L_a.length L_a.length), (u15 8), (u15 9), (u15 10), (u15 11), (u15 12), (u15 13), (u15 14), (u15 15), (u15 16), (u15 17), (u15 18), (u15 19), (u15 20), Ud] ∧ KpL [b3] w7 w' ∧ Fill RI 1 w' b3 L_a.length L_a k ∧ (k ≤ L_a.length)) (fun k => L_a.length - k) 0 ?_ ?_
  · refine ⟨fun t => (([(.slice p_a L_a.length q_a), Ud, (.slice none 0 0), (.slice (some ⟨b3, 0, none⟩) L_a.length L_a.length), (Iv 0), (.slice p_a L_a.length q_a), (Iv (L_a.length : Int)), (.slice (some ⟨b3, 0, none⟩) L_a.length L_a.length), Ud, Ud, Ud, Ud, Ud, Ud, Ud, Ud, Ud, Ud, Ud, Ud, Ud, Ud] : List Value)[t]?).getD undef, rfl, KpL.refl _ _, hF0, ?_⟩
    exact Nat.zero_le _
  · rintro k a w16 ⟨u15, rfl, E17, hF18, hk⟩
    have X19 := Below.kl X12 E17 (allS g11 all0) (Nat.le_refl _)
    refine wp_seq_k fun K20 hK20 => ?_
    refine wp_seq_k fun K21 hK21 => ?_
    refine wp_region_lit ?_
    refine q_is (l' := [(.slice p_a L_a.length q_a), Ud, (.slice none 0 0), (.slice (some ⟨b3, 0, none⟩) L_a.length L_a.length), (Iv (k : Int)), (.slice p_a L_a.length q_a), (Iv (L_a.length : Int)), (.slice (some ⟨b3, 0, none⟩) L_a.length L_a.length), (Iv (k : Int)), (u15 9), (u15 10), (u15 11), (u15 12), (u15 13), (u15 14), (u15 15), (u15 16), (u15 17), (u15 18), (u15 19), (u15 20), Ud]) rfl rfl (does_move (u := (Iv (k : Int))) (ev rfl)) rfl ?_
    refine q_is (l' := [(.slice p_a L_a.length q_a), Ud, (.slice none 0 0), (.slice (some ⟨b3, 0, none⟩) L_a.length L_a.length), (Iv (k : Int)), (.slice p_a L_a.length q_a), (Iv (L_a.length : Int)), (.slice (some ⟨b3, 0, none⟩) L_a.length L_a.length), (Iv (k : Int)), (.slice p_a L_a.length q_a), (u15 10), (u15 11), (u15 12), (u15 13), (u15 14), (u15 15), (u15 16), (u15 17), (u15 18), (u15 19), (u15 20), Ud]) rfl rfl (does_move (u := (.slice p_a L_a.length q_a)) (ev rfl)) rfl ?_
    refine q_is (l' := [(.slice p_a L_a.length q_a), Ud, (.slice none 0 0), (.slice (some ⟨b3, 0, none⟩) L_a.length L_a.length), (Iv (k : Int)), (.slice p_a L_a.length q_a), (Iv (L_a.length : Int)), (.slice (some ⟨b3, 0, none⟩) L_a.length L_a.length), (Iv (k : Int)), (.slice p_a L_a.length q_a), (Iv (L_a.length : Int)), (u15 11), (u15 12), (u15 13), (u15 14), (u15 15), (u15 16), (u15 17), (u15 18), (u15 19), (u15 20), Ud]) rfl rfl (does_len_slice Try.underlying27 (ev rfl)) rfl ?_
    refine q_is (l' := [(.slice p_a L_a.length q_a), Ud, (.slice none 0 0), (.slice (some ⟨b3, 0, none⟩) L_a.length L_a.length), (Iv (k : Int)), (.slice p_a L_a.length q_a), (Iv (L_a.length : Int)), (.slice (some ⟨b3, 0, none⟩) L_a.length L_a.length), (Iv (k : Int)), (.slice p_a L_a.length q_a), (Iv (L_a.length : Int)), (Bo (icmp .lss (k : Int) (L_a.length : Int))), (u15 12), (u15 13), (u15 14), (u15 15), (u15 16), (u15 17), (u15 18), (u15 19), (u15 20), Ud]) rfl rfl (does_icmp (p := (k : Int)) (q := (L_a.length : Int)) (.inr (.inr (.inl rfl))) (ev rfl) (ev rfl)) rfl ?_
    refine wpList_nil (hK21 _ _ ?_)
    refine wp_cond_split (t := icmp .lss (k : Int) (L_a.length : Int)) (ev rfl) (fun c22 => ?_) (fun c22 => ?_)
    · have c22' := c22
      (try simp only [icmp, Bool.and_eq_true, Bool.or_eq_true, Bool.and_eq_false_iff, Bool.or_eq_false_iff, Bool.not_eq_true', Bool.not_eq_false', decide_eq_true_eq, decide_eq_false_iff_not, beq_iff_eq, bne_iff_ne, beq_eq_false_iff_ne, bne_eq_false_iff_eq] at c22')
      refine wp_skip (hK20 _ _ ?_)
      refine wp_seq_k fun K23 hK23 => ?_
      refine wp_block ?_
      refine wp_region_lit ?_
      refine q_is (l' := [(.slice p_a L_a.length q_a), Ud, (.slice none 0 0), (.slice (some ⟨b3, 0, none⟩) L_a.length L_a.length), (Iv (k : Int)), (.slice p_a L_a.length q_a), (Iv (L_a.length : Int)), (.slice (some ⟨b3, 0, none⟩) L_a.length L_a.length), (Iv (k : Int)), (.slice p_a L_a.length q_a), (Iv (L_a.length : Int)), (Bo (icmp .lss (k : Int) (L_a.length : Int))), (u15 12), (u15 13), (.slice (some ⟨b3, 0, none⟩) L_a.length L_a.length), (u15 15), (u15 16), (u15 17), (u15 18), (u15 19), (u15 20), Ud]) rfl rfl (does_move (u := (.slice (some ⟨b3, 0, none⟩) L_a.length L_a.length)) (ev rfl)) rfl ?_
      refine q_is (l' := [(.slice p_a L_a.length q_a), Ud, (.slice none 0 0), (.slice (some ⟨b3, 0, none⟩) L_a.length L_a.length), (Iv (k : Int)), (.slice p_a L_a.length q_a), (Iv (L_a.length : Int)), (.slice (some ⟨b3, 0, none⟩) L_a.length L_a.length), (Iv (k : Int)), (.slice p_a L_a.length q_a), (Iv (L_a.length : Int)), (Bo (icmp .lss (k : Int) (L_a.length : Int))), (u15 12), (u15 13), (.slice (some ⟨b3, 0, none⟩) L_a.length L_a.length), (Iv (k : Int)), (u15 16), (u15 17), (u15 18), (u15 19), (u15 20), Ud]) rfl rfl (does_move (u := (Iv (k : Int))) (ev rfl)) rfl ?_
      refine q_is (l' := [(.slice p_a L_a.length q_a), Ud, (.slice none 0 0), (.slice (some ⟨b3, 0, none⟩) L_a.length L_a.length), (Iv (k : Int)), (.slice p_a L_a.length q_a), (Iv (L_a.length : Int)), (.slice (some ⟨b3, 0, none⟩) L_a.length L_a.length), (Iv (k : Int)), (.slice p_a L_a.length q_a), (Iv (L_a.length : Int)), (Bo (icmp .lss (k : Int) (L_a.length : Int))), (u15 12), (u15 13), (.slice (some ⟨b3, 0, none⟩) L_a.length L_a.length), (Iv (k : Int)), (.slice p_a L_a.length q_a), (u15 17), (u15 18), (u15 19), (u15 20), Ud]) rfl rfl (does_move (u := (.slice p_a L_a.length q_a)) (ev rfl)) rfl ?_
      refine q_is (l' := [(.slice p_a L_a.length q_a), Ud, (.slice none 0 0), (.slice (some ⟨b3, 0, none⟩) L_a.length L_a.length), (Iv (k : Int)), (.slice p_a L_a.length q_a), (Iv (L_a.length : Int)), (.slice (some ⟨b3, 0, none⟩) L_a.length L_a.length), (Iv (k : Int)), (.slice p_a L_a.length q_a), (Iv (L_a.length : Int)), (Bo (icmp .lss (k : Int) (L_a.length : Int))), (u15 12), (u15 13), (.slice (some ⟨b3, 0, none⟩) L_a.length L_a.length), (Iv (k : Int)), (.slice p_a L_a.length q_a), (Iv (k : Int)), (u15 18), (u15 19), (u15 20), Ud]) rfl rfl (does_move (u := (Iv (k : Int))) (ev rfl)) rfl ?_
      obtain ⟨el1, hel1⟩ : ∃ e, L_a[k]? = some e := ⟨_, List.getElem?_eq_getElem (by omega)⟩
      refine seqd rfl rfl (does_indexSl (R := RI) (i := (k : Int)) (xs := L_a) (e := el1) Try.underlying27 Try.sizeOf2 (ev rfl) (ev rfl) (Sl.ext hv_a RI.mono X19) (by omega) hel1) ?_; rintro _ w16 ⟨b24, o25, _, rfl, hc27, rfl, rfl⟩
      show wpList _ _ _ _ (fr [(.slice p_a L_a.length q_a), Ud, (.slice none 0 0), (.slice (some ⟨b3, 0, none⟩) L_a.length L_a.length), (Iv (k : Int)), (.slice p_a L_a.length q_a), (Iv (L_a.length : Int)), (.slice (some ⟨b3, 0, none⟩) L_a.length L_a.length), (Iv (k : Int)), (.slice p_a L_a.length q_a), (Iv (L_a.length : Int)), (Bo (icmp .lss (k : Int) (L_a.length : Int))), (u15 12), (u15 13), (.slice (some ⟨b3, 0, none⟩) L_a.length L_a.length), (Iv (k : Int)), (.slice p_a L_a.length q_a), (Iv (k : Int)), (Pt b24 o25), (u15 19), (u15 20), Ud]) _
      refine q_is (l' := [(.slice p_a L_a.length q_a), Ud, (.slice none 0 0), (.slice (some ⟨b3, 0, none⟩) L_a.length L_a.length), (Iv (k : Int)), (.slice p_a L_a.length q_a), (Iv (L_a.length : Int)), (.slice (some ⟨b3, 0, none⟩) L_a.length L_a.length), (Iv (k : Int)), (.slice p_a L_a.length q_a), (Iv (L_a.length : Int)), (Bo (icmp .lss (k : Int) (L_a.length : Int))), (u15 12), (u15 13), (.slice (some ⟨b3, 0, none⟩) L_a.length L_a.length), (Iv (k : Int)), (.slice p_a L_a.length q_a), (Iv (k : Int)), (Pt b24 o25), (Iv el1), (u15 20), Ud]) rfl rfl (does_load (u := (Iv el1)) (ev rfl) Try.isAgg2 (Cells.at hc27 0 rfl)) rfl ?_
      refine q_is (l' := [(.slice p_a L_a.length q_a), Ud, (.slice none 0 0), (.slice (some ⟨b3, 0, none⟩) L_a.length L_a.length), (Iv (k : Int)), (.slice p_a L_a.length q_a), (Iv (L_a.length : Int)), (.slice (some ⟨b3, 0, none⟩) L_a.length L_a.length), (Iv (k : Int)), (.slice p_a L_a.length q_a), (Iv (L_a.length : Int)), (Bo (icmp .lss (k : Int) (L_a.length : Int))), (u15 12), (u15 13), (.slice (some ⟨b3, 0, none⟩) L_a.length L_a.length), (Iv (k : Int)), (.slice p_a L_a.length q_a), (Iv (k : Int)), (Pt b24 o25), (Iv el1), (Pt b3 (k * 1)), Ud]) rfl rfl (does_indexOwn (b := b3) (n := L_a.length) (i := (k : Int)) Try.underlying27 Try.sizeOf2 (ev rfl) (ev rfl) (by omega) (by omega)) rfl ?_
      refine seqn rfl rfl (does_fill (R := RI) (k := 1) (n := L_a.length) (j := k) (xs := L_a) (u := (Iv el1)) (e := el1) (ev rfl) (ev rfl) Try.sizeOf2 rfl rfl hF18 (by omega) hel1 (fun _ => rfl) (fun _ _ _ _ h => h)) ?_; rintro _ w30 ⟨rfl, W28, hF29⟩
      have X31 := Below.wr X19 W28 g11
      refine wpList_nil (hK23 _ _ ?_)
      refine wp_region_lit ?_
      refine q_is (l' := [(.slice p_a L_a.length q_a), Ud, (.slice none 0 0), (.slice (some ⟨b3, 0, none⟩) L_a.length L_a.length), (Iv (k : Int)), (.slice p_a L_a.length q_a), (Iv (L_a.length : Int)), (.slice (some ⟨b3, 0, none⟩) L_a.length L_a.length), (Iv (k : Int)), (.slice p_a L_a.length q_a), (Iv (L_a.length : Int)), (Bo (icmp .lss (k : Int) (L_a.length : Int))), (Iv (k : Int)), (u15 13), (.slice (some ⟨b3, 0, none⟩) L_a.length L_a.length), (Iv (k : Int)), (.slice p_a L_a.length q_a), (Iv (k : Int)), (Pt b24 o25), (Iv el1), (Pt b3 (k * 1)), Ud]) rfl rfl (does_move (u := (Iv (k : Int))) (ev rfl)) rfl ?_
      refine q_is (l' := [(.slice p_a L_a.length q_a), Ud, (.slice none 0 0), (.slice (some ⟨b3, 0, none⟩) L_a.length L_a.length), (Iv (k : Int)), (.slice p_a L_a.length q_a), (Iv (L_a.length : Int)), (.slice (some ⟨b3, 0, none⟩) L_a.length L_a.length), (Iv (k : Int)), (.slice p_a L_a.length q_a), (Iv (L_a.length : Int)), (Bo (icmp .lss (k : Int) (L_a.length : Int))), (Iv (k : Int)), (Iv ((k : Int) + 1)), (.slice (some ⟨b3, 0, none⟩) L_a.length L_a.length), (Iv (k : Int)), (.slice p_a L_a.length q_a), (Iv (k : Int)), (Pt b24 o25), (Iv el1), (Pt b3 (k * 1)), Ud]) rfl rfl (does_iarith (p := (k : Int)) (q := 1) (r := (k : Int) + 1) (ev rfl) (ev rfl) (.inl ⟨rfl, (in_i64 (by omega) (by omega)).symm⟩)) rfl ?_
      refine q_is (l' := [(.slice p_a L_a.length q_a), Ud, (.slice none 0 0), (.slice (some ⟨b3, 0, none⟩) L_a.length L_a.length), (Iv ((k : Int) + 1)), (.slice p_a L_a.length q_a), (Iv (L_a.length : Int)), (.slice (some ⟨b3, 0, none⟩) L_a.length L_a.length), (Iv (k : Int)), (.slice p_a L_a.length q_a), (Iv (L_a.length : Int)), (Bo (icmp .lss (k : Int) (L_a.length : Int))), (Iv (k : Int)), (Iv ((k : Int) + 1)), (.slice (some ⟨b3, 0, none⟩) L_a.length L_a.length), (Iv (k : Int)), (.slice p_a L_a.length q_a), (Iv (k : Int)), (Pt b24 o25), (Iv el1), (Pt b3 (k * 1)), Ud]) rfl rfl (does_assign (u := (Iv ((k : Int) + 1))) (ev rfl)) rfl ?_
      refine wpList_nil ?_
      refine ⟨k + 1, ⟨fun t => (([(.slice p_a L_a.length q_a), Ud, (.slice none 0 0), (.slice (some ⟨b3, 0, none⟩) L_a.length L_a.length), (Iv ((k : Int) + 1)), (.slice p_a L_a.length q_a), (Iv (L_a.length : Int)), (.slice (some ⟨b3, 0, none⟩) L_a.length L_a.length), (Iv (k : Int)), (.slice p_a L_a.length q_a), (Iv (L_a.length : Int)), (Bo (icmp .lss (k : Int) (L_a.length : Int))), (Iv (k : Int)), (Iv ((k : Int) + 1)), (.slice (some ⟨b3, 0, none⟩) L_a.length L_a.length), (Iv (k : Int)), (.slice p_a L_a.length q_a), (Iv (k : Int)), (Pt b24 o25), (Iv el1), (Pt b3 (k * 1)), Ud] : List Value)[t]?).getD undef, ?_, (KpL.more E17 (KpL.of_wr W28) (allS (.inl (by simp)) all0)), hF29, ?_⟩, ?_⟩
      · first | rfl | (simp only [Int.natCast_add, Int.natCast_one]; rfl)
      · omega
      · omega
    have c22' := c22
    (try simp only [icmp, Bool.and_eq_true, Bool.or_eq_true, Bool.and_eq_false_iff, Bool.or_eq_false_iff, Bool.not_eq_true', Bool.not_eq_false', decide_eq_true_eq, decide_eq_false_iff_not, beq_iff_eq, bne_iff_ne, beq_eq_false_iff_ne, bne_eq_false_iff_eq] at c22')
    refine wp_exit ?_
    refine hK13 _ _ ?_
    refine wp_seq_k fun K32 hK32 => ?_
    refine wp_region_lit ?_
    refine q_is (l' := [(.slice p_a L_a.length q_a), Ud, (.slice none 0 0), (.slice (some ⟨b3, 0, none⟩) L_a.length L_a.length), (Iv (k : Int)), (.slice p_a L_a.length q_a), (Iv (L_a.length : Int)), (.slice (some ⟨b3, 0, none⟩) L_a.length L_a.length), (Iv (k : Int)), (.slice p_a L_a.length q_a), (Iv (L_a.length : Int)), (Bo (icmp .lss (k : Int) (L_a.length : Int))), (u15 12), (u15 13), (u15 14), (u15 15), (u15 16), (u15 17), (u15 18), (u15 19), (u15 20), (.slice (some ⟨b3, 0, none⟩) L_a.length L_a.length)]) rfl rfl (does_move (u := (.slice (some ⟨b3, 0, none⟩) L_a.length L_a.length)) (ev rfl)) rfl ?_
    refine q_is (l' := [(.slice p_a L_a.length q_a), Ud, (.slice (some ⟨b3, 0, none⟩) L_a.length L_a.length), (.slice (some ⟨b3, 0, none⟩) L_a.length L_a.length), (Iv (k : Int)), (.slice p_a L_a.length q_a), (Iv (L_a.length : Int)), (.slice (some ⟨b3, 0, none⟩) L_a.length L_a.length), (Iv (k : Int)), (.slice p_a L_a.length q_a), (Iv (L_a.length : Int)), (Bo (icmp .lss (k : Int) (L_a.length : Int))), (u15 12), (u15 13), (u15 14), (u15 15), (u15 16), (u15 17), (u15 18), (u15 19), (u15 20), (.slice (some ⟨b3, 0, none⟩) L_a.length L_a.length)]) rfl rfl (does_assign (u := (.slice (some ⟨b3, 0, none⟩) L_a.length L_a.length)) (ev rfl)) rfl ?_
    refine wpList_nil (hK32 _ _ ?_)
    refine wp_ret ?_
    refine ret_val (v := (.slice (some ⟨b3, 0, none⟩) L_a.length L_a.length)) (res_T rfl (slot rfl)) X19 ?_
    exact ⟨(.slice (some ⟨b3, 0, none⟩) L_a.length L_a.length), [b3], rfl, (Fill.hang hF18 RI.flat g11 (by omega) rfl (by omega) (by decide)), (Fill.wl hF18 g11)⟩

/- laws.toInt64SS -/
theorem c_laws_toInt64SS (a : Value) (L_a : List (List Int)) (w : World) (hv_a : Sl (RS RI 1) 1 w a L_a) (hsz : L_a.length ≤ 1048576) (hall : ∀ s ∈ L_a, s.length ≤ 1048576) : Gives Try.prog 25 #[a] w (fun v w' => ∃ y_1 : Value, ∃ Lw_2 : List Nat, v = y_1 ∧ Hang w.heap.size w' (fun u => Sl (RS RI 1) 1 u y_1 L_a) ∧ WLL 1 w.heap.size w' Lw_2 y_1 L_a) := by
  have hlen_a := Sl.len hv_a; obtain ⟨p_a, q_a, rfl⟩ := Sl.shape hv_a
  refine enter [(.slice p_a L_a.length q_a), Ud, Ud, Ud, Ud, Ud, Ud, Ud, Ud, Ud, Ud, Ud, Ud, Ud, Ud, Ud, Ud, Ud, Ud, Ud, Ud, Ud, Ud] Try.func25 rfl Try.ntmps25 rfl ?_
  refine wp_seq_k fun K1 hK1 => ?_
  refine wp_region_lit ?_
  refine q_is (l' := [(.slice p_a L_a.length q_a), Ud, (.slice none 0 0), Ud, Ud, Ud, Ud, Ud, Ud, Ud, Ud, Ud, Ud, Ud, Ud, Ud, Ud, Ud, Ud, Ud, Ud, Ud, Ud]) rfl rfl (does_assign (u := (.slice none 0 0)) (ev rfl)) rfl ?_
  refine wpList_nil (hK1 _ _ ?_)
  refine wp_seq_k fun K2 hK2 => ?_
  refine wp_region_lit ?_
  refine q_is (l' := [(.slice p_a L_a.length q_a), Ud, (.slice none 0 0), Ud, Ud, (.slice p_a L_a.length q_a), Ud, Ud, Ud, Ud, Ud, Ud, Ud, Ud, Ud, Ud, Ud, Ud, Ud, Ud, Ud, Ud, Ud]) rfl rfl (does_move (u := (.slice p_a L_a.length q_a)) (ev rfl)) rfl ?_
  refine q_is (l' := [(.slice p_a L_a.length q_a), Ud, (.slice none 0 0), Ud, Ud, (.slice p_a L_a.length q_a), (Iv (L_a.length : Int)), Ud, Ud, Ud, Ud, Ud, Ud, Ud, Ud, Ud, Ud, Ud, Ud, Ud, Ud, Ud, Ud]) rfl rfl (does_len_slice Try.underlying23 (ev rfl)) rfl ?_
  refine seqd rfl rfl (does_makeSlice (n := L_a.length) Try.underlying23 inf27 (ev rfl) (ev rfl) (by omega)) ?_; rintro _ w7 ⟨b3, rfl, hb4, ⟨cs8, hB5, hl9, hz10⟩, E6⟩
  have g11 : w.heap.size ≤ b3 := Nat.le_trans (Below.size (Ext.refl w)) hb4
  have X12 := Ext.gr (Ext.refl w) E6
  show wpList _ _ _ _ (fr [(.slice p_a L_a.length q_a), Ud, (.slice none 0 0), Ud, Ud, (.slice p_a L_a.length q_a), (Iv (L_a.length : Int)), (.slice (some ⟨b3, 0, none⟩) L_a.length L_a.length), Ud, Ud, Ud, Ud, Ud, Ud, Ud, Ud, Ud, Ud, Ud, Ud, Ud, Ud, Ud]) _
  refine q_is (l' := [(.slice p_a L_a.length q_a), Ud, (.slice none 0 0), (.slice (some ⟨b3, 0, none⟩) L_a.length L_a.length), Ud, (.slice p_a L_a.length q_a), (Iv (L_a.length : Int)), (.slice (some ⟨b3, 0, none⟩) L_a.length L_a.length), Ud, Ud, Ud, Ud, Ud, Ud, Ud, Ud, Ud, Ud, Ud, Ud, Ud, Ud, Ud]) rfl rfl (does_assign (u := (.slice (some ⟨b3, 0, none⟩) L_a.length L_a.length)) (ev rfl)) rfl ?_
  refine wpList_nil (hK2 _ _ ?_)
  refine wp_seq_k fun K13 hK13 => ?_
  refine wp_seq_k fun K14 hK14 => ?_
  refine wp_region_lit ?_
  refine q_is (l' := [(.slice p_a L_a.length q_a), Ud, (.slice none 0 0), (.slice (some ⟨b3, 0, none⟩) L_a.length L_a.length), (Iv 0), (.slice p_a L_a.length q_a), (Iv (L_a.length : Int)), (.slice (some ⟨b3, 0, none⟩) L_a.length L_a.length), Ud, Ud, Ud, Ud, Ud, Ud, Ud, Ud, Ud, Ud, Ud, Ud, Ud, Ud, Ud]) rfl rfl (does_assign (u := (Iv 0)) (ev rfl)) rfl ?_
  refine wpList_nil (hK14 _ _ ?_)
  refine wp_block ?_
  have hF0 : FillN RI 1 w7 b3 L_a.length L_a 0 := FillN.zero hB5 hl9
  refine loop_ghost (σ := Nat) (fun k a w' => ∃ u15 : Nat → Value, a = fr [(.slice p_a L_a.length q_a), Ud, (.slice none 0 0), (.slice (some ⟨b3, 0, none⟩) L_a.length L_a.length), (Iv (k : Int)), (.slice p_a L_a.length q_a), (Iv (L_a.length : Int)), (.slice (some ⟨b3, 0, none⟩) L_a.length L_a.length), (u15 8), (u15 9), (u15 10), (u15 11), (u15 12), (u15 13), (u15 14), (u15 15), (u15 16), (u15 17), (u15 18), (u15 19), (u15 20), (u15 21), Ud] ∧ KpL [b3] w7 w' ∧ FillN RI 1 w' b3 L_a.length L_a k ∧ (k ≤ L_a.length)) (fun k => L_a.length - k) 0 ?_ ?_
  · refine ⟨fun t => (([(.slice p_a L_a.length q_a), Ud, (.slice none 0 0), (.slice (some ⟨b3, 0, none⟩) L_a.length L_a.length), (Iv 0), (.slice p_a L_a.length q_a), (Iv (L_a.length : Int)), (.slice (some ⟨b3, 0, none⟩) L_a.length L_a.length), Ud, Ud, Ud, Ud, Ud, Ud, Ud, Ud, Ud, Ud, Ud, Ud, Ud, Ud, Ud] : List Value)[t]?).getD undef, rfl, KpL.refl _ _, hF0, ?_⟩
    exact Nat.zero_le _
  · rintro k a w16 ⟨u15, rfl, E17, hF18, hk⟩
    have X19 := Below.kl X12 E17 (allS g11 all0) (Nat.le_refl _)
    refine wp_seq_k fun K20 hK20 => ?_
    refine wp_seq_k fun K21 hK21 => ?_
    refine wp_region_lit ?_
    refine q_is (l' := [(.slice p_a L_a.length q_a), Ud, (.slice none 0 0), (.slice (some ⟨b3, 0, none⟩) L_a.length L_a.length), (Iv (k : Int)), (.slice p_a L_a.length q_a), (Iv (L_a.length : Int)), (.slice (some ⟨b3, 0, none⟩) L_a.length L_a.length), (Iv (k : Int)), (u15 9), (u15 10), (u15 11), (u15 12), (u15 13), (u15 14), (u15 15), (u15 16), (u15 17), (u15 18), (u15 19), (u15 20), (u15 21), Ud]) rfl rfl (does_move (u := (Iv (k : Int))) (ev rfl)) rfl ?_
    refine q_is (l' := [(.slice p_a L_a.length q_a), Ud, (.slice none 0 0), (.slice (some ⟨b3, 0, none⟩) L_a.length L_a.length), (Iv (k : Int)), (.slice p_a L_a.length q_a), (Iv (L_a.length : Int)), (.slice (some ⟨b3, 0, none⟩) L_a.length L_a.length), (Iv (k : Int)), (.slice p_a L_a.length q_a), (u15 10), (u15 11), (u15 12), (u15 13), (u15 14), (u15 15), (u15 16), (u15 17), (u15 18), (u15 19), (u15 20), (u15 21), Ud]) rfl rfl (does_move (u := (.slice p_a L_a.length q_a)) (ev rfl)) rfl ?_
    refine q_is (l' := [(.slice p_a L_a.length q_a), Ud, (.slice none 0 0), (.slice (some ⟨b3, 0, none⟩) L_a.length L_a.length), (Iv (k : Int)), (.slice p_a L_a.length q_a), (Iv (L_a.length : Int)), (.slice (some ⟨b3, 0, none⟩) L_a.length L_a.length), (Iv (k : Int)), (.slice p_a L_a.length q_a), (Iv (L_a.length : Int)), (u15 11), (u15 12), (u15 13), (u15 14), (u15 15), (u15 16), (u15 17), (u15 18), (u15 19), (u15 20), (u15 21), Ud]) rfl rfl (does_len_slice Try.underlying23 (ev rfl)) rfl ?_
    refine q_is (l' := [(.slice p_a L_a.length q_a), Ud, (.slice none 0 0), (.slice (some ⟨b3, 0, none⟩) L_a.length L_a.length), (Iv (k : Int)), (.slice p_a L_a.length q_a), (Iv (L_a.length : Int)), (.slice (some ⟨b3, 0, none⟩) L_a.length L_a.length), (Iv (k : Int)), (.slice p_a L_a.length q_a), (Iv (L_a.length : Int)), (Bo (icmp .lss (k : Int) (L_a.length : Int))), (u15 12), (u15 13), (u15 14), (u15 15), (u15 16), (u15 17), (u15 18), (u15 19), (u15 20), (u15 21), Ud]) rfl rfl (does_icmp (p := (k : Int)) (q := (L_a.length : Int)) (.inr (.inr (.inl rfl))) (ev rfl) (ev rfl)) rfl ?_
    refine wpList_nil (hK21 _ _ ?_)
    refine wp_cond_split (t := icmp .lss (k : Int) (L_a.length : Int)) (ev rfl) (fun c22 => ?_) (fun c22 => ?_)
    · have c22' := c22
      (try simp only [icmp, Bool.and_eq_true, Bool.or_eq_true, Bool.and_eq_false_iff, Bool.or_eq_false_iff, Bool.not_eq_true', Bool.not_eq_false', decide_eq_true_eq, decide_eq_false_iff_not, beq_iff_eq, bne_iff_ne, beq_eq_false_iff_ne, bne_eq_false_iff_eq] at c22')
      refine wp_skip (hK20 _ _ ?_)
      refine wp_seq_k fun K23 hK23 => ?_
      refine wp_block ?_
      refine wp_region_lit ?_
      refine q_is (l' := [(.slice p_a L_a.length q_a), Ud, (.slice none 0 0), (.slice (some ⟨b3, 0, none⟩) L_a.length L_a.length), (Iv (k : Int)), (.slice p_a L_a.length q_a), (Iv (L_a.length : Int)), (.slice (some ⟨b3, 0, none⟩) L_a.length L_a.length), (Iv (k : Int)), (.slice p_a L_a.length q_a), (Iv (L_a.length : Int)), (Bo (icmp .lss (k : Int) (L_a.length : Int))), (u15 12), (u15 13), (.slice (some ⟨b3, 0, none⟩) L_a.length L_a.length), (u15 15), (u15 16), (u15 17), (u15 18), (u15 19), (u15 20), (u15 21), Ud]) rfl rfl (does_move (u := (.slice (some ⟨b3, 0, none⟩) L_a.length L_a.length)) (ev rfl)) rfl ?_
      refine q_is (l' := [(.slice p_a L_a.length q_a), Ud, (.slice none 0 0), (.slice (some ⟨b3, 0, none⟩) L_a.length L_a.length), (Iv (k : Int)), (.slice p_a L_a.length q_a), (Iv (L_a.length : Int)), (.slice (some ⟨b3, 0, none⟩) L_a.length L_a.length), (Iv (k : Int)), (.slice p_a L_a.length q_a), (Iv (L_a.length : Int)), (Bo (icmp .lss (k : Int) (L_a.length : Int))), (u15 12), (u15 13), (.slice (some ⟨b3, 0, none⟩) L_a.length L_a.length), (Iv (k : Int)), (u15 16), (u15 17), (u15 18), (u15 19), (u15 20), (u15 21), Ud]) rfl rfl (does_move (u := (Iv (k : Int))) (ev rfl)) rfl ?_
      refine q_is (l' := [(.slice p_a L_a.length q_a), Ud, (.slice none 0 0), (.slice (some ⟨b3, 0, none⟩) L_a.length L_a.length), (Iv (k : Int)), (.slice p_a L_a.length q_a), (Iv (L_a.length : Int)), (.slice (some ⟨b3, 0, none⟩) L_a.length L_a.length), (Iv (k : Int)), (.slice p_a L_a.length q_a), (Iv (L_a.length : Int)), (Bo (icmp .lss (k : Int) (L_a.length : Int))), (u15 12), (u15 13), (.slice (some ⟨b3, 0, none⟩) L_a.length L_a.length), (Iv (k : Int)), (.slice p_a L_a.length q_a), (u15 17), (u15 18), (u15 19), (u15 20), (u15 21), Ud]) rfl rfl (does_move (u := (.slice p_a L_a.length q_a)) (ev rfl)) rfl ?_
      refine q_is (l' := [(.slice p_a L_a.length q_a), Ud, (.slice none 0 0), (.slice (some ⟨b3, 0, none⟩) L_a.length L_a.length), (Iv (k : Int)), (.slice p_a L_a.length q_a), (Iv (L_a.length : Int)), (.slice (some ⟨b3, 0, none⟩) L_a.length L_a.length), (Iv (k : Int)), (.slice p_a L_a.length q_a), (Iv (L_a.length : Int)), (Bo (icmp .lss (k : Int) (L_a.length : Int))), (u15 12), (u15 13), (.slice (some ⟨b3, 0, none⟩) L_a.length L_a.length), (Iv (k : Int)), (.slice p_a L_a.length q_a), (Iv (k : Int)), (u15 18), (u15 19), (u15 20), (u15 21), Ud]) rfl rfl (does_move (u := (Iv (k : Int))) (ev rfl)) rfl ?_
      obtain ⟨el1, hel1⟩ : ∃ e, L_a[k]? = some e := ⟨_, List.getElem?_eq_getElem (by omega)⟩
      refine seqd rfl rfl (does_indexSl (R := (RS RI 1)) (i := (k : Int)) (xs := L_a) (e := el1) Try.underlying23 Try.sizeOf27 (ev rfl) (ev rfl) (Sl.ext hv_a (RS.mono RI.mono) X19) (by omega) hel1) ?_; rintro _ w16 ⟨b24, o25, _, rfl, hc27, ⟨y28, rfl, h29⟩, rfl⟩
      have hs32 := h29; have hs32l := Sl.len h29; obtain ⟨p30, q31, rfl⟩ := Sl.shape h29
      show wpList _ _ _ _ (fr [(.slice p_a L_a.length q_a), Ud, (.slice none 0 0), (.slice (some ⟨b3, 0, none⟩) L_a.length L_a.length), (Iv (k : Int)), (.slice p_a L_a.length q_a), (Iv (L_a.length : Int)), (.slice (some ⟨b3, 0, none⟩) L_a.length L_a.length), (Iv (k : Int)), (.slice p_a L_a.length q_a), (Iv (L_a.length : Int)), (Bo (icmp .lss (k : Int) (L_a.length : Int))), (u15 12), (u15 13), (.slice (some ⟨b3, 0, none⟩) L_a.length L_a.length), (Iv (k : Int)), (.slice p_a L_a.length q_a), (Iv (k : Int)), (Pt b24 o25), (u15 19), (u15 20), (u15 21), Ud]) _
      refine q_is (l' := [(.slice p_a L_a.length q_a), Ud, (.slice none 0 0), (.slice (some ⟨b3, 0, none⟩) L_a.length L_a.length), (Iv (k : Int)), (.slice p_a L_a.length q_a), (Iv (L_a.length : Int)), (.slice (some ⟨b3, 0, none⟩) L_a.length L_a.length), (Iv (k : Int)), (.slice p_a L_a.length q_a), (Iv (L_a.length : Int)), (Bo (icmp .lss (k : Int) (L_a.length : Int))), (u15 12), (u15 13), (.slice (some ⟨b3, 0, none⟩) L_a.length L_a.length), (Iv (k : Int)), (.slice p_a L_a.length q_a), (Iv (k : Int)), (Pt b24 o25), (.slice p30 el1.length q31), (u15 20), (u15 21), Ud]) rfl rfl (does_load (u := (.slice p30 el1.length q31)) (ev rfl) Try.isAgg27 (Cells.at hc27 0 rfl)) rfl ?_
      refine seqd rfl rfl (does_call (args := #[(.slice p30 el1.length q31)]) cal48 (evs rfl) (c_laws_toInt64S (.slice p30 el1.length q31) el1 _ hs32 (by exact hall _ (List.mem_of_getElem? (by assumption))))) ?_; rintro _ w34 ⟨E33, ⟨y36, Lw37, rfl, hh35, hw38⟩⟩
      have X39 := Ext.gr X19 E33
      obtain ⟨p41, q42, rfl⟩ := Sl.shape hh35.get
      have hw43 : WL 1 w16.heap.size w34 Lw37 (.slice p41 el1.length q42) el1.length := hw38
      show wpList _ _ _ _ (fr [(.slice p_a L_a.length q_a), Ud, (.slice none 0 0), (.slice (some ⟨b3, 0, none⟩) L_a.length L_a.length), (Iv (k : Int)), (.slice p_a L_a.length q_a), (Iv (L_a.length : Int)), (.slice (some ⟨b3, 0, none⟩) L_a.length L_a.length), (Iv (k : Int)), (.slice p_a L_a.length q_a), (Iv (L_a.length : Int)), (Bo (icmp .lss (k : Int) (L_a.length : Int))), (u15 12), (u15 13), (.slice (some ⟨b3, 0, none⟩) L_a.length L_a.length), (Iv (k : Int)), (.slice p_a L_a.length q_a), (Iv (k : Int)), (Pt b24 o25), (.slice p30 el1.length q31), (.slice p41 el1.length q42), (u15 21), Ud]) _
      refine q_is (l' := [(.slice p_a L_a.length q_a), Ud, (.slice none 0 0), (.slice (some ⟨b3, 0, none⟩) L_a.length L_a.length), (Iv (k : Int)), (.slice p_a L_a.length q_a), (Iv (L_a.length : Int)), (.slice (some ⟨b3, 0, none⟩) L_a.length L_a.length), (Iv (k : Int)), (.slice p_a L_a.length q_a), (Iv (L_a.length : Int)), (Bo (icmp .lss (k : Int) (L_a.length : Int))), (u15 12), (u15 13), (.slice (some ⟨b3, 0, none⟩) L_a.length L_a.length), (Iv (k : Int)), (.slice p_a L_a.length q_a), (Iv (k : Int)), (Pt b24 o25), (.slice p30 el1.length q31), (.slice p41 el1.length q42), (Pt b3 (k * 1)), Ud]) rfl rfl (does_indexOwn (b := b3) (n := L_a.length) (i := (k : Int)) Try.underlying23 Try.sizeOf27 (ev rfl) (ev rfl) (by omega) (by omega)) rfl ?_
      refine seqn rfl rfl (does_fillN (R := RI) (k := 1) (n := L_a.length) (j := k) (xs := L_a) (v := (.slice p41 el1.length q42)) (e := el1) (L := Lw37) (w0 := w16) (ev rfl) (ev rfl) Try.sizeOf27 hF18 (Ext.gr (Ext.refl _) E33) (by omega) hel1 hw43 hh35) ?_; rintro _ w46 ⟨rfl, W44, hF45⟩
      have X47 := Below.wr X39 W44 g11
      refine wpList_nil (hK23 _ _ ?_)
      refine wp_region_lit ?_
      refine q_is (l' := [(.slice p_a L_a.length q_a), Ud, (.slice none 0 0), (.slice (some ⟨b3, 0, none⟩) L_a.length L_a.length), (Iv (k : Int)), (.slice p_a L_a.length q_a), (Iv (L_a.length : Int)), (.slice (some ⟨b3, 0, none⟩) L_a.length L_a.length), (Iv (k : Int)), (.slice p_a L_a.length q_a), (Iv (L_a.length : Int)), (Bo (icmp .lss (k : Int) (L_a.length : Int))), (Iv (k : Int)), (u15 13), (.slice (some ⟨b3, 0, none⟩) L_a.length L_a.length), (Iv (k : Int)), (.slice p_a L_a.length q_a), (Iv (k : Int)), (Pt b24 o25), (.slice p30 el1.length q31), (.slice p41 el1.length q42), (Pt b3 (k * 1)), Ud]) rfl rfl (does_move (u := (Iv (k : Int))) (ev rfl)) rfl ?_
      refine q_is (l' := [(.slice p_a L_a.length q_a), Ud, (.slice none 0 0), (.slice (some ⟨b3, 0, none⟩) L_a.length L_a.length), (Iv (k : Int)), (.slice p_a L_a.length q_a), (Iv (L_a.length : Int)), (.slice (some ⟨b3, 0, none⟩) L_a.length L_a.length), (Iv (k : Int)), (.slice p_a L_a.length q_a), (Iv (L_a.length : Int)), (Bo (icmp .lss (k : Int) (L_a.length : Int))), (Iv (k : Int)), (Iv ((k : Int) + 1)), (.slice (some ⟨b3, 0, none⟩) L_a.length L_a.length), (Iv (k : Int)), (.slice p_a L_a.length q_a), (Iv (k : Int)), (Pt b24 o25), (.slice p30 el1.length q31), (.slice p41 el1.length q42), (Pt b3 (k * 1)), Ud]) rfl rfl (does_iarith (p := (k : Int)) (q := 1) (r := (k : Int) + 1) (ev rfl) (ev rfl) (.inl ⟨rfl, (in_i64 (by omega) (by omega)).symm⟩)) rfl ?_
      refine q_is (l' := [(.slice p_a L_a.length q_a), Ud, (.slice none 0 0), (.slice (some ⟨b3, 0, none⟩) L_a.length L_a.length), (Iv ((k : Int) + 1)), (.slice p_a L_a.length q_a), (Iv (L_a.length : Int)), (.slice (some ⟨b3, 0, none⟩) L_a.length L_a.length), (Iv (k : Int)), (.slice p_a L_a.length q_a), (Iv (L_a.length : Int)), (Bo (icmp .lss (k : Int) (L_a.length : Int))), (Iv (k : Int)), (Iv ((k : Int) + 1)), (.slice (some ⟨b3, 0, none⟩) L_a.length L_a.length), (Iv (k : Int)), (.slice p_a L_a.length q_a), (Iv (k : Int)), (Pt b24 o25), (.slice p30 el1.length q31), (.slice p41 el1.length q42), (Pt b3 (k * 1)), Ud]) rfl rfl (does_assign (u := (Iv ((k : Int) + 1))) (ev rfl)) rfl ?_
      refine wpList_nil ?_
      refine ⟨k + 1, ⟨fun t => (([(.slice p_a L_a.length q_a), Ud, (.slice none 0 0), (.slice (some ⟨b3, 0, none⟩) L_a.length L_a.length), (Iv ((k : Int) + 1)), (.slice p_a L_a.length q_a), (Iv (L_a.length : Int)), (.slice (some ⟨b3, 0, none⟩) L_a.length L_a.length), (Iv (k : Int)), (.slice p_a L_a.length q_a), (Iv (L_a.length : Int)), (Bo (icmp .lss (k : Int) (L_a.length : Int))), (Iv (k : Int)), (Iv ((k : Int) + 1)), (.slice (some ⟨b3, 0, none⟩) L_a.length L_a.length), (Iv (k : Int)), (.slice p_a L_a.length q_a), (Iv (k : Int)), (Pt b24 o25), (.slice p30 el1.length q31), (.slice p41 el1.length q42), (Pt b3 (k * 1)), Ud] : List Value)[t]?).getD undef, ?_, (KpL.more (KpL.ext E17 E33) (KpL.of_wr W44) (allS (.inl (by simp)) all0)), hF45, ?_⟩, ?_⟩
      · first | rfl | (simp only [Int.natCast_add, Int.natCast_one]; rfl)
      · omega
      · omega
    have c22' := c22
    (try simp only [icmp, Bool.and_eq_true, Bool.or_eq_true, Bool.and_eq_false_iff, Bool.or_eq_false_iff, Bool.not_eq_true', Bool.not_eq_false', decide_eq_true_eq, decide_eq_false_iff_not, beq_iff_eq, bne_iff_ne, beq_eq_false_iff_ne, bne_eq_false_iff_eq] at c22')
    refine wp_exit ?_
    refine hK13 _ _ ?_
    refine wp_seq_k fun K48 hK48 => ?_
    refine wp_region_lit ?_
    refine q_is (l' := [(.slice p_a L_a.length q_a), Ud, (.slice none 0 0), (.slice (some ⟨b3, 0, none⟩) L_a.length L_a.length), (Iv (k : Int)), (.slice p_a L_a.length q_a), (Iv (L_a.length : Int)), (.slice (some ⟨b3, 0, none⟩) L_a.length L_a.length), (Iv (k : Int)), (.slice p_a L_a.length q_a), (Iv (L_a.length : Int)), (Bo (icmp .lss (k : Int) (L_a.length : Int))), (u15 12), (u15 13), (u15 14), (u15 15), (u15 16), (u15 17), (u15 18), (u15 19), (u15 20), (u15 21), (.slice (some ⟨b3, 0, none⟩) L_a.length L_a.length)]) rfl rfl (does_move (u := (.slice (some ⟨b3, 0, none⟩) L_a.length L_a.length)) (ev rfl)) rfl ?_
    refine q_is (l' := [(.slice p_a L_a.length q_a), Ud, (.slice (some ⟨b3, 0, none⟩) L_a.length L_a.length), (.slice (some ⟨b3, 0, none⟩) L_a.length L_a.length), (Iv (k : Int)), (.slice p_a L_a.length q_a), (Iv (L_a.length : Int)), (.slice (some ⟨b3, 0, none⟩) L_a.length L_a.length), (Iv (k : Int)), (.slice p_a L_a.length q_a), (Iv (L_a.length : Int)), (Bo (icmp .lss (k : Int) (L_a.length : Int))), (u15 12), (u15 13), (u15 14), (u15 15), (u15 16), (u15 17), (u15 18), (u15 19), (u15 20), (u15 21), (.slice (some ⟨b3, 0, none⟩) L_a.length L_a.length)]) rfl rfl (does_assign (u := (.slice (some ⟨b3, 0, none⟩) L_a.length L_a.length)) (ev rfl)) rfl ?_
    refine wpList_nil (hK48 _ _ ?_)
    refine wp_ret ?_
    refine ret_val (v := (.slice (some ⟨b3, 0, none⟩) L_a.length L_a.length)) (res_T rfl (slot rfl)) X19 ?_
    obtain ⟨Lw49, hw50⟩ := FillN.wll hF18 (by omega) rfl (by omega) g11
    exact ⟨(.slice (some ⟨b3, 0, none⟩) L_a.length L_a.length), Lw49, rfl, (FillN.hang hF18 g11 (by omega) rfl (by omega)), hw50⟩

/- laws.toMesh -/
theorem c_laws_toMesh (a : List Value) (A_a : MeshT) (w : World) (hv_a : RMeshT w A_a a) (hme : meTot A_a ≤ 1048576) : Gives Try.prog 7 #[(.agg a.toArray)] w (fun v w' => ∃ cs_1 : List Value, ∃ Lw_2 : List Nat, v = (.agg cs_1.toArray) ∧ Hang w.heap.size w' (fun u => RMeshT u A_a cs_1) ∧ WLM w.heap.size w' Lw_2 (cellN cs_1 0) (cellN cs_1 1) A_a) := by
  obtain ⟨y1, y3, rfl, h2, h4⟩ := hv_a
  have hs7 := h2; have hs7l := Sl.len h2; obtain ⟨p5, q6, rfl⟩ := Sl.shape h2
  have hs10 := h4; have hs10l := Sl.len h4; obtain ⟨p8, q9, rfl⟩ := Sl.shape h4
  have hm1 := meTot_each hme
  have hm2 := liTot_each hm1.2
  refine enter [(.agg #[(.slice p5 A_a.places.length q6), (.slice p8 A_a.tris.length q9)]), Ud, Ud, Ud, Ud, Ud, Ud, Ud, Ud, Ud, Ud, Ud, Ud] Try.func7 rfl Try.ntmps7 rfl ?_
  refine wp_seq_k fun K11 hK11 => ?_
  refine wp_region_lit ?_
  refine seqd rfl rfl (does_box (u := (.agg #[(.slice p5 A_a.places.length q6), (.slice p8 A_a.tris.length q9)])) (ev rfl)) ?_; rintro _ w16 ⟨b12, rfl, hb13, hB14, E15⟩
  have g17 : w.heap.size ≤ b12 := Nat.le_trans (Below.size (Ext.refl w)) hb13
  change Blk _ _ [(.slice p5 A_a.places.length q6), (.slice p8 A_a.tris.length q9)] at hB14
  have X18 := Ext.gr (Ext.refl w) E15
  show wpList _ _ _ _ (fr [(.agg #[(.slice p5 A_a.places.length q6), (.slice p8 A_a.tris.length q9)]), (Pt b12 0), Ud, Ud, Ud, Ud, Ud, Ud, Ud, Ud, Ud, Ud, Ud]) _
  refine seqd rfl rfl (does_alloc z32) ?_; rintro _ w23 ⟨b19, rfl, hb20, hB21, E22⟩
  have n24 : b12 < b19 := Nat.lt_of_lt_of_le (Blk.lt hB14) hb20
  have g25 : w.heap.size ≤ b19 := Nat.le_trans (Below.size X18) hb20
  change Blk _ _ [(.slice none 0 0), (.slice none 0 0)] at hB21
  have X26 := Ext.gr X18 E22
  show wpList _ _ _ _ (fr [(.agg #[(.slice p5 A_a.places.length q6), (.slice p8 A_a.tris.length q9)]), (Pt b12 0), (Pt b19 0), Ud, Ud, Ud, Ud, Ud, Ud, Ud, Ud, Ud, Ud]) _
  refine wpList_nil (hK11 _ _ ?_)
  refine wp_seq_k fun K27 hK27 => ?_
  refine wp_region_lit ?_
  refine seqd rfl rfl (does_alloc z32) ?_; rintro _ w32 ⟨b28, rfl, hb29, hB30, E31⟩
  have n33 : b12 < b28 := Nat.lt_of_lt_of_le (Blk.lt (hB14.ext E22)) hb29
  have n34 : b19 < b28 := Nat.lt_of_lt_of_le (Blk.lt hB21) hb29
  have g35 : w.heap.size ≤ b28 := Nat.le_trans (Below.size X26) hb29
  change Blk _ _ [(.slice none 0 0), (.slice none 0 0)] at hB30
  have X36 := Ext.gr X26 E31
  show wpList _ _ _ _ (fr [(.agg #[(.slice p5 A_a.places.length q6), (.slice p8 A_a.tris.length q9)]), (Pt b12 0), (Pt b19 0), (Pt b28 0), Ud, Ud, Ud, Ud, Ud, Ud, Ud, Ud, Ud]) _
  refine wpList_nil (hK27 _ _ ?_)
  refine wp_seq_k fun K37 hK37 => ?_
  refine wp_region_lit ?_
  refine q_is (l' := [(.agg #[(.slice p5 A_a.places.length q6), (.slice p8 A_a.tris.length q9)]), (Pt b12 0), (Pt b19 0), (Pt b28 0), (Pt b12 0), Ud, Ud, Ud, Ud, Ud, Ud, Ud, Ud]) rfl rfl (does_fieldAddr (ev rfl) fa25_0) rfl ?_
  refine q_is (l' := [(.agg #[(.slice p5 A_a.places.length q6), (.slice p8 A_a.tris.length q9)]), (Pt b12 0), (Pt b19 0), (Pt b28 0), (Pt b12 0), (.slice p5 A_a.places.length q6), Ud, Ud, Ud, Ud, Ud, Ud, Ud]) rfl rfl (does_load (u := (.slice p5 A_a.places.length q6)) (ev rfl) Try.isAgg22 (Cells.at (Blk.cells ((hB14.ext E22).ext E31)) 0 rfl)) rfl ?_
  refine seqd rfl rfl (does_call (args := #[(.slice p5 A_a.places.length q6)]) cal24 (evs rfl) (c_laws_toVectorS (.slice p5 A_a.places.length q6) A_a.places _ (Sl.ext hs7 RV3.mono X36) (by exact hm1.1))) ?_; rintro _ w39 ⟨E38, ⟨y41, Lw42, rfl, hh40, hw43⟩⟩
  have X44 := Ext.gr X36 E38
  have n45 : b12 < w32.heap.size := Blk.lt ((hB14.ext E22).ext E31)
  have n46 : b19 < w32.heap.size := Blk.lt (hB21.ext E31)
  have n47 : b28 < w32.heap.size := Blk.lt hB30
  obtain ⟨p48, q49, rfl⟩ := Sl.shape hh40.get
  have hw50 : WL 3 w32.heap.size w39 Lw42 (.slice p48 A_a.places.length q49) A_a.places.length := hw43
  show wpList _ _ _ _ (fr [(.agg #[(.slice p5 A_a.places.length q6), (.slice p8 A_a.tris.length q9)]), (Pt b12 0), (Pt b19 0), (Pt b28 0), (Pt b12 0), (.slice p5 A_a.places.length q6), (.slice p48 A_a.places.length q49), Ud, Ud, Ud, Ud, Ud, Ud]) _
  refine q_is (l' := [(.agg #[(.slice p5 A_a.places.length q6), (.slice p8 A_a.tris.length q9)]), (Pt b12 0), (Pt b19 0), (Pt b28 0), (Pt b12 0), (.slice p5 A_a.places.length q6), (.slice p48 A_a.places.length q49), (Pt b28 0), Ud, Ud, Ud, Ud, Ud]) rfl rfl (does_fieldAddr (ev rfl) fa32_0) rfl ?_
  refine seqn rfl rfl (does_store (n := 1) (cs := [(.slice none 0 0), (.slice none 0 0)]) (u := (.slice p48 A_a.places.length q49)) (ev rfl) (ev rfl) Try.sizeOf30 rfl (hB30.ext E38) (Nat.le_of_ble_eq_true rfl) rfl) ?_; rintro _ w53 ⟨rfl, W51, hB52⟩
  change Blk _ _ [(.slice p48 A_a.places.length q49), (.slice none 0 0)] at hB52
  have X54 := Below.wr X44 W51 g35
  refine wpList_nil (hK37 _ _ ?_)
  refine wp_seq_k fun K55 hK55 => ?_
  refine wp_region_lit ?_
  refine q_is (l' := [(.agg #[(.slice p5 A_a.places.length q6), (.slice p8 A_a.tris.length q9)]), (Pt b12 0), (Pt b19 0), (Pt b28 0), (Pt b12 0), (.slice p5 A_a.places.length q6), (.slice p48 A_a.places.length q49), (Pt b28 0), (Pt b12 1), Ud, Ud, Ud, Ud]) rfl rfl (does_fieldAddr (ev rfl) fa25_1) rfl ?_
  refine q_is (l' := [(.agg #[(.slice p5 A_a.places.length q6), (.slice p8 A_a.tris.length q9)]), (Pt b12 0), (Pt b19 0), (Pt b28 0), (Pt b12 0), (.slice p5 A_a.places.length q6), (.slice p48 A_a.places.length q49), (Pt b28 0), (Pt b12 1), (.slice p8 A_a.tris.length q9), Ud, Ud, Ud]) rfl rfl (does_load (u := (.slice p8 A_a.tris.length q9)) (ev rfl) Try.isAgg23 (Cells.at (Blk.cells ((((hB14.ext E22).ext E31).ext E38).wr W51 (Nat.ne_of_lt n33))) 1 rfl)) rfl ?_
  refine seqd rfl rfl (does_call (args := #[(.slice p8 A_a.tris.length q9)]) cal25 (evs rfl) (c_laws_toInt64SS (.slice p8 A_a.tris.length q9) A_a.tris _ (Sl.ext hs10 (RS.mono RI.mono) X54) (by exact hm2.1) (by exact hm2.2))) ?_; rintro _ w57 ⟨E56, ⟨y59, Lw60, rfl, hh58, hw61⟩⟩
  have X62 := Ext.gr X54 E56
  have n63 : b12 < w53.heap.size := Blk.lt ((((hB14.ext E22).ext E31).ext E38).wr W51 (Nat.ne_of_lt n33))
  have n64 : b19 < w53.heap.size := Blk.lt (((hB21.ext E31).ext E38).wr W51 (Nat.ne_of_lt n34))
  have n65 : b28 < w53.heap.size := Blk.lt hB52
  obtain ⟨p66, q67, rfl⟩ := Sl.shape hh58.get
  have hw68 : WLL 1 w53.heap.size w57 Lw60 (.slice p66 A_a.tris.length q67) A_a.tris := hw61
  show wpList _ _ _ _ (fr [(.agg #[(.slice p5 A_a.places.length q6), (.slice p8 A_a.tris.length q9)]), (Pt b12 0), (Pt b19 0), (Pt b28 0), (Pt b12 0), (.slice p5 A_a.places.length q6), (.slice p48 A_a.places.length q49), (Pt b28 0), (Pt b12 1), (.slice p8 A_a.tris.length q9), (.slice p66 A_a.tris.length q67), Ud, Ud]) _
  refine q_is (l' := [(.agg #[(.slice p5 A_a.places.length q6), (.slice p8 A_a.tris.length q9)]), (Pt b12 0), (Pt b19 0), (Pt b28 0), (Pt b12 0), (.slice p5 A_a.places.length q6), (.slice p48 A_a.places.length q49), (Pt b28 0), (Pt b12 1), (.slice p8 A_a.tris.length q9), (.slice p66 A_a.tris.length q67), (Pt b28 1), Ud]) rfl rfl (does_fieldAddr (ev rfl) fa32_1) rfl ?_
  refine seqn rfl rfl (does_store (n := 1) (cs := [(.slice p48 A_a.places.length q49), (.slice none 0 0)]) (u := (.slice p66 A_a.tris.length q67)) (ev rfl) (ev rfl) Try.sizeOf23 rfl (hB52.ext E56) (Nat.le_of_ble_eq_true rfl) rfl) ?_; rintro _ w71 ⟨rfl, W69, hB70⟩
  change Blk _ _ [(.slice p48 A_a.places.length q49), (.slice p66 A_a.tris.length q67)] at hB70
  have X72 := Below.wr X62 W69 g35
  refine wpList_nil (hK55 _ _ ?_)
  refine wp_seq_k fun K73 hK73 => ?_
  refine wp_region_lit ?_
  refine q_is (l' := [(.agg #[(.slice p5 A_a.places.length q6), (.slice p8 A_a.tris.length q9)]), (Pt b12 0), (Pt b19 0), (Pt b28 0), (Pt b12 0), (.slice p5 A_a.places.length q6), (.slice p48 A_a.places.length q49), (Pt b28 0), (Pt b12 1), (.slice p8 A_a.tris.length q9), (.slice p66 A_a.tris.length q67), (Pt b28 1), (.agg #[(.slice p48 A_a.places.length q49), (.slice p66 A_a.tris.length q67)])]) rfl rfl (does_loadAgg (cs := [(.slice p48 A_a.places.length q49), (.slice p66 A_a.tris.length q67)]) (ev rfl) Try.isAgg32 Try.sizeOf32 (Blk.cells hB70) rfl) rfl ?_
  refine seqn rfl rfl (does_store (n := 2) (cs := [(.slice none 0 0), (.slice none 0 0)]) (u := (.agg #[(.slice p48 A_a.places.length q49), (.slice p66 A_a.tris.length q67)])) (ev rfl) (ev rfl) Try.sizeOf32 rfl (((((hB21.ext E31).ext E38).wr W51 (Nat.ne_of_lt n34)).ext E56).wr W69 (Nat.ne_of_lt n34)) (Nat.le_of_ble_eq_true rfl) rfl) ?_; rintro _ w76 ⟨rfl, W74, hB75⟩
  change Blk _ _ [(.slice p48 A_a.places.length q49), (.slice p66 A_a.tris.length q67)] at hB75
  have X77 := Below.wr X72 W74 g25
  refine wpList_nil (hK73 _ _ ?_)
  refine wp_ret ?_
  refine ret_val (v := (.agg #[(.slice p48 A_a.places.length q49), (.slice p66 A_a.tris.length q67)])) (res_C rfl (slot rfl) (run_loadAgg (cs := [(.slice p48 A_a.places.length q49), (.slice p66 A_a.tris.length q67)]) Try.isAgg32 Try.sizeOf32 (Blk.cells hB75) rfl)) X77 ?_
  exact ⟨[(.slice p48 A_a.places.length q49), (.slice p66 A_a.tris.length q67)], (Lw42 ++ Lw60), rfl, fun u hu => ⟨(.slice p48 A_a.places.length q49), (.slice p66 A_a.tris.length q67), rfl, ((Hang.to hh40 (((((Same.refl _ _).wr W51 (.inl n47)).ext E56).wr W69 (.inl n47)).wr W74 (.inl n46))).le (Below.size (Ext.gr (Ext.gr (Ext.gr (Ext.refl _) E15) E22) E31))) u hu, ((Hang.to hh58 (((Same.refl _ _).wr W69 (.inl n65)).wr W74 (.inl n64))).le (Below.size (Below.wr (Ext.gr (Ext.gr (Ext.gr (Ext.gr (Ext.refl _) E15) E22) E31) E38) W51 g35))) u hu⟩, (WLM.mk (C := w53.heap.size) ((hw50.same (((((Same.refl _ _).wr W51 (.inl n47)).ext E56).wr W69 (.inl n47)).wr W74 (.inl n46))).le (Below.size (Ext.gr (Ext.gr (Ext.gr (Ext.refl _) E15) E22) E31))) (hw68.same (((Same.refl _ _).wr W69 (.inl n65)).wr W74 (.inl n64))) (Below.size (Below.wr (Ext.gr (Ext.gr (Ext.gr (Ext.gr (Ext.refl _) E15) E22) E31) E38) W51 g35)) (fun c hc => Nat.lt_of_lt_of_le (hw50.1 c hc).2 (Nat.le_of_eq (Eq.symm (Wr.size W51)))) (by first | rfl | (first | with_reducible rfl | (simp only []; done) | (simp []; done) | rfl)) (by first | rfl | (first | with_reducible rfl | (simp only []; done) | (simp []; done) | rfl)))⟩

/- slices.IndexFunc[[][]int64,[]int64] -/
theorem c_slices_IndexFunc_SS_int64_int64 (xs : Value) (L_xs : List (List Int)) (f : Value) (pr_f : List Int → Bool) (w : World) (hv_xs : Sl (RS RI 1) 1 w xs L_xs) (hv_f : ∃ fi fst cap, f = .func (.func fi) fst cap ∧ (∀ args w, (callFunc fi args).run Try.prog w = .ok (.enter fi args) w) ∧ ∀ (y0 : Value) (X0 : List Int) u, Ext w u → Sl RI 1 u y0 X0 → Gives Try.prog fi (fst ++ #[y0] ++ cap) u (fun v _ => v = .bool (pr_f X0))) : Gives Try.prog 61 #[xs, f] w (fun v w' => v = (Iv (findI pr_f L_xs))) := by
  have hlen_xs := Sl.len hv_xs; obtain ⟨p_xs, q_xs, rfl⟩ := Sl.shape hv_xs
  obtain ⟨f_f, s_f, c_f, rfl, hcal_f, hg_f⟩ := hv_f
  refine enter [(.slice p_xs L_xs.length q_xs), (.func (.func f_f) s_f c_f), Ud, Ud, Ud, Ud, Ud, Ud, Ud, Ud, Ud, Ud, Ud, Ud, Ud, Ud, Ud, Ud, Ud] Try.func61 rfl Try.ntmps61 rfl ?_
  refine wp_seq_k fun K1 hK1 => ?_
  refine wp_region_lit ?_
  refine q_is (l' := [(.slice p_xs L_xs.length q_xs), (.func (.func f_f) s_f c_f), Ud, Ud, (Iv 0), Ud, Ud, Ud, Ud, Ud, Ud, Ud, Ud, Ud, Ud, Ud, Ud, Ud, Ud]) rfl rfl (does_assign (u := (Iv 0)) (ev rfl)) rfl ?_
  refine wpList_nil (hK1 _ _ ?_)
  refine wp_seq_k fun K2 hK2 => ?_
  refine wp_seq_k fun K3 hK3 => ?_
  refine wp_region_lit ?_
  refine q_is (l' := [(.slice p_xs L_xs.length q_xs), (.func (.func f_f) s_f c_f), Ud, Ud, (Iv 0), Ud, (.slice p_xs L_xs.length q_xs), Ud, Ud, Ud, Ud, Ud, Ud, Ud, Ud, Ud, Ud, Ud, Ud]) rfl rfl (does_move (u := (.slice p_xs L_xs.length q_xs)) (ev rfl)) rfl ?_
  refine q_is (l' := [(.slice p_xs L_xs.length q_xs), (.func (.func f_f) s_f c_f), Ud, Ud, (Iv 0), Ud, (.slice p_xs L_xs.length q_xs), (Iv (L_xs.length : Int)), Ud, Ud, Ud, Ud, Ud, Ud, Ud, Ud, Ud, Ud, Ud]) rfl rfl (does_len_slice Try.underlying23 (ev rfl)) rfl ?_
  refine q_is (l' := [(.slice p_xs L_xs.length q_xs), (.func (.func f_f) s_f c_f), Ud, Ud, (Iv 0), Ud, (.slice p_xs L_xs.length q_xs), (Iv (L_xs.length : Int)), (Iv 0), Ud, Ud, Ud, Ud, Ud, Ud, Ud, Ud, Ud, Ud]) rfl rfl (does_move (u := (Iv 0)) (ev rfl)) rfl ?_
  refine wpList_nil (hK3 _ _ ?_)
  refine wp_block ?_
  refine loop_ghost (σ := Nat) (fun k a w' => ∃ u4 : Nat → Value, a = fr [(.slice p_xs L_xs.length q_xs), (.func (.func f_f) s_f c_f), Ud, Ud, (u4 4), (u4 5), (.slice p_xs L_xs.length q_xs), (Iv (L_xs.length : Int)), (Iv (k : Int)), (u4 9), (u4 10), (u4 11), (u4 12), (u4 13), (u4 14), (u4 15), (u4 16), (u4 17), (u4 18)] ∧ Ext w w' ∧ (k ≤ L_xs.length ∧ NoneTo pr_f L_xs k)) (fun k => L_xs.length - k) 0 ?_ ?_
  · refine ⟨fun t => (([(.slice p_xs L_xs.length q_xs), (.func (.func f_f) s_f c_f), Ud, Ud, (Iv 0), Ud, (.slice p_xs L_xs.length q_xs), (Iv (L_xs.length : Int)), (Iv 0), Ud, Ud, Ud, Ud, Ud, Ud, Ud, Ud, Ud, Ud] : List Value)[t]?).getD undef, rfl, Ext.refl _, ?_⟩
    exact ⟨Nat.zero_le _, NoneTo.zero⟩
  · rintro k a w5 ⟨u4, rfl, E6, ⟨hk, hno⟩⟩
    have X8 := Ext.gr (Ext.refl w) E6
    refine wp_seq_k fun K9 hK9 => ?_
    refine wp_region_lit ?_
    refine q_is (l' := [(.slice p_xs L_xs.length q_xs), (.func (.func f_f) s_f c_f), Ud, Ud, (u4 4), (u4 5), (.slice p_xs L_xs.length q_xs), (Iv (L_xs.length : Int)), (Iv (k : Int)), (Bo (icmp .lss (k : Int) (L_xs.length : Int))), (u4 10), (u4 11), (u4 12), (u4 13), (u4 14), (u4 15), (u4 16), (u4 17), (u4 18)]) rfl rfl (does_icmp (p := (k : Int)) (q := (L_xs.length : Int)) (.inr (.inr (.inl rfl))) (ev rfl) (ev rfl)) rfl ?_
    refine wpList_nil (hK9 _ _ ?_)
    refine wp_seq_k fun K10 hK10 => ?_
    refine wp_cond_split (t := icmp .lss (k : Int) (L_xs.length : Int)) (ev rfl) (fun c11 => ?_) (fun c11 => ?_)
    · have c11' := c11
      (try simp only [icmp, Bool.and_eq_true, Bool.or_eq_true, Bool.and_eq_false_iff, Bool.or_eq_false_iff, Bool.not_eq_true', Bool.not_eq_false', decide_eq_true_eq, decide_eq_false_iff_not, beq_iff_eq, bne_iff_ne, beq_eq_false_iff_ne, bne_eq_false_iff_eq] at c11')
      refine wp_skip (hK10 _ _ ?_)
      refine wp_seq_k fun K12 hK12 => ?_
      refine wp_block ?_
      refine wp_seq_k fun K13 hK13 => ?_
      refine wp_region_lit ?_
      refine q_is (l' := [(.slice p_xs L_xs.length q_xs), (.func (.func f_f) s_f c_f), Ud, Ud, (u4 4), (u4 5), (.slice p_xs L_xs.length q_xs), (Iv (L_xs.length : Int)), (Iv (k : Int)), (Bo (icmp .lss (k : Int) (L_xs.length : Int))), (Iv (k : Int)), (u4 11), (u4 12), (u4 13), (u4 14), (u4 15), (u4 16), (u4 17), (u4 18)]) rfl rfl (does_move (u := (Iv (k : Int))) (ev rfl)) rfl ?_
      refine q_is (l' := [(.slice p_xs L_xs.length q_xs), (.func (.func f_f) s_f c_f), Ud, Ud, (u4 4), (Iv (k : Int)), (.slice p_xs L_xs.length q_xs), (Iv (L_xs.length : Int)), (Iv (k : Int)), (Bo (icmp .lss (k : Int) (L_xs.length : Int))), (Iv (k : Int)), (u4 11), (u4 12), (u4 13), (u4 14), (u4 15), (u4 16), (u4 17), (u4 18)]) rfl rfl (does_assign (u := (Iv (k : Int))) (ev rfl)) rfl ?_
      refine wpList_nil (hK13 _ _ ?_)
      refine wp_seq_k fun K14 hK14 => ?_
      refine wp_region_lit ?_
      refine q_is (l' := [(.slice p_xs L_xs.length q_xs), (.func (.func f_f) s_f c_f), Ud, Ud, (u4 4), (Iv (k : Int)), (.slice p_xs L_xs.length q_xs), (Iv (L_xs.length : Int)), (Iv (k : Int)), (Bo (icmp .lss (k : Int) (L_xs.length : Int))), (Iv (k : Int)), (.func (.func f_f) s_f c_f), (u4 12), (u4 13), (u4 14), (u4 15), (u4 16), (u4 17), (u4 18)]) rfl rfl (does_move (u := (.func (.func f_f) s_f c_f)) (ev rfl)) rfl ?_
      refine q_is (l' := [(.slice p_xs L_xs.length q_xs), (.func (.func f_f) s_f c_f), Ud, Ud, (u4 4), (Iv (k : Int)), (.slice p_xs L_xs.length q_xs), (Iv (L_xs.length : Int)), (Iv (k : Int)), (Bo (icmp .lss (k : Int) (L_xs.length : Int))), (Iv (k : Int)), (.func (.func f_f) s_f c_f), (.slice p_xs L_xs.length q_xs), (u4 13), (u4 14), (u4 15), (u4 16), (u4 17), (u4 18)]) rfl rfl (does_move (u := (.slice p_xs L_xs.length q_xs)) (ev rfl)) rfl ?_
      refine q_is (l' := [(.slice p_xs L_xs.length q_xs), (.func (.func f_f) s_f c_f), Ud, Ud, (u4 4), (Iv (k : Int)), (.slice p_xs L_xs.length q_xs), (Iv (L_xs.length : Int)), (Iv (k : Int)), (Bo (icmp .lss (k : Int) (L_xs.length : Int))), (Iv (k : Int)), (.func (.func f_f) s_f c_f), (.slice p_xs L_xs.length q_xs), (Iv (k : Int)), (u4 14), (u4 15), (u4 16), (u4 17), (u4 18)]) rfl rfl (does_move (u := (Iv (k : Int))) (ev rfl)) rfl ?_
      obtain ⟨el1, hel1⟩ : ∃ e, L_xs[k]? = some e := ⟨_, List.getElem?_eq_getElem (by omega)⟩
      refine seqd rfl rfl (does_indexSl (R := (RS RI 1)) (i := (k : Int)) (xs := L_xs) (e := el1) Try.underlying23 Try.sizeOf27 (ev rfl) (ev rfl) (Sl.ext hv_xs (RS.mono RI.mono) X8) (by omega) hel1) ?_; rintro _ w5 ⟨b15, o16, _, rfl, hc18, ⟨y19, rfl, h20⟩, rfl⟩
      have hs23 := h20; have hs23l := Sl.len h20; obtain ⟨p21, q22, rfl⟩ := Sl.shape h20
      show wpList _ _ _ _ (fr [(.slice p_xs L_xs.length q_xs), (.func (.func f_f) s_f c_f), Ud, Ud, (u4 4), (Iv (k : Int)), (.slice p_xs L_xs.length q_xs), (Iv (L_xs.length : Int)), (Iv (k : Int)), (Bo (icmp .lss (k : Int) (L_xs.length : Int))), (Iv (k : Int)), (.func (.func f_f) s_f c_f), (.slice p_xs L_xs.length q_xs), (Iv (k : Int)), (Pt b15 o16), (u4 15), (u4 16), (u4 17), (u4 18)]) _
      refine q_is (l' := [(.slice p_xs L_xs.length q_xs), (.func (.func f_f) s_f c_f), Ud, Ud, (u4 4), (Iv (k : Int)), (.slice p_xs L_xs.length q_xs), (Iv (L_xs.length : Int)), (Iv (k : Int)), (Bo (icmp .lss (k : Int) (L_xs.length : Int))), (Iv (k : Int)), (.func (.func f_f) s_f c_f), (.slice p_xs L_xs.length q_xs), (Iv (k : Int)), (Pt b15 o16), (.slice p21 el1.length q22), (u4 16), (u4 17), (u4 18)]) rfl rfl (does_load (u := (.slice p21 el1.length q22)) (ev rfl) Try.isAgg27 (Cells.at hc18 0 rfl)) rfl ?_
      refine seqd rfl rfl (does_callf (args := #[(.slice p21 el1.length q22)]) (ev rfl) hcal_f (evs rfl) (hg_f (.slice p21 el1.length q22) el1 _ X8 hs23)) ?_; rintro _ w25 ⟨E24, rfl⟩
      have X26 := Ext.gr X8 E24
      show wpList _ _ _ _ (fr [(.slice p_xs L_xs.length q_xs), (.func (.func f_f) s_f c_f), Ud, Ud, (u4 4), (Iv (k : Int)), (.slice p_xs L_xs.length q_xs), (Iv (L_xs.length : Int)), (Iv (k : Int)), (Bo (icmp .lss (k : Int) (L_xs.length : Int))), (Iv (k : Int)), (.func (.func f_f) s_f c_f), (.slice p_xs L_xs.length q_xs), (Iv (k : Int)), (Pt b15 o16), (.slice p21 el1.length q22), (Bo (pr_f el1)), (u4 17), (u4 18)]) _
      refine wpList_nil (hK14 _ _ ?_)
      refine wp_cond_split (t := pr_f el1) (ev rfl) (fun c27 => ?_) (fun c27 => ?_)
      · have c27' := c27
        refine wp_seq_k fun K28 hK28 => ?_
        refine wp_region_lit ?_
        refine q_is (l' := [(.slice p_xs L_xs.length q_xs), (.func (.func f_f) s_f c_f), Ud, Ud, (u4 4), (Iv (k : Int)), (.slice p_xs L_xs.length q_xs), (Iv (L_xs.length : Int)), (Iv (k : Int)), (Bo (icmp .lss (k : Int) (L_xs.length : Int))), (Iv (k : Int)), (.func (.func f_f) s_f c_f), (.slice p_xs L_xs.length q_xs), (Iv (k : Int)), (Pt b15 o16), (.slice p21 el1.length q22), (Bo (pr_f el1)), (Iv (k : Int)), (u4 18)]) rfl rfl (does_move (u := (Iv (k : Int))) (ev rfl)) rfl ?_
        refine q_is (l' := [(.slice p_xs L_xs.length q_xs), (.func (.func f_f) s_f c_f), Ud, Ud, (Iv (k : Int)), (Iv (k : Int)), (.slice p_xs L_xs.length q_xs), (Iv (L_xs.length : Int)), (Iv (k : Int)), (Bo (icmp .lss (k : Int) (L_xs.length : Int))), (Iv (k : Int)), (.func (.func f_f) s_f c_f), (.slice p_xs L_xs.length q_xs), (Iv (k : Int)), (Pt b15 o16), (.slice p21 el1.length q22), (Bo (pr_f el1)), (Iv (k : Int)), (u4 18)]) rfl rfl (does_assign (u := (Iv (k : Int))) (ev rfl)) rfl ?_
        refine wpList_nil (hK28 _ _ ?_)
        refine wp_ret ?_
        dsimp only [Exit.then, Exit.inBlock]
        refine ret_val (v := (Iv (k : Int))) (res_T rfl (slot rfl)) X26 ?_
        try simp only [hel1] at c11 c27
        have x29 : (findI pr_f L_xs : Int) = (k : Int) := by first | exact findI_at hno (by assumption) (by simp_all) | exact findI_none hno (by omega)
        exact (by first | with_reducible rfl | rw [x29] | rfl)
      have c27' := c27
      refine wp_skip (hK12 _ _ ?_)
      refine wp_region_lit ?_
      refine q_is (l' := [(.slice p_xs L_xs.length q_xs), (.func (.func f_f) s_f c_f), Ud, Ud, (u4 4), (Iv (k : Int)), (.slice p_xs L_xs.length q_xs), (Iv (L_xs.length : Int)), (Iv (k : Int)), (Bo (icmp .lss (k : Int) (L_xs.length : Int))), (Iv (k : Int)), (.func (.func f_f) s_f c_f), (.slice p_xs L_xs.length q_xs), (Iv (k : Int)), (Pt b15 o16), (.slice p21 el1.length q22), (Bo (pr_f el1)), (u4 17), (Iv ((k : Int) + 1))]) rfl rfl (does_iarith (p := (k : Int)) (q := 1) (r := (k : Int) + 1) (ev rfl) (ev rfl) (.inl ⟨rfl, (in_i64 (by omega) (by omega)).symm⟩)) rfl ?_
      refine q_is (l' := [(.slice p_xs L_xs.length q_xs), (.func (.func f_f) s_f c_f), Ud, Ud, (u4 4), (Iv (k : Int)), (.slice p_xs L_xs.length q_xs), (Iv (L_xs.length : Int)), (Iv ((k : Int) + 1)), (Bo (icmp .lss (k : Int) (L_xs.length : Int))), (Iv (k : Int)), (.func (.func f_f) s_f c_f), (.slice p_xs L_xs.length q_xs), (Iv (k : Int)), (Pt b15 o16), (.slice p21 el1.length q22), (Bo (pr_f el1)), (u4 17), (Iv ((k : Int) + 1))]) rfl rfl (does_move (u := (Iv ((k : Int) + 1))) (ev rfl)) rfl ?_
      refine wpList_nil ?_
      refine ⟨k + 1, ⟨fun t => (([(.slice p_xs L_xs.length q_xs), (.func (.func f_f) s_f c_f), Ud, Ud, (u4 4), (Iv (k : Int)), (.slice p_xs L_xs.length q_xs), (Iv (L_xs.length : Int)), (Iv ((k : Int) + 1)), (Bo (icmp .lss (k : Int) (L_xs.length : Int))), (Iv (k : Int)), (.func (.func f_f) s_f c_f), (.slice p_xs L_xs.length q_xs), (Iv (k : Int)), (Pt b15 o16), (.slice p21 el1.length q22), (Bo (pr_f el1)), (u4 17), (Iv ((k : Int) + 1))] : List Value)[t]?).getD undef, ?_, (Ext.gr E6 E24), ?_⟩, ?_⟩
      · first | rfl | (simp only [Int.natCast_add, Int.natCast_one]; rfl)
      · exact ⟨by omega, NoneTo.step hno (by assumption) (by simp_all)⟩
      · omega
    have c11' := c11
    (try simp only [icmp, Bool.and_eq_true, Bool.or_eq_true, Bool.and_eq_false_iff, Bool.or_eq_false_iff, Bool.not_eq_true', Bool.not_eq_false', decide_eq_true_eq, decide_eq_false_iff_not, beq_iff_eq, bne_iff_ne, beq_eq_false_iff_ne, bne_eq_false_iff_eq] at c11')
    refine wp_exit ?_
    refine hK2 _ _ ?_
    refine wp_seq_k fun K30 hK30 => ?_
    refine wp_region_lit ?_
    refine q_is (l' := [(.slice p_xs L_xs.length q_xs), (.func (.func f_f) s_f c_f), Ud, Ud, (Iv (-1)), (u4 5), (.slice p_xs L_xs.length q_xs), (Iv (L_xs.length : Int)), (Iv (k : Int)), (Bo (icmp .lss (k : Int) (L_xs.length : Int))), (u4 10), (u4 11), (u4 12), (u4 13), (u4 14), (u4 15), (u4 16), (u4 17), (u4 18)]) rfl rfl (does_assign (u := (Iv (-1))) (ev rfl)) rfl ?_
    refine wpList_nil (hK30 _ _ ?_)
    refine wp_ret ?_
    refine ret_val (v := (Iv (-1))) (res_T rfl (slot rfl)) X8 ?_
    have x31 : (findI pr_f L_xs : Int) = (-1) := by first | exact findI_at hno (by assumption) (by simp_all) | exact findI_none hno (by omega)
    exact (by first | with_reducible rfl | rw [x31] | rfl)

/- slices.ContainsFunc[[][]int64,[]int64] -/
theorem c_slices_ContainsFunc_SS_int64_int64 (xs : Value) (L_xs : List (List Int)) (f : Value) (pr_f : List Int → Bool) (w : World) (hv_xs : Sl (RS RI 1) 1 w xs L_xs) (hv_f : ∃ fi fst cap, f = .func (.func fi) fst cap ∧ (∀ args w, (callFunc fi args).run Try.prog w = .ok (.enter fi args) w) ∧ ∀ (y0 : Value) (X0 : List Int) u, Ext w u → Sl RI 1 u y0 X0 → Gives Try.prog fi (fst ++ #[y0] ++ cap) u (fun v _ => v = .bool (pr_f X0))) : Gives Try.prog 49 #[xs, f] w (fun v w' => v = (Bo (L_xs.any pr_f))) := by
  have hlen_xs := Sl.len hv_xs; obtain ⟨p_xs, q_xs, rfl⟩ := Sl.shape hv_xs
  obtain ⟨f_f, s_f, c_f, rfl, hcal_f, hg_f⟩ := hv_f
  refine enter [(.slice p_xs L_xs.length q_xs), (.func (.func f_f) s_f c_f), Ud, Ud, Ud, Ud, Ud, Ud, Ud] Try.func49 rfl Try.ntmps49 rfl ?_
  refine wp_seq_k fun K1 hK1 => ?_
  refine wp_region_lit ?_
  refine q_is (l' := [(.slice p_xs L_xs.length q_xs), (.func (.func f_f) s_f c_f), Ud, Ud, (Bo false), Ud, Ud, Ud, Ud]) rfl rfl (does_assign (u := (Bo false)) (ev rfl)) rfl ?_
  refine wpList_nil (hK1 _ _ ?_)
  refine wp_seq_k fun K2 hK2 => ?_
  refine wp_region_lit ?_
  refine q_is (l' := [(.slice p_xs L_xs.length q_xs), (.func (.func f_f) s_f c_f), Ud, Ud, (Bo false), (.slice p_xs L_xs.length q_xs), Ud, Ud, Ud]) rfl rfl (does_move (u := (.slice p_xs L_xs.length q_xs)) (ev rfl)) rfl ?_
  refine q_is (l' := [(.slice p_xs L_xs.length q_xs), (.func (.func f_f) s_f c_f), Ud, Ud, (Bo false), (.slice p_xs L_xs.length q_xs), (.func (.func f_f) s_f c_f), Ud, Ud]) rfl rfl (does_move (u := (.func (.func f_f) s_f c_f)) (ev rfl)) rfl ?_
  refine seqd rfl rfl (does_call (args := #[(.slice p_xs L_xs.length q_xs), (.func (.func f_f) s_f c_f)]) cal61 (evs rfl) (c_slices_IndexFunc_SS_int64_int64 (.slice p_xs L_xs.length q_xs) L_xs (.func (.func f_f) s_f c_f) pr_f _ hv_xs ⟨_, _, _, rfl, hcal_f, fun y0 X0 u hu' ha0 => hg_f y0 X0 u (Ext.gr (Ext.refl w) hu') ha0⟩)) ?_; rintro _ w4 ⟨E3, rfl⟩
  have X5 := Ext.gr (Ext.refl w) E3
  show wpList _ _ _ _ (fr [(.slice p_xs L_xs.length q_xs), (.func (.func f_f) s_f c_f), Ud, Ud, (Bo false), (.slice p_xs L_xs.length q_xs), (.func (.func f_f) s_f c_f), (Iv (findI pr_f L_xs)), Ud]) _
  refine q_is (l' := [(.slice p_xs L_xs.length q_xs), (.func (.func f_f) s_f c_f), Ud, Ud, (Bo false), (.slice p_xs L_xs.length q_xs), (.func (.func f_f) s_f c_f), (Iv (findI pr_f L_xs)), (Bo (icmp .geq (findI pr_f L_xs) 0))]) rfl rfl (does_icmp (p := findI pr_f L_xs) (q := 0) (.inr (.inr (.inr (.inr (.inr rfl))))) (ev rfl) (ev rfl)) rfl ?_
  refine q_is (l' := [(.slice p_xs L_xs.length q_xs), (.func (.func f_f) s_f c_f), Ud, Ud, (Bo (icmp .geq (findI pr_f L_xs) 0)), (.slice p_xs L_xs.length q_xs), (.func (.func f_f) s_f c_f), (Iv (findI pr_f L_xs)), (Bo (icmp .geq (findI pr_f L_xs) 0))]) rfl rfl (does_assign (u := (Bo (icmp .geq (findI pr_f L_xs) 0))) (ev rfl)) rfl ?_
  refine wpList_nil (hK2 _ _ ?_)
  refine wp_ret ?_
  refine ret_val (v := (Bo (icmp .geq (findI pr_f L_xs) 0))) (res_T rfl (slot rfl)) X5 ?_
  have x6 : (L_xs.any pr_f) = (icmp .geq (findI pr_f L_xs) 0) := by first | with_reducible rfl | (simp only [findI_any]; done) | (simp [findI_any]; done) | rfl
  exact (by first | with_reducible rfl | rw [x6] | rfl)

/- slices.IndexFunc[[]int64,int64] -/
theorem c_slices_IndexFunc_int64_int64 (xs : Value) (L_xs : List Int) (f : Value) (pr_f : Int → Bool) (w : World) (hv_xs : Sl RI 1 w xs L_xs) (hv_f : ∃ fi fst cap, f = .func (.func fi) fst cap ∧ (∀ args w, (callFunc fi args).run Try.prog w = .ok (.enter fi args) w) ∧ ∀ (n0 : Int) u, Ext w u → Gives Try.prog fi (fst ++ #[.int .i64 n0] ++ cap) u (fun v _ => v = .bool (pr_f n0))) : Gives Try.prog 67 #[xs, f] w (fun v w' => v = (Iv (findI pr_f L_xs))) := by
  have hlen_xs := Sl.len hv_xs; obtain ⟨p_xs, q_xs, rfl⟩ := Sl.shape hv_xs
  obtain ⟨f_f, s_f, c_f, rfl, hcal_f, hg_f⟩ := hv_f
  refine enter [(.slice p_xs L_xs.length q_xs), (.func (.func f_f) s_f c_f), Ud, Ud, Ud, Ud, Ud, Ud, Ud, Ud, Ud, Ud, Ud, Ud, Ud, Ud, Ud, Ud, Ud] Try.func67 rfl Try.ntmps67 rfl ?_
  refine wp_seq_k fun K1 hK1 => ?_
  refine wp_region_lit ?_
  refine q_is (l' := [(.slice p_xs L_xs.length q_xs), (.func (.func f_f) s_f c_f), Ud, Ud, (Iv 0), Ud, Ud, Ud, Ud, Ud, Ud, Ud, Ud, Ud, Ud, Ud, Ud, Ud, Ud]) rfl rfl (does_assign (u := (Iv 0)) (ev rfl)) rfl ?_
  refine wpList_nil (hK1 _ _ ?_)
  refine wp_seq_k fun K2 hK2 => ?_
  refine wp_seq_k fun K3 hK3 => ?_
  refine wp_region_lit ?_
  refine q_is (l' := [(.slice p_xs L_xs.length q_xs), (.func (.func f_f) s_f c_f), Ud, Ud, (Iv 0), Ud, (.slice p_xs L_xs.length q_xs), Ud, Ud, Ud, Ud, Ud, Ud, Ud, Ud, Ud, Ud, Ud, Ud]) rfl rfl (does_move (u := (.slice p_xs L_xs.length q_xs)) (ev rfl)) rfl ?_
  refine q_is (l' := [(.slice p_xs L_xs.length q_xs), (.func (.func f_f) s_f c_f), Ud, Ud, (Iv 0), Ud, (.slice p_xs L_xs.length q_xs), (Iv (L_xs.length : Int)), Ud, Ud, Ud, Ud, Ud, Ud, Ud, Ud, Ud, Ud, Ud]) rfl rfl (does_len_slice Try.underlying27 (ev rfl)) rfl ?_
  refine q_is (l' := [(.slice p_xs L_xs.length q_xs), (.func (.func f_f) s_f c_f), Ud, Ud, (Iv 0), Ud, (.slice p_xs L_xs.length q_xs), (Iv (L_xs.length : Int)), (Iv 0), Ud, Ud, Ud, Ud, Ud, Ud, Ud, Ud, Ud, Ud]) rfl rfl (does_move (u := (Iv 0)) (ev rfl)) rfl ?_
  refine wpList_nil (hK3 _ _ ?_)
  refine wp_block ?_
  refine loop_ghost (σ := Nat) (fun k a w' => ∃ u4 : Nat → Value, a = fr [(.slice p_xs L_xs.length q_xs), (.func (.func f_f) s_f c_f), Ud, Ud, (u4 4), (u4 5), (.slice p_xs L_xs.length q_xs), (Iv (L_xs.length : Int)), (Iv (k : Int)), (u4 9), (u4 10), (u4 11), (u4 12), (u4 13), (u4 14), (u4 15), (u4 16), (u4 17), (u4 18)] ∧ Ext w w' ∧ (k ≤ L_xs.length ∧ NoneTo pr_f L_xs k)) (fun k => L_xs.length - k) 0 ?_ ?_
  · refine ⟨fun t => (([(.slice p_xs L_xs.length q_xs), (.func (.func f_f) s_f c_f), Ud, Ud, (Iv 0), Ud, (.slice p_xs L_xs.length q_xs), (Iv (L_xs.length : Int)), (Iv 0), Ud, Ud, Ud, Ud, Ud, Ud, Ud, Ud, Ud, Ud] : List Value)[t]?).getD undef, rfl, Ext.refl _, ?_⟩
    exact ⟨Nat.zero_le _, NoneTo.zero⟩
  · rintro k a w5 ⟨u4, rfl, E6, ⟨hk, hno⟩⟩
    have X8 := Ext.gr (Ext.refl w) E6
    refine wp_seq_k fun K9 hK9 => ?_
    refine wp_region_lit ?_
    refine q_is (l' := [(.slice p_xs L_xs.length q_xs), (.func (.func f_f) s_f c_f), Ud, Ud, (u4 4), (u4 5), (.slice p_xs L_xs.length q_xs), (Iv (L_xs.length : Int)), (Iv (k : Int)), (Bo (icmp .lss (k : Int) (L_xs.length : Int))), (u4 10), (u4 11), (u4 12), (u4 13), (u4 14), (u4 15), (u4 16), (u4 17), (u4 18)]) rfl rfl (does_icmp (p := (k : Int)) (q := (L_xs.length : Int)) (.inr (.inr (.inl rfl))) (ev rfl) (ev rfl)) rfl ?_
    refine wpList_nil (hK9 _ _ ?_)
    refine wp_seq_k fun K10 hK10 => ?_
    refine wp_cond_split (t := icmp .lss (k : Int) (L_xs.length : Int)) (ev rfl) (fun c11 => ?_) (fun c11 => ?_)
    · have c11' := c11
      (try simp only [icmp, Bool.and_eq_true, Bool.or_eq_true, Bool.and_eq_false_iff, Bool.or_eq_false_iff, Bool.not_eq_true', Bool.not_eq_false', decide_eq_true_eq, decide_eq_false_iff_not, beq_iff_eq, bne_iff_ne, beq_eq_false_iff_ne, bne_eq_false_iff_eq] at c11')
      refine wp_skip (hK10 _ _ ?_)
      refine wp_seq_k fun K12 hK12 => ?_
      refine wp_block ?_
      refine wp_seq_k fun K13 hK13 => ?_
      refine wp_region_lit ?_
      refine q_is (l' := [(.slice p_xs L_xs.length q_xs), (.func (.func f_f) s_f c_f), Ud, Ud, (u4 4), (u4 5), (.slice p_xs L_xs.length q_xs), (Iv (L_xs.length : Int)), (Iv (k : Int)), (Bo (icmp .lss (k : Int) (L_xs.length : Int))), (Iv (k : Int)), (u4 11), (u4 12), (u4 13), (u4 14), (u4 15), (u4 16), (u4 17), (u4 18)]) rfl rfl (does_move (u := (Iv (k : Int))) (ev rfl)) rfl ?_
      refine q_is (l' := [(.slice p_xs L_xs.length q_xs), (.func (.func f_f) s_f c_f), Ud, Ud, (u4 4), (Iv (k : Int)), (.slice p_xs L_xs.length q_xs), (Iv (L_xs.length : Int)), (Iv (k : Int)), (Bo (icmp .lss (k : Int) (L_xs.length : Int))), (Iv (k : Int)), (u4 11), (u4 12), (u4 13), (u4 14), (u4 15), (u4 16), (u4 17), (u4 18)]) rfl rfl (does_assign (u := (Iv (k : Int))) (ev rfl)) rfl ?_
      refine wpList_nil (hK13 _ _ ?_)
      refine wp_seq_k fun K14 hK14 => ?_
      refine wp_region_lit ?_
      refine q_is (l' := [(.slice p_xs L_xs.length q_xs), (.func (.func f_f) s_f c_f), Ud, Ud, (u4 4), (Iv (k : Int)), (.slice p_xs L_xs.length q_xs), (Iv (L_xs.length : Int)), (Iv (k : Int)), (Bo (icmp .lss (k : Int) (L_xs.length : Int))), (Iv (k : Int)), (.func (.func f_f) s_f c_f), (u4 12), (u4 13), (u4 14), (u4 15), (u4 16), (u4 17), (u4 18)]) rfl rfl (does_move (u := (.func (.func f_f) s_f c_f)) (ev rfl)) rfl ?_
      refine q_is (l' := [(.slice p_xs L_xs.length q_xs), (.func (.func f_f) s_f c_f), Ud, Ud, (u4 4), (Iv (k : Int)), (.slice p_xs L_xs.length q_xs), (Iv (L_xs.length : Int)), (Iv (k : Int)), (Bo (icmp .lss (k : Int) (L_xs.length : Int))), (Iv (k : Int)), (.func (.func f_f) s_f c_f), (.slice p_xs L_xs.length q_xs), (u4 13), (u4 14), (u4 15), (u4 16), (u4 17), (u4 18)]) rfl rfl (does_move (u := (.slice p_xs L_xs.length q_xs)) (ev rfl)) rfl ?_
      refine q_is (l' := [(.slice p_xs L_xs.length q_xs), (.func (.func f_f) s_f c_f), Ud, Ud, (u4 4), (Iv (k : Int)), (.slice p_xs L_xs.length q_xs), (Iv (L_xs.length : Int)), (Iv (k : Int)), (Bo (icmp .lss (k : Int) (L_xs.length : Int))), (Iv (k : Int)), (.func (.func f_f) s_f c_f), (.slice p_xs L_xs.length q_xs), (Iv (k : Int)), (u4 14), (u4 15), (u4 16), (u4 17), (u4 18)]) rfl rfl (does_move (u := (Iv (k : Int))) (ev rfl)) rfl ?_
      obtain ⟨el1, hel1⟩ : ∃ e, L_xs[k]? = some e := ⟨_, List.getElem?_eq_getElem (by omega)⟩
      refine seqd rfl rfl (does_indexSl (R := RI) (i := (k : Int)) (xs := L_xs) (e := el1) Try.underlying27 Try.sizeOf2 (ev rfl) (ev rfl) (Sl.ext hv_xs RI.mono X8) (by omega) hel1) ?_; rintro _ w5 ⟨b15, o16, _, rfl, hc18, rfl, rfl⟩
      show wpList _ _ _ _ (fr [(.slice p_xs L_xs.length q_xs), (.func (.func f_f) s_f c_f), Ud, Ud, (u4 4), (Iv (k : Int)), (.slice p_xs L_xs.length q_xs), (Iv (L_xs.length : Int)), (Iv (k : Int)), (Bo (icmp .lss (k : Int) (L_xs.length : Int))), (Iv (k : Int)), (.func (.func f_f) s_f c_f), (.slice p_xs L_xs.length q_xs), (Iv (k : Int)), (Pt b15 o16), (u4 15), (u4 16), (u4 17), (u4 18)]) _
      refine q_is (l' := [(.slice p_xs L_xs.length q_xs), (.func (.func f_f) s_f c_f), Ud, Ud, (u4 4), (Iv (k : Int)), (.slice p_xs L_xs.length q_xs), (Iv (L_xs.length : Int)), (Iv (k : Int)), (Bo (icmp .lss (k : Int) (L_xs.length : Int))), (Iv (k : Int)), (.func (.func f_f) s_f c_f), (.slice p_xs L_xs.length q_xs), (Iv (k : Int)), (Pt b15 o16), (Iv el1), (u4 16), (u4 17), (u4 18)]) rfl rfl (does_load (u := (Iv el1)) (ev rfl) Try.isAgg2 (Cells.at hc18 0 rfl)) rfl ?_
      refine seqd rfl rfl (does_callf (args := #[(Iv el1)]) (ev rfl) hcal_f (evs rfl) (hg_f el1 _ X8 )) ?_; rintro _ w20 ⟨E19, rfl⟩
      have X21 := Ext.gr X8 E19
      show wpList _ _ _ _ (fr [(.slice p_xs L_xs.length q_xs), (.func (.func f_f) s_f c_f), Ud, Ud, (u4 4), (Iv (k : Int)), (.slice p_xs L_xs.length q_xs), (Iv (L_xs.length : Int)), (Iv (k : Int)), (Bo (icmp .lss (k : Int) (L_xs.length : Int))), (Iv (k : Int)), (.func (.func f_f) s_f c_f), (.slice p_xs L_xs.length q_xs), (Iv (k : Int)), (Pt b15 o16), (Iv el1), (Bo (pr_f el1)), (u4 17), (u4 18)]) _
      refine wpList_nil (hK14 _ _ ?_)
      refine wp_cond_split (t := pr_f el1) (ev rfl) (fun c22 => ?_) (fun c22 => ?_)
      · have c22' := c22
        refine wp_seq_k fun K23 hK23 => ?_
        refine wp_region_lit ?_
        refine q_is (l' := [(.slice p_xs L_xs.length q_xs), (.func (.func f_f) s_f c_f), Ud, Ud, (u4 4), (Iv (k : Int)), (.slice p_xs L_xs.length q_xs), (Iv (L_xs.length : Int)), (Iv (k : Int)), (Bo (icmp .lss (k : Int) (L_xs.length : Int))), (Iv (k : Int)), (.func (.func f_f) s_f c_f), (.slice p_xs L_xs.length q_xs), (Iv (k : Int)), (Pt b15 o16), (Iv el1), (Bo (pr_f el1)), (Iv (k : Int)), (u4 18)]) rfl rfl (does_move (u := (Iv (k : Int))) (ev rfl)) rfl ?_
        refine q_is (l' := [(.slice p_xs L_xs.length q_xs), (.func (.func f_f) s_f c_f), Ud, Ud, (Iv (k : Int)), (Iv (k : Int)), (.slice p_xs L_xs.length q_xs), (Iv (L_xs.length : Int)), (Iv (k : Int)), (Bo (icmp .lss (k : Int) (L_xs.length : Int))), (Iv (k : Int)), (.func (.func f_f) s_f c_f), (.slice p_xs L_xs.length q_xs), (Iv (k : Int)), (Pt b15 o16), (Iv el1), (Bo (pr_f el1)), (Iv (k : Int)), (u4 18)]) rfl rfl (does_assign (u := (Iv (k : Int))) (ev rfl)) rfl ?_
        refine wpList_nil (hK23 _ _ ?_)
        refine wp_ret ?_
        dsimp only [Exit.then, Exit.inBlock]
        refine ret_val (v := (Iv (k : Int))) (res_T rfl (slot rfl)) X21 ?_
        try simp only [hel1] at c11 c22
        have x24 : (findI pr_f L_xs : Int) = (k : Int) := by first | exact findI_at hno (by assumption) (by simp_all) | exact findI_none hno (by omega)
        exact (by first | with_reducible rfl | rw [x24] | rfl)
      have c22' := c22
      refine wp_skip (hK12 _ _ ?_)
      refine wp_region_lit ?_
      refine q_is (l' := [(.slice p_xs L_xs.length q_xs), (.func (.func f_f) s_f c_f), Ud, Ud, (u4 4), (Iv (k : Int)), (.slice p_xs L_xs.length q_xs), (Iv (L_xs.length : Int)), (Iv (k : Int)), (Bo (icmp .lss (k : Int) (L_xs.length : Int))), (Iv (k : Int)), (.func (.func f_f) s_f c_f), (.slice p_xs L_xs.length q_xs), (Iv (k : Int)), (Pt b15 o16), (Iv el1), (Bo (pr_f el1)), (u4 17), (Iv ((k : Int) + 1))]) rfl rfl (does_iarith (p := (k : Int)) (q := 1) (r := (k : Int) + 1) (ev rfl) (ev rfl) (.inl ⟨rfl, (in_i64 (by omega) (by omega)).symm⟩)) rfl ?_
      refine q_is (l' := [(.slice p_xs L_xs.length q_xs), (.func (.func f_f) s_f c_f), Ud, Ud, (u4 4), (Iv (k : Int)), (.slice p_xs L_xs.length q_xs), (Iv (L_xs.length : Int)), (Iv ((k : Int) + 1)), (Bo (icmp .lss (k : Int) (L_xs.length : Int))), (Iv (k : Int)), (.func (.func f_f) s_f c_f), (.slice p_xs L_xs.length q_xs), (Iv (k : Int)), (Pt b15 o16), (Iv el1), (Bo (pr_f el1)), (u4 17), (Iv ((k : Int) + 1))]) rfl rfl (does_move (u := (Iv ((k : Int) + 1))) (ev rfl)) rfl ?_
      refine wpList_nil ?_
      refine ⟨k + 1, ⟨fun t => (([(.slice p_xs L_xs.length q_xs), (.func (.func f_f) s_f c_f), Ud, Ud, (u4 4), (Iv (k : Int)), (.slice p_xs L_xs.length q_xs), (Iv (L_xs.length : Int)), (Iv ((k : Int) + 1)), (Bo (icmp .lss (k : Int) (L_xs.length : Int))), (Iv (k : Int)), (.func (.func f_f) s_f c_f), (.slice p_xs L_xs.length q_xs), (Iv (k : Int)), (Pt b15 o16), (Iv el1), (Bo (pr_f el1)), (u4 17), (Iv ((k : Int) + 1))] : List Value)[t]?).getD undef, ?_, (Ext.gr E6 E19), ?_⟩, ?_⟩
      · first | rfl | (simp only [Int.natCast_add, Int.natCast_one]; rfl)
      · exact ⟨by omega, NoneTo.step hno (by assumption) (by simp_all)⟩
      · omega
    have c11' := c11
    (try simp only [icmp, Bool.and_eq_true, Bool.or_eq_true, Bool.and_eq_false_iff, Bool.or_eq_false_iff, Bool.not_eq_true', Bool.not_eq_false', decide_eq_true_eq, decide_eq_false_iff_not, beq_iff_eq, bne_iff_ne, beq_eq_false_iff_ne, bne_eq_false_iff_eq] at c11')
    refine wp_exit ?_
    refine hK2 _ _ ?_
    refine wp_seq_k fun K25 hK25 => ?_
    refine wp_region_lit ?_
    refine q_is (l' := [(.slice p_xs L_xs.length q_xs), (.func (.func f_f) s_f c_f), Ud, Ud, (Iv (-1)), (u4 5), (.slice p_xs L_xs.length q_xs), (Iv (L_xs.length : Int)), (Iv (k : Int)), (Bo (icmp .lss (k : Int) (L_xs.length : Int))), (u4 10), (u4 11), (u4 12), (u4 13), (u4 14), (u4 15), (u4 16), (u4 17), (u4 18)]) rfl rfl (does_assign (u := (Iv (-1))) (ev rfl)) rfl ?_
    refine wpList_nil (hK25 _ _ ?_)
    refine wp_ret ?_
    refine ret_val (v := (Iv (-1))) (res_T rfl (slot rfl)) X8 ?_
    have x26 : (findI pr_f L_xs : Int) = (-1) := by first | exact findI_at hno (by assumption) (by simp_all) | exact findI_none hno (by omega)
    exact (by first | with_reducible rfl | rw [x26] | rfl)

/- slices.ContainsFunc[[]int64,int64] -/
theorem c_slices_ContainsFunc_int64_int64 (xs : Value) (L_xs : List Int) (f : Value) (pr_f : Int → Bool) (w : World) (hv_xs : Sl RI 1 w xs L_xs) (hv_f : ∃ fi fst cap, f = .func (.func fi) fst cap ∧ (∀ args w, (callFunc fi args).run Try.prog w = .ok (.enter fi args) w) ∧ ∀ (n0 : Int) u, Ext w u → Gives Try.prog fi (fst ++ #[.int .i64 n0] ++ cap) u (fun v _ => v = .bool (pr_f n0))) : Gives Try.prog 62 #[xs, f] w (fun v w' => v = (Bo (L_xs.any pr_f))) := by
  have hlen_xs := Sl.len hv_xs; obtain ⟨p_xs, q_xs, rfl⟩ := Sl.shape hv_xs
  obtain ⟨f_f, s_f, c_f, rfl, hcal_f, hg_f⟩ := hv_f
  refine enter [(.slice p_xs L_xs.length q_xs), (.func (.func f_f) s_f c_f), Ud, Ud, Ud, Ud, Ud, Ud, Ud] Try.func62 rfl Try.ntmps62 rfl ?_
  refine wp_seq_k fun K1 hK1 => ?_
  refine wp_region_lit ?_
  refine q_is (l' := [(.slice p_xs L_xs.length q_xs), (.func (.func f_f) s_f c_f), Ud, Ud, (Bo false), Ud, Ud, Ud, Ud]) rfl rfl (does_assign (u := (Bo false)) (ev rfl)) rfl ?_
  refine wpList_nil (hK1 _ _ ?_)
  refine wp_seq_k fun K2 hK2 => ?_
  refine wp_region_lit ?_
  refine q_is (l' := [(.slice p_xs L_xs.length q_xs), (.func (.func f_f) s_f c_f), Ud, Ud, (Bo false), (.slice p_xs L_xs.length q_xs), Ud, Ud, Ud]) rfl rfl (does_move (u := (.slice p_xs L_xs.length q_xs)) (ev rfl)) rfl ?_
  refine q_is (l' := [(.slice p_xs L_xs.length q_xs), (.func (.func f_f) s_f c_f), Ud, Ud, (Bo false), (.slice p_xs L_xs.length q_xs), (.func (.func f_f) s_f c_f), Ud, Ud]) rfl rfl (does_move (u := (.func (.func f_f) s_f c_f)) (ev rfl)) rfl ?_
  refine seqd rfl rfl (does_call (args := #[(.slice p_xs L_xs.length q_xs), (.func (.func f_f) s_f c_f)]) cal67 (evs rfl) (c_slices_IndexFunc_int64_int64 (.slice p_xs L_xs.length q_xs) L_xs (.func (.func f_f) s_f c_f) pr_f _ hv_xs ⟨_, _, _, rfl, hcal_f, fun n0 u hu'  => hg_f n0 u (Ext.gr (Ext.refl w) hu') ⟩)) ?_; rintro _ w4 ⟨E3, rfl⟩
  have X5 := Ext.gr (Ext.refl w) E3
  show wpList _ _ _ _ (fr [(.slice p_xs L_xs.length q_xs), (.func (.func f_f) s_f c_f), Ud, Ud, (Bo false), (.slice p_xs L_xs.length q_xs), (.func (.func f_f) s_f c_f), (Iv (findI pr_f L_xs)), Ud]) _
  refine q_is (l' := [(.slice p_xs L_xs.length q_xs), (.func (.func f_f) s_f c_f), Ud, Ud, (Bo false), (.slice p_xs L_xs.length q_xs), (.func (.func f_f) s_f c_f), (Iv (findI pr_f L_xs)), (Bo (icmp .geq (findI pr_f L_xs) 0))]) rfl rfl (does_icmp (p := findI pr_f L_xs) (q := 0) (.inr (.inr (.inr (.inr (.inr rfl))))) (ev rfl) (ev rfl)) rfl ?_
  refine q_is (l' := [(.slice p_xs L_xs.length q_xs), (.func (.func f_f) s_f c_f), Ud, Ud, (Bo (icmp .geq (findI pr_f L_xs) 0)), (.slice p_xs L_xs.length q_xs), (.func (.func f_f) s_f c_f), (Iv (findI pr_f L_xs)), (Bo (icmp .geq (findI pr_f L_xs) 0))]) rfl rfl (does_assign (u := (Bo (icmp .geq (findI pr_f L_xs) 0))) (ev rfl)) rfl ?_
  refine wpList_nil (hK2 _ _ ?_)
  refine wp_ret ?_
  refine ret_val (v := (Bo (icmp .geq (findI pr_f L_xs) 0))) (res_T rfl (slot rfl)) X5 ?_
  have x6 : (L_xs.any pr_f) = (icmp .geq (findI pr_f L_xs) 0) := by first | with_reducible rfl | (simp only [findI_any]; done) | (simp [findI_any]; done) | rfl
  exact (by first | with_reducible rfl | rw [x6] | rfl)

/- impl.in -/
theorem c_impl_in (n : Int) (low : Int) (high : Int) (w : World) : Gives Try.prog 59 #[(Iv n), (Iv low), (Iv high)] w (fun v w' => v = (Bo (inI n low high))) := by
  refine enter [(Iv n), (Iv low), (Iv high), Ud, Ud, Ud, Ud, Ud, Ud, Ud, Ud, Ud, Ud, Ud, Ud] Try.func59 rfl Try.ntmps59 rfl ?_
  refine wp_seq_k fun K1 hK1 => ?_
  refine wp_region_lit ?_
  refine q_is (l' := [(Iv n), (Iv low), (Iv high), Ud, Ud, Ud, (Bo false), Ud, Ud, Ud, Ud, Ud, Ud, Ud, Ud]) rfl rfl (does_assign (u := (Bo false)) (ev rfl)) rfl ?_
  refine wpList_nil (hK1 _ _ ?_)
  refine wp_seq_k fun K2 hK2 => ?_
  obtain ⟨β1, hβ1⟩ : ∃ b : Bool, b = ((icmp .geq n low) && (icmp .leq n high)) := ⟨_, rfl⟩
  refine region_text (
    [Fact.pure [] (fun v => v = (Iv n)),
    Fact.pure [] (fun v => v = (Iv low)),
    Fact.pure [7, 8] (fun v => v = (Bo (icmp .geq n low))),
    Fact.pure [9] (fun v => v = (Bo (icmp .geq n low))),
    Fact.pure [10] (fun v => (icmp .geq n low) = true → v = (Iv n)),
    Fact.pure [10] (fun v => (icmp .geq n low) = true → v = (Iv high)),
    Fact.pure [11, 12, 10] (fun v => (icmp .geq n low) = true → v = (Bo (icmp .leq n high))),
    Fact.pure [10, 13] (fun v => v = (Bo β1))]) (by simp [Fact.pure, Fact.mem]) ?_
  refine RW_d (fun v3 => [(Iv n), (Iv low), (Iv high), Ud, Ud, Ud, (Bo false), v3, Ud, Ud, Ud, Ud, Ud, Ud, Ud]) rfl (fun _ => rfl) (fun u hu hF => ?_) (fun v3 => ?_)
  · clear hF
    refine doesG_un rfl ?_
    refine (does_move (u := (Iv n)) (ev rfl)).mono ?_; rintro _ _ ⟨rfl, rfl⟩
    exact ⟨rfl, Ext.refl _⟩
  refine RW_d (fun v4 => [(Iv n), (Iv low), (Iv high), Ud, Ud, Ud, (Bo false), v3, v4, Ud, Ud, Ud, Ud, Ud, Ud]) rfl (fun _ => rfl) (fun u hu hF => ?_) (fun v4 => ?_)
  · clear hF
    refine doesG_un rfl ?_
    refine (does_move (u := (Iv low)) (ev rfl)).mono ?_; rintro _ _ ⟨rfl, rfl⟩
    exact ⟨rfl, Ext.refl _⟩
  refine RW_d (fun v5 => [(Iv n), (Iv low), (Iv high), Ud, Ud, Ud, (Bo false), v3, v4, v5, Ud, Ud, Ud, Ud, Ud]) rfl (fun _ => rfl) (fun u hu hF => ?_) (fun v5 => ?_)
  · have h7_ : v3 = (Iv n) := hF.1
    have h8_ : v4 = (Iv low) := hF.2.1
    clear hF
    refine doesG_un rfl ?_
    obtain rfl := h7_
    obtain rfl := h8_
    refine (does_icmp (p := n) (q := low) (.inr (.inr (.inr (.inr (.inr rfl))))) (ev rfl) (ev rfl)).mono ?_; rintro _ _ ⟨rfl, rfl⟩
    exact ⟨rfl, Ext.refl _⟩
  refine RW_d (fun v6 => [(Iv n), (Iv low), (Iv high), Ud, Ud, Ud, (Bo false), v3, v4, v5, v6, Ud, Ud, Ud, Ud]) rfl (fun _ => rfl) (fun u hu hF => ?_) (fun v6 => ?_)
  · have h9_ : v5 = (Bo (icmp .geq n low)) := hF.1
    clear hF
    refine doesG_un rfl ?_
    obtain rfl := h9_
    refine (does_move (u := (Bo (icmp .geq n low))) (ev rfl)).mono ?_; rintro _ _ ⟨rfl, rfl⟩
    exact ⟨rfl, Ext.refl _⟩
  refine RW_d (fun v7 => [(Iv n), (Iv low), (Iv high), Ud, Ud, Ud, (Bo false), v3, v4, v5, v6, v7, Ud, Ud, Ud]) rfl (fun _ => rfl) (fun u hu hF => ?_) (fun v7 => ?_)
  · have h10_ : v6 = (Bo (icmp .geq n low)) := hF.1
    clear hF
    obtain rfl := h10_
    refine doesG_g (b := (icmp .geq n low)) rfl (yld rfl rfl) (fun hg1 => ?_) (fun hc => ⟨fun hg1 => absurd hg1 hc, Ext.refl _⟩)
    refine (does_move (u := (Iv n)) (ev rfl)).mono ?_; rintro _ _ ⟨rfl, rfl⟩
    exact ⟨fun _ => rfl, Ext.refl _⟩
  refine RW_d (fun v8 => [(Iv n), (Iv low), (Iv high), Ud, Ud, Ud, (Bo false), v3, v4, v5, v6, v7, v8, Ud, Ud]) rfl (fun _ => rfl) (fun u hu hF => ?_) (fun v8 => ?_)
  · have h10_ : v6 = (Bo (icmp .geq n low)) := hF.1
    clear hF
    obtain rfl := h10_
    refine doesG_g (b := (icmp .geq n low)) rfl (yld rfl rfl) (fun hg1 => ?_) (fun hc => ⟨fun hg1 => absurd hg1 hc, Ext.refl _⟩)
    refine (does_move (u := (Iv high)) (ev rfl)).mono ?_; rintro _ _ ⟨rfl, rfl⟩
    exact ⟨fun _ => rfl, Ext.refl _⟩
  refine RW_d (fun v9 => [(Iv n), (Iv low), (Iv high), Ud, Ud, Ud, (Bo false), v3, v4, v5, v6, v7, v8, v9, Ud]) rfl (fun _ => rfl) (fun u hu hF => ?_) (fun v9 => ?_)
  · have h11_ : (icmp .geq n low) = true → v7 = (Iv n) := hF.1
    have h12_ : (icmp .geq n low) = true → v8 = (Iv high) := hF.2.1
    have h10_ : v6 = (Bo (icmp .geq n low)) := hF.2.2.1
    clear hF
    obtain rfl := h10_
    refine doesG_g (b := (icmp .geq n low)) rfl (yld rfl rfl) (fun hg1 => ?_) (fun hc => ⟨fun hg1 => absurd hg1 hc, Ext.refl _⟩)
    obtain rfl := h11_ hg1
    obtain rfl := h12_ hg1
    refine (does_icmp (p := n) (q := high) (.inr (.inr (.inr (.inl rfl)))) (ev rfl) (ev rfl)).mono ?_; rintro _ _ ⟨rfl, rfl⟩
    exact ⟨fun _ => rfl, Ext.refl _⟩
  refine RW_d (fun v10 => [(Iv n), (Iv low), (Iv high), Ud, Ud, Ud, (Bo false), v3, v4, v5, v6, v7, v8, v9, v10]) rfl (fun _ => rfl) (fun u hu hF => ?_) (fun v10 => ?_)
  · have h10_ : v6 = (Bo (icmp .geq n low)) := hF.1
    have h13_ : (icmp .geq n low) = true → v9 = (Bo (icmp .leq n high)) := hF.2.1
    clear hF
    refine doesG_un rfl ?_
    skip
    obtain rfl := h10_
    refine (does_pick (b := (icmp .geq n low)) (u := v9) (v := (Bo false)) (ev rfl) (ev rfl) (ev rfl)).mono ?_; rintro _ _ ⟨rfl, rfl⟩; refine ⟨?_, Ext.refl _⟩; rw [hβ1]; skip
    cases hbb : (icmp .geq n low)
    all_goals first | (show _ = _; simp only [↓reduceIte, Bool.true_and, Bool.false_and, Bool.true_or, Bool.false_or, Bool.false_eq_true]; done) | (have e_ := h13_ hbb; subst e_; show _ = _; simp only [↓reduceIte, Bool.true_and, Bool.false_and, Bool.true_or, Bool.false_or, Bool.false_eq_true]; done) | rfl | (have e_ := h13_ hbb; subst e_; rfl) | (simp [hbb] at h13_ ⊢; first | done | rfl | (subst h13_; rfl) | simp_all) | (simp [hbb] at h13_ ⊢; done)
  refine RW_fin ?_; intro w11 E12 hP13
  obtain ⟨⟨⟨⟨⟨⟨⟨⟨-, -⟩, -⟩, -⟩, -⟩, -⟩, -⟩, -⟩, q14⟩ := hP13
  have X15 := Ext.gr (Ext.refl w) E12
  have q14 : v10 = (Bo β1) := q14
  obtain rfl := q14
  show wpList _ _ _ _ (fr [(Iv n), (Iv low), (Iv high), Ud, Ud, Ud, (Bo false), v3, v4, v5, v6, v7, v8, v9, (Bo β1)]) _
  refine q_is (l' := [(Iv n), (Iv low), (Iv high), Ud, Ud, Ud, (Bo β1), v3, v4, v5, v6, v7, v8, v9, (Bo β1)]) rfl rfl (does_assign (u := (Bo β1)) (ev rfl)) rfl ?_
  refine wpList_nil (hK2 _ _ ?_)
  refine wp_ret ?_
  refine ret_val (v := (Bo β1)) (res_T rfl (slot rfl)) X15 ?_
  have x16 : (inI n low high) = β1 := by first | with_reducible rfl | (simp only [inI, hβ1]; done) | (simp [inI, hβ1]; done) | rfl
  exact (by first | with_reducible rfl | rw [x16] | rfl)

/- impl.isTriangle$1 -/
theorem c_impl_isTriangle_1 (x_ : Int) (pn_b : Nat) (pn_o : Nat) (n_ : Int) (w : World) (hc_pn : Cells w pn_b pn_o [(Iv n_)]) : Gives Try.prog 63 #[(Iv x_), (Pt pn_b pn_o)] w (fun v w' => v = (Bo (!inI x_ 0 (IntKind.i64.wrap (n_ - 1))))) := by
  refine enter [(Iv x_), (Pt pn_b pn_o), Ud, Ud, Ud, Ud, Ud, Ud, Ud] Try.func63 rfl Try.ntmps63 rfl ?_
  refine wp_seq_k fun K1 hK1 => ?_
  refine wp_region_lit ?_
  refine q_is (l' := [(Iv x_), (Pt pn_b pn_o), Ud, (Bo false), Ud, Ud, Ud, Ud, Ud]) rfl rfl (does_assign (u := (Bo false)) (ev rfl)) rfl ?_
  refine wpList_nil (hK1 _ _ ?_)
  refine wp_seq_k fun K2 hK2 => ?_
  refine wp_region_lit ?_
  refine q_is (l' := [(Iv x_), (Pt pn_b pn_o), Ud, (Bo false), (Iv x_), Ud, Ud, Ud, Ud]) rfl rfl (does_move (u := (Iv x_)) (ev rfl)) rfl ?_
  refine q_is (l' := [(Iv x_), (Pt pn_b pn_o), Ud, (Bo false), (Iv x_), (Iv n_), Ud, Ud, Ud]) rfl rfl (does_load (u := (Iv n_)) (ev rfl) Try.isAgg3 (Cells.at hc_pn 0 rfl)) rfl ?_
  refine q_is (l' := [(Iv x_), (Pt pn_b pn_o), Ud, (Bo false), (Iv x_), (Iv n_), (Iv (IntKind.i64.wrap (n_ - 1))), Ud, Ud]) rfl rfl (does_iarith (p := n_) (q := 1) (r := IntKind.i64.wrap (n_ - 1)) (ev rfl) (ev rfl) (.inr (.inl ⟨rfl, rfl⟩))) rfl ?_
  refine seqd rfl rfl (does_call (args := #[(Iv x_), (Iv 0), (Iv (IntKind.i64.wrap (n_ - 1)))]) cal59 (evs rfl) (c_impl_in x_ 0 (IntKind.i64.wrap (n_ - 1)) _)) ?_; rintro _ w4 ⟨E3, rfl⟩
  have X5 := Ext.gr (Ext.refl w) E3
  show wpList _ _ _ _ (fr [(Iv x_), (Pt pn_b pn_o), Ud, (Bo false), (Iv x_), (Iv n_), (Iv (IntKind.i64.wrap (n_ - 1))), (Bo (inI x_ 0 (IntKind.i64.wrap (n_ - 1)))), Ud]) _
  refine q_is (l' := [(Iv x_), (Pt pn_b pn_o), Ud, (Bo false), (Iv x_), (Iv n_), (Iv (IntKind.i64.wrap (n_ - 1))), (Bo (inI x_ 0 (IntKind.i64.wrap (n_ - 1)))), (Bo (!(inI x_ 0 (IntKind.i64.wrap (n_ - 1)))))]) rfl rfl (does_not (ev rfl)) rfl ?_
  refine q_is (l' := [(Iv x_), (Pt pn_b pn_o), Ud, (Bo (!(inI x_ 0 (IntKind.i64.wrap (n_ - 1))))), (Iv x_), (Iv n_), (Iv (IntKind.i64.wrap (n_ - 1))), (Bo (inI x_ 0 (IntKind.i64.wrap (n_ - 1)))), (Bo (!(inI x_ 0 (IntKind.i64.wrap (n_ - 1)))))]) rfl rfl (does_assign (u := (Bo (!(inI x_ 0 (IntKind.i64.wrap (n_ - 1)))))) (ev rfl)) rfl ?_
  refine wpList_nil (hK2 _ _ ?_)
  refine wp_ret ?_
  refine ret_val (v := (Bo (!(inI x_ 0 (IntKind.i64.wrap (n_ - 1)))))) (res_T rfl (slot rfl)) X5 ?_
  have x6 : (!inI x_ 0 (IntKind.i64.wrap (n_ - 1))) = (!(inI x_ 0 (IntKind.i64.wrap (n_ - 1)))) := by first | with_reducible rfl | (simp only []; done) | (simp []; done) | rfl
  exact (by first | with_reducible rfl | rw [x6] | rfl)

end Go.Proofs.Ytlfpeihlfmdmdaa
