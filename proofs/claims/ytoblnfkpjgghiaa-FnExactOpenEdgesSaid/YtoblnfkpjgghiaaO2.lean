/- contracts of functions, each walked once -/
import Derived.Test.YtoblnfkpjgghiaaO
namespace Go.Proofs.Ytoblnfkpjgghiaa
open Go Go.RowKit
set_option maxRecDepth 100000
set_option maxHeartbeats 3200000
set_option linter.unusedVariables false
set_option linter.unusedSimpArgs false

/- spec.l07Next -/
theorem c_spec_l07Next (m_b : Nat) (m_o : Nat) (m : List Value) (A_m : MeshT) (w : World) (hc_m : Cells w m_b m_o m) (hv_m : RMeshT w A_m m) (hmt : meshOk A_m = true) : Gives Try.prog 39 #[(Pt m_b m_o)] w (fun v w' => ∃ y_1 : Value, v = y_1 ∧ Hang w.heap.size w' (fun u => Sl (RS RI 1) 1 u y_1 (nextL A_m))) := by
  obtain ⟨y1, y3, rfl, h2, h4⟩ := hv_m
  have hs7 := h2; have hs7l := Sl.len h2; obtain ⟨p5, q6, rfl⟩ := Sl.shape h2
  have hs10 := h4; have hs10l := Sl.len h4; obtain ⟨p8, q9, rfl⟩ := Sl.shape h4
  have hml := mesh_len hmt
  refine enter [(Pt m_b m_o), Ud, Ud, Ud, Ud, Ud, Ud, Ud, Ud, Ud, Ud, Ud, Ud, Ud, Ud, Ud, Ud, Ud, Ud, Ud, Ud, Ud, Ud, Ud, Ud, Ud, Ud, Ud, Ud, Ud, Ud, Ud, Ud, Ud, Ud, Ud, Ud, Ud, Ud, Ud, Ud, Ud, Ud, Ud, Ud, Ud, Ud, Ud, Ud, Ud, Ud, Ud, Ud, Ud, Ud] Try.func39 rfl Try.ntmps39 rfl ?_
  refine wp_seq_k fun K11 hK11 => ?_
  refine wp_region_lit ?_
  refine q_is rfl rfl (does_assign (u := (.slice none 0 0)) (ev rfl)) (by dsimp only [List.set]; try rfl) ?_
  refine wpList_nil (hK11 _ _ ?_)
  refine wp_seq_k fun K12 hK12 => ?_
  refine wp_region_lit ?_
  refine q_is rfl rfl (does_move (u := (Pt m_b m_o)) (ev rfl)) (by dsimp only [List.set]; try rfl) ?_
  refine q_is rfl rfl (does_nilCheck (ev rfl)) (by dsimp only [List.set]; try rfl) ?_
  refine q_is rfl rfl (does_fieldAddr (ev rfl) fa32_0) (by dsimp only [List.set]; try rfl) ?_
  refine q_is rfl rfl (does_load (u := (.slice p5 A_m.places.length q6)) (ev rfl) Try.isAgg30 (Cells.at hc_m 0 rfl)) (by dsimp only [List.set]; try rfl) ?_
  refine q_is rfl rfl (does_len_slice Try.underlying30 (ev rfl)) (by dsimp only [List.set]; try rfl) ?_
  refine seqd rfl rfl (does_makeSlice (n := A_m.places.length) Try.underlying23 inf27 (ev rfl) (ev rfl) (by omega)) ?_; rintro _ w17 ⟨b13, rfl, hb14, ⟨cs18, hB15, hl19, hz20⟩, E16⟩
  have n21 : m_b < b13 := Nat.lt_of_lt_of_le (cell_lt (Cells.at hc_m 0 rfl)) hb14
  have g22 : w.heap.size ≤ b13 := Nat.le_trans (Below.size (Ext.refl w)) hb14
  have X23 := Ext.gr (Ext.refl w) E16
  have hR24 : RowG RVl 1 w17 b13 (List.replicate A_m.places.length (.slice none 0 0)) := RowG.made (z := (.slice none 0 0)) hB15 rfl rfl hz20 rfl
  have n26 : m_b < w17.heap.size := cell_lt (Cells.at (hc_m.ext X23) 0 rfl)
  have n27 : b13 < w17.heap.size := RowG.lt hR24
  have hN25 : NxI 2 w17.heap.size w17 (List.replicate A_m.places.length (.slice none 0 0)) (List.replicate A_m.places.length []) := NxI.zero _ (Nat.le_refl _)
  show wpList _ _ _ _ (fr [_, _, _, _, _, _, _, _, _, _, _, _, _, _, _, _, _, _, _, _, _, _, _, _, _, _, _, _, _, _, _, _, _, _, _, _, _, _, _, _, _, _, _, _, _, _, _, _, _, _, _, _, _, _, _]) _
  refine q_is rfl rfl (does_assign (u := (.slice (some ⟨b13, 0, none⟩) A_m.places.length A_m.places.length)) (ev rfl)) (by dsimp only [List.set]; try rfl) ?_
  refine wpList_nil (hK12 _ _ ?_)
  refine wp_seq_k fun K28 hK28 => ?_
  refine wp_seq_k fun K29 hK29 => ?_
  refine wp_region_lit ?_
  refine q_is rfl rfl (does_move (u := (Pt m_b m_o)) (ev rfl)) (by dsimp only [List.set]; try rfl) ?_
  refine q_is rfl rfl (does_nilCheck (ev rfl)) (by dsimp only [List.set]; try rfl) ?_
  refine q_is rfl rfl (does_fieldAddr (ev rfl) fa32_1) (by dsimp only [List.set]; try rfl) ?_
  refine q_is rfl rfl (does_load (u := (.slice p8 A_m.tris.length q9)) (ev rfl) Try.isAgg23 (Cells.at (hc_m.ext X23) 1 rfl)) (by dsimp only [List.set]; try rfl) ?_
  refine q_is rfl rfl (does_len_slice Try.underlying23 (ev rfl)) (by dsimp only [List.set]; try rfl) ?_
  refine q_is rfl rfl (does_move (u := (Iv 0)) (ev rfl)) (by dsimp only [List.set]; try rfl) ?_
  refine wpList_nil (hK29 _ _ ?_)
  refine wp_block ?_
  refine loop_ghost (σ := Nat) (fun k a w' => ∃ u30 : Nat → Value, a = fr [(Pt m_b m_o), Ud, (.slice none 0 0), (.slice (some ⟨b13, 0, none⟩) A_m.places.length A_m.places.length), (u30 4), (u30 5), (u30 6), (Pt m_b m_o), (Pt m_b m_o), (Pt m_b m_o), (.slice p5 A_m.places.length q6), (Iv (A_m.places.length : Int)), (.slice (some ⟨b13, 0, none⟩) A_m.places.length A_m.places.length), (Pt m_b m_o), (Pt m_b m_o), (Pt m_b (m_o + 1)), (.slice p8 A_m.tris.length q9), (Iv (A_m.tris.length : Int)), (Iv (k : Int)), (u30 19), (u30 20), (u30 21), (u30 22), (u30 23), (u30 24), (u30 25), (u30 26), (u30 27), (u30 28), (u30 29), (u30 30), (u30 31), (u30 32), (u30 33), (u30 34), (u30 35), (u30 36), (u30 37), (u30 38), (u30 39), (u30 40), (u30 41), (u30 42), (u30 43), (u30 44), (u30 45), (u30 46), (u30 47), (u30 48), (u30 49), (u30 50), (u30 51), (u30 52), (u30 53), Ud] ∧ KpC w17.heap.size [b13] w17 w' ∧ (∃ vs, RowG RVl 1 w' b13 vs ∧ NxI 2 w17.heap.size w' vs (nextTo A_m k)) ∧ (k ≤ A_m.tris.length)) (fun k => A_m.tris.length - k) 0 ?_ ?_
  · refine ⟨fun t => (([(Pt m_b m_o), Ud, (.slice none 0 0), (.slice (some ⟨b13, 0, none⟩) A_m.places.length A_m.places.length), Ud, Ud, Ud, (Pt m_b m_o), (Pt m_b m_o), (Pt m_b m_o), (.slice p5 A_m.places.length q6), (Iv (A_m.places.length : Int)), (.slice (some ⟨b13, 0, none⟩) A_m.places.length A_m.places.length), (Pt m_b m_o), (Pt m_b m_o), (Pt m_b (m_o + 1)), (.slice p8 A_m.tris.length q9), (Iv (A_m.tris.length : Int)), (Iv 0), Ud, Ud, Ud, Ud, Ud, Ud, Ud, Ud, Ud, Ud, Ud, Ud, Ud, Ud, Ud, Ud, Ud, Ud, Ud, Ud, Ud, Ud, Ud, Ud, Ud, Ud, Ud, Ud, Ud, Ud, Ud, Ud, Ud, Ud, Ud, Ud] : List Value)[t]?).getD undef, rfl, KpC.refl _ _ _, ⟨_, hR24, NxI.cast (NxI.reC hN25 (Nat.le_refl _)) (by (try dsimp only); rfl)⟩, ?_⟩
    exact Nat.zero_le _
  · rintro k a w31 ⟨u30, rfl, E32, ⟨vs0_k, hRv0, hNx0⟩, hk⟩
    obtain ⟨Lx34, K35, hL36⟩ := E32
    have X37 := Below.kl X23 K35 (fun c hc => (hL36 c hc).elim ((allS g22 all0) c) (fun h => Nat.le_trans (Below.size X23) h)) (Nat.le_refl _)
    have hR38 := hRv0; have hN39 := hNx0; clear hRv0 hNx0; have hvl39 := (NxI.len hN39).trans (show (nextTo A_m k).length = A_m.places.length from by simp only [nxQ_len, nextTo_len])
    refine wp_seq_k fun K40 hK40 => ?_
    refine wp_region_lit ?_
    refine q_is rfl rfl (does_icmp (p := (k : Int)) (q := (A_m.tris.length : Int)) (.inr (.inr (.inl rfl))) (ev rfl) (ev rfl)) (by dsimp only [List.set]; try rfl) ?_
    refine wpList_nil (hK40 _ _ ?_)
    refine wp_seq_k fun K41 hK41 => ?_
    refine wp_cond_split (t := icmp .lss (k : Int) (A_m.tris.length : Int)) (ev rfl) (fun c42 => ?_) (fun c42 => ?_)
    · have c42' := c42
      (try simp only [icmp, Bool.and_eq_true, Bool.or_eq_true, Bool.and_eq_false_iff, Bool.or_eq_false_iff, Bool.not_eq_true', Bool.not_eq_false', decide_eq_true_eq, decide_eq_false_iff_not, beq_iff_eq, bne_iff_ne, beq_eq_false_iff_ne, bne_eq_false_iff_eq] at c42')
      refine wp_skip (hK41 _ _ ?_)
      refine wp_seq_k fun K43 hK43 => ?_
      refine wp_block ?_
      refine wp_seq_k fun K44 hK44 => ?_
      refine wp_region_lit ?_
      refine q_is rfl rfl (does_move (u := (Iv (k : Int))) (ev rfl)) (by dsimp only [List.set]; try rfl) ?_
      refine q_is rfl rfl (does_assign (u := (Iv (k : Int))) (ev rfl)) (by dsimp only [List.set]; try rfl) ?_
      refine wpList_nil (hK44 _ _ ?_)
      refine wp_seq_k fun K45 hK45 => ?_
      refine wp_region_lit ?_
      refine q_is rfl rfl (does_move (u := (Pt m_b m_o)) (ev rfl)) (by dsimp only [List.set]; try rfl) ?_
      refine q_is rfl rfl (does_nilCheck (ev rfl)) (by dsimp only [List.set]; try rfl) ?_
      refine q_is rfl rfl (does_fieldAddr (ev rfl) fa32_1) (by dsimp only [List.set]; try rfl) ?_
      refine q_is rfl rfl (does_load (u := (.slice p8 A_m.tris.length q9)) (ev rfl) Try.isAgg23 (Cells.at (hc_m.ext X37) 1 rfl)) (by dsimp only [List.set]; try rfl) ?_
      refine q_is rfl rfl (does_move (u := (Iv (k : Int))) (ev rfl)) (by dsimp only [List.set]; try rfl) ?_
      obtain ⟨el1, hel1⟩ : ∃ e, A_m.tris[k]? = some e := ⟨_, List.getElem?_eq_getElem (by omega)⟩
      refine seqd rfl rfl (does_indexSl0 (R := (RS RI 1)) (i := (k : Int)) (xs := A_m.tris) (e := el1) Try.underlying23 Try.sizeOf27 (ev rfl) (ev rfl) hs10 (by omega) hel1) ?_; rintro _ w31 ⟨b46, o47, _, rfl, hc49, ⟨y50, rfl, h51⟩, rfl⟩
      have hs54 := h51; have hs54l := Sl.len h51; obtain ⟨p52, q53, rfl⟩ := Sl.shape h51
      show wpList _ _ _ _ (fr [_, _, _, _, _, _, _, _, _, _, _, _, _, _, _, _, _, _, _, _, _, _, _, _, _, _, _, _, _, _, _, _, _, _, _, _, _, _, _, _, _, _, _, _, _, _, _, _, _, _, _, _, _, _, _]) _
      refine q_is rfl rfl (does_load (u := (.slice p52 el1.length q53)) (ev rfl) Try.isAgg27 (Cells.at (hc49.ext X37) 0 rfl)) (by dsimp only [List.set]; try rfl) ?_
      refine q_is rfl rfl (does_assign (u := (.slice p52 el1.length q53)) (ev rfl)) (by dsimp only [List.set]; try rfl) ?_
      refine wpList_nil (hK45 _ _ ?_)
      refine wp_seq_k fun K55 hK55 => ?_
      refine wp_region_lit ?_
      refine q_is rfl rfl (does_assign (u := (Iv 0)) (ev rfl)) (by dsimp only [List.set]; try rfl) ?_
      refine wpList_nil (hK55 _ _ ?_)
      refine wp_block ?_
      refine loop_ghost (σ := Nat) (fun q a w' => ∃ u56 : Nat → Value, a = fr [(Pt m_b m_o), Ud, (.slice none 0 0), (.slice (some ⟨b13, 0, none⟩) A_m.places.length A_m.places.length), (Iv (k : Int)), (.slice p52 el1.length q53), (Iv (q : Int)), (Pt m_b m_o), (Pt m_b m_o), (Pt m_b m_o), (.slice p5 A_m.places.length q6), (Iv (A_m.places.length : Int)), (.slice (some ⟨b13, 0, none⟩) A_m.places.length A_m.places.length), (Pt m_b m_o), (Pt m_b m_o), (Pt m_b (m_o + 1)), (.slice p8 A_m.tris.length q9), (Iv (A_m.tris.length : Int)), (Iv (k : Int)), (Bo (icmp .lss (k : Int) (A_m.tris.length : Int))), (Iv (k : Int)), (Pt m_b m_o), (Pt m_b m_o), (Pt m_b (m_o + 1)), (.slice p8 A_m.tris.length q9), (Iv (k : Int)), (Pt b46 o47), (.slice p52 el1.length q53), (u56 28), (u56 29), (u56 30), (u56 31), (u56 32), (u56 33), (u56 34), (u56 35), (u56 36), (u56 37), (u56 38), (u56 39), (u56 40), (u56 41), (u56 42), (u56 43), (u56 44), (u56 45), (u56 46), (u56 47), (u56 48), (u56 49), (u56 50), (u56 51), (u56 52), (u30 53), Ud] ∧ KpC w17.heap.size [b13] w31 w' ∧ (∃ vs, RowG RVl 1 w' b13 vs ∧ NxI 2 w17.heap.size w' vs (nxQ el1 (nextTo A_m k) q)) ∧ (q ≤ 3)) (fun q => 3 - q) 0 ?_ ?_
      · refine ⟨fun t => (([(Pt m_b m_o), Ud, (.slice none 0 0), (.slice (some ⟨b13, 0, none⟩) A_m.places.length A_m.places.length), (Iv (k : Int)), (.slice p52 el1.length q53), (Iv 0), (Pt m_b m_o), (Pt m_b m_o), (Pt m_b m_o), (.slice p5 A_m.places.length q6), (Iv (A_m.places.length : Int)), (.slice (some ⟨b13, 0, none⟩) A_m.places.length A_m.places.length), (Pt m_b m_o), (Pt m_b m_o), (Pt m_b (m_o + 1)), (.slice p8 A_m.tris.length q9), (Iv (A_m.tris.length : Int)), (Iv (k : Int)), (Bo (icmp .lss (k : Int) (A_m.tris.length : Int))), (Iv (k : Int)), (Pt m_b m_o), (Pt m_b m_o), (Pt m_b (m_o + 1)), (.slice p8 A_m.tris.length q9), (Iv (k : Int)), (Pt b46 o47), (.slice p52 el1.length q53), (u30 28), (u30 29), (u30 30), (u30 31), (u30 32), (u30 33), (u30 34), (u30 35), (u30 36), (u30 37), (u30 38), (u30 39), (u30 40), (u30 41), (u30 42), (u30 43), (u30 44), (u30 45), (u30 46), (u30 47), (u30 48), (u30 49), (u30 50), (u30 51), (u30 52), (u30 53), Ud] : List Value)[t]?).getD undef, rfl, KpC.refl _ _ _, ⟨_, hR38, NxI.cast hN39 (by (try dsimp only); rfl)⟩, ?_⟩
        exact Nat.zero_le _
      · rintro q a w57 ⟨u56, rfl, E58, ⟨vs0_q, hRv0, hNx0⟩, hq⟩
        obtain ⟨Lx60, K61, hL62⟩ := E58
        have X63 := Below.kl X37 K61 (fun c hc => (hL62 c hc).elim ((allS g22 all0) c) (fun h => Nat.le_trans (Below.size (Ext.gr (Ext.refl _) E16)) h)) (Nat.le_refl _)
        have hR64 := hRv0; have hN65 := hNx0; clear hRv0 hNx0; have hvl65 := (NxI.len hN65).trans (show (nxQ el1 (nextTo A_m k) q).length = A_m.places.length from by simp only [nxQ_len, nextTo_len])
        refine wp_seq_k fun K66 hK66 => ?_
        refine wp_seq_k fun K67 hK67 => ?_
        refine wp_region_lit ?_
        refine q_is rfl rfl (does_move (u := (Iv (q : Int))) (ev rfl)) (by dsimp only [List.set]; try rfl) ?_
        refine q_is rfl rfl (does_icmp (p := (q : Int)) (q := 3) (.inr (.inr (.inl rfl))) (ev rfl) (ev rfl)) (by dsimp only [List.set]; try rfl) ?_
        refine wpList_nil (hK67 _ _ ?_)
        refine wp_cond_split (t := icmp .lss (q : Int) 3) (ev rfl) (fun c68 => ?_) (fun c68 => ?_)
        · have c68' := c68
          (try simp only [icmp, Bool.and_eq_true, Bool.or_eq_true, Bool.and_eq_false_iff, Bool.or_eq_false_iff, Bool.not_eq_true', Bool.not_eq_false', decide_eq_true_eq, decide_eq_false_iff_not, beq_iff_eq, bne_iff_ne, beq_eq_false_iff_ne, bne_eq_false_iff_eq] at c68')
          refine wp_skip (hK66 _ _ ?_)
          refine wp_seq_k fun K69 hK69 => ?_
          refine wp_block ?_
          have htr := mesh_tri hmt hel1
          have ht3 := htr.1
          obtain ⟨el2, hel2⟩ : ∃ e, el1[q]? = some e := ⟨_, List.getElem?_eq_getElem (by omega)⟩
          have hbk := htr.2 _ (List.mem_of_getElem? hel2)
          obtain ⟨el3, hel3⟩ : ∃ e, vs0_q[el2.toNat]? = some e := ⟨_, List.getElem?_eq_getElem (by first | assumption | omega | (simp only [nxQ_len, nextTo_len, List.length_set, List.length_replicate]; omega) | (simp only [nxQ_len, nextTo_len, List.length_set, List.length_replicate]; done))⟩
          obtain ⟨xl4, hxl4⟩ : ∃ x, (nxQ el1 (nextTo A_m k) q)[el2.toNat]? = some x := ⟨_, List.getElem?_eq_getElem (by rw [← NxI.len hN65]; first | assumption | omega | (simp only [nxQ_len, nextTo_len, List.length_set, List.length_replicate]; omega) | (simp only [nxQ_len, nextTo_len, List.length_set, List.length_replicate]; done))⟩
          obtain ⟨gg73, hC74, hgb4, hA76⟩ := NxI.own hN65 hel3 hxl4
          obtain ⟨px4, qx4, rfl⟩ := Own.shape (hA76 0)
          have g75 : w.heap.size ≤ gg73 := Nat.le_trans (Below.size E16) hC74
          obtain ⟨el5, hel5⟩ : ∃ e, el1[(((q : Int) + 1) % 3).toNat]? = some e := ⟨_, List.getElem?_eq_getElem (by omega)⟩
          refine region_any2 [gg73] [0, 0, 0, 6, 14, 0, 0, 0, 192, 448, 992, 2016, 0, 0, 8192, 24576, 61440, 126976, 258048, 524256, 1048575, 2097151] [0] (
            [FactW.pure [] [0] [0] true (fun v => v = (.slice (some ⟨b13, 0, none⟩) A_m.places.length A_m.places.length)),
              FactW.pure [] [0] [0] true (fun v => v = (.slice p52 el1.length q53)),
              FactW.pure [] [0] [0] true (fun v => v = (Iv (q : Int))),
              FactW.pure [1, 2] [0] [0] true (fun v => PtrR RI w v el2),
              FactW.pure [3] [0] [0] true (fun v => v = (Iv el2)),
              FactW.pure [] [] [0] true (fun v => v = (.slice (some ⟨b13, 0, none⟩) A_m.places.length A_m.places.length)),
              FactW.pure [] [] [0] true (fun v => v = (.slice p52 el1.length q53)),
              FactW.pure [] [] [0] true (fun v => v = (Iv (q : Int))),
              FactW.pure [6, 7] [] [0] true (fun v => PtrR RI w v el2),
              FactW.pure [8] [] [0] true (fun v => v = (Iv el2)),
              FactW.pure [5, 9] [] [0] true (fun v => v = (Pt b13 (el2.toNat * 1))),
              FactW.pure [10] [] [0] true (fun v => v = (.slice px4 xl4.length qx4)),
              FactW.pure [] [] [0] true (fun v => v = (.slice p52 el1.length q53)),
              FactW.pure [] [] [0] true (fun v => v = (Iv (q : Int))),
              FactW.pure [13] [] [0] true (fun v => v = (Iv ((q : Int) + 1))),
              FactW.pure [14] [] [0] true (fun v => v = (Iv (((q : Int) + 1) % 3))),
              FactW.pure [12, 15] [] [0] true (fun v => PtrR RI w v el5),
              FactW.pure [16] [] [0] true (fun v => v = (Iv el5)),
              FactW.mem [17] [] [] [] false (fun v w' => ∃ b : Nat, v = .slice (some ⟨b, 0, none⟩) 1 1 ∧ w57.heap.size ≤ b ∧ Blk w' b [(Iv el5)]) (by rintro v w1 w2 hx' ⟨b, rfl, hb, hB⟩; have hx := KpL.toExt hx'; exact ⟨b, rfl, hb, (hB.ext hx)⟩),
              FactW.mem [11, 18] [] [0] [] true (fun v w' => Own RI 1 2 gg73 w57.heap.size w' v (xl4 ++ [el5])) (by intro v w1 w2 hx h; exact Own.ext h RI.flat (KpL.toExt hx))]) mixed (by kernel_rfl) ?_
          obtain ⟨w70, hw72⟩ : ∃ w', w' = World.drew w57 := ⟨_, rfl⟩; rw [← hw72]; have E71 : Ext w57 w70 := by rw [hw72]; exact Ext.draw _
          clear hw72
          have X77 := Ext.gr X63 E71
          refine RW2_d _ rfl (fun v => by dsimp only [List.set]; try rfl) (fun u hu hF => ?_) (fun v78 => ?_)
          · replace hu : KpL [gg73] _ _ := hu
            clear hF
            refine doesG_un rfl ?_
            refine (does_move (u := (.slice (some ⟨b13, 0, none⟩) A_m.places.length A_m.places.length)) (ev rfl)).mono ?_; rintro _ _ ⟨rfl, rfl⟩
            exact ⟨rfl, KpL.refl _ _⟩
          refine RW2_d _ rfl (fun v => by dsimp only [List.set]; try rfl) (fun u hu hF => ?_) (fun v79 => ?_)
          · replace hu : KpL [gg73] _ _ := hu
            clear hF
            refine doesG_un rfl ?_
            refine (does_move (u := (.slice p52 el1.length q53)) (ev rfl)).mono ?_; rintro _ _ ⟨rfl, rfl⟩
            exact ⟨rfl, KpL.refl _ _⟩
          refine RW2_d _ rfl (fun v => by dsimp only [List.set]; try rfl) (fun u hu hF => ?_) (fun v80 => ?_)
          · replace hu : KpL [gg73] _ _ := hu
            clear hF
            refine doesG_un rfl ?_
            refine (does_move (u := (Iv (q : Int))) (ev rfl)).mono ?_; rintro _ _ ⟨rfl, rfl⟩
            exact ⟨rfl, KpL.refl _ _⟩
          refine RW2_d _ rfl (fun v => by dsimp only [List.set]; try rfl) (fun u hu hF => ?_) (fun v81 => ?_)
          · replace hu : KpL [gg73] _ _ := hu
            have h33_ : v79 = (.slice p52 el1.length q53) := hF.1
            have h34_ : v80 = (Iv (q : Int)) := hF.2.1
            clear hF
            refine doesG_un rfl ?_
            obtain rfl := h33_
            obtain rfl := h34_
            refine (does_indexSl0 (R := RI) (i := (q : Int)) (xs := el1) (e := el2) Try.underlying27 Try.sizeOf2 (ev rfl) (ev rfl) hs54 (by omega) hel2).mono ?_; rintro v u' ⟨b, of, cs, hv, hc, hR, hu'⟩; subst hu'
            exact ⟨⟨b, of, cs, hv, hc, hR⟩, KpL.refl _ _⟩
          refine RW2_d _ rfl (fun v => by dsimp only [List.set]; try rfl) (fun u hu hF => ?_) (fun v82 => ?_)
          · replace hu : KpL [gg73] _ _ := hu
            have h35_ : PtrR RI w v81 el2 := hF.1
            clear hF
            refine doesG_un rfl ?_
            obtain ⟨b35_, o35_, _, rfl, hc35_, rfl⟩ := h35_
            refine (does_load (u := (Iv el2)) (ev rfl) Try.isAgg2 (Cells.at (hc35_.ext (Below.kl (Ext.gr X63 E71) hu (allS g75 all0) (Nat.le_refl _))) 0 rfl)).mono ?_; rintro _ _ ⟨rfl, rfl⟩
            exact ⟨rfl, KpL.refl _ _⟩
          refine RW2_d _ rfl (fun v => by dsimp only [List.set]; try rfl) (fun u hu hF => ?_) (fun v83 => ?_)
          · replace hu : KpL [] _ _ := hu
            clear hF
            refine doesG_un rfl ?_
            refine (does_move (u := (.slice (some ⟨b13, 0, none⟩) A_m.places.length A_m.places.length)) (ev rfl)).mono ?_; rintro _ _ ⟨rfl, rfl⟩
            exact ⟨rfl, KpL.refl _ _⟩
          refine RW2_d _ rfl (fun v => by dsimp only [List.set]; try rfl) (fun u hu hF => ?_) (fun v84 => ?_)
          · replace hu : KpL [] _ _ := hu
            clear hF
            refine doesG_un rfl ?_
            refine (does_move (u := (.slice p52 el1.length q53)) (ev rfl)).mono ?_; rintro _ _ ⟨rfl, rfl⟩
            exact ⟨rfl, KpL.refl _ _⟩
          refine RW2_d _ rfl (fun v => by dsimp only [List.set]; try rfl) (fun u hu hF => ?_) (fun v85 => ?_)
          · replace hu : KpL [] _ _ := hu
            clear hF
            refine doesG_un rfl ?_
            refine (does_move (u := (Iv (q : Int))) (ev rfl)).mono ?_; rintro _ _ ⟨rfl, rfl⟩
            exact ⟨rfl, KpL.refl _ _⟩
          refine RW2_d _ rfl (fun v => by dsimp only [List.set]; try rfl) (fun u hu hF => ?_) (fun v86 => ?_)
          · replace hu : KpL [] _ _ := hu
            have h38_ : v84 = (.slice p52 el1.length q53) := hF.1
            have h39_ : v85 = (Iv (q : Int)) := hF.2.1
            clear hF
            refine doesG_un rfl ?_
            obtain rfl := h38_
            obtain rfl := h39_
            refine (does_indexSl0 (R := RI) (i := (q : Int)) (xs := el1) (e := el2) Try.underlying27 Try.sizeOf2 (ev rfl) (ev rfl) hs54 (by omega) hel2).mono ?_; rintro v u' ⟨b, of, cs, hv, hc, hR, hu'⟩; subst hu'
            exact ⟨⟨b, of, cs, hv, hc, hR⟩, KpL.refl _ _⟩
          refine RW2_d _ rfl (fun v => by dsimp only [List.set]; try rfl) (fun u hu hF => ?_) (fun v87 => ?_)
          · replace hu : KpL [] _ _ := hu
            have h40_ : PtrR RI w v86 el2 := hF.1
            clear hF
            refine doesG_un rfl ?_
            obtain ⟨b40_, o40_, _, rfl, hc40_, rfl⟩ := h40_
            refine (does_load (u := (Iv el2)) (ev rfl) Try.isAgg2 (Cells.at (hc40_.ext (Ext.gr (Ext.gr X63 E71) (KpL.toExt hu))) 0 rfl)).mono ?_; rintro _ _ ⟨rfl, rfl⟩
            exact ⟨rfl, KpL.refl _ _⟩
          refine RW2_d _ rfl (fun v => by dsimp only [List.set]; try rfl) (fun u hu hF => ?_) (fun v88 => ?_)
          · replace hu : KpL [] _ _ := hu
            have h37_ : v83 = (.slice (some ⟨b13, 0, none⟩) A_m.places.length A_m.places.length) := hF.1
            have h41_ : v87 = (Iv el2) := hF.2.1
            clear hF
            refine doesG_un rfl ?_
            obtain rfl := h37_
            obtain rfl := h41_
            refine (does_indexOwn (b := b13) (n := A_m.places.length) (i := el2) Try.underlying23 Try.sizeOf27 (ev rfl) (ev rfl) (by omega) (by omega)).mono ?_; rintro _ _ ⟨rfl, rfl⟩
            exact ⟨rfl, KpL.refl _ _⟩
          refine RW2_d _ rfl (fun v => by dsimp only [List.set]; try rfl) (fun u hu hF => ?_) (fun v89 => ?_)
          · replace hu : KpL [] _ _ := hu
            have h42_ : v88 = (Pt b13 (el2.toNat * 1)) := hF.1
            clear hF
            refine doesG_un rfl ?_
            obtain rfl := h42_
            refine (does_loadRowV (xs := vs0_q) (i := el2.toNat) (e := (.slice px4 xl4.length qx4)) (ev rfl) Try.isAgg27 (RowG.ext (RowG.ext hR64 RVl.flat E71) RVl.flat (KpL.toExt hu)) rfl hel3).mono ?_; rintro _ _ ⟨rfl, rfl⟩
            exact ⟨rfl, KpL.refl _ _⟩
          refine RW2_d _ rfl (fun v => by dsimp only [List.set]; try rfl) (fun u hu hF => ?_) (fun v90 => ?_)
          · replace hu : KpL [] _ _ := hu
            clear hF
            refine doesG_un rfl ?_
            refine (does_move (u := (.slice p52 el1.length q53)) (ev rfl)).mono ?_; rintro _ _ ⟨rfl, rfl⟩
            exact ⟨rfl, KpL.refl _ _⟩
          refine RW2_d _ rfl (fun v => by dsimp only [List.set]; try rfl) (fun u hu hF => ?_) (fun v91 => ?_)
          · replace hu : KpL [] _ _ := hu
            clear hF
            refine doesG_un rfl ?_
            refine (does_move (u := (Iv (q : Int))) (ev rfl)).mono ?_; rintro _ _ ⟨rfl, rfl⟩
            exact ⟨rfl, KpL.refl _ _⟩
          refine RW2_d _ rfl (fun v => by dsimp only [List.set]; try rfl) (fun u hu hF => ?_) (fun v92 => ?_)
          · replace hu : KpL [] _ _ := hu
            have h45_ : v91 = (Iv (q : Int)) := hF.1
            clear hF
            refine doesG_un rfl ?_
            obtain rfl := h45_
            refine (does_iarith (p := (q : Int)) (q := 1) (r := (q : Int) + 1) (ev rfl) (ev rfl) (.inl ⟨rfl, (in_i64 (by omega) (by omega)).symm⟩)).mono ?_; rintro _ _ ⟨rfl, rfl⟩
            exact ⟨rfl, KpL.refl _ _⟩
          refine RW2_d _ rfl (fun v => by dsimp only [List.set]; try rfl) (fun u hu hF => ?_) (fun v93 => ?_)
          · replace hu : KpL [] _ _ := hu
            have h46_ : v92 = (Iv ((q : Int) + 1)) := hF.1
            clear hF
            refine doesG_un rfl ?_
            obtain rfl := h46_
            refine (does_irem (p := (q : Int) + 1) (q := 3) (ev rfl) (ev rfl) (by first | omega | (have hbn := nxQ_most hxl4; simp only [List.length_cons, List.length_nil]; omega)) (by first | omega | (have hbn := nxQ_most hxl4; simp only [List.length_cons, List.length_nil]; omega)) (by first | omega | (have hbn := nxQ_most hxl4; simp only [List.length_cons, List.length_nil]; omega))).mono ?_; rintro _ _ ⟨rfl, rfl⟩
            exact ⟨rfl, KpL.refl _ _⟩
          refine RW2_d _ rfl (fun v => by dsimp only [List.set]; try rfl) (fun u hu hF => ?_) (fun v94 => ?_)
          · replace hu : KpL [] _ _ := hu
            have h44_ : v90 = (.slice p52 el1.length q53) := hF.1
            have h47_ : v93 = (Iv (((q : Int) + 1) % 3)) := hF.2.1
            clear hF
            refine doesG_un rfl ?_
            obtain rfl := h44_
            obtain rfl := h47_
            refine (does_indexSl0 (R := RI) (i := ((q : Int) + 1) % 3) (xs := el1) (e := el5) Try.underlying27 Try.sizeOf2 (ev rfl) (ev rfl) hs54 (by omega) hel5).mono ?_; rintro v u' ⟨b, of, cs, hv, hc, hR, hu'⟩; subst hu'
            exact ⟨⟨b, of, cs, hv, hc, hR⟩, KpL.refl _ _⟩
          refine RW2_d _ rfl (fun v => by dsimp only [List.set]; try rfl) (fun u hu hF => ?_) (fun v95 => ?_)
          · replace hu : KpL [] _ _ := hu
            have h48_ : PtrR RI w v94 el5 := hF.1
            clear hF
            refine doesG_un rfl ?_
            obtain ⟨b48_, o48_, _, rfl, hc48_, rfl⟩ := h48_
            refine (does_load (u := (Iv el5)) (ev rfl) Try.isAgg2 (Cells.at (hc48_.ext (Ext.gr (Ext.gr X63 E71) (KpL.toExt hu))) 0 rfl)).mono ?_; rintro _ _ ⟨rfl, rfl⟩
            exact ⟨rfl, KpL.refl _ _⟩
          refine RW2_d _ rfl (fun v => by dsimp only [List.set]; try rfl) (fun u hu hF => ?_) (fun v96 => ?_)
          · replace hu : KpL [] _ _ := hu
            have h49_ : v95 = (Iv el5) := hF.1
            clear hF
            refine doesG_un rfl ?_
            obtain rfl := h49_
            refine (does_buildSlice (e := 2) (parts' := [(0, (Iv el5))]) (cells := [(Iv el5)]) (evp rfl) (fun _ => by kernel_rfl)).mono ?_; rintro _ _ ⟨b, rfl, hb, hB, hx⟩
            exact ⟨⟨b, rfl, Nat.le_trans (Nat.le_trans (Below.size E71) (KpL.size hu)) hb, hB⟩, (KpL.of_ext hx)⟩
          refine RW2_d _ rfl (fun v => by dsimp only [List.set]; try rfl) (fun u hu hF => ?_) (fun v97 => ?_)
          · replace hu : KpL [] _ _ := hu
            have h43_ : v89 = (.slice px4 xl4.length qx4) := hF.1
            have h50_ : ∃ b : Nat, v96 = .slice (some ⟨b, 0, none⟩) 1 1 ∧ w57.heap.size ≤ b ∧ Blk u b [(Iv el5)] := hF.2.1
            clear hF
            refine doesG_un rfl ?_
            obtain rfl := h43_
            obtain ⟨b50_, rfl, hb50_, hB50_⟩ := h50_
            refine (does_appendA (R := RI) (k := 1) (g1 := gg73) (N0 := w57.heap.size) (xs := xl4) (ys := [el5]) Try.underlying27 inf2 rfl (by decide) (ev rfl) (ev rfl) (Own.klA (Own.klA hA76 RI.flat (KpL.of_ext (L := []) E71) nin0) RI.flat (KpL.of_ext (L := []) (KpL.toExt hu)) nin0) RI.flat hB50_ rfl rfl rfl (fun i x hi => lit1 (R := RI) (cs := [(Iv el5)]) (y := el5)  rfl i x hi) (by first | (simp only [List.length_append, List.length_cons, List.length_nil]; omega) | (have hbn := nxQ_most hxl4; simp only [List.length_cons, List.length_nil]; omega)) (Nat.le_trans (Below.size E71) (KpL.size hu))).mono ?_; rintro v u' ⟨hK, hO⟩
            exact ⟨hO, hK⟩
          refine RW2_fin ?_; intro w98 E99 hP100; replace E99 : KpL [gg73] _ _ := E99
          obtain ⟨⟨⟨⟨⟨⟨⟨⟨⟨⟨⟨⟨⟨⟨⟨⟨⟨⟨⟨⟨-, q101⟩, -⟩, -⟩, -⟩, q102⟩, -⟩, -⟩, -⟩, -⟩, -⟩, -⟩, -⟩, -⟩, -⟩, -⟩, -⟩, -⟩, -⟩, -⟩, q103⟩ := hP100
          have X104 := Below.kl X77 E99 (allS g75 all0) (Nat.le_refl _)
          have q101 : v78 = (.slice (some ⟨b13, 0, none⟩) A_m.places.length A_m.places.length) := q101 rfl
          obtain rfl := q101
          have q102 : v82 = (Iv el2) := q102 rfl
          obtain rfl := q102
          have q103 : Own RI 1 2 gg73 w57.heap.size w98 v97 (xl4 ++ [el5]) := q103 rfl
          obtain ⟨p105, q106, rfl⟩ := Own.shape q103
          have hH107 : Hang w17.heap.size w98 (fun u => Sl RI 1 u (.slice p105 ((xl4 ++ [el5]).length) q106) (xl4 ++ [el5])) := Own.hang q103 RI.flat (by decide) hC74 (Nat.le_trans (KpL.size K35) (KpL.size K61))
          show wpList _ _ _ _ (fr [_, _, _, _, _, _, _, _, _, _, _, _, _, _, _, _, _, _, _, _, _, _, _, _, _, _, _, _, _, _, _, _, _, _, _, _, _, _, _, _, _, _, _, _, _, _, _, _, _, _, _, _, _, _, _]) _
          refine q_is rfl rfl (does_indexOwn (b := b13) (n := A_m.places.length) (i := el2) Try.underlying23 Try.sizeOf27 (ev rfl) (ev rfl) (by omega) (by omega)) (by dsimp only [List.set]; try rfl) ?_
          have hN111 := NxI.put hN65 hel3 hgb4 (KpL.more (KpL.ext (KpL.refl _ _) E71) E99 (allS (.inl (by simp)) all0)) q103 (Nat.le_refl _)
          refine seqn rfl rfl (does_storeRowG (R := RVl) (k := 1) (xs := vs0_q) (i := el2.toNat) (u := (.slice p105 ((xl4 ++ [el5]).length) q106)) (e := (.slice p105 ((xl4 ++ [el5]).length) q106)) (ev rfl) (ev rfl) Try.sizeOf27 rfl rfl RVl.flat (RowG.kl (RowG.ext hR64 RVl.flat E71) RVl.flat E99 (ninS (Nat.ne_of_lt (Nat.lt_of_lt_of_le n27 hC74)) nin0)) rfl (by first | assumption | omega | (simp only [nxQ_len, nextTo_len, List.length_set, List.length_replicate]; omega) | (simp only [nxQ_len, nextTo_len, List.length_set, List.length_replicate]; done)) rfl) ?_; rintro _ w110 ⟨rfl, W108, hR109⟩
          have X112 := Below.wr X104 W108 g22
          refine wpList_nil (hK69 _ _ ?_)
          refine wp_region_lit ?_
          refine q_is rfl rfl (does_move (u := (Iv (q : Int))) (ev rfl)) (by dsimp only [List.set]; try rfl) ?_
          refine q_is rfl rfl (does_iarith (p := (q : Int)) (q := 1) (r := (q : Int) + 1) (ev rfl) (ev rfl) (.inl ⟨rfl, (in_i64 (by omega) (by omega)).symm⟩)) (by dsimp only [List.set]; try rfl) ?_
          refine q_is rfl rfl (does_assign (u := (Iv ((q : Int) + 1))) (ev rfl)) (by dsimp only [List.set]; try rfl) ?_
          refine wpList_nil ?_
          have hN113 := NxI.cast (yss := ((fun (q : Nat) => nxQ el1 (nextTo A_m k) q) (q + 1))) (NxI.wr hN111 W108 n27) (by (try dsimp only); exact nxQ_step hel2 hel5 hxl4)
          refine ⟨q + 1, ⟨fun t => (([(Pt m_b m_o), Ud, (.slice none 0 0), (.slice (some ⟨b13, 0, none⟩) A_m.places.length A_m.places.length), (Iv (k : Int)), (.slice p52 el1.length q53), (Iv ((q : Int) + 1)), (Pt m_b m_o), (Pt m_b m_o), (Pt m_b m_o), (.slice p5 A_m.places.length q6), (Iv (A_m.places.length : Int)), (.slice (some ⟨b13, 0, none⟩) A_m.places.length A_m.places.length), (Pt m_b m_o), (Pt m_b m_o), (Pt m_b (m_o + 1)), (.slice p8 A_m.tris.length q9), (Iv (A_m.tris.length : Int)), (Iv (k : Int)), (Bo (icmp .lss (k : Int) (A_m.tris.length : Int))), (Iv (k : Int)), (Pt m_b m_o), (Pt m_b m_o), (Pt m_b (m_o + 1)), (.slice p8 A_m.tris.length q9), (Iv (k : Int)), (Pt b46 o47), (.slice p52 el1.length q53), (Iv (q : Int)), (Bo (icmp .lss (q : Int) 3)), (Iv (q : Int)), (Iv ((q : Int) + 1)), (.slice (some ⟨b13, 0, none⟩) A_m.places.length A_m.places.length), v79, v80, v81, (Iv el2), v83, v84, v85, v86, v87, v88, v89, v90, v91, v92, v93, v94, v95, v96, (.slice p105 ((xl4 ++ [el5]).length) q106), (Pt b13 (el2.toNat * 1)), (u30 53), Ud] : List Value)[t]?).getD undef, ?_, (KpC.kl (KpC.kl (KpC.ext (KpC.mk K61 hL62) E71) E99 (allS (.inr (Nat.le_trans (Nat.le_refl _) hC74)) all0)) (KpL.of_wr W108) (allS (.inl (by simp)) all0)), ⟨_, hR109, hN113⟩, ?_⟩, ?_⟩
          · first | rfl | (simp only [Int.natCast_add, Int.natCast_one]; rfl)
          · (try dsimp only); omega
          · (try dsimp only); omega
        have c68' := c68
        (try simp only [icmp, Bool.and_eq_true, Bool.or_eq_true, Bool.and_eq_false_iff, Bool.or_eq_false_iff, Bool.not_eq_true', Bool.not_eq_false', decide_eq_true_eq, decide_eq_false_iff_not, beq_iff_eq, bne_iff_ne, beq_eq_false_iff_ne, bne_eq_false_iff_eq] at c68')
        refine wp_exit ?_
        refine hK43 _ _ ?_
        refine wp_region_lit ?_
        refine q_is rfl rfl (does_iarith (p := (k : Int)) (q := 1) (r := (k : Int) + 1) (ev rfl) (ev rfl) (.inl ⟨rfl, (in_i64 (by omega) (by omega)).symm⟩)) (by dsimp only [List.set]; try rfl) ?_
        refine q_is rfl rfl (does_move (u := (Iv ((k : Int) + 1))) (ev rfl)) (by dsimp only [List.set]; try rfl) ?_
        refine wpList_nil ?_
        have hN114 := NxI.cast (yss := ((fun (k : Nat) => nextTo A_m k) (k + 1))) hN65 (by (try dsimp only); exact nextTo_step hel1 (by omega))
        refine ⟨k + 1, ⟨fun t => (([(Pt m_b m_o), Ud, (.slice none 0 0), (.slice (some ⟨b13, 0, none⟩) A_m.places.length A_m.places.length), (Iv (k : Int)), (.slice p52 el1.length q53), (Iv (q : Int)), (Pt m_b m_o), (Pt m_b m_o), (Pt m_b m_o), (.slice p5 A_m.places.length q6), (Iv (A_m.places.length : Int)), (.slice (some ⟨b13, 0, none⟩) A_m.places.length A_m.places.length), (Pt m_b m_o), (Pt m_b m_o), (Pt m_b (m_o + 1)), (.slice p8 A_m.tris.length q9), (Iv (A_m.tris.length : Int)), (Iv ((k : Int) + 1)), (Bo (icmp .lss (k : Int) (A_m.tris.length : Int))), (Iv (k : Int)), (Pt m_b m_o), (Pt m_b m_o), (Pt m_b (m_o + 1)), (.slice p8 A_m.tris.length q9), (Iv (k : Int)), (Pt b46 o47), (.slice p52 el1.length q53), (Iv (q : Int)), (Bo (icmp .lss (q : Int) 3)), (u56 30), (u56 31), (u56 32), (u56 33), (u56 34), (u56 35), (u56 36), (u56 37), (u56 38), (u56 39), (u56 40), (u56 41), (u56 42), (u56 43), (u56 44), (u56 45), (u56 46), (u56 47), (u56 48), (u56 49), (u56 50), (u56 51), (u56 52), (Iv ((k : Int) + 1)), Ud] : List Value)[t]?).getD undef, ?_, (KpC.kl (KpC.mk K35 hL36) K61 (fun c hc => (hL62 c hc).imp (fun h => by simpa using h) id)), ⟨_, hR64, hN114⟩, ?_⟩, ?_⟩
        · first | rfl | (simp only [Int.natCast_add, Int.natCast_one]; rfl)
        · omega
        · omega
    have c42' := c42
    (try simp only [icmp, Bool.and_eq_true, Bool.or_eq_true, Bool.and_eq_false_iff, Bool.or_eq_false_iff, Bool.not_eq_true', Bool.not_eq_false', decide_eq_true_eq, decide_eq_false_iff_not, beq_iff_eq, bne_iff_ne, beq_eq_false_iff_ne, bne_eq_false_iff_eq] at c42')
    refine wp_exit ?_
    refine hK28 _ _ ?_
    refine wp_seq_k fun K115 hK115 => ?_
    refine wp_region_lit ?_
    refine q_is rfl rfl (does_move (u := (.slice (some ⟨b13, 0, none⟩) A_m.places.length A_m.places.length)) (ev rfl)) (by dsimp only [List.set]; try rfl) ?_
    refine q_is rfl rfl (does_assign (u := (.slice (some ⟨b13, 0, none⟩) A_m.places.length A_m.places.length)) (ev rfl)) (by dsimp only [List.set]; try rfl) ?_
    refine wpList_nil (hK115 _ _ ?_)
    refine wp_ret ?_
    refine ret_val (v := (.slice (some ⟨b13, 0, none⟩) A_m.places.length A_m.places.length)) (res_T rfl (slot rfl)) X37 ?_
    have x116 : (nextTo A_m k) = (nextL A_m) := by first | rfl | (rw [show k = A_m.tris.length by omega]; rfl)
    exact ⟨(.slice (some ⟨b13, 0, none⟩) A_m.places.length A_m.places.length), rfl, (Hang.castL (NxI.hang hN39 hR38 (by first | (simp only [nxQ_len, nextTo_len]; done) | first | assumption | omega | (simp only [nxQ_len, nextTo_len, List.length_set, List.length_replicate]; omega) | (simp only [nxQ_len, nextTo_len, List.length_set, List.length_replicate]; done)) g22 (Below.size (Ext.gr (Ext.refl _) E16)) (Nat.le_refl _) (by omega)) x116)⟩

/- spec.l07Times -/
theorem c_spec_l07Times (xs : Value) (L_xs : List Int) (x_ : Int) (w : World) (hv_xs : Sl RI 1 w xs L_xs) (hn : L_xs.length ≤ 1000000) : Gives Try.prog 40 #[xs, (Iv x_)] w (fun v w' => v = (Iv (L_xs.count x_ : Nat))) := by
  have hlen_xs := Sl.len hv_xs; obtain ⟨p_xs, q_xs, rfl⟩ := Sl.shape hv_xs
  refine enter [(.slice p_xs L_xs.length q_xs), (Iv x_), Ud, Ud, Ud, Ud, Ud, Ud, Ud, Ud, Ud, Ud, Ud, Ud, Ud, Ud, Ud, Ud, Ud, Ud, Ud, Ud] Try.func40 rfl Try.ntmps40 rfl ?_
  refine wp_seq_k fun K1 hK1 => ?_
  refine wp_region_lit ?_
  refine q_is (l' := [(.slice p_xs L_xs.length q_xs), (Iv x_), Ud, Ud, (Iv 0), Ud, Ud, Ud, Ud, Ud, Ud, Ud, Ud, Ud, Ud, Ud, Ud, Ud, Ud, Ud, Ud, Ud]) rfl rfl (does_assign (u := (Iv 0)) (ev rfl)) rfl ?_
  refine wpList_nil (hK1 _ _ ?_)
  refine wp_seq_k fun K2 hK2 => ?_
  refine wp_region_lit ?_
  refine q_is (l' := [(.slice p_xs L_xs.length q_xs), (Iv x_), Ud, Ud, (Iv 0), (Iv 0), Ud, Ud, Ud, Ud, Ud, Ud, Ud, Ud, Ud, Ud, Ud, Ud, Ud, Ud, Ud, Ud]) rfl rfl (does_assign (u := (Iv 0)) (ev rfl)) rfl ?_
  refine wpList_nil (hK2 _ _ ?_)
  refine wp_seq_k fun K3 hK3 => ?_
  refine wp_seq_k fun K4 hK4 => ?_
  refine wp_region_lit ?_
  refine q_is (l' := [(.slice p_xs L_xs.length q_xs), (Iv x_), Ud, Ud, (Iv 0), (Iv 0), Ud, (.slice p_xs L_xs.length q_xs), Ud, Ud, Ud, Ud, Ud, Ud, Ud, Ud, Ud, Ud, Ud, Ud, Ud, Ud]) rfl rfl (does_move (u := (.slice p_xs L_xs.length q_xs)) (ev rfl)) rfl ?_
  refine q_is (l' := [(.slice p_xs L_xs.length q_xs), (Iv x_), Ud, Ud, (Iv 0), (Iv 0), Ud, (.slice p_xs L_xs.length q_xs), (Iv (L_xs.length : Int)), Ud, Ud, Ud, Ud, Ud, Ud, Ud, Ud, Ud, Ud, Ud, Ud, Ud]) rfl rfl (does_len_slice Try.underlying27 (ev rfl)) rfl ?_
  refine q_is (l' := [(.slice p_xs L_xs.length q_xs), (Iv x_), Ud, Ud, (Iv 0), (Iv 0), Ud, (.slice p_xs L_xs.length q_xs), (Iv (L_xs.length : Int)), (Iv 0), Ud, Ud, Ud, Ud, Ud, Ud, Ud, Ud, Ud, Ud, Ud, Ud]) rfl rfl (does_move (u := (Iv 0)) (ev rfl)) rfl ?_
  refine wpList_nil (hK4 _ _ ?_)
  refine wp_block ?_
  refine loop_ghost (σ := Nat) (fun k a w' => ∃ u5 : Nat → Value, a = fr [(.slice p_xs L_xs.length q_xs), (Iv x_), Ud, Ud, (Iv 0), (Iv (((L_xs.take k).count x_ : Nat) : Int)), (u5 6), (.slice p_xs L_xs.length q_xs), (Iv (L_xs.length : Int)), (Iv (k : Int)), (u5 10), (u5 11), (u5 12), (u5 13), (u5 14), (u5 15), (u5 16), (u5 17), (u5 18), (u5 19), (u5 20), Ud] ∧ Ext w w' ∧ (k ≤ L_xs.length)) (fun k => L_xs.length - k) 0 ?_ ?_
  · refine ⟨fun t => (([(.slice p_xs L_xs.length q_xs), (Iv x_), Ud, Ud, (Iv 0), (Iv 0), Ud, (.slice p_xs L_xs.length q_xs), (Iv (L_xs.length : Int)), (Iv 0), Ud, Ud, Ud, Ud, Ud, Ud, Ud, Ud, Ud, Ud, Ud, Ud] : List Value)[t]?).getD undef, rfl, Ext.refl _, ?_⟩
    exact Nat.zero_le _
  · rintro k a w6 ⟨u5, rfl, E7, hk⟩
    have X9 := Ext.gr (Ext.refl w) E7
    have hcl := List.count_le_length (a := x_) (l := L_xs.take k)
    have hcl2 := List.length_take_le k L_xs
    refine wp_seq_k fun K10 hK10 => ?_
    refine wp_region_lit ?_
    refine q_is (l' := [(.slice p_xs L_xs.length q_xs), (Iv x_), Ud, Ud, (Iv 0), (Iv (((L_xs.take k).count x_ : Nat) : Int)), (u5 6), (.slice p_xs L_xs.length q_xs), (Iv (L_xs.length : Int)), (Iv (k : Int)), (Bo (icmp .lss (k : Int) (L_xs.length : Int))), (u5 11), (u5 12), (u5 13), (u5 14), (u5 15), (u5 16), (u5 17), (u5 18), (u5 19), (u5 20), Ud]) rfl rfl (does_icmp (p := (k : Int)) (q := (L_xs.length : Int)) (.inr (.inr (.inl rfl))) (ev rfl) (ev rfl)) rfl ?_
    refine wpList_nil (hK10 _ _ ?_)
    refine wp_seq_k fun K11 hK11 => ?_
    refine wp_cond_split (t := icmp .lss (k : Int) (L_xs.length : Int)) (ev rfl) (fun c12 => ?_) (fun c12 => ?_)
    · have c12' := c12
      (try simp only [icmp, Bool.and_eq_true, Bool.or_eq_true, Bool.and_eq_false_iff, Bool.or_eq_false_iff, Bool.not_eq_true', Bool.not_eq_false', decide_eq_true_eq, decide_eq_false_iff_not, beq_iff_eq, bne_iff_ne, beq_eq_false_iff_ne, bne_eq_false_iff_eq] at c12')
      refine wp_skip (hK11 _ _ ?_)
      refine wp_seq_k fun K13 hK13 => ?_
      refine wp_block ?_
      refine wp_seq_k fun K14 hK14 => ?_
      refine wp_region_lit ?_
      refine q_is (l' := [(.slice p_xs L_xs.length q_xs), (Iv x_), Ud, Ud, (Iv 0), (Iv (((L_xs.take k).count x_ : Nat) : Int)), (u5 6), (.slice p_xs L_xs.length q_xs), (Iv (L_xs.length : Int)), (Iv (k : Int)), (Bo (icmp .lss (k : Int) (L_xs.length : Int))), (Iv (k : Int)), (u5 12), (u5 13), (u5 14), (u5 15), (u5 16), (u5 17), (u5 18), (u5 19), (u5 20), Ud]) rfl rfl (does_move (u := (Iv (k : Int))) (ev rfl)) rfl ?_
      refine q_is (l' := [(.slice p_xs L_xs.length q_xs), (Iv x_), Ud, Ud, (Iv 0), (Iv (((L_xs.take k).count x_ : Nat) : Int)), (Iv (k : Int)), (.slice p_xs L_xs.length q_xs), (Iv (L_xs.length : Int)), (Iv (k : Int)), (Bo (icmp .lss (k : Int) (L_xs.length : Int))), (Iv (k : Int)), (u5 12), (u5 13), (u5 14), (u5 15), (u5 16), (u5 17), (u5 18), (u5 19), (u5 20), Ud]) rfl rfl (does_assign (u := (Iv (k : Int))) (ev rfl)) rfl ?_
      refine wpList_nil (hK14 _ _ ?_)
      refine wp_seq_k fun K15 hK15 => ?_
      refine wp_region_lit ?_
      refine q_is (l' := [(.slice p_xs L_xs.length q_xs), (Iv x_), Ud, Ud, (Iv 0), (Iv (((L_xs.take k).count x_ : Nat) : Int)), (Iv (k : Int)), (.slice p_xs L_xs.length q_xs), (Iv (L_xs.length : Int)), (Iv (k : Int)), (Bo (icmp .lss (k : Int) (L_xs.length : Int))), (Iv (k : Int)), (.slice p_xs L_xs.length q_xs), (u5 13), (u5 14), (u5 15), (u5 16), (u5 17), (u5 18), (u5 19), (u5 20), Ud]) rfl rfl (does_move (u := (.slice p_xs L_xs.length q_xs)) (ev rfl)) rfl ?_
      refine q_is (l' := [(.slice p_xs L_xs.length q_xs), (Iv x_), Ud, Ud, (Iv 0), (Iv (((L_xs.take k).count x_ : Nat) : Int)), (Iv (k : Int)), (.slice p_xs L_xs.length q_xs), (Iv (L_xs.length : Int)), (Iv (k : Int)), (Bo (icmp .lss (k : Int) (L_xs.length : Int))), (Iv (k : Int)), (.slice p_xs L_xs.length q_xs), (Iv (k : Int)), (u5 14), (u5 15), (u5 16), (u5 17), (u5 18), (u5 19), (u5 20), Ud]) rfl rfl (does_move (u := (Iv (k : Int))) (ev rfl)) rfl ?_
      obtain ⟨el1, hel1⟩ : ∃ e, L_xs[k]? = some e := ⟨_, List.getElem?_eq_getElem (by omega)⟩
      refine seqd rfl rfl (does_indexSl (R := RI) (i := (k : Int)) (xs := L_xs) (e := el1) Try.underlying27 Try.sizeOf2 (ev rfl) (ev rfl) (Sl.ext hv_xs RI.mono X9) (by omega) hel1) ?_; rintro _ w6 ⟨b16, o17, _, rfl, hc19, rfl, rfl⟩
      show wpList _ _ _ _ (fr [(.slice p_xs L_xs.length q_xs), (Iv x_), Ud, Ud, (Iv 0), (Iv (((L_xs.take k).count x_ : Nat) : Int)), (Iv (k : Int)), (.slice p_xs L_xs.length q_xs), (Iv (L_xs.length : Int)), (Iv (k : Int)), (Bo (icmp .lss (k : Int) (L_xs.length : Int))), (Iv (k : Int)), (.slice p_xs L_xs.length q_xs), (Iv (k : Int)), (Pt b16 o17), (u5 15), (u5 16), (u5 17), (u5 18), (u5 19), (u5 20), Ud]) _
      refine q_is (l' := [(.slice p_xs L_xs.length q_xs), (Iv x_), Ud, Ud, (Iv 0), (Iv (((L_xs.take k).count x_ : Nat) : Int)), (Iv (k : Int)), (.slice p_xs L_xs.length q_xs), (Iv (L_xs.length : Int)), (Iv (k : Int)), (Bo (icmp .lss (k : Int) (L_xs.length : Int))), (Iv (k : Int)), (.slice p_xs L_xs.length q_xs), (Iv (k : Int)), (Pt b16 o17), (Iv el1), (u5 16), (u5 17), (u5 18), (u5 19), (u5 20), Ud]) rfl rfl (does_load (u := (Iv el1)) (ev rfl) Try.isAgg2 (Cells.at hc19 0 rfl)) rfl ?_
      refine q_is (l' := [(.slice p_xs L_xs.length q_xs), (Iv x_), Ud, Ud, (Iv 0), (Iv (((L_xs.take k).count x_ : Nat) : Int)), (Iv (k : Int)), (.slice p_xs L_xs.length q_xs), (Iv (L_xs.length : Int)), (Iv (k : Int)), (Bo (icmp .lss (k : Int) (L_xs.length : Int))), (Iv (k : Int)), (.slice p_xs L_xs.length q_xs), (Iv (k : Int)), (Pt b16 o17), (Iv el1), (Iv x_), (u5 17), (u5 18), (u5 19), (u5 20), Ud]) rfl rfl (does_move (u := (Iv x_)) (ev rfl)) rfl ?_
      refine q_is (l' := [(.slice p_xs L_xs.length q_xs), (Iv x_), Ud, Ud, (Iv 0), (Iv (((L_xs.take k).count x_ : Nat) : Int)), (Iv (k : Int)), (.slice p_xs L_xs.length q_xs), (Iv (L_xs.length : Int)), (Iv (k : Int)), (Bo (icmp .lss (k : Int) (L_xs.length : Int))), (Iv (k : Int)), (.slice p_xs L_xs.length q_xs), (Iv (k : Int)), (Pt b16 o17), (Iv el1), (Iv x_), (Bo (icmp .eql el1 x_)), (u5 18), (u5 19), (u5 20), Ud]) rfl rfl (does_icmp (p := el1) (q := x_) (.inl rfl) (ev rfl) (ev rfl)) rfl ?_
      refine wpList_nil (hK15 _ _ ?_)
      refine wp_cond_split (t := icmp .eql el1 x_) (ev rfl) (fun c20 => ?_) (fun c20 => ?_)
      · have c20' := c20
        (try simp only [icmp, Bool.and_eq_true, Bool.or_eq_true, Bool.and_eq_false_iff, Bool.or_eq_false_iff, Bool.not_eq_true', Bool.not_eq_false', decide_eq_true_eq, decide_eq_false_iff_not, beq_iff_eq, bne_iff_ne, beq_eq_false_iff_ne, bne_eq_false_iff_eq] at c20')
        refine wp_region_lit ?_
        refine q_is (l' := [(.slice p_xs L_xs.length q_xs), (Iv x_), Ud, Ud, (Iv 0), (Iv (((L_xs.take k).count x_ : Nat) : Int)), (Iv (k : Int)), (.slice p_xs L_xs.length q_xs), (Iv (L_xs.length : Int)), (Iv (k : Int)), (Bo (icmp .lss (k : Int) (L_xs.length : Int))), (Iv (k : Int)), (.slice p_xs L_xs.length q_xs), (Iv (k : Int)), (Pt b16 o17), (Iv el1), (Iv x_), (Bo (icmp .eql el1 x_)), (Iv (((L_xs.take k).count x_ : Nat) : Int)), (u5 19), (u5 20), Ud]) rfl rfl (does_move (u := (Iv (((L_xs.take k).count x_ : Nat) : Int))) (ev rfl)) rfl ?_
        refine q_is (l' := [(.slice p_xs L_xs.length q_xs), (Iv x_), Ud, Ud, (Iv 0), (Iv (((L_xs.take k).count x_ : Nat) : Int)), (Iv (k : Int)), (.slice p_xs L_xs.length q_xs), (Iv (L_xs.length : Int)), (Iv (k : Int)), (Bo (icmp .lss (k : Int) (L_xs.length : Int))), (Iv (k : Int)), (.slice p_xs L_xs.length q_xs), (Iv (k : Int)), (Pt b16 o17), (Iv el1), (Iv x_), (Bo (icmp .eql el1 x_)), (Iv (((L_xs.take k).count x_ : Nat) : Int)), (Iv ((((L_xs.take k).count x_ : Nat) : Int) + 1)), (u5 20), Ud]) rfl rfl (does_iarith (p := (((L_xs.take k).count x_ : Nat) : Int)) (q := 1) (r := (((L_xs.take k).count x_ : Nat) : Int) + 1) (ev rfl) (ev rfl) (.inl ⟨rfl, (in_i64 (by omega) (by omega)).symm⟩)) rfl ?_
        refine q_is (l' := [(.slice p_xs L_xs.length q_xs), (Iv x_), Ud, Ud, (Iv 0), (Iv ((((L_xs.take k).count x_ : Nat) : Int) + 1)), (Iv (k : Int)), (.slice p_xs L_xs.length q_xs), (Iv (L_xs.length : Int)), (Iv (k : Int)), (Bo (icmp .lss (k : Int) (L_xs.length : Int))), (Iv (k : Int)), (.slice p_xs L_xs.length q_xs), (Iv (k : Int)), (Pt b16 o17), (Iv el1), (Iv x_), (Bo (icmp .eql el1 x_)), (Iv (((L_xs.take k).count x_ : Nat) : Int)), (Iv ((((L_xs.take k).count x_ : Nat) : Int) + 1)), (u5 20), Ud]) rfl rfl (does_assign (u := (Iv ((((L_xs.take k).count x_ : Nat) : Int) + 1))) (ev rfl)) rfl ?_
        refine wpList_nil (hK13 _ _ ?_)
        refine wp_region_lit ?_
        refine q_is (l' := [(.slice p_xs L_xs.length q_xs), (Iv x_), Ud, Ud, (Iv 0), (Iv ((((L_xs.take k).count x_ : Nat) : Int) + 1)), (Iv (k : Int)), (.slice p_xs L_xs.length q_xs), (Iv (L_xs.length : Int)), (Iv (k : Int)), (Bo (icmp .lss (k : Int) (L_xs.length : Int))), (Iv (k : Int)), (.slice p_xs L_xs.length q_xs), (Iv (k : Int)), (Pt b16 o17), (Iv el1), (Iv x_), (Bo (icmp .eql el1 x_)), (Iv (((L_xs.take k).count x_ : Nat) : Int)), (Iv ((((L_xs.take k).count x_ : Nat) : Int) + 1)), (Iv ((k : Int) + 1)), Ud]) rfl rfl (does_iarith (p := (k : Int)) (q := 1) (r := (k : Int) + 1) (ev rfl) (ev rfl) (.inl ⟨rfl, (in_i64 (by omega) (by omega)).symm⟩)) rfl ?_
        refine q_is (l' := [(.slice p_xs L_xs.length q_xs), (Iv x_), Ud, Ud, (Iv 0), (Iv ((((L_xs.take k).count x_ : Nat) : Int) + 1)), (Iv (k : Int)), (.slice p_xs L_xs.length q_xs), (Iv (L_xs.length : Int)), (Iv ((k : Int) + 1)), (Bo (icmp .lss (k : Int) (L_xs.length : Int))), (Iv (k : Int)), (.slice p_xs L_xs.length q_xs), (Iv (k : Int)), (Pt b16 o17), (Iv el1), (Iv x_), (Bo (icmp .eql el1 x_)), (Iv (((L_xs.take k).count x_ : Nat) : Int)), (Iv ((((L_xs.take k).count x_ : Nat) : Int) + 1)), (Iv ((k : Int) + 1)), Ud]) rfl rfl (does_move (u := (Iv ((k : Int) + 1))) (ev rfl)) rfl ?_
        refine wpList_nil ?_
        refine ⟨k + 1, ⟨fun t => (([(.slice p_xs L_xs.length q_xs), (Iv x_), Ud, Ud, (Iv 0), (Iv ((((L_xs.take k).count x_ : Nat) : Int) + 1)), (Iv (k : Int)), (.slice p_xs L_xs.length q_xs), (Iv (L_xs.length : Int)), (Iv ((k : Int) + 1)), (Bo (icmp .lss (k : Int) (L_xs.length : Int))), (Iv (k : Int)), (.slice p_xs L_xs.length q_xs), (Iv (k : Int)), (Pt b16 o17), (Iv el1), (Iv x_), (Bo (icmp .eql el1 x_)), (Iv (((L_xs.take k).count x_ : Nat) : Int)), (Iv ((((L_xs.take k).count x_ : Nat) : Int) + 1)), (Iv ((k : Int) + 1)), Ud] : List Value)[t]?).getD undef, ?_, E7, ?_⟩, ?_⟩
        · first | (rw [count_take hel1 (by assumption)]; simp only [Int.natCast_add, Int.natCast_one]; rfl) | (rw [count_take' hel1 (by assumption)]; simp only [Int.natCast_add, Int.natCast_one]; rfl)
        · omega
        · omega
      have c20' := c20
      (try simp only [icmp, Bool.and_eq_true, Bool.or_eq_true, Bool.and_eq_false_iff, Bool.or_eq_false_iff, Bool.not_eq_true', Bool.not_eq_false', decide_eq_true_eq, decide_eq_false_iff_not, beq_iff_eq, bne_iff_ne, beq_eq_false_iff_ne, bne_eq_false_iff_eq] at c20')
      refine wp_skip (hK13 _ _ ?_)
      refine wp_region_lit ?_
      refine q_is (l' := [(.slice p_xs L_xs.length q_xs), (Iv x_), Ud, Ud, (Iv 0), (Iv (((L_xs.take k).count x_ : Nat) : Int)), (Iv (k : Int)), (.slice p_xs L_xs.length q_xs), (Iv (L_xs.length : Int)), (Iv (k : Int)), (Bo (icmp .lss (k : Int) (L_xs.length : Int))), (Iv (k : Int)), (.slice p_xs L_xs.length q_xs), (Iv (k : Int)), (Pt b16 o17), (Iv el1), (Iv x_), (Bo (icmp .eql el1 x_)), (u5 18), (u5 19), (Iv ((k : Int) + 1)), Ud]) rfl rfl (does_iarith (p := (k : Int)) (q := 1) (r := (k : Int) + 1) (ev rfl) (ev rfl) (.inl ⟨rfl, (in_i64 (by omega) (by omega)).symm⟩)) rfl ?_
      refine q_is (l' := [(.slice p_xs L_xs.length q_xs), (Iv x_), Ud, Ud, (Iv 0), (Iv (((L_xs.take k).count x_ : Nat) : Int)), (Iv (k : Int)), (.slice p_xs L_xs.length q_xs), (Iv (L_xs.length : Int)), (Iv ((k : Int) + 1)), (Bo (icmp .lss (k : Int) (L_xs.length : Int))), (Iv (k : Int)), (.slice p_xs L_xs.length q_xs), (Iv (k : Int)), (Pt b16 o17), (Iv el1), (Iv x_), (Bo (icmp .eql el1 x_)), (u5 18), (u5 19), (Iv ((k : Int) + 1)), Ud]) rfl rfl (does_move (u := (Iv ((k : Int) + 1))) (ev rfl)) rfl ?_
      refine wpList_nil ?_
      refine ⟨k + 1, ⟨fun t => (([(.slice p_xs L_xs.length q_xs), (Iv x_), Ud, Ud, (Iv 0), (Iv (((L_xs.take k).count x_ : Nat) : Int)), (Iv (k : Int)), (.slice p_xs L_xs.length q_xs), (Iv (L_xs.length : Int)), (Iv ((k : Int) + 1)), (Bo (icmp .lss (k : Int) (L_xs.length : Int))), (Iv (k : Int)), (.slice p_xs L_xs.length q_xs), (Iv (k : Int)), (Pt b16 o17), (Iv el1), (Iv x_), (Bo (icmp .eql el1 x_)), (u5 18), (u5 19), (Iv ((k : Int) + 1)), Ud] : List Value)[t]?).getD undef, ?_, E7, ?_⟩, ?_⟩
      · first | (rw [count_take hel1 (by assumption)]; simp only [Int.natCast_add, Int.natCast_one]; rfl) | (rw [count_take' hel1 (by assumption)]; simp only [Int.natCast_add, Int.natCast_one]; rfl)
      · omega
      · omega
    have c12' := c12
    (try simp only [icmp, Bool.and_eq_true, Bool.or_eq_true, Bool.and_eq_false_iff, Bool.or_eq_false_iff, Bool.not_eq_true', Bool.not_eq_false', decide_eq_true_eq, decide_eq_false_iff_not, beq_iff_eq, bne_iff_ne, beq_eq_false_iff_ne, bne_eq_false_iff_eq] at c12')
    refine wp_exit ?_
    refine hK3 _ _ ?_
    refine wp_seq_k fun K21 hK21 => ?_
    refine wp_region_lit ?_
    refine q_is (l' := [(.slice p_xs L_xs.length q_xs), (Iv x_), Ud, Ud, (Iv 0), (Iv (((L_xs.take k).count x_ : Nat) : Int)), (u5 6), (.slice p_xs L_xs.length q_xs), (Iv (L_xs.length : Int)), (Iv (k : Int)), (Bo (icmp .lss (k : Int) (L_xs.length : Int))), (u5 11), (u5 12), (u5 13), (u5 14), (u5 15), (u5 16), (u5 17), (u5 18), (u5 19), (u5 20), (Iv (((L_xs.take k).count x_ : Nat) : Int))]) rfl rfl (does_move (u := (Iv (((L_xs.take k).count x_ : Nat) : Int))) (ev rfl)) rfl ?_
    refine q_is (l' := [(.slice p_xs L_xs.length q_xs), (Iv x_), Ud, Ud, (Iv (((L_xs.take k).count x_ : Nat) : Int)), (Iv (((L_xs.take k).count x_ : Nat) : Int)), (u5 6), (.slice p_xs L_xs.length q_xs), (Iv (L_xs.length : Int)), (Iv (k : Int)), (Bo (icmp .lss (k : Int) (L_xs.length : Int))), (u5 11), (u5 12), (u5 13), (u5 14), (u5 15), (u5 16), (u5 17), (u5 18), (u5 19), (u5 20), (Iv (((L_xs.take k).count x_ : Nat) : Int))]) rfl rfl (does_assign (u := (Iv (((L_xs.take k).count x_ : Nat) : Int))) (ev rfl)) rfl ?_
    refine wpList_nil (hK21 _ _ ?_)
    refine wp_ret ?_
    refine ret_val (v := (Iv (((L_xs.take k).count x_ : Nat) : Int))) (res_T rfl (slot rfl)) X9 ?_
    have x22 : ((L_xs.count x_ : Nat) : Int) = (((L_xs.take k).count x_ : Nat) : Int) := by first | rfl | (rw [List.take_of_length_le (show L_xs.length ≤ k by omega)])
    exact (by first | with_reducible rfl | rw [x22] | rfl)

/- spec.OpenEdges -/
theorem c_spec_OpenEdges (m : List Value) (A_m : MeshT) (w : World) (hv_m : RMeshT w A_m m) : Gives Try.prog 21 #[(.agg m.toArray)] w (fun v w' => v = (.tuple #[(Iv (openN A_m)), (Bo (meshOk A_m))])) := by
  obtain ⟨y1, y3, rfl, h2, h4⟩ := hv_m
  have hs7 := h2; have hs7l := Sl.len h2; obtain ⟨p5, q6, rfl⟩ := Sl.shape h2
  have hs10 := h4; have hs10l := Sl.len h4; obtain ⟨p8, q9, rfl⟩ := Sl.shape h4
  refine enter [(.agg #[(.slice p5 A_m.places.length q6), (.slice p8 A_m.tris.length q9)]), Ud, Ud, Ud, Ud, Ud, Ud, Ud, Ud, Ud, Ud, Ud, Ud, Ud, Ud, Ud, Ud, Ud, Ud, Ud, Ud, Ud, Ud, Ud, Ud, Ud, Ud, Ud, Ud, Ud, Ud, Ud, Ud, Ud, Ud, Ud, Ud, Ud, Ud, Ud, Ud, Ud, Ud, Ud, Ud, Ud, Ud, Ud, Ud, Ud, Ud, Ud, Ud, Ud, Ud, Ud, Ud, Ud, Ud, Ud, Ud] Try.func21 rfl Try.ntmps21 rfl ?_
  refine wp_seq_k fun K11 hK11 => ?_
  refine wp_region_lit ?_
  refine seqd rfl rfl (does_box (u := (.agg #[(.slice p5 A_m.places.length q6), (.slice p8 A_m.tris.length q9)])) (ev rfl)) ?_; rintro _ w16 ⟨b12, rfl, hb13, hB14, E15⟩
  have g17 : w.heap.size ≤ b12 := Nat.le_trans (Below.size (Ext.refl w)) hb13
  change Blk _ _ [(.slice p5 A_m.places.length q6), (.slice p8 A_m.tris.length q9)] at hB14
  have X18 := Ext.gr (Ext.refl w) E15
  show wpList _ _ _ _ (fr [_, _, _, _, _, _, _, _, _, _, _, _, _, _, _, _, _, _, _, _, _, _, _, _, _, _, _, _, _, _, _, _, _, _, _, _, _, _, _, _, _, _, _, _, _, _, _, _, _, _, _, _, _, _, _, _, _, _, _, _, _]) _
  refine q_is rfl rfl (does_assign (u := (Iv 0)) (ev rfl)) (by dsimp only [List.set]; try rfl) ?_
  refine q_is rfl rfl (does_assign (u := (Bo false)) (ev rfl)) (by dsimp only [List.set]; try rfl) ?_
  refine wpList_nil (hK11 _ _ ?_)
  refine wp_seq_k fun K19 hK19 => ?_
  refine wp_seq_k fun K20 hK20 => ?_
  refine wp_region_lit ?_
  refine seqd rfl rfl (does_call (args := #[(Pt b12 0)]) cal25 (evs rfl) (c_spec_l07Is b12 0 [(.slice p5 A_m.places.length q6), (.slice p8 A_m.tris.length q9)] A_m _ (Blk.cells hB14) ⟨(.slice p5 A_m.places.length q6), (.slice p8 A_m.tris.length q9), rfl, (Sl.ext hs7 RV3.mono X18), (Sl.ext hs10 (RS.mono RI.mono) X18)⟩)) ?_; rintro _ w22 ⟨E21, rfl⟩
  have X23 := Ext.gr X18 E21
  show wpList _ _ _ _ (fr [_, _, _, _, _, _, _, _, _, _, _, _, _, _, _, _, _, _, _, _, _, _, _, _, _, _, _, _, _, _, _, _, _, _, _, _, _, _, _, _, _, _, _, _, _, _, _, _, _, _, _, _, _, _, _, _, _, _, _, _, _]) _
  refine q_is rfl rfl (does_not (ev rfl)) (by dsimp only [List.set]; try rfl) ?_
  refine wpList_nil (hK20 _ _ ?_)
  refine wp_cond_split (t := !(meshOk A_m)) (ev rfl) (fun c24 => ?_) (fun c24 => ?_)
  · rw [Bool.not_eq_true'] at c24
    have c24' := c24
    have hmf : meshOk A_m = false := c24
    refine wp_seq_k fun K25 hK25 => ?_
    refine wp_region_lit ?_
    refine q_is rfl rfl (does_assign (u := (Iv 0)) (ev rfl)) (by dsimp only [List.set]; try rfl) ?_
    refine q_is rfl rfl (does_assign (u := (Bo false)) (ev rfl)) (by dsimp only [List.set]; try rfl) ?_
    refine wpList_nil (hK25 _ _ ?_)
    refine wp_ret ?_
    dsimp only [Exit.then, Exit.inBlock]
    refine ret_val (v := (.tuple #[(Iv 0), (Bo false)])) (res_TT rfl (slot rfl) (slot rfl)) X23 ?_
    have x26 : (openN A_m : Int) = 0 := by first | exact hmf | exact hmt | exact openN_f hmf | (have hz : s.1 = [] := (by assumption); rw [hz] at hk; simp only [List.countP_nil] at hk; rw [openN_t hmt, ← open_alike hmt]; omega) | (rw [openN_t hmt, show A_m.places.length = k by omega])
    have x27 : (meshOk A_m) = false := by first | exact hmf | exact hmt | exact openN_f hmf | (have hz : s.1 = [] := (by assumption); rw [hz] at hk; simp only [List.countP_nil] at hk; rw [openN_t hmt, ← open_alike hmt]; omega) | (rw [openN_t hmt, show A_m.places.length = k by omega])
    exact (by first | with_reducible rfl | rw [x26, x27] | rw [x27, x26] | rfl)
  rw [Bool.not_eq_false'] at c24
  have c24' := c24
  have hmt : meshOk A_m = true := c24
  have hml := mesh_len hmt
  refine wp_skip (hK19 _ _ ?_)
  refine wp_seq_k fun K28 hK28 => ?_
  refine wp_region_lit ?_
  refine seqd rfl rfl (does_call (args := #[(Pt b12 0)]) cal39 (evs rfl) (c_spec_l07Next b12 0 [(.slice p5 A_m.places.length q6), (.slice p8 A_m.tris.length q9)] A_m _ (Blk.cells (hB14.ext E21)) ⟨(.slice p5 A_m.places.length q6), (.slice p8 A_m.tris.length q9), rfl, (Sl.ext hs7 RV3.mono X23), (Sl.ext hs10 (RS.mono RI.mono) X23)⟩ (by exact hmt))) ?_; rintro _ w30 ⟨E29, ⟨y32, rfl, hh31⟩⟩
  have X33 := Ext.gr X23 E29
  have n34 : b12 < w22.heap.size := Blk.lt (hB14.ext E21)
  obtain ⟨p35, q36, rfl⟩ := Sl.shape hh31.get
  show wpList _ _ _ _ (fr [_, _, _, _, _, _, _, _, _, _, _, _, _, _, _, _, _, _, _, _, _, _, _, _, _, _, _, _, _, _, _, _, _, _, _, _, _, _, _, _, _, _, _, _, _, _, _, _, _, _, _, _, _, _, _, _, _, _, _, _, _]) _
  refine q_is rfl rfl (does_assign (u := (.slice p35 ((nextL A_m).length) q36)) (ev rfl)) (by dsimp only [List.set]; try rfl) ?_
  refine wpList_nil (hK28 _ _ ?_)
  refine wp_seq_k fun K37 hK37 => ?_
  refine wp_region_lit ?_
  refine q_is rfl rfl (does_assign (u := (Iv 0)) (ev rfl)) (by dsimp only [List.set]; try rfl) ?_
  refine wpList_nil (hK37 _ _ ?_)
  refine wp_seq_k fun K38 hK38 => ?_
  refine wp_seq_k fun K39 hK39 => ?_
  refine wp_region_lit ?_
  refine q_is rfl rfl (does_move (u := (.slice p35 ((nextL A_m).length) q36)) (ev rfl)) (by dsimp only [List.set]; try rfl) ?_
  refine q_is rfl rfl (does_len_slice Try.underlying23 (ev rfl)) (by dsimp only [List.set]; try rfl) ?_
  refine q_is rfl rfl (does_move (u := (Iv 0)) (ev rfl)) (by dsimp only [List.set]; try rfl) ?_
  refine wpList_nil (hK39 _ _ ?_)
  refine wp_block ?_
  refine loop_ghost (σ := Nat) (fun k a w' => ∃ u40 : Nat → Value, a = fr [(.agg #[(.slice p5 A_m.places.length q6), (.slice p8 A_m.tris.length q9)]), (Pt b12 0), (Iv 0), (Bo false), (.slice p35 ((nextL A_m).length) q36), (Iv ((opTo (nextL A_m) k : Nat) : Int)), (u40 6), (u40 7), (u40 8), (Bo (meshOk A_m)), (Bo (!(meshOk A_m))), (.slice p35 ((nextL A_m).length) q36), (.slice p35 ((nextL A_m).length) q36), (Iv (((nextL A_m).length) : Int)), (Iv (k : Int)), (u40 15), (u40 16), (u40 17), (u40 18), (u40 19), (u40 20), (u40 21), (u40 22), (u40 23), (u40 24), (u40 25), (u40 26), (u40 27), (u40 28), (u40 29), (u40 30), (u40 31), (u40 32), (u40 33), (u40 34), (u40 35), (u40 36), (u40 37), (u40 38), (u40 39), (u40 40), (u40 41), (u40 42), (u40 43), (u40 44), (u40 45), (u40 46), (u40 47), (u40 48), (u40 49), (u40 50), (u40 51), (u40 52), (u40 53), (u40 54), (u40 55), (u40 56), (u40 57), (u40 58), (u40 59), Ud] ∧ Ext w30 w' ∧ (k ≤ (nextL A_m).length)) (fun k => (nextL A_m).length - k) 0 ?_ ?_
  · refine ⟨fun t => (([(.agg #[(.slice p5 A_m.places.length q6), (.slice p8 A_m.tris.length q9)]), (Pt b12 0), (Iv 0), (Bo false), (.slice p35 ((nextL A_m).length) q36), (Iv 0), Ud, Ud, Ud, (Bo (meshOk A_m)), (Bo (!(meshOk A_m))), (.slice p35 ((nextL A_m).length) q36), (.slice p35 ((nextL A_m).length) q36), (Iv (((nextL A_m).length) : Int)), (Iv 0), Ud, Ud, Ud, Ud, Ud, Ud, Ud, Ud, Ud, Ud, Ud, Ud, Ud, Ud, Ud, Ud, Ud, Ud, Ud, Ud, Ud, Ud, Ud, Ud, Ud, Ud, Ud, Ud, Ud, Ud, Ud, Ud, Ud, Ud, Ud, Ud, Ud, Ud, Ud, Ud, Ud, Ud, Ud, Ud, Ud, Ud] : List Value)[t]?).getD undef, rfl, Ext.refl _, ?_⟩
    exact Nat.zero_le _
  · rintro k a w41 ⟨u40, rfl, E42, hk⟩
    have X44 := Ext.gr X33 E42
    have hnl := nextL_len A_m
    have hot := opTo_le hmt k hk
    refine wp_seq_k fun K45 hK45 => ?_
    refine wp_region_lit ?_
    refine q_is rfl rfl (does_icmp (p := (k : Int)) (q := (((nextL A_m).length) : Int)) (.inr (.inr (.inl rfl))) (ev rfl) (ev rfl)) (by dsimp only [List.set]; try rfl) ?_
    refine wpList_nil (hK45 _ _ ?_)
    refine wp_seq_k fun K46 hK46 => ?_
    refine wp_cond_split (t := icmp .lss (k : Int) (((nextL A_m).length) : Int)) (ev rfl) (fun c47 => ?_) (fun c47 => ?_)
    · have c47' := c47
      (try simp only [icmp, Bool.and_eq_true, Bool.or_eq_true, Bool.and_eq_false_iff, Bool.or_eq_false_iff, Bool.not_eq_true', Bool.not_eq_false', decide_eq_true_eq, decide_eq_false_iff_not, beq_iff_eq, bne_iff_ne, beq_eq_false_iff_ne, bne_eq_false_iff_eq] at c47')
      refine wp_skip (hK46 _ _ ?_)
      refine wp_seq_k fun K48 hK48 => ?_
      refine wp_block ?_
      refine wp_seq_k fun K49 hK49 => ?_
      refine wp_region_lit ?_
      refine q_is rfl rfl (does_move (u := (Iv (k : Int))) (ev rfl)) (by dsimp only [List.set]; try rfl) ?_
      refine q_is rfl rfl (does_assign (u := (Iv (k : Int))) (ev rfl)) (by dsimp only [List.set]; try rfl) ?_
      refine wpList_nil (hK49 _ _ ?_)
      refine wp_seq_k fun K50 hK50 => ?_
      refine wp_region_lit ?_
      refine q_is rfl rfl (does_move (u := (.slice p35 ((nextL A_m).length) q36)) (ev rfl)) (by dsimp only [List.set]; try rfl) ?_
      refine q_is rfl rfl (does_move (u := (Iv (k : Int))) (ev rfl)) (by dsimp only [List.set]; try rfl) ?_
      obtain ⟨el1, hel1⟩ : ∃ e, (nextL A_m)[k]? = some e := ⟨_, List.getElem?_eq_getElem (by omega)⟩
      refine seqd rfl rfl (does_indexSl (R := (RS RI 1)) (i := (k : Int)) (xs := (nextL A_m)) (e := el1) Try.underlying23 Try.sizeOf27 (ev rfl) (ev rfl) (hh31 _ ((Same.refl _ _).ext E42)) (by omega) hel1) ?_; rintro _ w41 ⟨b51, o52, _, rfl, hc54, ⟨y55, rfl, h56⟩, rfl⟩
      have hs59 := h56; have hs59l := Sl.len h56; obtain ⟨p57, q58, rfl⟩ := Sl.shape h56
      show wpList _ _ _ _ (fr [_, _, _, _, _, _, _, _, _, _, _, _, _, _, _, _, _, _, _, _, _, _, _, _, _, _, _, _, _, _, _, _, _, _, _, _, _, _, _, _, _, _, _, _, _, _, _, _, _, _, _, _, _, _, _, _, _, _, _, _, _]) _
      refine q_is rfl rfl (does_load (u := (.slice p57 el1.length q58)) (ev rfl) Try.isAgg27 (Cells.at hc54 0 rfl)) (by dsimp only [List.set]; try rfl) ?_
      refine q_is rfl rfl (does_len_slice Try.underlying27 (ev rfl)) (by dsimp only [List.set]; try rfl) ?_
      have hl1 := nextL_most hmt hel1
      refine q_is rfl rfl (does_move (u := (Iv 0)) (ev rfl)) (by dsimp only [List.set]; try rfl) ?_
      refine wpList_nil (hK50 _ _ ?_)
      refine wp_block ?_
      refine loop_ghost (σ := Nat) (fun q a w' => ∃ u60 : Nat → Value, a = fr [(.agg #[(.slice p5 A_m.places.length q6), (.slice p8 A_m.tris.length q9)]), (Pt b12 0), (Iv 0), (Bo false), (.slice p35 ((nextL A_m).length) q36), (Iv ((opTo (nextL A_m) k + opQ (nextL A_m) k q : Nat) : Int)), (Iv (k : Int)), (u60 7), (u60 8), (Bo (meshOk A_m)), (Bo (!(meshOk A_m))), (.slice p35 ((nextL A_m).length) q36), (.slice p35 ((nextL A_m).length) q36), (Iv (((nextL A_m).length) : Int)), (Iv (k : Int)), (Bo (icmp .lss (k : Int) (((nextL A_m).length) : Int))), (Iv (k : Int)), (.slice p35 ((nextL A_m).length) q36), (Iv (k : Int)), (Pt b51 o52), (.slice p57 el1.length q58), (Iv (el1.length : Int)), (Iv (q : Int)), (u60 23), (u60 24), (u60 25), (u60 26), (u60 27), (u60 28), (u60 29), (u60 30), (u60 31), (u60 32), (u60 33), (u60 34), (u60 35), (u60 36), (u60 37), (u60 38), (u60 39), (u60 40), (u60 41), (u60 42), (u60 43), (u60 44), (u60 45), (u60 46), (u60 47), (u60 48), (u60 49), (u60 50), (u60 51), (u60 52), (u60 53), (u60 54), (u60 55), (u60 56), (u60 57), (u60 58), (u40 59), Ud] ∧ Ext w41 w' ∧ (q ≤ el1.length)) (fun q => el1.length - q) 0 ?_ ?_
      · refine ⟨fun t => (([(.agg #[(.slice p5 A_m.places.length q6), (.slice p8 A_m.tris.length q9)]), (Pt b12 0), (Iv 0), (Bo false), (.slice p35 ((nextL A_m).length) q36), (Iv ((opTo (nextL A_m) k : Nat) : Int)), (Iv (k : Int)), (u40 7), (u40 8), (Bo (meshOk A_m)), (Bo (!(meshOk A_m))), (.slice p35 ((nextL A_m).length) q36), (.slice p35 ((nextL A_m).length) q36), (Iv (((nextL A_m).length) : Int)), (Iv (k : Int)), (Bo (icmp .lss (k : Int) (((nextL A_m).length) : Int))), (Iv (k : Int)), (.slice p35 ((nextL A_m).length) q36), (Iv (k : Int)), (Pt b51 o52), (.slice p57 el1.length q58), (Iv (el1.length : Int)), (Iv 0), (u40 23), (u40 24), (u40 25), (u40 26), (u40 27), (u40 28), (u40 29), (u40 30), (u40 31), (u40 32), (u40 33), (u40 34), (u40 35), (u40 36), (u40 37), (u40 38), (u40 39), (u40 40), (u40 41), (u40 42), (u40 43), (u40 44), (u40 45), (u40 46), (u40 47), (u40 48), (u40 49), (u40 50), (u40 51), (u40 52), (u40 53), (u40 54), (u40 55), (u40 56), (u40 57), (u40 58), (u40 59), Ud] : List Value)[t]?).getD undef, rfl, Ext.refl _, ?_⟩
        exact Nat.zero_le _
      · rintro q a w61 ⟨u60, rfl, E62, hq⟩
        have X64 := Ext.gr X44 E62
        have hoq := opQ_le (nextL A_m) k q
        refine wp_seq_k fun K65 hK65 => ?_
        refine wp_region_lit ?_
        refine q_is rfl rfl (does_icmp (p := (q : Int)) (q := (el1.length : Int)) (.inr (.inr (.inl rfl))) (ev rfl) (ev rfl)) (by dsimp only [List.set]; try rfl) ?_
        refine wpList_nil (hK65 _ _ ?_)
        refine wp_seq_k fun K66 hK66 => ?_
        refine wp_cond_split (t := icmp .lss (q : Int) (el1.length : Int)) (ev rfl) (fun c67 => ?_) (fun c67 => ?_)
        · have c67' := c67
          (try simp only [icmp, Bool.and_eq_true, Bool.or_eq_true, Bool.and_eq_false_iff, Bool.or_eq_false_iff, Bool.not_eq_true', Bool.not_eq_false', decide_eq_true_eq, decide_eq_false_iff_not, beq_iff_eq, bne_iff_ne, beq_eq_false_iff_ne, bne_eq_false_iff_eq] at c67')
          refine wp_skip (hK66 _ _ ?_)
          refine wp_seq_k fun K68 hK68 => ?_
          refine wp_block ?_
          refine wp_seq_k fun K69 hK69 => ?_
          refine wp_region_lit ?_
          refine q_is rfl rfl (does_move (u := (Iv (q : Int))) (ev rfl)) (by dsimp only [List.set]; try rfl) ?_
          refine q_is rfl rfl (does_assign (u := (Iv (q : Int))) (ev rfl)) (by dsimp only [List.set]; try rfl) ?_
          refine wpList_nil (hK69 _ _ ?_)
          refine wp_seq_k fun K70 hK70 => ?_
          refine wp_region_lit ?_
          refine q_is rfl rfl (does_move (u := (.slice p35 ((nextL A_m).length) q36)) (ev rfl)) (by dsimp only [List.set]; try rfl) ?_
          refine q_is rfl rfl (does_move (u := (Iv (k : Int))) (ev rfl)) (by dsimp only [List.set]; try rfl) ?_
          refine seqd rfl rfl (does_indexSl (R := (RS RI 1)) (i := (k : Int)) (xs := (nextL A_m)) (e := el1) Try.underlying23 Try.sizeOf27 (ev rfl) (ev rfl) (hh31 _ (((Same.refl _ _).ext E42).ext E62)) (by omega) hel1) ?_; rintro _ w61 ⟨b71, o72, _, rfl, hc74, ⟨y75, rfl, h76⟩, rfl⟩
          have hs79 := h76; have hs79l := Sl.len h76; obtain ⟨p77, q78, rfl⟩ := Sl.shape h76
          show wpList _ _ _ _ (fr [_, _, _, _, _, _, _, _, _, _, _, _, _, _, _, _, _, _, _, _, _, _, _, _, _, _, _, _, _, _, _, _, _, _, _, _, _, _, _, _, _, _, _, _, _, _, _, _, _, _, _, _, _, _, _, _, _, _, _, _, _]) _
          refine q_is rfl rfl (does_load (u := (.slice p77 el1.length q78)) (ev rfl) Try.isAgg27 (Cells.at hc74 0 rfl)) (by dsimp only [List.set]; try rfl) ?_
          refine q_is rfl rfl (does_move (u := (Iv (q : Int))) (ev rfl)) (by dsimp only [List.set]; try rfl) ?_
          obtain ⟨el2, hel2⟩ : ∃ e, el1[q]? = some e := ⟨_, List.getElem?_eq_getElem (by omega)⟩
          refine seqd rfl rfl (does_indexSl (R := RI) (i := (q : Int)) (xs := el1) (e := el2) Try.underlying27 Try.sizeOf2 (ev rfl) (ev rfl) hs79 (by omega) hel2) ?_; rintro _ w61 ⟨b80, o81, _, rfl, hc83, rfl, rfl⟩
          show wpList _ _ _ _ (fr [_, _, _, _, _, _, _, _, _, _, _, _, _, _, _, _, _, _, _, _, _, _, _, _, _, _, _, _, _, _, _, _, _, _, _, _, _, _, _, _, _, _, _, _, _, _, _, _, _, _, _, _, _, _, _, _, _, _, _, _, _]) _
          refine q_is rfl rfl (does_load (u := (Iv el2)) (ev rfl) Try.isAgg2 (Cells.at hc83 0 rfl)) (by dsimp only [List.set]; try rfl) ?_
          refine q_is rfl rfl (does_assign (u := (Iv el2)) (ev rfl)) (by dsimp only [List.set]; try rfl) ?_
          refine wpList_nil (hK70 _ _ ?_)
          refine wp_seq_k fun K84 hK84 => ?_
          have hb2 := nextL_in hmt hel1 hel2
          obtain ⟨β1, hβ1⟩ : ∃ b : Bool, b = (icmp .eql ((el1.take (q : Int).toNat).count el2 : Nat) 0) := ⟨_, rfl⟩
          obtain ⟨el3, hel3⟩ : ∃ e, (nextL A_m)[el2.toNat]? = some e := ⟨_, List.getElem?_eq_getElem (by omega)⟩
          have hl3 := nextL_most hmt hel3
          obtain ⟨β2, hβ2⟩ : ∃ b : Bool, b = (icmp .gtr (el1.count el2 : Nat) (el3.count (k : Int) : Nat)) := ⟨_, rfl⟩
          refine region_draw (
            [Fact.pure [] (fun v => v = (.slice p35 ((nextL A_m).length) q36)),
    Fact.pure [] (fun v => v = (Iv (k : Int))),
    Fact.mem [32, 33] (fun v w' => PtrR (RS RI 1) w' v el1) (by intro v w1 w2 hx h; exact h.ext (RS.mono RI.mono) hx),
    Fact.mem [34] (fun v w' => ∃ y_1 : Value, v = y_1 ∧ Sl RI 1 w' y_1 el1) (by rintro v w1 w2 hx ⟨z1, rfl, k0⟩; exact ⟨_, rfl, (k0.ext RI.mono hx)⟩),
    Fact.pure [] (fun v => v = (Iv (q : Int))),
    Fact.mem [35, 36] (fun v w' => ∃ y_1 : Value, v = y_1 ∧ Sl RI 1 w' y_1 (el1.take (q : Int).toNat)) (by rintro v w1 w2 hx ⟨z1, rfl, k0⟩; exact ⟨_, rfl, (k0.ext RI.mono hx)⟩),
    Fact.pure [] (fun v => v = (Iv el2)),
    Fact.pure [37, 38] (fun v => v = (Iv ((el1.take (q : Int).toNat).count el2 : Nat))),
    Fact.pure [39] (fun v => v = (Bo β1)),
    Fact.pure [40] (fun v => v = (Bo β1)),
    Fact.pure [41] (fun v => β1 = true → v = (.slice p35 ((nextL A_m).length) q36)),
    Fact.pure [41] (fun v => β1 = true → v = (Iv (k : Int))),
    Fact.mem [42, 43, 41] (fun v w' => β1 = true → PtrR (RS RI 1) w' v el1) (by intro v w1 w2 hx h; exact fun hg1 => (h hg1).ext (RS.mono RI.mono) hx),
    Fact.mem [44, 41] (fun v w' => β1 = true → ∃ y_1 : Value, v = y_1 ∧ Sl RI 1 w' y_1 el1) (by intro v w1 w2 hx h hg1; obtain ⟨z1, rfl, k0⟩ := h hg1; exact ⟨_, rfl, (k0.ext RI.mono hx)⟩),
    Fact.pure [41] (fun v => β1 = true → v = (Iv el2)),
    Fact.pure [45, 46, 41] (fun v => β1 = true → v = (Iv (el1.count el2 : Nat))),
    Fact.pure [41] (fun v => β1 = true → v = (.slice p35 ((nextL A_m).length) q36)),
    Fact.pure [41] (fun v => β1 = true → v = (Iv el2)),
    Fact.mem [48, 49, 41] (fun v w' => β1 = true → PtrR (RS RI 1) w' v el3) (by intro v w1 w2 hx h; exact fun hg1 => (h hg1).ext (RS.mono RI.mono) hx),
    Fact.mem [50, 41] (fun v w' => β1 = true → ∃ y_1 : Value, v = y_1 ∧ Sl RI 1 w' y_1 el3) (by intro v w1 w2 hx h hg1; obtain ⟨z1, rfl, k0⟩ := h hg1; exact ⟨_, rfl, (k0.ext RI.mono hx)⟩),
    Fact.pure [41] (fun v => β1 = true → v = (Iv (k : Int))),
    Fact.pure [51, 52, 41] (fun v => β1 = true → v = (Iv (el3.count (k : Int) : Nat))),
    Fact.pure [47, 53, 41] (fun v => β1 = true → v = (Bo β2)),
    Fact.pure [41, 54] (fun v => v = (Bo (β1 && β2)))]) mixed (by kernel_rfl) (by intro _ _ d _ _ h; cases d <;> exact h) ?_
          obtain ⟨w85, hw87⟩ : ∃ w', w' = World.drew w61 := ⟨_, rfl⟩; rw [← hw87]; have E86 : Ext w61 w85 := by rw [hw87]; exact Ext.draw _
          clear hw87
          have X88 := Ext.gr X64 E86
          refine RW_d _ rfl (fun v => by dsimp only [List.set]; try rfl) (fun u hu hF => ?_) (fun v89 => ?_)
          · clear hF
            refine doesG_un rfl ?_
            refine (does_move (u := (.slice p35 ((nextL A_m).length) q36)) (ev rfl)).mono ?_; rintro _ _ ⟨rfl, rfl⟩
            exact ⟨rfl, Ext.refl _⟩
          refine RW_d _ rfl (fun v => by dsimp only [List.set]; try rfl) (fun u hu hF => ?_) (fun v90 => ?_)
          · clear hF
            refine doesG_un rfl ?_
            refine (does_move (u := (Iv (k : Int))) (ev rfl)).mono ?_; rintro _ _ ⟨rfl, rfl⟩
            exact ⟨rfl, Ext.refl _⟩
          refine RW_d _ rfl (fun v => by dsimp only [List.set]; try rfl) (fun u hu hF => ?_) (fun v91 => ?_)
          · have h32_ : v89 = (.slice p35 ((nextL A_m).length) q36) := hF.1
            have h33_ : v90 = (Iv (k : Int)) := hF.2.1
            clear hF
            refine doesG_un rfl ?_
            obtain rfl := h32_
            obtain rfl := h33_
            refine (does_indexSl (R := (RS RI 1)) (i := (k : Int)) (xs := (nextL A_m)) (e := el1) Try.underlying23 Try.sizeOf27 (ev rfl) (ev rfl) (Sl.ext (hh31 _ ((((Same.refl _ _).ext E42).ext E62).ext E86)) (RS.mono RI.mono) hu) (by omega) hel1).mono ?_; rintro v u' ⟨b, of, cs, hv, hc, hR, hu'⟩; subst hu'
            exact ⟨⟨b, of, cs, hv, hc, hR⟩, Ext.refl _⟩
          refine RW_d _ rfl (fun v => by dsimp only [List.set]; try rfl) (fun u hu hF => ?_) (fun v92 => ?_)
          · have h34_ : PtrR (RS RI 1) u v91 el1 := hF.1
            clear hF
            refine doesG_un rfl ?_
            obtain ⟨b34_, o34_, _, rfl, hc34_, ⟨y34_1, rfl, h34_2⟩⟩ := h34_
            have hh34_2 := h34_2; obtain ⟨p34_3, q34_4, rfl⟩ := Sl.shape h34_2
            refine (does_load (u := (.slice p34_3 el1.length q34_4)) (ev rfl) Try.isAgg27 (Cells.at hc34_ 0 rfl)).mono ?_; rintro _ _ ⟨rfl, rfl⟩
            exact ⟨⟨(.slice p34_3 el1.length q34_4), rfl, (by assumption)⟩, Ext.refl _⟩
          refine RW_d _ rfl (fun v => by dsimp only [List.set]; try rfl) (fun u hu hF => ?_) (fun v93 => ?_)
          · clear hF
            refine doesG_un rfl ?_
            refine (does_move (u := (Iv (q : Int))) (ev rfl)).mono ?_; rintro _ _ ⟨rfl, rfl⟩
            exact ⟨rfl, Ext.refl _⟩
          refine RW_d _ rfl (fun v => by dsimp only [List.set]; try rfl) (fun u hu hF => ?_) (fun v94 => ?_)
          · have h35_ : ∃ y_1 : Value, v92 = y_1 ∧ Sl RI 1 u y_1 el1 := hF.1
            have h36_ : v93 = (Iv (q : Int)) := hF.2.1
            clear hF
            refine doesG_un rfl ?_
            obtain ⟨y35_1, rfl, h35_2⟩ := h35_
            have hh35_2 := h35_2; obtain ⟨p35_3, q35_4, rfl⟩ := Sl.shape h35_2
            obtain rfl := h36_
            refine (does_sliceTo (R := RI) (k := 1) (xs := el1) (h := (q : Int)) Try.underlying27 Try.sizeOf2 (ev rfl) (ev rfl) hh35_2 (by omega) (by first | omega | omega)).mono ?_; rintro v u' ⟨hx, ⟨yn1, hv, k0⟩⟩
            exact ⟨⟨yn1, hv, k0⟩, hx⟩
          refine RW_d _ rfl (fun v => by dsimp only [List.set]; try rfl) (fun u hu hF => ?_) (fun v95 => ?_)
          · clear hF
            refine doesG_un rfl ?_
            refine (does_move (u := (Iv el2)) (ev rfl)).mono ?_; rintro _ _ ⟨rfl, rfl⟩
            exact ⟨rfl, Ext.refl _⟩
          refine RW_d _ rfl (fun v => by dsimp only [List.set]; try rfl) (fun u hu hF => ?_) (fun v96 => ?_)
          · have h37_ : ∃ y_1 : Value, v94 = y_1 ∧ Sl RI 1 u y_1 (el1.take (q : Int).toNat) := hF.1
            have h38_ : v95 = (Iv el2) := hF.2.1
            clear hF
            refine doesG_un rfl ?_
            obtain ⟨y37_1, rfl, h37_2⟩ := h37_
            have hh37_2 := h37_2; obtain ⟨p37_3, q37_4, rfl⟩ := Sl.shape h37_2
            obtain rfl := h38_
            refine (does_call (args := #[(.slice p37_3 ((el1.take (q : Int).toNat).length) q37_4), (Iv el2)]) cal40 (evs rfl) (c_spec_l07Times (.slice p37_3 ((el1.take (q : Int).toNat).length) q37_4) (el1.take (q : Int).toNat) el2 _ hh37_2 (by (rw [List.length_take]; omega)))).mono ?_; rintro v u' ⟨hx, hv⟩
            exact ⟨hv, hx⟩
          refine RW_d _ rfl (fun v => by dsimp only [List.set]; try rfl) (fun u hu hF => ?_) (fun v97 => ?_)
          · have h39_ : v96 = (Iv ((el1.take (q : Int).toNat).count el2 : Nat)) := hF.1
            clear hF
            refine doesG_un rfl ?_
            obtain rfl := h39_
            refine (does_icmp (p := ((el1.take (q : Int).toNat).count el2 : Nat)) (q := 0) (.inl rfl) (ev rfl) (ev rfl)).mono ?_; rintro _ _ ⟨rfl, rfl⟩
            exact ⟨(by first | rfl | (show _ = _; simp only [hβ1]; done) | (show _ = _; simp only [hβ1]; rfl)), Ext.refl _⟩
          refine RW_d _ rfl (fun v => by dsimp only [List.set]; try rfl) (fun u hu hF => ?_) (fun v98 => ?_)
          · have h40_ : v97 = (Bo β1) := hF.1
            clear hF
            refine doesG_un rfl ?_
            obtain rfl := h40_
            refine (does_move (u := (Bo β1)) (ev rfl)).mono ?_; rintro _ _ ⟨rfl, rfl⟩
            exact ⟨rfl, Ext.refl _⟩
          refine RW_d _ rfl (fun v => by dsimp only [List.set]; try rfl) (fun u hu hF => ?_) (fun v99 => ?_)
          · have h41_ : v98 = (Bo β1) := hF.1
            clear hF
            obtain rfl := h41_
            refine doesG_g (b := β1) rfl (yld rfl rfl) (fun hg1 => ?_) (fun hc => ⟨fun hg1 => absurd hg1 hc, Ext.refl _⟩)
            refine (does_move (u := (.slice p35 ((nextL A_m).length) q36)) (ev rfl)).mono ?_; rintro _ _ ⟨rfl, rfl⟩
            exact ⟨fun _ => rfl, Ext.refl _⟩
          refine RW_d _ rfl (fun v => by dsimp only [List.set]; try rfl) (fun u hu hF => ?_) (fun v100 => ?_)
          · have h41_ : v98 = (Bo β1) := hF.1
            clear hF
            obtain rfl := h41_
            refine doesG_g (b := β1) rfl (yld rfl rfl) (fun hg1 => ?_) (fun hc => ⟨fun hg1 => absurd hg1 hc, Ext.refl _⟩)
            refine (does_move (u := (Iv (k : Int))) (ev rfl)).mono ?_; rintro _ _ ⟨rfl, rfl⟩
            exact ⟨fun _ => rfl, Ext.refl _⟩
          refine RW_d _ rfl (fun v => by dsimp only [List.set]; try rfl) (fun u hu hF => ?_) (fun v101 => ?_)
          · have h42_ : β1 = true → v99 = (.slice p35 ((nextL A_m).length) q36) := hF.1
            have h43_ : β1 = true → v100 = (Iv (k : Int)) := hF.2.1
            have h41_ : v98 = (Bo β1) := hF.2.2.1
            clear hF
            obtain rfl := h41_
            refine doesG_g (b := β1) rfl (yld rfl rfl) (fun hg1 => ?_) (fun hc => ⟨fun hg1 => absurd hg1 hc, Ext.refl _⟩)
            obtain rfl := h42_ hg1
            obtain rfl := h43_ hg1
            refine (does_indexSl (R := (RS RI 1)) (i := (k : Int)) (xs := (nextL A_m)) (e := el1) Try.underlying23 Try.sizeOf27 (ev rfl) (ev rfl) (Sl.ext (hh31 _ ((((Same.refl _ _).ext E42).ext E62).ext E86)) (RS.mono RI.mono) hu) (by first | omega | (simp only [hβ1, icmp, Bool.or_eq_false_iff, Bool.not_eq_false', Bool.not_eq_true', decide_eq_true_eq, decide_eq_false_iff_not, bne_eq_false_iff_eq] at hg1; omega) | (simp only [hβ1, icmp, Bool.or_eq_false_iff, Bool.not_eq_false', Bool.not_eq_true', decide_eq_true_eq, decide_eq_false_iff_not, bne_eq_false_iff_eq] at hg1 hg2; omega)) hel1).mono ?_; rintro v u' ⟨b, of, cs, hv, hc, hR, hu'⟩; subst hu'
            exact ⟨fun _ => ⟨b, of, cs, hv, hc, hR⟩, Ext.refl _⟩
          refine RW_d _ rfl (fun v => by dsimp only [List.set]; try rfl) (fun u hu hF => ?_) (fun v102 => ?_)
          · have h44_ : β1 = true → PtrR (RS RI 1) u v101 el1 := hF.1
            have h41_ : v98 = (Bo β1) := hF.2.1
            clear hF
            obtain rfl := h41_
            refine doesG_g (b := β1) rfl (yld rfl rfl) (fun hg1 => ?_) (fun hc => ⟨fun hg1 => absurd hg1 hc, Ext.refl _⟩)
            obtain ⟨b44_, o44_, _, rfl, hc44_, ⟨y44_1, rfl, h44_2⟩⟩ := h44_ hg1
            have hh44_2 := h44_2; obtain ⟨p44_3, q44_4, rfl⟩ := Sl.shape h44_2
            refine (does_load (u := (.slice p44_3 el1.length q44_4)) (ev rfl) Try.isAgg27 (Cells.at hc44_ 0 rfl)).mono ?_; rintro _ _ ⟨rfl, rfl⟩
            exact ⟨fun _ => ⟨(.slice p44_3 el1.length q44_4), rfl, (by assumption)⟩, Ext.refl _⟩
          refine RW_d _ rfl (fun v => by dsimp only [List.set]; try rfl) (fun u hu hF => ?_) (fun v103 => ?_)
          · have h41_ : v98 = (Bo β1) := hF.1
            clear hF
            obtain rfl := h41_
            refine doesG_g (b := β1) rfl (yld rfl rfl) (fun hg1 => ?_) (fun hc => ⟨fun hg1 => absurd hg1 hc, Ext.refl _⟩)
            refine (does_move (u := (Iv el2)) (ev rfl)).mono ?_; rintro _ _ ⟨rfl, rfl⟩
            exact ⟨fun _ => rfl, Ext.refl _⟩
          refine RW_d _ rfl (fun v => by dsimp only [List.set]; try rfl) (fun u hu hF => ?_) (fun v104 => ?_)
          · have h45_ : β1 = true → ∃ y_1 : Value, v102 = y_1 ∧ Sl RI 1 u y_1 el1 := hF.1
            have h46_ : β1 = true → v103 = (Iv el2) := hF.2.1
            have h41_ : v98 = (Bo β1) := hF.2.2.1
            clear hF
            obtain rfl := h41_
            refine doesG_g (b := β1) rfl (yld rfl rfl) (fun hg1 => ?_) (fun hc => ⟨fun hg1 => absurd hg1 hc, Ext.refl _⟩)
            obtain ⟨y45_1, rfl, h45_2⟩ := h45_ hg1
            have hh45_2 := h45_2; obtain ⟨p45_3, q45_4, rfl⟩ := Sl.shape h45_2
            obtain rfl := h46_ hg1
            refine (does_call (args := #[(.slice p45_3 el1.length q45_4), (Iv el2)]) cal40 (evs rfl) (c_spec_l07Times (.slice p45_3 el1.length q45_4) el1 el2 _ hh45_2 (by omega))).mono ?_; rintro v u' ⟨hx, hv⟩
            exact ⟨fun _ => hv, hx⟩
          refine RW_d _ rfl (fun v => by dsimp only [List.set]; try rfl) (fun u hu hF => ?_) (fun v105 => ?_)
          · have h41_ : v98 = (Bo β1) := hF.1
            clear hF
            obtain rfl := h41_
            refine doesG_g (b := β1) rfl (yld rfl rfl) (fun hg1 => ?_) (fun hc => ⟨fun hg1 => absurd hg1 hc, Ext.refl _⟩)
            refine (does_move (u := (.slice p35 ((nextL A_m).length) q36)) (ev rfl)).mono ?_; rintro _ _ ⟨rfl, rfl⟩
            exact ⟨fun _ => rfl, Ext.refl _⟩
          refine RW_d _ rfl (fun v => by dsimp only [List.set]; try rfl) (fun u hu hF => ?_) (fun v106 => ?_)
          · have h41_ : v98 = (Bo β1) := hF.1
            clear hF
            obtain rfl := h41_
            refine doesG_g (b := β1) rfl (yld rfl rfl) (fun hg1 => ?_) (fun hc => ⟨fun hg1 => absurd hg1 hc, Ext.refl _⟩)
            refine (does_move (u := (Iv el2)) (ev rfl)).mono ?_; rintro _ _ ⟨rfl, rfl⟩
            exact ⟨fun _ => rfl, Ext.refl _⟩
          refine RW_d _ rfl (fun v => by dsimp only [List.set]; try rfl) (fun u hu hF => ?_) (fun v107 => ?_)
          · have h48_ : β1 = true → v105 = (.slice p35 ((nextL A_m).length) q36) := hF.1
            have h49_ : β1 = true → v106 = (Iv el2) := hF.2.1
            have h41_ : v98 = (Bo β1) := hF.2.2.1
            clear hF
            obtain rfl := h41_
            refine doesG_g (b := β1) rfl (yld rfl rfl) (fun hg1 => ?_) (fun hc => ⟨fun hg1 => absurd hg1 hc, Ext.refl _⟩)
            obtain rfl := h48_ hg1
            obtain rfl := h49_ hg1
            refine (does_indexSl (R := (RS RI 1)) (i := el2) (xs := (nextL A_m)) (e := el3) Try.underlying23 Try.sizeOf27 (ev rfl) (ev rfl) (Sl.ext (hh31 _ ((((Same.refl _ _).ext E42).ext E62).ext E86)) (RS.mono RI.mono) hu) (by first | omega | (simp only [hβ1, icmp, Bool.or_eq_false_iff, Bool.not_eq_false', Bool.not_eq_true', decide_eq_true_eq, decide_eq_false_iff_not, bne_eq_false_iff_eq] at hg1; omega) | (simp only [hβ1, icmp, Bool.or_eq_false_iff, Bool.not_eq_false', Bool.not_eq_true', decide_eq_true_eq, decide_eq_false_iff_not, bne_eq_false_iff_eq] at hg1 hg2; omega)) hel3).mono ?_; rintro v u' ⟨b, of, cs, hv, hc, hR, hu'⟩; subst hu'
            exact ⟨fun _ => ⟨b, of, cs, hv, hc, hR⟩, Ext.refl _⟩
          refine RW_d _ rfl (fun v => by dsimp only [List.set]; try rfl) (fun u hu hF => ?_) (fun v108 => ?_)
          · have h50_ : β1 = true → PtrR (RS RI 1) u v107 el3 := hF.1
            have h41_ : v98 = (Bo β1) := hF.2.1
            clear hF
            obtain rfl := h41_
            refine doesG_g (b := β1) rfl (yld rfl rfl) (fun hg1 => ?_) (fun hc => ⟨fun hg1 => absurd hg1 hc, Ext.refl _⟩)
            obtain ⟨b50_, o50_, _, rfl, hc50_, ⟨y50_1, rfl, h50_2⟩⟩ := h50_ hg1
            have hh50_2 := h50_2; obtain ⟨p50_3, q50_4, rfl⟩ := Sl.shape h50_2
            refine (does_load (u := (.slice p50_3 el3.length q50_4)) (ev rfl) Try.isAgg27 (Cells.at hc50_ 0 rfl)).mono ?_; rintro _ _ ⟨rfl, rfl⟩
            exact ⟨fun _ => ⟨(.slice p50_3 el3.length q50_4), rfl, (by assumption)⟩, Ext.refl _⟩
          refine RW_d _ rfl (fun v => by dsimp only [List.set]; try rfl) (fun u hu hF => ?_) (fun v109 => ?_)
          · have h41_ : v98 = (Bo β1) := hF.1
            clear hF
            obtain rfl := h41_
            refine doesG_g (b := β1) rfl (yld rfl rfl) (fun hg1 => ?_) (fun hc => ⟨fun hg1 => absurd hg1 hc, Ext.refl _⟩)
            refine (does_move (u := (Iv (k : Int))) (ev rfl)).mono ?_; rintro _ _ ⟨rfl, rfl⟩
            exact ⟨fun _ => rfl, Ext.refl _⟩
          refine RW_d _ rfl (fun v => by dsimp only [List.set]; try rfl) (fun u hu hF => ?_) (fun v110 => ?_)
          · have h51_ : β1 = true → ∃ y_1 : Value, v108 = y_1 ∧ Sl RI 1 u y_1 el3 := hF.1
            have h52_ : β1 = true → v109 = (Iv (k : Int)) := hF.2.1
            have h41_ : v98 = (Bo β1) := hF.2.2.1
            clear hF
            obtain rfl := h41_
            refine doesG_g (b := β1) rfl (yld rfl rfl) (fun hg1 => ?_) (fun hc => ⟨fun hg1 => absurd hg1 hc, Ext.refl _⟩)
            obtain ⟨y51_1, rfl, h51_2⟩ := h51_ hg1
            have hh51_2 := h51_2; obtain ⟨p51_3, q51_4, rfl⟩ := Sl.shape h51_2
            obtain rfl := h52_ hg1
            refine (does_call (args := #[(.slice p51_3 el3.length q51_4), (Iv (k : Int))]) cal40 (evs rfl) (c_spec_l07Times (.slice p51_3 el3.length q51_4) el3 (k : Int) _ hh51_2 (by omega))).mono ?_; rintro v u' ⟨hx, hv⟩
            exact ⟨fun _ => hv, hx⟩
          refine RW_d _ rfl (fun v => by dsimp only [List.set]; try rfl) (fun u hu hF => ?_) (fun v111 => ?_)
          · have h47_ : β1 = true → v104 = (Iv (el1.count el2 : Nat)) := hF.1
            have h53_ : β1 = true → v110 = (Iv (el3.count (k : Int) : Nat)) := hF.2.1
            have h41_ : v98 = (Bo β1) := hF.2.2.1
            clear hF
            obtain rfl := h41_
            refine doesG_g (b := β1) rfl (yld rfl rfl) (fun hg1 => ?_) (fun hc => ⟨fun hg1 => absurd hg1 hc, Ext.refl _⟩)
            obtain rfl := h47_ hg1
            obtain rfl := h53_ hg1
            refine (does_icmp (p := (el1.count el2 : Nat)) (q := (el3.count (k : Int) : Nat)) (.inr (.inr (.inr (.inr (.inl rfl))))) (ev rfl) (ev rfl)).mono ?_; rintro _ _ ⟨rfl, rfl⟩
            exact ⟨fun _ => (by first | rfl | (show _ = _; simp only [hβ2]; done) | (show _ = _; simp only [hβ2]; rfl)), Ext.refl _⟩
          refine RW_d _ rfl (fun v => by dsimp only [List.set]; try rfl) (fun u hu hF => ?_) (fun v112 => ?_)
          · have h41_ : v98 = (Bo β1) := hF.1
            have h54_ : β1 = true → v111 = (Bo β2) := hF.2.1
            clear hF
            refine doesG_un rfl ?_
            skip
            obtain rfl := h41_
            refine (does_pick (b := β1) (u := v111) (v := (Bo false)) (ev rfl) (ev rfl) (ev rfl)).mono ?_; rintro _ _ ⟨rfl, rfl⟩; refine ⟨?_, Ext.refl _⟩; skip
            cases hbb : β1
            all_goals first | (show _ = _; simp only [↓reduceIte, Bool.true_and, Bool.false_and, Bool.true_or, Bool.false_or, Bool.false_eq_true]; done) | (have e_ := h54_ hbb; subst e_; show _ = _; simp only [↓reduceIte, Bool.true_and, Bool.false_and, Bool.true_or, Bool.false_or, Bool.false_eq_true]; done) | rfl | (have e_ := h54_ hbb; subst e_; rfl) | (simp [hbb] at h54_ ⊢; first | done | rfl | (subst h54_; rfl) | simp_all) | (simp [hbb] at h54_ ⊢; done)
          refine RW_fin ?_; intro w113 E114 hP115
          obtain ⟨⟨⟨⟨⟨⟨⟨⟨⟨⟨⟨⟨⟨⟨⟨⟨⟨⟨⟨⟨⟨⟨⟨⟨-, -⟩, -⟩, -⟩, -⟩, -⟩, -⟩, -⟩, -⟩, -⟩, -⟩, -⟩, -⟩, -⟩, -⟩, -⟩, -⟩, -⟩, -⟩, -⟩, -⟩, -⟩, -⟩, -⟩, q116⟩ := hP115
          have X117 := Ext.gr X88 E114
          have q116 : v112 = (Bo (β1 && β2)) := q116
          obtain rfl := q116
          show wpList _ _ _ _ (fr [_, _, _, _, _, _, _, _, _, _, _, _, _, _, _, _, _, _, _, _, _, _, _, _, _, _, _, _, _, _, _, _, _, _, _, _, _, _, _, _, _, _, _, _, _, _, _, _, _, _, _, _, _, _, _, _, _, _, _, _, _]) _
          refine wpList_nil (hK84 _ _ ?_)
          refine wp_cond_split (t := β1 && β2) (ev rfl) (fun c118 => ?_) (fun c118 => ?_)
          · have c118' := c118
            (try simp only [hβ1, hβ2] at c118')
            (try simp only [icmp, Bool.and_eq_true, Bool.or_eq_true, Bool.and_eq_false_iff, Bool.or_eq_false_iff, Bool.not_eq_true', Bool.not_eq_false', decide_eq_true_eq, decide_eq_false_iff_not, beq_iff_eq, bne_iff_ne, beq_eq_false_iff_ne, bne_eq_false_iff_eq] at c118')
            (try simp only [Int.toNat_natCast] at c118')
            refine wp_region_lit ?_
            refine q_is rfl rfl (does_move (u := (Iv ((opTo (nextL A_m) k + opQ (nextL A_m) k q : Nat) : Int))) (ev rfl)) (by dsimp only [List.set]; try rfl) ?_
            refine q_is rfl rfl (does_iarith (p := ((opTo (nextL A_m) k + opQ (nextL A_m) k q : Nat) : Int)) (q := 1) (r := ((opTo (nextL A_m) k + opQ (nextL A_m) k q : Nat) : Int) + 1) (ev rfl) (ev rfl) (.inl ⟨rfl, (in_i64 (by omega) (by omega)).symm⟩)) (by dsimp only [List.set]; try rfl) ?_
            refine q_is rfl rfl (does_assign (u := (Iv (((opTo (nextL A_m) k + opQ (nextL A_m) k q : Nat) : Int) + 1))) (ev rfl)) (by dsimp only [List.set]; try rfl) ?_
            refine wpList_nil (hK68 _ _ ?_)
            refine wp_region_lit ?_
            refine q_is rfl rfl (does_iarith (p := (q : Int)) (q := 1) (r := (q : Int) + 1) (ev rfl) (ev rfl) (.inl ⟨rfl, (in_i64 (by omega) (by omega)).symm⟩)) (by dsimp only [List.set]; try rfl) ?_
            have hl1 := nextL_most hmt hel1
            refine q_is rfl rfl (does_move (u := (Iv ((q : Int) + 1))) (ev rfl)) (by dsimp only [List.set]; try rfl) ?_
            refine wpList_nil ?_
            refine ⟨q + 1, ⟨fun t => (([(.agg #[(.slice p5 A_m.places.length q6), (.slice p8 A_m.tris.length q9)]), (Pt b12 0), (Iv 0), (Bo false), (.slice p35 ((nextL A_m).length) q36), (Iv (((opTo (nextL A_m) k + opQ (nextL A_m) k q : Nat) : Int) + 1)), (Iv (k : Int)), (Iv (q : Int)), (Iv el2), (Bo (meshOk A_m)), (Bo (!(meshOk A_m))), (.slice p35 ((nextL A_m).length) q36), (.slice p35 ((nextL A_m).length) q36), (Iv (((nextL A_m).length) : Int)), (Iv (k : Int)), (Bo (icmp .lss (k : Int) (((nextL A_m).length) : Int))), (Iv (k : Int)), (.slice p35 ((nextL A_m).length) q36), (Iv (k : Int)), (Pt b51 o52), (.slice p57 el1.length q58), (Iv (el1.length : Int)), (Iv ((q : Int) + 1)), (Bo (icmp .lss (q : Int) (el1.length : Int))), (Iv (q : Int)), (.slice p35 ((nextL A_m).length) q36), (Iv (k : Int)), (Pt b71 o72), (.slice p77 el1.length q78), (Iv (q : Int)), (Pt b80 o81), (Iv el2), v89, v90, v91, v92, v93, v94, v95, v96, v97, v98, v99, v100, v101, v102, v103, v104, v105, v106, v107, v108, v109, v110, v111, (Bo (β1 && β2)), (Iv ((opTo (nextL A_m) k + opQ (nextL A_m) k q : Nat) : Int)), (Iv (((opTo (nextL A_m) k + opQ (nextL A_m) k q : Nat) : Int) + 1)), (Iv ((q : Int) + 1)), (u40 59), Ud] : List Value)[t]?).getD undef, ?_, (Ext.gr (Ext.gr E62 E86) E114), ?_⟩, ?_⟩
            · first | (rw [opQ_pos hel1 hel2 hel3 (by omega) (by omega), ← Nat.add_assoc]; simp only [Int.natCast_add, Int.natCast_one]; rfl) | (rw [opQ_neg hel1 hel2 hel3 (by omega)]; simp only [Int.natCast_add, Int.natCast_one]; rfl)
            · (try dsimp only); omega
            · (try dsimp only); omega
          have c118' := c118
          (try simp only [hβ1, hβ2] at c118')
          (try simp only [icmp, Bool.and_eq_true, Bool.or_eq_true, Bool.and_eq_false_iff, Bool.or_eq_false_iff, Bool.not_eq_true', Bool.not_eq_false', decide_eq_true_eq, decide_eq_false_iff_not, beq_iff_eq, bne_iff_ne, beq_eq_false_iff_ne, bne_eq_false_iff_eq] at c118')
          (try simp only [Int.toNat_natCast] at c118')
          refine wp_skip (hK68 _ _ ?_)
          refine wp_region_lit ?_
          refine q_is rfl rfl (does_iarith (p := (q : Int)) (q := 1) (r := (q : Int) + 1) (ev rfl) (ev rfl) (.inl ⟨rfl, (in_i64 (by omega) (by omega)).symm⟩)) (by dsimp only [List.set]; try rfl) ?_
          have hl1 := nextL_most hmt hel1
          refine q_is rfl rfl (does_move (u := (Iv ((q : Int) + 1))) (ev rfl)) (by dsimp only [List.set]; try rfl) ?_
          refine wpList_nil ?_
          refine ⟨q + 1, ⟨fun t => (([(.agg #[(.slice p5 A_m.places.length q6), (.slice p8 A_m.tris.length q9)]), (Pt b12 0), (Iv 0), (Bo false), (.slice p35 ((nextL A_m).length) q36), (Iv ((opTo (nextL A_m) k + opQ (nextL A_m) k q : Nat) : Int)), (Iv (k : Int)), (Iv (q : Int)), (Iv el2), (Bo (meshOk A_m)), (Bo (!(meshOk A_m))), (.slice p35 ((nextL A_m).length) q36), (.slice p35 ((nextL A_m).length) q36), (Iv (((nextL A_m).length) : Int)), (Iv (k : Int)), (Bo (icmp .lss (k : Int) (((nextL A_m).length) : Int))), (Iv (k : Int)), (.slice p35 ((nextL A_m).length) q36), (Iv (k : Int)), (Pt b51 o52), (.slice p57 el1.length q58), (Iv (el1.length : Int)), (Iv ((q : Int) + 1)), (Bo (icmp .lss (q : Int) (el1.length : Int))), (Iv (q : Int)), (.slice p35 ((nextL A_m).length) q36), (Iv (k : Int)), (Pt b71 o72), (.slice p77 el1.length q78), (Iv (q : Int)), (Pt b80 o81), (Iv el2), v89, v90, v91, v92, v93, v94, v95, v96, v97, v98, v99, v100, v101, v102, v103, v104, v105, v106, v107, v108, v109, v110, v111, (Bo (β1 && β2)), (u60 56), (u60 57), (Iv ((q : Int) + 1)), (u40 59), Ud] : List Value)[t]?).getD undef, ?_, (Ext.gr (Ext.gr E62 E86) E114), ?_⟩, ?_⟩
          · first | (rw [opQ_pos hel1 hel2 hel3 (by omega) (by omega), ← Nat.add_assoc]; simp only [Int.natCast_add, Int.natCast_one]; rfl) | (rw [opQ_neg hel1 hel2 hel3 (by omega)]; simp only [Int.natCast_add, Int.natCast_one]; rfl)
          · (try dsimp only); omega
          · (try dsimp only); omega
        have c67' := c67
        (try simp only [icmp, Bool.and_eq_true, Bool.or_eq_true, Bool.and_eq_false_iff, Bool.or_eq_false_iff, Bool.not_eq_true', Bool.not_eq_false', decide_eq_true_eq, decide_eq_false_iff_not, beq_iff_eq, bne_iff_ne, beq_eq_false_iff_ne, bne_eq_false_iff_eq] at c67')
        refine wp_exit ?_
        refine hK48 _ _ ?_
        refine wp_region_lit ?_
        refine q_is rfl rfl (does_iarith (p := (k : Int)) (q := 1) (r := (k : Int) + 1) (ev rfl) (ev rfl) (.inl ⟨rfl, (in_i64 (by omega) (by omega)).symm⟩)) (by dsimp only [List.set]; try rfl) ?_
        refine q_is rfl rfl (does_move (u := (Iv ((k : Int) + 1))) (ev rfl)) (by dsimp only [List.set]; try rfl) ?_
        refine wpList_nil ?_
        refine ⟨k + 1, ⟨fun t => (([(.agg #[(.slice p5 A_m.places.length q6), (.slice p8 A_m.tris.length q9)]), (Pt b12 0), (Iv 0), (Bo false), (.slice p35 ((nextL A_m).length) q36), (Iv ((opTo (nextL A_m) k + opQ (nextL A_m) k q : Nat) : Int)), (Iv (k : Int)), (u60 7), (u60 8), (Bo (meshOk A_m)), (Bo (!(meshOk A_m))), (.slice p35 ((nextL A_m).length) q36), (.slice p35 ((nextL A_m).length) q36), (Iv (((nextL A_m).length) : Int)), (Iv ((k : Int) + 1)), (Bo (icmp .lss (k : Int) (((nextL A_m).length) : Int))), (Iv (k : Int)), (.slice p35 ((nextL A_m).length) q36), (Iv (k : Int)), (Pt b51 o52), (.slice p57 el1.length q58), (Iv (el1.length : Int)), (Iv (q : Int)), (Bo (icmp .lss (q : Int) (el1.length : Int))), (u60 24), (u60 25), (u60 26), (u60 27), (u60 28), (u60 29), (u60 30), (u60 31), (u60 32), (u60 33), (u60 34), (u60 35), (u60 36), (u60 37), (u60 38), (u60 39), (u60 40), (u60 41), (u60 42), (u60 43), (u60 44), (u60 45), (u60 46), (u60 47), (u60 48), (u60 49), (u60 50), (u60 51), (u60 52), (u60 53), (u60 54), (u60 55), (u60 56), (u60 57), (u60 58), (Iv ((k : Int) + 1)), Ud] : List Value)[t]?).getD undef, ?_, (Ext.gr E42 E62), ?_⟩, ?_⟩
        · rw [opTo_step hel1 (show q = _ by omega)]; simp only [Int.natCast_add, Int.natCast_one]; rfl
        · omega
        · omega
    have c47' := c47
    (try simp only [icmp, Bool.and_eq_true, Bool.or_eq_true, Bool.and_eq_false_iff, Bool.or_eq_false_iff, Bool.not_eq_true', Bool.not_eq_false', decide_eq_true_eq, decide_eq_false_iff_not, beq_iff_eq, bne_iff_ne, beq_eq_false_iff_ne, bne_eq_false_iff_eq] at c47')
    refine wp_exit ?_
    refine hK38 _ _ ?_
    refine wp_seq_k fun K119 hK119 => ?_
    refine wp_region_lit ?_
    refine q_is rfl rfl (does_move (u := (Iv ((opTo (nextL A_m) k : Nat) : Int))) (ev rfl)) (by dsimp only [List.set]; try rfl) ?_
    refine q_is rfl rfl (does_assign (u := (Iv ((opTo (nextL A_m) k : Nat) : Int))) (ev rfl)) (by dsimp only [List.set]; try rfl) ?_
    refine q_is rfl rfl (does_assign (u := (Bo true)) (ev rfl)) (by dsimp only [List.set]; try rfl) ?_
    refine wpList_nil (hK119 _ _ ?_)
    refine wp_ret ?_
    refine ret_val (v := (.tuple #[(Iv ((opTo (nextL A_m) k : Nat) : Int)), (Bo true)])) (res_TT rfl (slot rfl) (slot rfl)) X44 ?_
    have x120 : (openN A_m : Int) = ((opTo (nextL A_m) k : Nat) : Int) := by first | exact hmf | exact hmt | exact openN_f hmf | (have hz : s.1 = [] := (by assumption); rw [hz] at hk; simp only [List.countP_nil] at hk; rw [openN_t hmt, ← open_alike hmt]; omega) | (rw [openN_t hmt, show A_m.places.length = k by omega])
    have x121 : (meshOk A_m) = true := by first | exact hmf | exact hmt | exact openN_f hmf | (have hz : s.1 = [] := (by assumption); rw [hz] at hk; simp only [List.countP_nil] at hk; rw [openN_t hmt, ← open_alike hmt]; omega) | (rw [openN_t hmt, show A_m.places.length = k by omega])
    exact (by first | with_reducible rfl | rw [x120, x121] | rw [x121, x120] | rfl)

/- slices.IndexFunc[[][]int64,[]int64] -/
theorem c_slices_IndexFunc_SS_int64_int64 (xs : Value) (L_xs : List (List Int)) (f : Value) (pr_f : List Int → Bool) (w : World) (hv_xs : Sl (RS RI 1) 1 w xs L_xs) (hv_f : ∃ fi fst cap, f = .func (.func fi) fst cap ∧ (∀ args w, (callFunc fi args).run Try.prog w = .ok (.enter fi args) w) ∧ ∀ (y0 : Value) (X0 : List Int) u, Ext w u → Sl RI 1 u y0 X0 → Gives Try.prog fi (fst ++ #[y0] ++ cap) u (fun v _ => v = .bool (pr_f X0))) : Gives Try.prog 54 #[xs, f] w (fun v w' => v = (Iv (findI pr_f L_xs))) := by
  have hlen_xs := Sl.len hv_xs; obtain ⟨p_xs, q_xs, rfl⟩ := Sl.shape hv_xs
  obtain ⟨f_f, s_f, c_f, rfl, hcal_f, hg_f⟩ := hv_f
  refine enter [(.slice p_xs L_xs.length q_xs), (.func (.func f_f) s_f c_f), Ud, Ud, Ud, Ud, Ud, Ud, Ud, Ud, Ud, Ud, Ud, Ud, Ud, Ud, Ud, Ud, Ud] Try.func54 rfl Try.ntmps54 rfl ?_
  refine wp_seq_k fun K1 hK1 => ?_
  refine wp_region_lit ?_
  refine q_is (l' := [(.slice p_xs L_xs.length q_xs), (.func (.func f_f) s_f c_f), Ud, Ud, (Iv 0), Ud, Ud, Ud, Ud, Ud, Ud, Ud, Ud, Ud, Ud, Ud, Ud, Ud, Ud]) rfl rfl (does_assign (u := (Iv 0)) (ev rfl)) rfl ?_
  refine wpList_nil (hK1 _ _ ?_)
  refine wp_seq_k fun K2 hK2 => ?_
  refine wp_seq_k fun K3 hK3 => ?_
  refine wp_region_lit ?_
  refine q_is (l' := [(.slice p_xs L_xs.length q_xs), (.func (.func f_f) s_f c_f), Ud, Ud, (Iv 0), Ud, (.slice p_xs L_xs.length q_xs), Ud, Ud, Ud, Ud, Ud, Ud, Ud, Ud, Ud, Ud, Ud, Ud]) rfl rfl (does_move (u := (.slice p_xs L_xs.length q_xs)) (ev rfl)) rfl ?_
  refine q_is (l' := [(.slice p_xs L_xs.length q_xs), (.func (.func f_f) s_f c_f), Ud, Ud, (Iv 0), Ud, (.slice p_xs L_xs.length q_xs), (Iv (L_xs.length : Int)), Ud, Ud, Ud, Ud, Ud, Ud, Ud, Ud, Ud, Ud, Ud]) rfl rfl (does_len_slice Try.underlying23 (ev rfl)) rfl ?_
  refine q_is (l' := [(.slice p_xs L_xs.length q_xs), (.func (.func f_f) s_f c_f), Ud, Ud, (Iv 0), Ud, (.slice p_xs L_xs.length q_xs), (Iv (L_xs.length : Int)), (Iv 0), Ud, Ud, Ud, Ud, Ud, Ud, Ud, Ud, Ud, Ud]) rfl rfl (does_move (u := (Iv 0)) (ev rfl)) rfl ?_
  refine wpList_nil (hK3 _ _ ?_)
  refine wp_block ?_
  refine loop_ghost (σ := Nat) (fun k a w' => ∃ u4 : Nat → Value, a = fr [(.slice p_xs L_xs.length q_xs), (.func (.func f_f) s_f c_f), Ud, Ud, (u4 4), (u4 5), (.slice p_xs L_xs.length q_xs), (Iv (L_xs.length : Int)), (Iv (k : Int)), (u4 9), (u4 10), (u4 11), (u4 12), (u4 13), (u4 14), (u4 15), (u4 16), (u4 17), (u4 18)] ∧ Ext w w' ∧ (k ≤ L_xs.length ∧ NoneTo pr_f L_xs k)) (fun k => L_xs.length - k) 0 ?_ ?_
  · refine ⟨fun t => (([(.slice p_xs L_xs.length q_xs), (.func (.func f_f) s_f c_f), Ud, Ud, (Iv 0), Ud, (.slice p_xs L_xs.length q_xs), (Iv (L_xs.length : Int)), (Iv 0), Ud, Ud, Ud, Ud, Ud, Ud, Ud, Ud, Ud, Ud] : List Value)[t]?).getD undef, rfl, Ext.refl _, ?_⟩
    exact ⟨Nat.zero_le _, NoneTo.zero⟩
  · rintro k a w5 ⟨u4, rfl, E6, ⟨hk, hno⟩⟩
    have X8 := Ext.gr (Ext.refl w) E6
    refine wp_seq_k fun K9 hK9 => ?_
    refine wp_region_lit ?_
    refine q_is (l' := [(.slice p_xs L_xs.length q_xs), (.func (.func f_f) s_f c_f), Ud, Ud, (u4 4), (u4 5), (.slice p_xs L_xs.length q_xs), (Iv (L_xs.length : Int)), (Iv (k : Int)), (Bo (icmp .lss (k : Int) (L_xs.length : Int))), (u4 10), (u4 11), (u4 12), (u4 13), (u4 14), (u4 15), (u4 16), (u4 17), (u4 18)]) rfl rfl (does_icmp (p := (k : Int)) (q := (L_xs.length : Int)) (.inr (.inr (.inl rfl))) (ev rfl) (ev rfl)) rfl ?_
    refine wpList_nil (hK9 _ _ ?_)
    refine wp_seq_k fun K10 hK10 => ?_
    refine wp_cond_split (t := icmp .lss (k : Int) (L_xs.length : Int)) (ev rfl) (fun c11 => ?_) (fun c11 => ?_)
    · have c11' := c11
      (try simp only [icmp, Bool.and_eq_true, Bool.or_eq_true, Bool.and_eq_false_iff, Bool.or_eq_false_iff, Bool.not_eq_true', Bool.not_eq_false', decide_eq_true_eq, decide_eq_false_iff_not, beq_iff_eq, bne_iff_ne, beq_eq_false_iff_ne, bne_eq_false_iff_eq] at c11')
      refine wp_skip (hK10 _ _ ?_)
      refine wp_seq_k fun K12 hK12 => ?_
      refine wp_block ?_
      refine wp_seq_k fun K13 hK13 => ?_
      refine wp_region_lit ?_
      refine q_is (l' := [(.slice p_xs L_xs.length q_xs), (.func (.func f_f) s_f c_f), Ud, Ud, (u4 4), (u4 5), (.slice p_xs L_xs.length q_xs), (Iv (L_xs.length : Int)), (Iv (k : Int)), (Bo (icmp .lss (k : Int) (L_xs.length : Int))), (Iv (k : Int)), (u4 11), (u4 12), (u4 13), (u4 14), (u4 15), (u4 16), (u4 17), (u4 18)]) rfl rfl (does_move (u := (Iv (k : Int))) (ev rfl)) rfl ?_
      refine q_is (l' := [(.slice p_xs L_xs.length q_xs), (.func (.func f_f) s_f c_f), Ud, Ud, (u4 4), (Iv (k : Int)), (.slice p_xs L_xs.length q_xs), (Iv (L_xs.length : Int)), (Iv (k : Int)), (Bo (icmp .lss (k : Int) (L_xs.length : Int))), (Iv (k : Int)), (u4 11), (u4 12), (u4 13), (u4 14), (u4 15), (u4 16), (u4 17), (u4 18)]) rfl rfl (does_assign (u := (Iv (k : Int))) (ev rfl)) rfl ?_
      refine wpList_nil (hK13 _ _ ?_)
      refine wp_seq_k fun K14 hK14 => ?_
      refine wp_region_lit ?_
      refine q_is (l' := [(.slice p_xs L_xs.length q_xs), (.func (.func f_f) s_f c_f), Ud, Ud, (u4 4), (Iv (k : Int)), (.slice p_xs L_xs.length q_xs), (Iv (L_xs.length : Int)), (Iv (k : Int)), (Bo (icmp .lss (k : Int) (L_xs.length : Int))), (Iv (k : Int)), (.func (.func f_f) s_f c_f), (u4 12), (u4 13), (u4 14), (u4 15), (u4 16), (u4 17), (u4 18)]) rfl rfl (does_move (u := (.func (.func f_f) s_f c_f)) (ev rfl)) rfl ?_
      refine q_is (l' := [(.slice p_xs L_xs.length q_xs), (.func (.func f_f) s_f c_f), Ud, Ud, (u4 4), (Iv (k : Int)), (.slice p_xs L_xs.length q_xs), (Iv (L_xs.length : Int)), (Iv (k : Int)), (Bo (icmp .lss (k : Int) (L_xs.length : Int))), (Iv (k : Int)), (.func (.func f_f) s_f c_f), (.slice p_xs L_xs.length q_xs), (u4 13), (u4 14), (u4 15), (u4 16), (u4 17), (u4 18)]) rfl rfl (does_move (u := (.slice p_xs L_xs.length q_xs)) (ev rfl)) rfl ?_
      refine q_is (l' := [(.slice p_xs L_xs.length q_xs), (.func (.func f_f) s_f c_f), Ud, Ud, (u4 4), (Iv (k : Int)), (.slice p_xs L_xs.length q_xs), (Iv (L_xs.length : Int)), (Iv (k : Int)), (Bo (icmp .lss (k : Int) (L_xs.length : Int))), (Iv (k : Int)), (.func (.func f_f) s_f c_f), (.slice p_xs L_xs.length q_xs), (Iv (k : Int)), (u4 14), (u4 15), (u4 16), (u4 17), (u4 18)]) rfl rfl (does_move (u := (Iv (k : Int))) (ev rfl)) rfl ?_
      obtain ⟨el1, hel1⟩ : ∃ e, L_xs[k]? = some e := ⟨_, List.getElem?_eq_getElem (by omega)⟩
      refine seqd rfl rfl (does_indexSl (R := (RS RI 1)) (i := (k : Int)) (xs := L_xs) (e := el1) Try.underlying23 Try.sizeOf27 (ev rfl) (ev rfl) (Sl.ext hv_xs (RS.mono RI.mono) X8) (by omega) hel1) ?_; rintro _ w5 ⟨b15, o16, _, rfl, hc18, ⟨y19, rfl, h20⟩, rfl⟩
      have hs23 := h20; have hs23l := Sl.len h20; obtain ⟨p21, q22, rfl⟩ := Sl.shape h20
      show wpList _ _ _ _ (fr [(.slice p_xs L_xs.length q_xs), (.func (.func f_f) s_f c_f), Ud, Ud, (u4 4), (Iv (k : Int)), (.slice p_xs L_xs.length q_xs), (Iv (L_xs.length : Int)), (Iv (k : Int)), (Bo (icmp .lss (k : Int) (L_xs.length : Int))), (Iv (k : Int)), (.func (.func f_f) s_f c_f), (.slice p_xs L_xs.length q_xs), (Iv (k : Int)), (Pt b15 o16), (u4 15), (u4 16), (u4 17), (u4 18)]) _
      refine q_is (l' := [(.slice p_xs L_xs.length q_xs), (.func (.func f_f) s_f c_f), Ud, Ud, (u4 4), (Iv (k : Int)), (.slice p_xs L_xs.length q_xs), (Iv (L_xs.length : Int)), (Iv (k : Int)), (Bo (icmp .lss (k : Int) (L_xs.length : Int))), (Iv (k : Int)), (.func (.func f_f) s_f c_f), (.slice p_xs L_xs.length q_xs), (Iv (k : Int)), (Pt b15 o16), (.slice p21 el1.length q22), (u4 16), (u4 17), (u4 18)]) rfl rfl (does_load (u := (.slice p21 el1.length q22)) (ev rfl) Try.isAgg27 (Cells.at hc18 0 rfl)) rfl ?_
      refine seqd rfl rfl (does_callf (args := #[(.slice p21 el1.length q22)]) (ev rfl) hcal_f (evs rfl) (hg_f (.slice p21 el1.length q22) el1 _ X8 hs23)) ?_; rintro _ w25 ⟨E24, rfl⟩
      have X26 := Ext.gr X8 E24
      show wpList _ _ _ _ (fr [(.slice p_xs L_xs.length q_xs), (.func (.func f_f) s_f c_f), Ud, Ud, (u4 4), (Iv (k : Int)), (.slice p_xs L_xs.length q_xs), (Iv (L_xs.length : Int)), (Iv (k : Int)), (Bo (icmp .lss (k : Int) (L_xs.length : Int))), (Iv (k : Int)), (.func (.func f_f) s_f c_f), (.slice p_xs L_xs.length q_xs), (Iv (k : Int)), (Pt b15 o16), (.slice p21 el1.length q22), (Bo (pr_f el1)), (u4 17), (u4 18)]) _
      refine wpList_nil (hK14 _ _ ?_)
      refine wp_cond_split (t := pr_f el1) (ev rfl) (fun c27 => ?_) (fun c27 => ?_)
      · have c27' := c27
        refine wp_seq_k fun K28 hK28 => ?_
        refine wp_region_lit ?_
        refine q_is (l' := [(.slice p_xs L_xs.length q_xs), (.func (.func f_f) s_f c_f), Ud, Ud, (u4 4), (Iv (k : Int)), (.slice p_xs L_xs.length q_xs), (Iv (L_xs.length : Int)), (Iv (k : Int)), (Bo (icmp .lss (k : Int) (L_xs.length : Int))), (Iv (k : Int)), (.func (.func f_f) s_f c_f), (.slice p_xs L_xs.length q_xs), (Iv (k : Int)), (Pt b15 o16), (.slice p21 el1.length q22), (Bo (pr_f el1)), (Iv (k : Int)), (u4 18)]) rfl rfl (does_move (u := (Iv (k : Int))) (ev rfl)) rfl ?_
        refine q_is (l' := [(.slice p_xs L_xs.length q_xs), (.func (.func f_f) s_f c_f), Ud, Ud, (Iv (k : Int)), (Iv (k : Int)), (.slice p_xs L_xs.length q_xs), (Iv (L_xs.length : Int)), (Iv (k : Int)), (Bo (icmp .lss (k : Int) (L_xs.length : Int))), (Iv (k : Int)), (.func (.func f_f) s_f c_f), (.slice p_xs L_xs.length q_xs), (Iv (k : Int)), (Pt b15 o16), (.slice p21 el1.length q22), (Bo (pr_f el1)), (Iv (k : Int)), (u4 18)]) rfl rfl (does_assign (u := (Iv (k : Int))) (ev rfl)) rfl ?_
        refine wpList_nil (hK28 _ _ ?_)
        refine wp_ret ?_
        dsimp only [Exit.then, Exit.inBlock]
        refine ret_val (v := (Iv (k : Int))) (res_T rfl (slot rfl)) X26 ?_
        try simp only [hel1] at c11 c27
        have x29 : (findI pr_f L_xs : Int) = (k : Int) := by first | exact findI_at hno (by assumption) (by simp_all) | exact findI_none hno (by omega)
        exact (by first | with_reducible rfl | rw [x29] | rfl)
      have c27' := c27
      refine wp_skip (hK12 _ _ ?_)
      refine wp_region_lit ?_
      refine q_is (l' := [(.slice p_xs L_xs.length q_xs), (.func (.func f_f) s_f c_f), Ud, Ud, (u4 4), (Iv (k : Int)), (.slice p_xs L_xs.length q_xs), (Iv (L_xs.length : Int)), (Iv (k : Int)), (Bo (icmp .lss (k : Int) (L_xs.length : Int))), (Iv (k : Int)), (.func (.func f_f) s_f c_f), (.slice p_xs L_xs.length q_xs), (Iv (k : Int)), (Pt b15 o16), (.slice p21 el1.length q22), (Bo (pr_f el1)), (u4 17), (Iv ((k : Int) + 1))]) rfl rfl (does_iarith (p := (k : Int)) (q := 1) (r := (k : Int) + 1) (ev rfl) (ev rfl) (.inl ⟨rfl, (in_i64 (by omega) (by omega)).symm⟩)) rfl ?_
      refine q_is (l' := [(.slice p_xs L_xs.length q_xs), (.func (.func f_f) s_f c_f), Ud, Ud, (u4 4), (Iv (k : Int)), (.slice p_xs L_xs.length q_xs), (Iv (L_xs.length : Int)), (Iv ((k : Int) + 1)), (Bo (icmp .lss (k : Int) (L_xs.length : Int))), (Iv (k : Int)), (.func (.func f_f) s_f c_f), (.slice p_xs L_xs.length q_xs), (Iv (k : Int)), (Pt b15 o16), (.slice p21 el1.length q22), (Bo (pr_f el1)), (u4 17), (Iv ((k : Int) + 1))]) rfl rfl (does_move (u := (Iv ((k : Int) + 1))) (ev rfl)) rfl ?_
      refine wpList_nil ?_
      refine ⟨k + 1, ⟨fun t => (([(.slice p_xs L_xs.length q_xs), (.func (.func f_f) s_f c_f), Ud, Ud, (u4 4), (Iv (k : Int)), (.slice p_xs L_xs.length q_xs), (Iv (L_xs.length : Int)), (Iv ((k : Int) + 1)), (Bo (icmp .lss (k : Int) (L_xs.length : Int))), (Iv (k : Int)), (.func (.func f_f) s_f c_f), (.slice p_xs L_xs.length q_xs), (Iv (k : Int)), (Pt b15 o16), (.slice p21 el1.length q22), (Bo (pr_f el1)), (u4 17), (Iv ((k : Int) + 1))] : List Value)[t]?).getD undef, ?_, (Ext.gr E6 E24), ?_⟩, ?_⟩
      · first | rfl | (simp only [Int.natCast_add, Int.natCast_one]; rfl)
      · exact ⟨by omega, NoneTo.step hno (by assumption) (by simp_all)⟩
      · omega
    have c11' := c11
    (try simp only [icmp, Bool.and_eq_true, Bool.or_eq_true, Bool.and_eq_false_iff, Bool.or_eq_false_iff, Bool.not_eq_true', Bool.not_eq_false', decide_eq_true_eq, decide_eq_false_iff_not, beq_iff_eq, bne_iff_ne, beq_eq_false_iff_ne, bne_eq_false_iff_eq] at c11')
    refine wp_exit ?_
    refine hK2 _ _ ?_
    refine wp_seq_k fun K30 hK30 => ?_
    refine wp_region_lit ?_
    refine q_is (l' := [(.slice p_xs L_xs.length q_xs), (.func (.func f_f) s_f c_f), Ud, Ud, (Iv (-1)), (u4 5), (.slice p_xs L_xs.length q_xs), (Iv (L_xs.length : Int)), (Iv (k : Int)), (Bo (icmp .lss (k : Int) (L_xs.length : Int))), (u4 10), (u4 11), (u4 12), (u4 13), (u4 14), (u4 15), (u4 16), (u4 17), (u4 18)]) rfl rfl (does_assign (u := (Iv (-1))) (ev rfl)) rfl ?_
    refine wpList_nil (hK30 _ _ ?_)
    refine wp_ret ?_
    refine ret_val (v := (Iv (-1))) (res_T rfl (slot rfl)) X8 ?_
    have x31 : (findI pr_f L_xs : Int) = (-1) := by first | exact findI_at hno (by assumption) (by simp_all) | exact findI_none hno (by omega)
    exact (by first | with_reducible rfl | rw [x31] | rfl)

/- slices.ContainsFunc[[][]int64,[]int64] -/
theorem c_slices_ContainsFunc_SS_int64_int64 (xs : Value) (L_xs : List (List Int)) (f : Value) (pr_f : List Int → Bool) (w : World) (hv_xs : Sl (RS RI 1) 1 w xs L_xs) (hv_f : ∃ fi fst cap, f = .func (.func fi) fst cap ∧ (∀ args w, (callFunc fi args).run Try.prog w = .ok (.enter fi args) w) ∧ ∀ (y0 : Value) (X0 : List Int) u, Ext w u → Sl RI 1 u y0 X0 → Gives Try.prog fi (fst ++ #[y0] ++ cap) u (fun v _ => v = .bool (pr_f X0))) : Gives Try.prog 46 #[xs, f] w (fun v w' => v = (Bo (L_xs.any pr_f))) := by
  have hlen_xs := Sl.len hv_xs; obtain ⟨p_xs, q_xs, rfl⟩ := Sl.shape hv_xs
  obtain ⟨f_f, s_f, c_f, rfl, hcal_f, hg_f⟩ := hv_f
  refine enter [(.slice p_xs L_xs.length q_xs), (.func (.func f_f) s_f c_f), Ud, Ud, Ud, Ud, Ud, Ud, Ud] Try.func46 rfl Try.ntmps46 rfl ?_
  refine wp_seq_k fun K1 hK1 => ?_
  refine wp_region_lit ?_
  refine q_is (l' := [(.slice p_xs L_xs.length q_xs), (.func (.func f_f) s_f c_f), Ud, Ud, (Bo false), Ud, Ud, Ud, Ud]) rfl rfl (does_assign (u := (Bo false)) (ev rfl)) rfl ?_
  refine wpList_nil (hK1 _ _ ?_)
  refine wp_seq_k fun K2 hK2 => ?_
  refine wp_region_lit ?_
  refine q_is (l' := [(.slice p_xs L_xs.length q_xs), (.func (.func f_f) s_f c_f), Ud, Ud, (Bo false), (.slice p_xs L_xs.length q_xs), Ud, Ud, Ud]) rfl rfl (does_move (u := (.slice p_xs L_xs.length q_xs)) (ev rfl)) rfl ?_
  refine q_is (l' := [(.slice p_xs L_xs.length q_xs), (.func (.func f_f) s_f c_f), Ud, Ud, (Bo false), (.slice p_xs L_xs.length q_xs), (.func (.func f_f) s_f c_f), Ud, Ud]) rfl rfl (does_move (u := (.func (.func f_f) s_f c_f)) (ev rfl)) rfl ?_
  refine seqd rfl rfl (does_call (args := #[(.slice p_xs L_xs.length q_xs), (.func (.func f_f) s_f c_f)]) cal54 (evs rfl) (c_slices_IndexFunc_SS_int64_int64 (.slice p_xs L_xs.length q_xs) L_xs (.func (.func f_f) s_f c_f) pr_f _ hv_xs ⟨_, _, _, rfl, hcal_f, fun y0 X0 u hu' ha0 => hg_f y0 X0 u (Ext.gr (Ext.refl w) hu') ha0⟩)) ?_; rintro _ w4 ⟨E3, rfl⟩
  have X5 := Ext.gr (Ext.refl w) E3
  show wpList _ _ _ _ (fr [(.slice p_xs L_xs.length q_xs), (.func (.func f_f) s_f c_f), Ud, Ud, (Bo false), (.slice p_xs L_xs.length q_xs), (.func (.func f_f) s_f c_f), (Iv (findI pr_f L_xs)), Ud]) _
  refine q_is (l' := [(.slice p_xs L_xs.length q_xs), (.func (.func f_f) s_f c_f), Ud, Ud, (Bo false), (.slice p_xs L_xs.length q_xs), (.func (.func f_f) s_f c_f), (Iv (findI pr_f L_xs)), (Bo (icmp .geq (findI pr_f L_xs) 0))]) rfl rfl (does_icmp (p := findI pr_f L_xs) (q := 0) (.inr (.inr (.inr (.inr (.inr rfl))))) (ev rfl) (ev rfl)) rfl ?_
  refine q_is (l' := [(.slice p_xs L_xs.length q_xs), (.func (.func f_f) s_f c_f), Ud, Ud, (Bo (icmp .geq (findI pr_f L_xs) 0)), (.slice p_xs L_xs.length q_xs), (.func (.func f_f) s_f c_f), (Iv (findI pr_f L_xs)), (Bo (icmp .geq (findI pr_f L_xs) 0))]) rfl rfl (does_assign (u := (Bo (icmp .geq (findI pr_f L_xs) 0))) (ev rfl)) rfl ?_
  refine wpList_nil (hK2 _ _ ?_)
  refine wp_ret ?_
  refine ret_val (v := (Bo (icmp .geq (findI pr_f L_xs) 0))) (res_T rfl (slot rfl)) X5 ?_
  have x6 : (L_xs.any pr_f) = (icmp .geq (findI pr_f L_xs) 0) := by first | with_reducible rfl | (simp only [findI_any]; done) | (simp [findI_any]; done) | rfl
  exact (by first | with_reducible rfl | rw [x6] | rfl)

/- slices.IndexFunc[[]int64,int64] -/
theorem c_slices_IndexFunc_int64_int64 (xs : Value) (L_xs : List Int) (f : Value) (pr_f : Int → Bool) (w : World) (hv_xs : Sl RI 1 w xs L_xs) (hv_f : ∃ fi fst cap, f = .func (.func fi) fst cap ∧ (∀ args w, (callFunc fi args).run Try.prog w = .ok (.enter fi args) w) ∧ ∀ (n0 : Int) u, Ext w u → Gives Try.prog fi (fst ++ #[.int .i64 n0] ++ cap) u (fun v _ => v = .bool (pr_f n0))) : Gives Try.prog 62 #[xs, f] w (fun v w' => v = (Iv (findI pr_f L_xs))) := by
  have hlen_xs := Sl.len hv_xs; obtain ⟨p_xs, q_xs, rfl⟩ := Sl.shape hv_xs
  obtain ⟨f_f, s_f, c_f, rfl, hcal_f, hg_f⟩ := hv_f
  refine enter [(.slice p_xs L_xs.length q_xs), (.func (.func f_f) s_f c_f), Ud, Ud, Ud, Ud, Ud, Ud, Ud, Ud, Ud, Ud, Ud, Ud, Ud, Ud, Ud, Ud, Ud] Try.func62 rfl Try.ntmps62 rfl ?_
  refine wp_seq_k fun K1 hK1 => ?_
  refine wp_region_lit ?_
  refine q_is (l' := [(.slice p_xs L_xs.length q_xs), (.func (.func f_f) s_f c_f), Ud, Ud, (Iv 0), Ud, Ud, Ud, Ud, Ud, Ud, Ud, Ud, Ud, Ud, Ud, Ud, Ud, Ud]) rfl rfl (does_assign (u := (Iv 0)) (ev rfl)) rfl ?_
  refine wpList_nil (hK1 _ _ ?_)
  refine wp_seq_k fun K2 hK2 => ?_
  refine wp_seq_k fun K3 hK3 => ?_
  refine wp_region_lit ?_
  refine q_is (l' := [(.slice p_xs L_xs.length q_xs), (.func (.func f_f) s_f c_f), Ud, Ud, (Iv 0), Ud, (.slice p_xs L_xs.length q_xs), Ud, Ud, Ud, Ud, Ud, Ud, Ud, Ud, Ud, Ud, Ud, Ud]) rfl rfl (does_move (u := (.slice p_xs L_xs.length q_xs)) (ev rfl)) rfl ?_
  refine q_is (l' := [(.slice p_xs L_xs.length q_xs), (.func (.func f_f) s_f c_f), Ud, Ud, (Iv 0), Ud, (.slice p_xs L_xs.length q_xs), (Iv (L_xs.length : Int)), Ud, Ud, Ud, Ud, Ud, Ud, Ud, Ud, Ud, Ud, Ud]) rfl rfl (does_len_slice Try.underlying27 (ev rfl)) rfl ?_
  refine q_is (l' := [(.slice p_xs L_xs.length q_xs), (.func (.func f_f) s_f c_f), Ud, Ud, (Iv 0), Ud, (.slice p_xs L_xs.length q_xs), (Iv (L_xs.length : Int)), (Iv 0), Ud, Ud, Ud, Ud, Ud, Ud, Ud, Ud, Ud, Ud]) rfl rfl (does_move (u := (Iv 0)) (ev rfl)) rfl ?_
  refine wpList_nil (hK3 _ _ ?_)
  refine wp_block ?_
  refine loop_ghost (σ := Nat) (fun k a w' => ∃ u4 : Nat → Value, a = fr [(.slice p_xs L_xs.length q_xs), (.func (.func f_f) s_f c_f), Ud, Ud, (u4 4), (u4 5), (.slice p_xs L_xs.length q_xs), (Iv (L_xs.length : Int)), (Iv (k : Int)), (u4 9), (u4 10), (u4 11), (u4 12), (u4 13), (u4 14), (u4 15), (u4 16), (u4 17), (u4 18)] ∧ Ext w w' ∧ (k ≤ L_xs.length ∧ NoneTo pr_f L_xs k)) (fun k => L_xs.length - k) 0 ?_ ?_
  · refine ⟨fun t => (([(.slice p_xs L_xs.length q_xs), (.func (.func f_f) s_f c_f), Ud, Ud, (Iv 0), Ud, (.slice p_xs L_xs.length q_xs), (Iv (L_xs.length : Int)), (Iv 0), Ud, Ud, Ud, Ud, Ud, Ud, Ud, Ud, Ud, Ud] : List Value)[t]?).getD undef, rfl, Ext.refl _, ?_⟩
    exact ⟨Nat.zero_le _, NoneTo.zero⟩
  · rintro k a w5 ⟨u4, rfl, E6, ⟨hk, hno⟩⟩
    have X8 := Ext.gr (Ext.refl w) E6
    refine wp_seq_k fun K9 hK9 => ?_
    refine wp_region_lit ?_
    refine q_is (l' := [(.slice p_xs L_xs.length q_xs), (.func (.func f_f) s_f c_f), Ud, Ud, (u4 4), (u4 5), (.slice p_xs L_xs.length q_xs), (Iv (L_xs.length : Int)), (Iv (k : Int)), (Bo (icmp .lss (k : Int) (L_xs.length : Int))), (u4 10), (u4 11), (u4 12), (u4 13), (u4 14), (u4 15), (u4 16), (u4 17), (u4 18)]) rfl rfl (does_icmp (p := (k : Int)) (q := (L_xs.length : Int)) (.inr (.inr (.inl rfl))) (ev rfl) (ev rfl)) rfl ?_
    refine wpList_nil (hK9 _ _ ?_)
    refine wp_seq_k fun K10 hK10 => ?_
    refine wp_cond_split (t := icmp .lss (k : Int) (L_xs.length : Int)) (ev rfl) (fun c11 => ?_) (fun c11 => ?_)
    · have c11' := c11
      (try simp only [icmp, Bool.and_eq_true, Bool.or_eq_true, Bool.and_eq_false_iff, Bool.or_eq_false_iff, Bool.not_eq_true', Bool.not_eq_false', decide_eq_true_eq, decide_eq_false_iff_not, beq_iff_eq, bne_iff_ne, beq_eq_false_iff_ne, bne_eq_false_iff_eq] at c11')
      refine wp_skip (hK10 _ _ ?_)
      refine wp_seq_k fun K12 hK12 => ?_
      refine wp_block ?_
      refine wp_seq_k fun K13 hK13 => ?_
      refine wp_region_lit ?_
      refine q_is (l' := [(.slice p_xs L_xs.length q_xs), (.func (.func f_f) s_f c_f), Ud, Ud, (u4 4), (u4 5), (.slice p_xs L_xs.length q_xs), (Iv (L_xs.length : Int)), (Iv (k : Int)), (Bo (icmp .lss (k : Int) (L_xs.length : Int))), (Iv (k : Int)), (u4 11), (u4 12), (u4 13), (u4 14), (u4 15), (u4 16), (u4 17), (u4 18)]) rfl rfl (does_move (u := (Iv (k : Int))) (ev rfl)) rfl ?_
      refine q_is (l' := [(.slice p_xs L_xs.length q_xs), (.func (.func f_f) s_f c_f), Ud, Ud, (u4 4), (Iv (k : Int)), (.slice p_xs L_xs.length q_xs), (Iv (L_xs.length : Int)), (Iv (k : Int)), (Bo (icmp .lss (k : Int) (L_xs.length : Int))), (Iv (k : Int)), (u4 11), (u4 12), (u4 13), (u4 14), (u4 15), (u4 16), (u4 17), (u4 18)]) rfl rfl (does_assign (u := (Iv (k : Int))) (ev rfl)) rfl ?_
      refine wpList_nil (hK13 _ _ ?_)
      refine wp_seq_k fun K14 hK14 => ?_
      refine wp_region_lit ?_
      refine q_is (l' := [(.slice p_xs L_xs.length q_xs), (.func (.func f_f) s_f c_f), Ud, Ud, (u4 4), (Iv (k : Int)), (.slice p_xs L_xs.length q_xs), (Iv (L_xs.length : Int)), (Iv (k : Int)), (Bo (icmp .lss (k : Int) (L_xs.length : Int))), (Iv (k : Int)), (.func (.func f_f) s_f c_f), (u4 12), (u4 13), (u4 14), (u4 15), (u4 16), (u4 17), (u4 18)]) rfl rfl (does_move (u := (.func (.func f_f) s_f c_f)) (ev rfl)) rfl ?_
      refine q_is (l' := [(.slice p_xs L_xs.length q_xs), (.func (.func f_f) s_f c_f), Ud, Ud, (u4 4), (Iv (k : Int)), (.slice p_xs L_xs.length q_xs), (Iv (L_xs.length : Int)), (Iv (k : Int)), (Bo (icmp .lss (k : Int) (L_xs.length : Int))), (Iv (k : Int)), (.func (.func f_f) s_f c_f), (.slice p_xs L_xs.length q_xs), (u4 13), (u4 14), (u4 15), (u4 16), (u4 17), (u4 18)]) rfl rfl (does_move (u := (.slice p_xs L_xs.length q_xs)) (ev rfl)) rfl ?_
      refine q_is (l' := [(.slice p_xs L_xs.length q_xs), (.func (.func f_f) s_f c_f), Ud, Ud, (u4 4), (Iv (k : Int)), (.slice p_xs L_xs.length q_xs), (Iv (L_xs.length : Int)), (Iv (k : Int)), (Bo (icmp .lss (k : Int) (L_xs.length : Int))), (Iv (k : Int)), (.func (.func f_f) s_f c_f), (.slice p_xs L_xs.length q_xs), (Iv (k : Int)), (u4 14), (u4 15), (u4 16), (u4 17), (u4 18)]) rfl rfl (does_move (u := (Iv (k : Int))) (ev rfl)) rfl ?_
      obtain ⟨el1, hel1⟩ : ∃ e, L_xs[k]? = some e := ⟨_, List.getElem?_eq_getElem (by omega)⟩
      refine seqd rfl rfl (does_indexSl (R := RI) (i := (k : Int)) (xs := L_xs) (e := el1) Try.underlying27 Try.sizeOf2 (ev rfl) (ev rfl) (Sl.ext hv_xs RI.mono X8) (by omega) hel1) ?_; rintro _ w5 ⟨b15, o16, _, rfl, hc18, rfl, rfl⟩
      show wpList _ _ _ _ (fr [(.slice p_xs L_xs.length q_xs), (.func (.func f_f) s_f c_f), Ud, Ud, (u4 4), (Iv (k : Int)), (.slice p_xs L_xs.length q_xs), (Iv (L_xs.length : Int)), (Iv (k : Int)), (Bo (icmp .lss (k : Int) (L_xs.length : Int))), (Iv (k : Int)), (.func (.func f_f) s_f c_f), (.slice p_xs L_xs.length q_xs), (Iv (k : Int)), (Pt b15 o16), (u4 15), (u4 16), (u4 17), (u4 18)]) _
      refine q_is (l' := [(.slice p_xs L_xs.length q_xs), (.func (.func f_f) s_f c_f), Ud, Ud, (u4 4), (Iv (k : Int)), (.slice p_xs L_xs.length q_xs), (Iv (L_xs.length : Int)), (Iv (k : Int)), (Bo (icmp .lss (k : Int) (L_xs.length : Int))), (Iv (k : Int)), (.func (.func f_f) s_f c_f), (.slice p_xs L_xs.length q_xs), (Iv (k : Int)), (Pt b15 o16), (Iv el1), (u4 16), (u4 17), (u4 18)]) rfl rfl (does_load (u := (Iv el1)) (ev rfl) Try.isAgg2 (Cells.at hc18 0 rfl)) rfl ?_
      refine seqd rfl rfl (does_callf (args := #[(Iv el1)]) (ev rfl) hcal_f (evs rfl) (hg_f el1 _ X8 )) ?_; rintro _ w20 ⟨E19, rfl⟩
      have X21 := Ext.gr X8 E19
      show wpList _ _ _ _ (fr [(.slice p_xs L_xs.length q_xs), (.func (.func f_f) s_f c_f), Ud, Ud, (u4 4), (Iv (k : Int)), (.slice p_xs L_xs.length q_xs), (Iv (L_xs.length : Int)), (Iv (k : Int)), (Bo (icmp .lss (k : Int) (L_xs.length : Int))), (Iv (k : Int)), (.func (.func f_f) s_f c_f), (.slice p_xs L_xs.length q_xs), (Iv (k : Int)), (Pt b15 o16), (Iv el1), (Bo (pr_f el1)), (u4 17), (u4 18)]) _
      refine wpList_nil (hK14 _ _ ?_)
      refine wp_cond_split (t := pr_f el1) (ev rfl) (fun c22 => ?_) (fun c22 => ?_)
      · have c22' := c22
        refine wp_seq_k fun K23 hK23 => ?_
        refine wp_region_lit ?_
        refine q_is (l' := [(.slice p_xs L_xs.length q_xs), (.func (.func f_f) s_f c_f), Ud, Ud, (u4 4), (Iv (k : Int)), (.slice p_xs L_xs.length q_xs), (Iv (L_xs.length : Int)), (Iv (k : Int)), (Bo (icmp .lss (k : Int) (L_xs.length : Int))), (Iv (k : Int)), (.func (.func f_f) s_f c_f), (.slice p_xs L_xs.length q_xs), (Iv (k : Int)), (Pt b15 o16), (Iv el1), (Bo (pr_f el1)), (Iv (k : Int)), (u4 18)]) rfl rfl (does_move (u := (Iv (k : Int))) (ev rfl)) rfl ?_
        refine q_is (l' := [(.slice p_xs L_xs.length q_xs), (.func (.func f_f) s_f c_f), Ud, Ud, (Iv (k : Int)), (Iv (k : Int)), (.slice p_xs L_xs.length q_xs), (Iv (L_xs.length : Int)), (Iv (k : Int)), (Bo (icmp .lss (k : Int) (L_xs.length : Int))), (Iv (k : Int)), (.func (.func f_f) s_f c_f), (.slice p_xs L_xs.length q_xs), (Iv (k : Int)), (Pt b15 o16), (Iv el1), (Bo (pr_f el1)), (Iv (k : Int)), (u4 18)]) rfl rfl (does_assign (u := (Iv (k : Int))) (ev rfl)) rfl ?_
        refine wpList_nil (hK23 _ _ ?_)
        refine wp_ret ?_
        dsimp only [Exit.then, Exit.inBlock]
        refine ret_val (v := (Iv (k : Int))) (res_T rfl (slot rfl)) X21 ?_
        try simp only [hel1] at c11 c22
        have x24 : (findI pr_f L_xs : Int) = (k : Int) := by first | exact findI_at hno (by assumption) (by simp_all) | exact findI_none hno (by omega)
        exact (by first | with_reducible rfl | rw [x24] | rfl)
      have c22' := c22
      refine wp_skip (hK12 _ _ ?_)
      refine wp_region_lit ?_
      refine q_is (l' := [(.slice p_xs L_xs.length q_xs), (.func (.func f_f) s_f c_f), Ud, Ud, (u4 4), (Iv (k : Int)), (.slice p_xs L_xs.length q_xs), (Iv (L_xs.length : Int)), (Iv (k : Int)), (Bo (icmp .lss (k : Int) (L_xs.length : Int))), (Iv (k : Int)), (.func (.func f_f) s_f c_f), (.slice p_xs L_xs.length q_xs), (Iv (k : Int)), (Pt b15 o16), (Iv el1), (Bo (pr_f el1)), (u4 17), (Iv ((k : Int) + 1))]) rfl rfl (does_iarith (p := (k : Int)) (q := 1) (r := (k : Int) + 1) (ev rfl) (ev rfl) (.inl ⟨rfl, (in_i64 (by omega) (by omega)).symm⟩)) rfl ?_
      refine q_is (l' := [(.slice p_xs L_xs.length q_xs), (.func (.func f_f) s_f c_f), Ud, Ud, (u4 4), (Iv (k : Int)), (.slice p_xs L_xs.length q_xs), (Iv (L_xs.length : Int)), (Iv ((k : Int) + 1)), (Bo (icmp .lss (k : Int) (L_xs.length : Int))), (Iv (k : Int)), (.func (.func f_f) s_f c_f), (.slice p_xs L_xs.length q_xs), (Iv (k : Int)), (Pt b15 o16), (Iv el1), (Bo (pr_f el1)), (u4 17), (Iv ((k : Int) + 1))]) rfl rfl (does_move (u := (Iv ((k : Int) + 1))) (ev rfl)) rfl ?_
      refine wpList_nil ?_
      refine ⟨k + 1, ⟨fun t => (([(.slice p_xs L_xs.length q_xs), (.func (.func f_f) s_f c_f), Ud, Ud, (u4 4), (Iv (k : Int)), (.slice p_xs L_xs.length q_xs), (Iv (L_xs.length : Int)), (Iv ((k : Int) + 1)), (Bo (icmp .lss (k : Int) (L_xs.length : Int))), (Iv (k : Int)), (.func (.func f_f) s_f c_f), (.slice p_xs L_xs.length q_xs), (Iv (k : Int)), (Pt b15 o16), (Iv el1), (Bo (pr_f el1)), (u4 17), (Iv ((k : Int) + 1))] : List Value)[t]?).getD undef, ?_, (Ext.gr E6 E19), ?_⟩, ?_⟩
      · first | rfl | (simp only [Int.natCast_add, Int.natCast_one]; rfl)
      · exact ⟨by omega, NoneTo.step hno (by assumption) (by simp_all)⟩
      · omega
    have c11' := c11
    (try simp only [icmp, Bool.and_eq_true, Bool.or_eq_true, Bool.and_eq_false_iff, Bool.or_eq_false_iff, Bool.not_eq_true', Bool.not_eq_false', decide_eq_true_eq, decide_eq_false_iff_not, beq_iff_eq, bne_iff_ne, beq_eq_false_iff_ne, bne_eq_false_iff_eq] at c11')
    refine wp_exit ?_
    refine hK2 _ _ ?_
    refine wp_seq_k fun K25 hK25 => ?_
    refine wp_region_lit ?_
    refine q_is (l' := [(.slice p_xs L_xs.length q_xs), (.func (.func f_f) s_f c_f), Ud, Ud, (Iv (-1)), (u4 5), (.slice p_xs L_xs.length q_xs), (Iv (L_xs.length : Int)), (Iv (k : Int)), (Bo (icmp .lss (k : Int) (L_xs.length : Int))), (u4 10), (u4 11), (u4 12), (u4 13), (u4 14), (u4 15), (u4 16), (u4 17), (u4 18)]) rfl rfl (does_assign (u := (Iv (-1))) (ev rfl)) rfl ?_
    refine wpList_nil (hK25 _ _ ?_)
    refine wp_ret ?_
    refine ret_val (v := (Iv (-1))) (res_T rfl (slot rfl)) X8 ?_
    have x26 : (findI pr_f L_xs : Int) = (-1) := by first | exact findI_at hno (by assumption) (by simp_all) | exact findI_none hno (by omega)
    exact (by first | with_reducible rfl | rw [x26] | rfl)

/- slices.ContainsFunc[[]int64,int64] -/
theorem c_slices_ContainsFunc_int64_int64 (xs : Value) (L_xs : List Int) (f : Value) (pr_f : Int → Bool) (w : World) (hv_xs : Sl RI 1 w xs L_xs) (hv_f : ∃ fi fst cap, f = .func (.func fi) fst cap ∧ (∀ args w, (callFunc fi args).run Try.prog w = .ok (.enter fi args) w) ∧ ∀ (n0 : Int) u, Ext w u → Gives Try.prog fi (fst ++ #[.int .i64 n0] ++ cap) u (fun v _ => v = .bool (pr_f n0))) : Gives Try.prog 55 #[xs, f] w (fun v w' => v = (Bo (L_xs.any pr_f))) := by
  have hlen_xs := Sl.len hv_xs; obtain ⟨p_xs, q_xs, rfl⟩ := Sl.shape hv_xs
  obtain ⟨f_f, s_f, c_f, rfl, hcal_f, hg_f⟩ := hv_f
  refine enter [(.slice p_xs L_xs.length q_xs), (.func (.func f_f) s_f c_f), Ud, Ud, Ud, Ud, Ud, Ud, Ud] Try.func55 rfl Try.ntmps55 rfl ?_
  refine wp_seq_k fun K1 hK1 => ?_
  refine wp_region_lit ?_
  refine q_is (l' := [(.slice p_xs L_xs.length q_xs), (.func (.func f_f) s_f c_f), Ud, Ud, (Bo false), Ud, Ud, Ud, Ud]) rfl rfl (does_assign (u := (Bo false)) (ev rfl)) rfl ?_
  refine wpList_nil (hK1 _ _ ?_)
  refine wp_seq_k fun K2 hK2 => ?_
  refine wp_region_lit ?_
  refine q_is (l' := [(.slice p_xs L_xs.length q_xs), (.func (.func f_f) s_f c_f), Ud, Ud, (Bo false), (.slice p_xs L_xs.length q_xs), Ud, Ud, Ud]) rfl rfl (does_move (u := (.slice p_xs L_xs.length q_xs)) (ev rfl)) rfl ?_
  refine q_is (l' := [(.slice p_xs L_xs.length q_xs), (.func (.func f_f) s_f c_f), Ud, Ud, (Bo false), (.slice p_xs L_xs.length q_xs), (.func (.func f_f) s_f c_f), Ud, Ud]) rfl rfl (does_move (u := (.func (.func f_f) s_f c_f)) (ev rfl)) rfl ?_
  refine seqd rfl rfl (does_call (args := #[(.slice p_xs L_xs.length q_xs), (.func (.func f_f) s_f c_f)]) cal62 (evs rfl) (c_slices_IndexFunc_int64_int64 (.slice p_xs L_xs.length q_xs) L_xs (.func (.func f_f) s_f c_f) pr_f _ hv_xs ⟨_, _, _, rfl, hcal_f, fun n0 u hu'  => hg_f n0 u (Ext.gr (Ext.refl w) hu') ⟩)) ?_; rintro _ w4 ⟨E3, rfl⟩
  have X5 := Ext.gr (Ext.refl w) E3
  show wpList _ _ _ _ (fr [(.slice p_xs L_xs.length q_xs), (.func (.func f_f) s_f c_f), Ud, Ud, (Bo false), (.slice p_xs L_xs.length q_xs), (.func (.func f_f) s_f c_f), (Iv (findI pr_f L_xs)), Ud]) _
  refine q_is (l' := [(.slice p_xs L_xs.length q_xs), (.func (.func f_f) s_f c_f), Ud, Ud, (Bo false), (.slice p_xs L_xs.length q_xs), (.func (.func f_f) s_f c_f), (Iv (findI pr_f L_xs)), (Bo (icmp .geq (findI pr_f L_xs) 0))]) rfl rfl (does_icmp (p := findI pr_f L_xs) (q := 0) (.inr (.inr (.inr (.inr (.inr rfl))))) (ev rfl) (ev rfl)) rfl ?_
  refine q_is (l' := [(.slice p_xs L_xs.length q_xs), (.func (.func f_f) s_f c_f), Ud, Ud, (Bo (icmp .geq (findI pr_f L_xs) 0)), (.slice p_xs L_xs.length q_xs), (.func (.func f_f) s_f c_f), (Iv (findI pr_f L_xs)), (Bo (icmp .geq (findI pr_f L_xs) 0))]) rfl rfl (does_assign (u := (Bo (icmp .geq (findI pr_f L_xs) 0))) (ev rfl)) rfl ?_
  refine wpList_nil (hK2 _ _ ?_)
  refine wp_ret ?_
  refine ret_val (v := (Bo (icmp .geq (findI pr_f L_xs) 0))) (res_T rfl (slot rfl)) X5 ?_
  have x6 : (L_xs.any pr_f) = (icmp .geq (findI pr_f L_xs) 0) := by first | with_reducible rfl | (simp only [findI_any]; done) | (simp [findI_any]; done) | rfl
  exact (by first | with_reducible rfl | rw [x6] | rfl)

/- impl.in -/
theorem c_impl_in (n : Int) (low : Int) (high : Int) (w : World) : Gives Try.prog 57 #[(Iv n), (Iv low), (Iv high)] w (fun v w' => v = (Bo (inI n low high))) := by
  refine enter [(Iv n), (Iv low), (Iv high), Ud, Ud, Ud, Ud, Ud, Ud, Ud, Ud, Ud, Ud, Ud, Ud] Try.func57 rfl Try.ntmps57 rfl ?_
  refine wp_seq_k fun K1 hK1 => ?_
  refine wp_region_lit ?_
  refine q_is (l' := [(Iv n), (Iv low), (Iv high), Ud, Ud, Ud, (Bo false), Ud, Ud, Ud, Ud, Ud, Ud, Ud, Ud]) rfl rfl (does_assign (u := (Bo false)) (ev rfl)) rfl ?_
  refine wpList_nil (hK1 _ _ ?_)
  refine wp_seq_k fun K2 hK2 => ?_
  obtain ⟨β1, hβ1⟩ : ∃ b : Bool, b = ((icmp .geq n low) && (icmp .leq n high)) := ⟨_, rfl⟩
  refine region_text (
    [Fact.pure [] (fun v => v = (Iv n)),
    Fact.pure [] (fun v => v = (Iv low)),
    Fact.pure [7, 8] (fun v => v = (Bo (icmp .geq n low))),
    Fact.pure [9] (fun v => v = (Bo (icmp .geq n low))),
    Fact.pure [10] (fun v => (icmp .geq n low) = true → v = (Iv n)),
    Fact.pure [10] (fun v => (icmp .geq n low) = true → v = (Iv high)),
    Fact.pure [11, 12, 10] (fun v => (icmp .geq n low) = true → v = (Bo (icmp .leq n high))),
    Fact.pure [10, 13] (fun v => v = (Bo β1))]) (by simp [Fact.pure, Fact.mem]) ?_
  refine RW_d (fun v3 => [(Iv n), (Iv low), (Iv high), Ud, Ud, Ud, (Bo false), v3, Ud, Ud, Ud, Ud, Ud, Ud, Ud]) rfl (fun _ => rfl) (fun u hu hF => ?_) (fun v3 => ?_)
  · clear hF
    refine doesG_un rfl ?_
    refine (does_move (u := (Iv n)) (ev rfl)).mono ?_; rintro _ _ ⟨rfl, rfl⟩
    exact ⟨rfl, Ext.refl _⟩
  refine RW_d (fun v4 => [(Iv n), (Iv low), (Iv high), Ud, Ud, Ud, (Bo false), v3, v4, Ud, Ud, Ud, Ud, Ud, Ud]) rfl (fun _ => rfl) (fun u hu hF => ?_) (fun v4 => ?_)
  · clear hF
    refine doesG_un rfl ?_
    refine (does_move (u := (Iv low)) (ev rfl)).mono ?_; rintro _ _ ⟨rfl, rfl⟩
    exact ⟨rfl, Ext.refl _⟩
  refine RW_d (fun v5 => [(Iv n), (Iv low), (Iv high), Ud, Ud, Ud, (Bo false), v3, v4, v5, Ud, Ud, Ud, Ud, Ud]) rfl (fun _ => rfl) (fun u hu hF => ?_) (fun v5 => ?_)
  · have h7_ : v3 = (Iv n) := hF.1
    have h8_ : v4 = (Iv low) := hF.2.1
    clear hF
    refine doesG_un rfl ?_
    obtain rfl := h7_
    obtain rfl := h8_
    refine (does_icmp (p := n) (q := low) (.inr (.inr (.inr (.inr (.inr rfl))))) (ev rfl) (ev rfl)).mono ?_; rintro _ _ ⟨rfl, rfl⟩
    exact ⟨rfl, Ext.refl _⟩
  refine RW_d (fun v6 => [(Iv n), (Iv low), (Iv high), Ud, Ud, Ud, (Bo false), v3, v4, v5, v6, Ud, Ud, Ud, Ud]) rfl (fun _ => rfl) (fun u hu hF => ?_) (fun v6 => ?_)
  · have h9_ : v5 = (Bo (icmp .geq n low)) := hF.1
    clear hF
    refine doesG_un rfl ?_
    obtain rfl := h9_
    refine (does_move (u := (Bo (icmp .geq n low))) (ev rfl)).mono ?_; rintro _ _ ⟨rfl, rfl⟩
    exact ⟨rfl, Ext.refl _⟩
  refine RW_d (fun v7 => [(Iv n), (Iv low), (Iv high), Ud, Ud, Ud, (Bo false), v3, v4, v5, v6, v7, Ud, Ud, Ud]) rfl (fun _ => rfl) (fun u hu hF => ?_) (fun v7 => ?_)
  · have h10_ : v6 = (Bo (icmp .geq n low)) := hF.1
    clear hF
    obtain rfl := h10_
    refine doesG_g (b := (icmp .geq n low)) rfl (yld rfl rfl) (fun hg1 => ?_) (fun hc => ⟨fun hg1 => absurd hg1 hc, Ext.refl _⟩)
    refine (does_move (u := (Iv n)) (ev rfl)).mono ?_; rintro _ _ ⟨rfl, rfl⟩
    exact ⟨fun _ => rfl, Ext.refl _⟩
  refine RW_d (fun v8 => [(Iv n), (Iv low), (Iv high), Ud, Ud, Ud, (Bo false), v3, v4, v5, v6, v7, v8, Ud, Ud]) rfl (fun _ => rfl) (fun u hu hF => ?_) (fun v8 => ?_)
  · have h10_ : v6 = (Bo (icmp .geq n low)) := hF.1
    clear hF
    obtain rfl := h10_
    refine doesG_g (b := (icmp .geq n low)) rfl (yld rfl rfl) (fun hg1 => ?_) (fun hc => ⟨fun hg1 => absurd hg1 hc, Ext.refl _⟩)
    refine (does_move (u := (Iv high)) (ev rfl)).mono ?_; rintro _ _ ⟨rfl, rfl⟩
    exact ⟨fun _ => rfl, Ext.refl _⟩
  refine RW_d (fun v9 => [(Iv n), (Iv low), (Iv high), Ud, Ud, Ud, (Bo false), v3, v4, v5, v6, v7, v8, v9, Ud]) rfl (fun _ => rfl) (fun u hu hF => ?_) (fun v9 => ?_)
  · have h11_ : (icmp .geq n low) = true → v7 = (Iv n) := hF.1
    have h12_ : (icmp .geq n low) = true → v8 = (Iv high) := hF.2.1
    have h10_ : v6 = (Bo (icmp .geq n low)) := hF.2.2.1
    clear hF
    obtain rfl := h10_
    refine doesG_g (b := (icmp .geq n low)) rfl (yld rfl rfl) (fun hg1 => ?_) (fun hc => ⟨fun hg1 => absurd hg1 hc, Ext.refl _⟩)
    obtain rfl := h11_ hg1
    obtain rfl := h12_ hg1
    refine (does_icmp (p := n) (q := high) (.inr (.inr (.inr (.inl rfl)))) (ev rfl) (ev rfl)).mono ?_; rintro _ _ ⟨rfl, rfl⟩
    exact ⟨fun _ => rfl, Ext.refl _⟩
  refine RW_d (fun v10 => [(Iv n), (Iv low), (Iv high), Ud, Ud, Ud, (Bo false), v3, v4, v5, v6, v7, v8, v9, v10]) rfl (fun _ => rfl) (fun u hu hF => ?_) (fun v10 => ?_)
  · have h10_ : v6 = (Bo (icmp .geq n low)) := hF.1
    have h13_ : (icmp .geq n low) = true → v9 = (Bo (icmp .leq n high)) := hF.2.1
    clear hF
    refine doesG_un rfl ?_
    skip
    obtain rfl := h10_
    refine (does_pick (b := (icmp .geq n low)) (u := v9) (v := (Bo false)) (ev rfl) (ev rfl) (ev rfl)).mono ?_; rintro _ _ ⟨rfl, rfl⟩; refine ⟨?_, Ext.refl _⟩; rw [hβ1]; skip
    cases hbb : (icmp .geq n low)
    all_goals first | (show _ = _; simp only [↓reduceIte, Bool.true_and, Bool.false_and, Bool.true_or, Bool.false_or, Bool.false_eq_true]; done) | (have e_ := h13_ hbb; subst e_; show _ = _; simp only [↓reduceIte, Bool.true_and, Bool.false_and, Bool.true_or, Bool.false_or, Bool.false_eq_true]; done) | rfl | (have e_ := h13_ hbb; subst e_; rfl) | (simp [hbb] at h13_ ⊢; first | done | rfl | (subst h13_; rfl) | simp_all) | (simp [hbb] at h13_ ⊢; done)
  refine RW_fin ?_; intro w11 E12 hP13
  obtain ⟨⟨⟨⟨⟨⟨⟨⟨-, -⟩, -⟩, -⟩, -⟩, -⟩, -⟩, -⟩, q14⟩ := hP13
  have X15 := Ext.gr (Ext.refl w) E12
  have q14 : v10 = (Bo β1) := q14
  obtain rfl := q14
  show wpList _ _ _ _ (fr [(Iv n), (Iv low), (Iv high), Ud, Ud, Ud, (Bo false), v3, v4, v5, v6, v7, v8, v9, (Bo β1)]) _
  refine q_is (l' := [(Iv n), (Iv low), (Iv high), Ud, Ud, Ud, (Bo β1), v3, v4, v5, v6, v7, v8, v9, (Bo β1)]) rfl rfl (does_assign (u := (Bo β1)) (ev rfl)) rfl ?_
  refine wpList_nil (hK2 _ _ ?_)
  refine wp_ret ?_
  refine ret_val (v := (Bo β1)) (res_T rfl (slot rfl)) X15 ?_
  have x16 : (inI n low high) = β1 := by first | with_reducible rfl | (simp only [inI, hβ1]; done) | (simp [inI, hβ1]; done) | rfl
  exact (by first | with_reducible rfl | rw [x16] | rfl)

/- impl.isTriangle$1 -/
theorem c_impl_isTriangle_1 (x_ : Int) (pn_b : Nat) (pn_o : Nat) (n_ : Int) (w : World) (hc_pn : Cells w pn_b pn_o [(Iv n_)]) : Gives Try.prog 56 #[(Iv x_), (Pt pn_b pn_o)] w (fun v w' => v = (Bo (!inI x_ 0 (IntKind.i64.wrap (n_ - 1))))) := by
  refine enter [(Iv x_), (Pt pn_b pn_o), Ud, Ud, Ud, Ud, Ud, Ud, Ud] Try.func56 rfl Try.ntmps56 rfl ?_
  refine wp_seq_k fun K1 hK1 => ?_
  refine wp_region_lit ?_
  refine q_is (l' := [(Iv x_), (Pt pn_b pn_o), Ud, (Bo false), Ud, Ud, Ud, Ud, Ud]) rfl rfl (does_assign (u := (Bo false)) (ev rfl)) rfl ?_
  refine wpList_nil (hK1 _ _ ?_)
  refine wp_seq_k fun K2 hK2 => ?_
  refine wp_region_lit ?_
  refine q_is (l' := [(Iv x_), (Pt pn_b pn_o), Ud, (Bo false), (Iv x_), Ud, Ud, Ud, Ud]) rfl rfl (does_move (u := (Iv x_)) (ev rfl)) rfl ?_
  refine q_is (l' := [(Iv x_), (Pt pn_b pn_o), Ud, (Bo false), (Iv x_), (Iv n_), Ud, Ud, Ud]) rfl rfl (does_load (u := (Iv n_)) (ev rfl) Try.isAgg3 (Cells.at hc_pn 0 rfl)) rfl ?_
  refine q_is (l' := [(Iv x_), (Pt pn_b pn_o), Ud, (Bo false), (Iv x_), (Iv n_), (Iv (IntKind.i64.wrap (n_ - 1))), Ud, Ud]) rfl rfl (does_iarith (p := n_) (q := 1) (r := IntKind.i64.wrap (n_ - 1)) (ev rfl) (ev rfl) (.inr (.inl ⟨rfl, rfl⟩))) rfl ?_
  refine seqd rfl rfl (does_call (args := #[(Iv x_), (Iv 0), (Iv (IntKind.i64.wrap (n_ - 1)))]) cal57 (evs rfl) (c_impl_in x_ 0 (IntKind.i64.wrap (n_ - 1)) _)) ?_; rintro _ w4 ⟨E3, rfl⟩
  have X5 := Ext.gr (Ext.refl w) E3
  show wpList _ _ _ _ (fr [(Iv x_), (Pt pn_b pn_o), Ud, (Bo false), (Iv x_), (Iv n_), (Iv (IntKind.i64.wrap (n_ - 1))), (Bo (inI x_ 0 (IntKind.i64.wrap (n_ - 1)))), Ud]) _
  refine q_is (l' := [(Iv x_), (Pt pn_b pn_o), Ud, (Bo false), (Iv x_), (Iv n_), (Iv (IntKind.i64.wrap (n_ - 1))), (Bo (inI x_ 0 (IntKind.i64.wrap (n_ - 1)))), (Bo (!(inI x_ 0 (IntKind.i64.wrap (n_ - 1)))))]) rfl rfl (does_not (ev rfl)) rfl ?_
  refine q_is (l' := [(Iv x_), (Pt pn_b pn_o), Ud, (Bo (!(inI x_ 0 (IntKind.i64.wrap (n_ - 1))))), (Iv x_), (Iv n_), (Iv (IntKind.i64.wrap (n_ - 1))), (Bo (inI x_ 0 (IntKind.i64.wrap (n_ - 1)))), (Bo (!(inI x_ 0 (IntKind.i64.wrap (n_ - 1)))))]) rfl rfl (does_assign (u := (Bo (!(inI x_ 0 (IntKind.i64.wrap (n_ - 1)))))) (ev rfl)) rfl ?_
  refine wpList_nil (hK2 _ _ ?_)
  refine wp_ret ?_
  refine ret_val (v := (Bo (!(inI x_ 0 (IntKind.i64.wrap (n_ - 1)))))) (res_T rfl (slot rfl)) X5 ?_
  have x6 : (!inI x_ 0 (IntKind.i64.wrap (n_ - 1))) = (!(inI x_ 0 (IntKind.i64.wrap (n_ - 1)))) := by first | with_reducible rfl | (simp only []; done) | (simp []; done) | rfl
  exact (by first | with_reducible rfl | rw [x6] | rfl)

/- impl.isTriangle -/
theorem c_impl_isTriangle (t_ : Value) (L_t_ : List Int) (n_ : Int) (w : World) (hv_t_ : Sl RI 1 w t_ L_t_) : Gives Try.prog 48 #[t_, (Iv n_)] w (fun v w' => v = (Bo (triOk n_ L_t_))) := by
  have hlen_t_ := Sl.len hv_t_; obtain ⟨p_t_, q_t_, rfl⟩ := Sl.shape hv_t_
  refine enter [(.slice p_t_ L_t_.length q_t_), (Iv n_), Ud, Ud, Ud, Ud, Ud, Ud, Ud, Ud, Ud, Ud, Ud, Ud, Ud, Ud, Ud, Ud, Ud, Ud, Ud, Ud, Ud, Ud, Ud, Ud, Ud, Ud, Ud, Ud, Ud, Ud, Ud, Ud, Ud, Ud, Ud, Ud, Ud] Try.func48 rfl Try.ntmps48 rfl ?_
  refine wp_seq_k fun K1 hK1 => ?_
  refine wp_region_lit ?_
  refine seqd rfl rfl (does_box (u := (Iv n_)) (ev rfl)) ?_; rintro _ w6 ⟨b2, rfl, hb3, hB4, E5⟩
  have g7 : w.heap.size ≤ b2 := Nat.le_trans (Below.size (Ext.refl w)) hb3
  change Blk _ _ [(Iv n_)] at hB4
  have X8 := Ext.gr (Ext.refl w) E5
  show wpList _ _ _ _ (fr [_, _, _, _, _, _, _, _, _, _, _, _, _, _, _, _, _, _, _, _, _, _, _, _, _, _, _, _, _, _, _, _, _, _, _, _, _, _, _]) _
  refine q_is rfl rfl (does_assign (u := (Bo false)) (ev rfl)) (by dsimp only [List.set]; try rfl) ?_
  refine wpList_nil (hK1 _ _ ?_)
  refine wp_seq_k fun K9 hK9 => ?_
  refine wp_seq_k fun K10 hK10 => ?_
  obtain ⟨β1, hβ1⟩ : ∃ b : Bool, b = (icmp .neq (L_t_.length : Int) 3) := ⟨_, rfl⟩
  obtain ⟨el1, hel1⟩ := exists_el (0 : Int) L_t_ 0
  obtain ⟨el2, hel2⟩ := exists_el (0 : Int) L_t_ 1
  obtain ⟨β2, hβ2⟩ : ∃ b : Bool, b = (β1 || (icmp .eql el1 el2)) := ⟨_, rfl⟩
  obtain ⟨el3, hel3⟩ := exists_el (0 : Int) L_t_ 2
  obtain ⟨β3, hβ3⟩ : ∃ b : Bool, b = (β2 || (icmp .eql el2 el3)) := ⟨_, rfl⟩
  obtain ⟨β4, hβ4⟩ : ∃ b : Bool, b = (β3 || (icmp .eql el3 el1)) := ⟨_, rfl⟩
  refine region_draw (
    [Fact.pure [] (fun v => v = (.slice p_t_ L_t_.length q_t_)),
    Fact.pure [5] (fun v => v = (Iv (L_t_.length : Int))),
    Fact.pure [6] (fun v => v = (Bo β1)),
    Fact.pure [7] (fun v => v = (Bo β1)),
    Fact.pure [8] (fun v => β1 = false → v = (.slice p_t_ L_t_.length q_t_)),
    Fact.mem [9, 8] (fun v w' => β1 = false → PtrR RI w' v el1) (by intro v w1 w2 hx h; exact fun hg1 => (h hg1).ext RI.mono hx),
    Fact.pure [10, 8] (fun v => β1 = false → v = (Iv el1)),
    Fact.pure [8] (fun v => β1 = false → v = (.slice p_t_ L_t_.length q_t_)),
    Fact.mem [12, 8] (fun v w' => β1 = false → PtrR RI w' v el2) (by intro v w1 w2 hx h; exact fun hg1 => (h hg1).ext RI.mono hx),
    Fact.pure [13, 8] (fun v => β1 = false → v = (Iv el2)),
    Fact.pure [11, 14, 8] (fun v => β1 = false → v = (Bo (icmp .eql el1 el2))),
    Fact.pure [8, 15] (fun v => v = (Bo β2)),
    Fact.pure [16] (fun v => v = (Bo β2)),
    Fact.pure [17] (fun v => β2 = false → v = (.slice p_t_ L_t_.length q_t_)),
    Fact.mem [18, 17] (fun v w' => β2 = false → PtrR RI w' v el2) (by intro v w1 w2 hx h; exact fun hg1 => (h hg1).ext RI.mono hx),
    Fact.pure [19, 17] (fun v => β2 = false → v = (Iv el2)),
    Fact.pure [17] (fun v => β2 = false → v = (.slice p_t_ L_t_.length q_t_)),
    Fact.mem [21, 17] (fun v w' => β2 = false → PtrR RI w' v el3) (by intro v w1 w2 hx h; exact fun hg1 => (h hg1).ext RI.mono hx),
    Fact.pure [22, 17] (fun v => β2 = false → v = (Iv el3)),
    Fact.pure [20, 23, 17] (fun v => β2 = false → v = (Bo (icmp .eql el2 el3))),
    Fact.pure [17, 24] (fun v => v = (Bo β3)),
    Fact.pure [25] (fun v => v = (Bo β3)),
    Fact.pure [26] (fun v => β3 = false → v = (.slice p_t_ L_t_.length q_t_)),
    Fact.mem [27, 26] (fun v w' => β3 = false → PtrR RI w' v el3) (by intro v w1 w2 hx h; exact fun hg1 => (h hg1).ext RI.mono hx),
    Fact.pure [28, 26] (fun v => β3 = false → v = (Iv el3)),
    Fact.pure [26] (fun v => β3 = false → v = (.slice p_t_ L_t_.length q_t_)),
    Fact.mem [30, 26] (fun v w' => β3 = false → PtrR RI w' v el1) (by intro v w1 w2 hx h; exact fun hg1 => (h hg1).ext RI.mono hx),
    Fact.pure [31, 26] (fun v => β3 = false → v = (Iv el1)),
    Fact.pure [29, 32, 26] (fun v => β3 = false → v = (Bo (icmp .eql el3 el1))),
    Fact.pure [26, 33] (fun v => v = (Bo β4))]) mixed (by kernel_rfl) (by intro _ _ d _ _ h; cases d <;> exact h) ?_
  obtain ⟨w11, hw13⟩ : ∃ w', w' = World.drew w6 := ⟨_, rfl⟩; rw [← hw13]; have E12 : Ext w6 w11 := by rw [hw13]; exact Ext.draw _
  clear hw13
  have X14 := Ext.gr X8 E12
  refine RW_d _ rfl (fun v => by dsimp only [List.set]; try rfl) (fun u hu hF => ?_) (fun v15 => ?_)
  · clear hF
    refine doesG_un rfl ?_
    refine (does_move (u := (.slice p_t_ L_t_.length q_t_)) (ev rfl)).mono ?_; rintro _ _ ⟨rfl, rfl⟩
    exact ⟨rfl, Ext.refl _⟩
  refine RW_d _ rfl (fun v => by dsimp only [List.set]; try rfl) (fun u hu hF => ?_) (fun v16 => ?_)
  · have h5_ : v15 = (.slice p_t_ L_t_.length q_t_) := hF.1
    clear hF
    refine doesG_un rfl ?_
    obtain rfl := h5_
    refine (does_len_slice Try.underlying27 (ev rfl)).mono ?_; rintro _ _ ⟨rfl, rfl⟩
    exact ⟨rfl, Ext.refl _⟩
  refine RW_d _ rfl (fun v => by dsimp only [List.set]; try rfl) (fun u hu hF => ?_) (fun v17 => ?_)
  · have h6_ : v16 = (Iv (L_t_.length : Int)) := hF.1
    clear hF
    refine doesG_un rfl ?_
    obtain rfl := h6_
    refine (does_icmp (p := (L_t_.length : Int)) (q := 3) (.inr (.inl rfl)) (ev rfl) (ev rfl)).mono ?_; rintro _ _ ⟨rfl, rfl⟩
    exact ⟨(by first | rfl | (show _ = _; simp only [hβ1]; done) | (show _ = _; simp only [hβ1]; rfl)), Ext.refl _⟩
  refine RW_d _ rfl (fun v => by dsimp only [List.set]; try rfl) (fun u hu hF => ?_) (fun v18 => ?_)
  · have h7_ : v17 = (Bo β1) := hF.1
    clear hF
    refine doesG_un rfl ?_
    obtain rfl := h7_
    refine (does_move (u := (Bo β1)) (ev rfl)).mono ?_; rintro _ _ ⟨rfl, rfl⟩
    exact ⟨rfl, Ext.refl _⟩
  refine RW_d _ rfl (fun v => by dsimp only [List.set]; try rfl) (fun u hu hF => ?_) (fun v19 => ?_)
  · have h8_ : v18 = (Bo β1) := hF.1
    clear hF
    obtain rfl := h8_
    refine doesG_g (b := β1) rfl (yld rfl rfl) (fun hg1 => ?_) (fun hc => ⟨fun hg1 => absurd hg1 hc, Ext.refl _⟩)
    refine (does_move (u := (.slice p_t_ L_t_.length q_t_)) (ev rfl)).mono ?_; rintro _ _ ⟨rfl, rfl⟩
    exact ⟨fun _ => rfl, Ext.refl _⟩
  refine RW_d _ rfl (fun v => by dsimp only [List.set]; try rfl) (fun u hu hF => ?_) (fun v20 => ?_)
  · have h9_ : β1 = false → v19 = (.slice p_t_ L_t_.length q_t_) := hF.1
    have h8_ : v18 = (Bo β1) := hF.2.1
    clear hF
    obtain rfl := h8_
    refine doesG_g (b := β1) rfl (yld rfl rfl) (fun hg1 => ?_) (fun hc => ⟨fun hg1 => absurd hg1 hc, Ext.refl _⟩)
    obtain rfl := h9_ hg1
    refine (does_indexSl (R := RI) (i := 0) (xs := L_t_) (e := el1) Try.underlying27 Try.sizeOf2 (ev rfl) (ev rfl) (Sl.ext (Sl.ext hv_t_ RI.mono (Ext.gr X8 E12)) RI.mono hu) (by first | omega | (simp only [hβ1, icmp, Bool.or_eq_false_iff, Bool.not_eq_false', Bool.not_eq_true', decide_eq_true_eq, decide_eq_false_iff_not, bne_eq_false_iff_eq] at hg1; omega) | (simp only [hβ1, icmp, Bool.or_eq_false_iff, Bool.not_eq_false', Bool.not_eq_true', decide_eq_true_eq, decide_eq_false_iff_not, bne_eq_false_iff_eq] at hg1 hg2; omega)) (hel1 (by first | omega | (simp only [hβ1, icmp, Bool.or_eq_false_iff, Bool.not_eq_false', Bool.not_eq_true', bne_eq_false_iff_eq] at hg1; omega)))).mono ?_; rintro v u' ⟨b, of, cs, hv, hc, hR, hu'⟩; subst hu'
    exact ⟨fun _ => ⟨b, of, cs, hv, hc, hR⟩, Ext.refl _⟩
  refine RW_d _ rfl (fun v => by dsimp only [List.set]; try rfl) (fun u hu hF => ?_) (fun v21 => ?_)
  · have h10_ : β1 = false → PtrR RI u v20 el1 := hF.1
    have h8_ : v18 = (Bo β1) := hF.2.1
    clear hF
    obtain rfl := h8_
    refine doesG_g (b := β1) rfl (yld rfl rfl) (fun hg1 => ?_) (fun hc => ⟨fun hg1 => absurd hg1 hc, Ext.refl _⟩)
    obtain ⟨b10_, o10_, _, rfl, hc10_, rfl⟩ := h10_ hg1
    refine (does_load (u := (Iv el1)) (ev rfl) Try.isAgg2 (Cells.at hc10_ 0 rfl)).mono ?_; rintro _ _ ⟨rfl, rfl⟩
    exact ⟨fun _ => rfl, Ext.refl _⟩
  refine RW_d _ rfl (fun v => by dsimp only [List.set]; try rfl) (fun u hu hF => ?_) (fun v22 => ?_)
  · have h8_ : v18 = (Bo β1) := hF.1
    clear hF
    obtain rfl := h8_
    refine doesG_g (b := β1) rfl (yld rfl rfl) (fun hg1 => ?_) (fun hc => ⟨fun hg1 => absurd hg1 hc, Ext.refl _⟩)
    refine (does_move (u := (.slice p_t_ L_t_.length q_t_)) (ev rfl)).mono ?_; rintro _ _ ⟨rfl, rfl⟩
    exact ⟨fun _ => rfl, Ext.refl _⟩
  refine RW_d _ rfl (fun v => by dsimp only [List.set]; try rfl) (fun u hu hF => ?_) (fun v23 => ?_)
  · have h12_ : β1 = false → v22 = (.slice p_t_ L_t_.length q_t_) := hF.1
    have h8_ : v18 = (Bo β1) := hF.2.1
    clear hF
    obtain rfl := h8_
    refine doesG_g (b := β1) rfl (yld rfl rfl) (fun hg1 => ?_) (fun hc => ⟨fun hg1 => absurd hg1 hc, Ext.refl _⟩)
    obtain rfl := h12_ hg1
    refine (does_indexSl (R := RI) (i := 1) (xs := L_t_) (e := el2) Try.underlying27 Try.sizeOf2 (ev rfl) (ev rfl) (Sl.ext (Sl.ext hv_t_ RI.mono (Ext.gr X8 E12)) RI.mono hu) (by first | omega | (simp only [hβ1, icmp, Bool.or_eq_false_iff, Bool.not_eq_false', Bool.not_eq_true', decide_eq_true_eq, decide_eq_false_iff_not, bne_eq_false_iff_eq] at hg1; omega) | (simp only [hβ1, icmp, Bool.or_eq_false_iff, Bool.not_eq_false', Bool.not_eq_true', decide_eq_true_eq, decide_eq_false_iff_not, bne_eq_false_iff_eq] at hg1 hg2; omega)) (hel2 (by first | omega | (simp only [hβ1, icmp, Bool.or_eq_false_iff, Bool.not_eq_false', Bool.not_eq_true', bne_eq_false_iff_eq] at hg1; omega)))).mono ?_; rintro v u' ⟨b, of, cs, hv, hc, hR, hu'⟩; subst hu'
    exact ⟨fun _ => ⟨b, of, cs, hv, hc, hR⟩, Ext.refl _⟩
  refine RW_d _ rfl (fun v => by dsimp only [List.set]; try rfl) (fun u hu hF => ?_) (fun v24 => ?_)
  · have h13_ : β1 = false → PtrR RI u v23 el2 := hF.1
    have h8_ : v18 = (Bo β1) := hF.2.1
    clear hF
    obtain rfl := h8_
    refine doesG_g (b := β1) rfl (yld rfl rfl) (fun hg1 => ?_) (fun hc => ⟨fun hg1 => absurd hg1 hc, Ext.refl _⟩)
    obtain ⟨b13_, o13_, _, rfl, hc13_, rfl⟩ := h13_ hg1
    refine (does_load (u := (Iv el2)) (ev rfl) Try.isAgg2 (Cells.at hc13_ 0 rfl)).mono ?_; rintro _ _ ⟨rfl, rfl⟩
    exact ⟨fun _ => rfl, Ext.refl _⟩
  refine RW_d _ rfl (fun v => by dsimp only [List.set]; try rfl) (fun u hu hF => ?_) (fun v25 => ?_)
  · have h11_ : β1 = false → v21 = (Iv el1) := hF.1
    have h14_ : β1 = false → v24 = (Iv el2) := hF.2.1
    have h8_ : v18 = (Bo β1) := hF.2.2.1
    clear hF
    obtain rfl := h8_
    refine doesG_g (b := β1) rfl (yld rfl rfl) (fun hg1 => ?_) (fun hc => ⟨fun hg1 => absurd hg1 hc, Ext.refl _⟩)
    obtain rfl := h11_ hg1
    obtain rfl := h14_ hg1
    refine (does_icmp (p := el1) (q := el2) (.inl rfl) (ev rfl) (ev rfl)).mono ?_; rintro _ _ ⟨rfl, rfl⟩
    exact ⟨fun _ => rfl, Ext.refl _⟩
  refine RW_d _ rfl (fun v => by dsimp only [List.set]; try rfl) (fun u hu hF => ?_) (fun v26 => ?_)
  · have h8_ : v18 = (Bo β1) := hF.1
    have h15_ : β1 = false → v25 = (Bo (icmp .eql el1 el2)) := hF.2.1
    clear hF
    refine doesG_un rfl ?_
    skip
    obtain rfl := h8_
    refine (does_pick (b := β1) (u := (Bo true)) (v := v25) (ev rfl) (ev rfl) (ev rfl)).mono ?_; rintro _ _ ⟨rfl, rfl⟩; refine ⟨?_, Ext.refl _⟩; rw [hβ2]; skip
    cases hbb : β1
    all_goals first | (show _ = _; simp only [↓reduceIte, Bool.true_and, Bool.false_and, Bool.true_or, Bool.false_or, Bool.false_eq_true]; done) | (have e_ := h15_ hbb; subst e_; show _ = _; simp only [↓reduceIte, Bool.true_and, Bool.false_and, Bool.true_or, Bool.false_or, Bool.false_eq_true]; done) | rfl | (have e_ := h15_ hbb; subst e_; rfl) | (simp [hbb] at h15_ ⊢; first | done | rfl | (subst h15_; rfl) | simp_all) | (simp [hbb] at h15_ ⊢; done)
  refine RW_d _ rfl (fun v => by dsimp only [List.set]; try rfl) (fun u hu hF => ?_) (fun v27 => ?_)
  · have h16_ : v26 = (Bo β2) := hF.1
    clear hF
    refine doesG_un rfl ?_
    obtain rfl := h16_
    refine (does_move (u := (Bo β2)) (ev rfl)).mono ?_; rintro _ _ ⟨rfl, rfl⟩
    exact ⟨rfl, Ext.refl _⟩
  refine RW_d _ rfl (fun v => by dsimp only [List.set]; try rfl) (fun u hu hF => ?_) (fun v28 => ?_)
  · have h17_ : v27 = (Bo β2) := hF.1
    clear hF
    obtain rfl := h17_
    refine doesG_g (b := β2) rfl (yld rfl rfl) (fun hg1 => ?_) (fun hc => ⟨fun hg1 => absurd hg1 hc, Ext.refl _⟩)
    refine (does_move (u := (.slice p_t_ L_t_.length q_t_)) (ev rfl)).mono ?_; rintro _ _ ⟨rfl, rfl⟩
    exact ⟨fun _ => rfl, Ext.refl _⟩
  refine RW_d _ rfl (fun v => by dsimp only [List.set]; try rfl) (fun u hu hF => ?_) (fun v29 => ?_)
  · have h18_ : β2 = false → v28 = (.slice p_t_ L_t_.length q_t_) := hF.1
    have h17_ : v27 = (Bo β2) := hF.2.1
    clear hF
    obtain rfl := h17_
    refine doesG_g (b := β2) rfl (yld rfl rfl) (fun hg1 => ?_) (fun hc => ⟨fun hg1 => absurd hg1 hc, Ext.refl _⟩)
    obtain rfl := h18_ hg1
    refine (does_indexSl (R := RI) (i := 1) (xs := L_t_) (e := el2) Try.underlying27 Try.sizeOf2 (ev rfl) (ev rfl) (Sl.ext (Sl.ext hv_t_ RI.mono (Ext.gr X8 E12)) RI.mono hu) (by first | omega | (simp only [hβ1, hβ2, icmp, Bool.or_eq_false_iff, Bool.not_eq_false', Bool.not_eq_true', decide_eq_true_eq, decide_eq_false_iff_not, bne_eq_false_iff_eq] at hg1; omega) | (simp only [hβ1, hβ2, icmp, Bool.or_eq_false_iff, Bool.not_eq_false', Bool.not_eq_true', decide_eq_true_eq, decide_eq_false_iff_not, bne_eq_false_iff_eq] at hg1 hg2; omega)) (hel2 (by first | omega | (simp only [hβ1, hβ2, icmp, Bool.or_eq_false_iff, Bool.not_eq_false', Bool.not_eq_true', bne_eq_false_iff_eq] at hg1; omega)))).mono ?_; rintro v u' ⟨b, of, cs, hv, hc, hR, hu'⟩; subst hu'
    exact ⟨fun _ => ⟨b, of, cs, hv, hc, hR⟩, Ext.refl _⟩
  refine RW_d _ rfl (fun v => by dsimp only [List.set]; try rfl) (fun u hu hF => ?_) (fun v30 => ?_)
  · have h19_ : β2 = false → PtrR RI u v29 el2 := hF.1
    have h17_ : v27 = (Bo β2) := hF.2.1
    clear hF
    obtain rfl := h17_
    refine doesG_g (b := β2) rfl (yld rfl rfl) (fun hg1 => ?_) (fun hc => ⟨fun hg1 => absurd hg1 hc, Ext.refl _⟩)
    obtain ⟨b19_, o19_, _, rfl, hc19_, rfl⟩ := h19_ hg1
    refine (does_load (u := (Iv el2)) (ev rfl) Try.isAgg2 (Cells.at hc19_ 0 rfl)).mono ?_; rintro _ _ ⟨rfl, rfl⟩
    exact ⟨fun _ => rfl, Ext.refl _⟩
  refine RW_d _ rfl (fun v => by dsimp only [List.set]; try rfl) (fun u hu hF => ?_) (fun v31 => ?_)
  · have h17_ : v27 = (Bo β2) := hF.1
    clear hF
    obtain rfl := h17_
    refine doesG_g (b := β2) rfl (yld rfl rfl) (fun hg1 => ?_) (fun hc => ⟨fun hg1 => absurd hg1 hc, Ext.refl _⟩)
    refine (does_move (u := (.slice p_t_ L_t_.length q_t_)) (ev rfl)).mono ?_; rintro _ _ ⟨rfl, rfl⟩
    exact ⟨fun _ => rfl, Ext.refl _⟩
  refine RW_d _ rfl (fun v => by dsimp only [List.set]; try rfl) (fun u hu hF => ?_) (fun v32 => ?_)
  · have h21_ : β2 = false → v31 = (.slice p_t_ L_t_.length q_t_) := hF.1
    have h17_ : v27 = (Bo β2) := hF.2.1
    clear hF
    obtain rfl := h17_
    refine doesG_g (b := β2) rfl (yld rfl rfl) (fun hg1 => ?_) (fun hc => ⟨fun hg1 => absurd hg1 hc, Ext.refl _⟩)
    obtain rfl := h21_ hg1
    refine (does_indexSl (R := RI) (i := 2) (xs := L_t_) (e := el3) Try.underlying27 Try.sizeOf2 (ev rfl) (ev rfl) (Sl.ext (Sl.ext hv_t_ RI.mono (Ext.gr X8 E12)) RI.mono hu) (by first | omega | (simp only [hβ1, hβ2, icmp, Bool.or_eq_false_iff, Bool.not_eq_false', Bool.not_eq_true', decide_eq_true_eq, decide_eq_false_iff_not, bne_eq_false_iff_eq] at hg1; omega) | (simp only [hβ1, hβ2, icmp, Bool.or_eq_false_iff, Bool.not_eq_false', Bool.not_eq_true', decide_eq_true_eq, decide_eq_false_iff_not, bne_eq_false_iff_eq] at hg1 hg2; omega)) (hel3 (by first | omega | (simp only [hβ1, hβ2, icmp, Bool.or_eq_false_iff, Bool.not_eq_false', Bool.not_eq_true', bne_eq_false_iff_eq] at hg1; omega)))).mono ?_; rintro v u' ⟨b, of, cs, hv, hc, hR, hu'⟩; subst hu'
    exact ⟨fun _ => ⟨b, of, cs, hv, hc, hR⟩, Ext.refl _⟩
  refine RW_d _ rfl (fun v => by dsimp only [List.set]; try rfl) (fun u hu hF => ?_) (fun v33 => ?_)
  · have h22_ : β2 = false → PtrR RI u v32 el3 := hF.1
    have h17_ : v27 = (Bo β2) := hF.2.1
    clear hF
    obtain rfl := h17_
    refine doesG_g (b := β2) rfl (yld rfl rfl) (fun hg1 => ?_) (fun hc => ⟨fun hg1 => absurd hg1 hc, Ext.refl _⟩)
    obtain ⟨b22_, o22_, _, rfl, hc22_, rfl⟩ := h22_ hg1
    refine (does_load (u := (Iv el3)) (ev rfl) Try.isAgg2 (Cells.at hc22_ 0 rfl)).mono ?_; rintro _ _ ⟨rfl, rfl⟩
    exact ⟨fun _ => rfl, Ext.refl _⟩
  refine RW_d _ rfl (fun v => by dsimp only [List.set]; try rfl) (fun u hu hF => ?_) (fun v34 => ?_)
  · have h20_ : β2 = false → v30 = (Iv el2) := hF.1
    have h23_ : β2 = false → v33 = (Iv el3) := hF.2.1
    have h17_ : v27 = (Bo β2) := hF.2.2.1
    clear hF
    obtain rfl := h17_
    refine doesG_g (b := β2) rfl (yld rfl rfl) (fun hg1 => ?_) (fun hc => ⟨fun hg1 => absurd hg1 hc, Ext.refl _⟩)
    obtain rfl := h20_ hg1
    obtain rfl := h23_ hg1
    refine (does_icmp (p := el2) (q := el3) (.inl rfl) (ev rfl) (ev rfl)).mono ?_; rintro _ _ ⟨rfl, rfl⟩
    exact ⟨fun _ => rfl, Ext.refl _⟩
  refine RW_d _ rfl (fun v => by dsimp only [List.set]; try rfl) (fun u hu hF => ?_) (fun v35 => ?_)
  · have h17_ : v27 = (Bo β2) := hF.1
    have h24_ : β2 = false → v34 = (Bo (icmp .eql el2 el3)) := hF.2.1
    clear hF
    refine doesG_un rfl ?_
    skip
    obtain rfl := h17_
    refine (does_pick (b := β2) (u := (Bo true)) (v := v34) (ev rfl) (ev rfl) (ev rfl)).mono ?_; rintro _ _ ⟨rfl, rfl⟩; refine ⟨?_, Ext.refl _⟩; rw [hβ3]; skip
    cases hbb : β2
    all_goals first | (show _ = _; simp only [↓reduceIte, Bool.true_and, Bool.false_and, Bool.true_or, Bool.false_or, Bool.false_eq_true]; done) | (have e_ := h24_ hbb; subst e_; show _ = _; simp only [↓reduceIte, Bool.true_and, Bool.false_and, Bool.true_or, Bool.false_or, Bool.false_eq_true]; done) | rfl | (have e_ := h24_ hbb; subst e_; rfl) | (simp [hbb] at h24_ ⊢; first | done | rfl | (subst h24_; rfl) | simp_all) | (simp [hbb] at h24_ ⊢; done)
  refine RW_d _ rfl (fun v => by dsimp only [List.set]; try rfl) (fun u hu hF => ?_) (fun v36 => ?_)
  · have h25_ : v35 = (Bo β3) := hF.1
    clear hF
    refine doesG_un rfl ?_
    obtain rfl := h25_
    refine (does_move (u := (Bo β3)) (ev rfl)).mono ?_; rintro _ _ ⟨rfl, rfl⟩
    exact ⟨rfl, Ext.refl _⟩
  refine RW_d _ rfl (fun v => by dsimp only [List.set]; try rfl) (fun u hu hF => ?_) (fun v37 => ?_)
  · have h26_ : v36 = (Bo β3) := hF.1
    clear hF
    obtain rfl := h26_
    refine doesG_g (b := β3) rfl (yld rfl rfl) (fun hg1 => ?_) (fun hc => ⟨fun hg1 => absurd hg1 hc, Ext.refl _⟩)
    refine (does_move (u := (.slice p_t_ L_t_.length q_t_)) (ev rfl)).mono ?_; rintro _ _ ⟨rfl, rfl⟩
    exact ⟨fun _ => rfl, Ext.refl _⟩
  refine RW_d _ rfl (fun v => by dsimp only [List.set]; try rfl) (fun u hu hF => ?_) (fun v38 => ?_)
  · have h27_ : β3 = false → v37 = (.slice p_t_ L_t_.length q_t_) := hF.1
    have h26_ : v36 = (Bo β3) := hF.2.1
    clear hF
    obtain rfl := h26_
    refine doesG_g (b := β3) rfl (yld rfl rfl) (fun hg1 => ?_) (fun hc => ⟨fun hg1 => absurd hg1 hc, Ext.refl _⟩)
    obtain rfl := h27_ hg1
    refine (does_indexSl (R := RI) (i := 2) (xs := L_t_) (e := el3) Try.underlying27 Try.sizeOf2 (ev rfl) (ev rfl) (Sl.ext (Sl.ext hv_t_ RI.mono (Ext.gr X8 E12)) RI.mono hu) (by first | omega | (simp only [hβ1, hβ2, hβ3, icmp, Bool.or_eq_false_iff, Bool.not_eq_false', Bool.not_eq_true', decide_eq_true_eq, decide_eq_false_iff_not, bne_eq_false_iff_eq] at hg1; omega) | (simp only [hβ1, hβ2, hβ3, icmp, Bool.or_eq_false_iff, Bool.not_eq_false', Bool.not_eq_true', decide_eq_true_eq, decide_eq_false_iff_not, bne_eq_false_iff_eq] at hg1 hg2; omega)) (hel3 (by first | omega | (simp only [hβ1, hβ2, hβ3, icmp, Bool.or_eq_false_iff, Bool.not_eq_false', Bool.not_eq_true', bne_eq_false_iff_eq] at hg1; omega)))).mono ?_; rintro v u' ⟨b, of, cs, hv, hc, hR, hu'⟩; subst hu'
    exact ⟨fun _ => ⟨b, of, cs, hv, hc, hR⟩, Ext.refl _⟩
  refine RW_d _ rfl (fun v => by dsimp only [List.set]; try rfl) (fun u hu hF => ?_) (fun v39 => ?_)
  · have h28_ : β3 = false → PtrR RI u v38 el3 := hF.1
    have h26_ : v36 = (Bo β3) := hF.2.1
    clear hF
    obtain rfl := h26_
    refine doesG_g (b := β3) rfl (yld rfl rfl) (fun hg1 => ?_) (fun hc => ⟨fun hg1 => absurd hg1 hc, Ext.refl _⟩)
    obtain ⟨b28_, o28_, _, rfl, hc28_, rfl⟩ := h28_ hg1
    refine (does_load (u := (Iv el3)) (ev rfl) Try.isAgg2 (Cells.at hc28_ 0 rfl)).mono ?_; rintro _ _ ⟨rfl, rfl⟩
    exact ⟨fun _ => rfl, Ext.refl _⟩
  refine RW_d _ rfl (fun v => by dsimp only [List.set]; try rfl) (fun u hu hF => ?_) (fun v40 => ?_)
  · have h26_ : v36 = (Bo β3) := hF.1
    clear hF
    obtain rfl := h26_
    refine doesG_g (b := β3) rfl (yld rfl rfl) (fun hg1 => ?_) (fun hc => ⟨fun hg1 => absurd hg1 hc, Ext.refl _⟩)
    refine (does_move (u := (.slice p_t_ L_t_.length q_t_)) (ev rfl)).mono ?_; rintro _ _ ⟨rfl, rfl⟩
    exact ⟨fun _ => rfl, Ext.refl _⟩
  refine RW_d _ rfl (fun v => by dsimp only [List.set]; try rfl) (fun u hu hF => ?_) (fun v41 => ?_)
  · have h30_ : β3 = false → v40 = (.slice p_t_ L_t_.length q_t_) := hF.1
    have h26_ : v36 = (Bo β3) := hF.2.1
    clear hF
    obtain rfl := h26_
    refine doesG_g (b := β3) rfl (yld rfl rfl) (fun hg1 => ?_) (fun hc => ⟨fun hg1 => absurd hg1 hc, Ext.refl _⟩)
    obtain rfl := h30_ hg1
    refine (does_indexSl (R := RI) (i := 0) (xs := L_t_) (e := el1) Try.underlying27 Try.sizeOf2 (ev rfl) (ev rfl) (Sl.ext (Sl.ext hv_t_ RI.mono (Ext.gr X8 E12)) RI.mono hu) (by first | omega | (simp only [hβ1, hβ2, hβ3, icmp, Bool.or_eq_false_iff, Bool.not_eq_false', Bool.not_eq_true', decide_eq_true_eq, decide_eq_false_iff_not, bne_eq_false_iff_eq] at hg1; omega) | (simp only [hβ1, hβ2, hβ3, icmp, Bool.or_eq_false_iff, Bool.not_eq_false', Bool.not_eq_true', decide_eq_true_eq, decide_eq_false_iff_not, bne_eq_false_iff_eq] at hg1 hg2; omega)) (hel1 (by first | omega | (simp only [hβ1, hβ2, hβ3, icmp, Bool.or_eq_false_iff, Bool.not_eq_false', Bool.not_eq_true', bne_eq_false_iff_eq] at hg1; omega)))).mono ?_; rintro v u' ⟨b, of, cs, hv, hc, hR, hu'⟩; subst hu'
    exact ⟨fun _ => ⟨b, of, cs, hv, hc, hR⟩, Ext.refl _⟩
  refine RW_d _ rfl (fun v => by dsimp only [List.set]; try rfl) (fun u hu hF => ?_) (fun v42 => ?_)
  · have h31_ : β3 = false → PtrR RI u v41 el1 := hF.1
    have h26_ : v36 = (Bo β3) := hF.2.1
    clear hF
    obtain rfl := h26_
    refine doesG_g (b := β3) rfl (yld rfl rfl) (fun hg1 => ?_) (fun hc => ⟨fun hg1 => absurd hg1 hc, Ext.refl _⟩)
    obtain ⟨b31_, o31_, _, rfl, hc31_, rfl⟩ := h31_ hg1
    refine (does_load (u := (Iv el1)) (ev rfl) Try.isAgg2 (Cells.at hc31_ 0 rfl)).mono ?_; rintro _ _ ⟨rfl, rfl⟩
    exact ⟨fun _ => rfl, Ext.refl _⟩
  refine RW_d _ rfl (fun v => by dsimp only [List.set]; try rfl) (fun u hu hF => ?_) (fun v43 => ?_)
  · have h29_ : β3 = false → v39 = (Iv el3) := hF.1
    have h32_ : β3 = false → v42 = (Iv el1) := hF.2.1
    have h26_ : v36 = (Bo β3) := hF.2.2.1
    clear hF
    obtain rfl := h26_
    refine doesG_g (b := β3) rfl (yld rfl rfl) (fun hg1 => ?_) (fun hc => ⟨fun hg1 => absurd hg1 hc, Ext.refl _⟩)
    obtain rfl := h29_ hg1
    obtain rfl := h32_ hg1
    refine (does_icmp (p := el3) (q := el1) (.inl rfl) (ev rfl) (ev rfl)).mono ?_; rintro _ _ ⟨rfl, rfl⟩
    exact ⟨fun _ => rfl, Ext.refl _⟩
  refine RW_d _ rfl (fun v => by dsimp only [List.set]; try rfl) (fun u hu hF => ?_) (fun v44 => ?_)
  · have h26_ : v36 = (Bo β3) := hF.1
    have h33_ : β3 = false → v43 = (Bo (icmp .eql el3 el1)) := hF.2.1
    clear hF
    refine doesG_un rfl ?_
    skip
    obtain rfl := h26_
    refine (does_pick (b := β3) (u := (Bo true)) (v := v43) (ev rfl) (ev rfl) (ev rfl)).mono ?_; rintro _ _ ⟨rfl, rfl⟩; refine ⟨?_, Ext.refl _⟩; rw [hβ4]; skip
    cases hbb : β3
    all_goals first | (show _ = _; simp only [↓reduceIte, Bool.true_and, Bool.false_and, Bool.true_or, Bool.false_or, Bool.false_eq_true]; done) | (have e_ := h33_ hbb; subst e_; show _ = _; simp only [↓reduceIte, Bool.true_and, Bool.false_and, Bool.true_or, Bool.false_or, Bool.false_eq_true]; done) | rfl | (have e_ := h33_ hbb; subst e_; rfl) | (simp [hbb] at h33_ ⊢; first | done | rfl | (subst h33_; rfl) | simp_all) | (simp [hbb] at h33_ ⊢; done)
  refine RW_fin ?_; intro w45 E46 hP47
  obtain ⟨⟨⟨⟨⟨⟨⟨⟨⟨⟨⟨⟨⟨⟨⟨⟨⟨⟨⟨⟨⟨⟨⟨⟨⟨⟨⟨⟨⟨⟨-, -⟩, -⟩, -⟩, -⟩, -⟩, -⟩, -⟩, -⟩, -⟩, -⟩, -⟩, -⟩, -⟩, -⟩, -⟩, -⟩, -⟩, -⟩, -⟩, -⟩, -⟩, -⟩, -⟩, -⟩, -⟩, -⟩, -⟩, -⟩, -⟩, q48⟩ := hP47
  have X49 := Ext.gr X14 E46
  have q48 : v44 = (Bo β4) := q48
  obtain rfl := q48
  show wpList _ _ _ _ (fr [_, _, _, _, _, _, _, _, _, _, _, _, _, _, _, _, _, _, _, _, _, _, _, _, _, _, _, _, _, _, _, _, _, _, _, _, _, _, _]) _
  refine wpList_nil (hK10 _ _ ?_)
  refine wp_cond_split (t := β4) (ev rfl) (fun c50 => ?_) (fun c50 => ?_)
  · have c50' := c50
    (try simp only [hβ1, hβ2, hβ3, hβ4] at c50')
    (try simp only [icmp, Bool.and_eq_true, Bool.or_eq_true, Bool.and_eq_false_iff, Bool.or_eq_false_iff, Bool.not_eq_true', Bool.not_eq_false', decide_eq_true_eq, decide_eq_false_iff_not, beq_iff_eq, bne_iff_ne, beq_eq_false_iff_ne, bne_eq_false_iff_eq] at c50')
    refine wp_seq_k fun K51 hK51 => ?_
    refine wp_region_lit ?_
    refine q_is rfl rfl (does_assign (u := (Bo false)) (ev rfl)) (by dsimp only [List.set]; try rfl) ?_
    refine wpList_nil (hK51 _ _ ?_)
    refine wp_ret ?_
    dsimp only [Exit.then, Exit.inBlock]
    refine ret_val (v := (Bo false)) (res_T rfl (slot rfl)) X49 ?_
    try simp only [hβ1, hβ2, hβ3, hβ4] at c50
    have x52 : (triOk n_ L_t_) = false := by first | exact triOk_bad (by assumption) (by assumption) (by assumption) (by assumption) | exact triOk_any (by assumption) (by assumption) (by assumption) (by assumption)
    exact (by first | with_reducible rfl | rw [x52] | rfl)
  have c50' := c50
  (try simp only [hβ1, hβ2, hβ3, hβ4] at c50')
  (try simp only [icmp, Bool.and_eq_true, Bool.or_eq_true, Bool.and_eq_false_iff, Bool.or_eq_false_iff, Bool.not_eq_true', Bool.not_eq_false', decide_eq_true_eq, decide_eq_false_iff_not, beq_iff_eq, bne_iff_ne, beq_eq_false_iff_ne, bne_eq_false_iff_eq] at c50')
  refine wp_skip (hK9 _ _ ?_)
  refine wp_seq_k fun K53 hK53 => ?_
  refine wp_region_lit ?_
  refine q_is rfl rfl (does_move (u := (.slice p_t_ L_t_.length q_t_)) (ev rfl)) (by dsimp only [List.set]; try rfl) ?_
  refine q_is rfl rfl (does_makeFunc (u := (.func (.func 56) #[] #[(Pt b2 0)])) (evs rfl) (evs rfl) rfl) (by dsimp only [List.set]; try rfl) ?_
  refine seqd rfl rfl (does_call (args := #[(.slice p_t_ L_t_.length q_t_), (.func (.func 56) #[] #[(Pt b2 0)])]) cal55 (evs rfl) (c_slices_ContainsFunc_int64_int64 (.slice p_t_ L_t_.length q_t_) L_t_ (.func (.func 56) #[] #[(Pt b2 0)]) (fun x => !inI x 0 (IntKind.i64.wrap (n_ - 1))) _ (Sl.ext hv_t_ RI.mono X49) ⟨56, #[], #[(Pt b2 0)], rfl, cal56, fun n0 u hu'  => by simpa using (c_impl_isTriangle_1 n0 b2 0 n_ u (Blk.cells (((hB4.ext E12).ext E46).ext hu')))⟩)) ?_; rintro _ w55 ⟨E54, rfl⟩
  have X56 := Ext.gr X49 E54
  show wpList _ _ _ _ (fr [_, _, _, _, _, _, _, _, _, _, _, _, _, _, _, _, _, _, _, _, _, _, _, _, _, _, _, _, _, _, _, _, _, _, _, _, _, _, _]) _
  refine q_is rfl rfl (does_not (ev rfl)) (by dsimp only [List.set]; try rfl) ?_
  refine q_is rfl rfl (does_assign (u := (Bo (!(L_t_.any (fun x => !inI x 0 (IntKind.i64.wrap (n_ - 1))))))) (ev rfl)) (by dsimp only [List.set]; try rfl) ?_
  refine wpList_nil (hK53 _ _ ?_)
  refine wp_ret ?_
  refine ret_val (v := (Bo (!(L_t_.any (fun x => !inI x 0 (IntKind.i64.wrap (n_ - 1))))))) (res_T rfl (slot rfl)) X56 ?_
  try simp only [hβ1, hβ2, hβ3, hβ4] at c50
  have x57 : (triOk n_ L_t_) = (!(L_t_.any (fun x => !inI x 0 (IntKind.i64.wrap (n_ - 1))))) := by first | exact triOk_bad (by assumption) (by assumption) (by assumption) (by assumption) | exact triOk_any (by assumption) (by assumption) (by assumption) (by assumption)
  exact (by first | with_reducible rfl | rw [x57] | rfl)

/- impl.ValidMesh$1 -/
theorem c_impl_ValidMesh_1 (t_ : Value) (L_t_ : List Int) (m_b : Nat) (m_o : Nat) (m : List Value) (A_m : MeshT) (w : World) (hv_t_ : Sl RI 1 w t_ L_t_) (hc_m : Cells w m_b m_o m) (hv_m : RMeshT w A_m m) : Gives Try.prog 47 #[t_, (Pt m_b m_o)] w (fun v w' => v = (Bo (!triOk (A_m.places.length : Int) L_t_))) := by
  have hlen_t_ := Sl.len hv_t_; obtain ⟨p_t_, q_t_, rfl⟩ := Sl.shape hv_t_
  obtain ⟨y1, y3, rfl, h2, h4⟩ := hv_m
  have hs7 := h2; have hs7l := Sl.len h2; obtain ⟨p5, q6, rfl⟩ := Sl.shape h2
  have hs10 := h4; have hs10l := Sl.len h4; obtain ⟨p8, q9, rfl⟩ := Sl.shape h4
  refine enter [(.slice p_t_ L_t_.length q_t_), (Pt m_b m_o), Ud, Ud, Ud, Ud, Ud, Ud, Ud, Ud] Try.func47 rfl Try.ntmps47 rfl ?_
  refine wp_seq_k fun K11 hK11 => ?_
  refine wp_region_lit ?_
  refine q_is (l' := [(.slice p_t_ L_t_.length q_t_), (Pt m_b m_o), Ud, (Bo false), Ud, Ud, Ud, Ud, Ud, Ud]) rfl rfl (does_assign (u := (Bo false)) (ev rfl)) rfl ?_
  refine wpList_nil (hK11 _ _ ?_)
  refine wp_seq_k fun K12 hK12 => ?_
  refine wp_region_lit ?_
  refine q_is (l' := [(.slice p_t_ L_t_.length q_t_), (Pt m_b m_o), Ud, (Bo false), (.slice p_t_ L_t_.length q_t_), Ud, Ud, Ud, Ud, Ud]) rfl rfl (does_move (u := (.slice p_t_ L_t_.length q_t_)) (ev rfl)) rfl ?_
  refine q_is (l' := [(.slice p_t_ L_t_.length q_t_), (Pt m_b m_o), Ud, (Bo false), (.slice p_t_ L_t_.length q_t_), (Pt m_b m_o), Ud, Ud, Ud, Ud]) rfl rfl (does_fieldAddr (ev rfl) fa32_0) rfl ?_
  refine q_is (l' := [(.slice p_t_ L_t_.length q_t_), (Pt m_b m_o), Ud, (Bo false), (.slice p_t_ L_t_.length q_t_), (Pt m_b m_o), (.slice p5 A_m.places.length q6), Ud, Ud, Ud]) rfl rfl (does_load (u := (.slice p5 A_m.places.length q6)) (ev rfl) Try.isAgg30 (Cells.at hc_m 0 rfl)) rfl ?_
  refine q_is (l' := [(.slice p_t_ L_t_.length q_t_), (Pt m_b m_o), Ud, (Bo false), (.slice p_t_ L_t_.length q_t_), (Pt m_b m_o), (.slice p5 A_m.places.length q6), (Iv (A_m.places.length : Int)), Ud, Ud]) rfl rfl (does_len_slice Try.underlying30 (ev rfl)) rfl ?_
  refine seqd rfl rfl (does_call (args := #[(.slice p_t_ L_t_.length q_t_), (Iv (A_m.places.length : Int))]) cal48 (evs rfl) (c_impl_isTriangle (.slice p_t_ L_t_.length q_t_) L_t_ (A_m.places.length : Int) _ hv_t_)) ?_; rintro _ w14 ⟨E13, rfl⟩
  have X15 := Ext.gr (Ext.refl w) E13
  show wpList _ _ _ _ (fr [(.slice p_t_ L_t_.length q_t_), (Pt m_b m_o), Ud, (Bo false), (.slice p_t_ L_t_.length q_t_), (Pt m_b m_o), (.slice p5 A_m.places.length q6), (Iv (A_m.places.length : Int)), (Bo (triOk (A_m.places.length : Int) L_t_)), Ud]) _
  refine q_is (l' := [(.slice p_t_ L_t_.length q_t_), (Pt m_b m_o), Ud, (Bo false), (.slice p_t_ L_t_.length q_t_), (Pt m_b m_o), (.slice p5 A_m.places.length q6), (Iv (A_m.places.length : Int)), (Bo (triOk (A_m.places.length : Int) L_t_)), (Bo (!(triOk (A_m.places.length : Int) L_t_)))]) rfl rfl (does_not (ev rfl)) rfl ?_
  refine q_is (l' := [(.slice p_t_ L_t_.length q_t_), (Pt m_b m_o), Ud, (Bo (!(triOk (A_m.places.length : Int) L_t_))), (.slice p_t_ L_t_.length q_t_), (Pt m_b m_o), (.slice p5 A_m.places.length q6), (Iv (A_m.places.length : Int)), (Bo (triOk (A_m.places.length : Int) L_t_)), (Bo (!(triOk (A_m.places.length : Int) L_t_)))]) rfl rfl (does_assign (u := (Bo (!(triOk (A_m.places.length : Int) L_t_)))) (ev rfl)) rfl ?_
  refine wpList_nil (hK12 _ _ ?_)
  refine wp_ret ?_
  refine ret_val (v := (Bo (!(triOk (A_m.places.length : Int) L_t_)))) (res_T rfl (slot rfl)) X15 ?_
  have x16 : (!triOk (A_m.places.length : Int) L_t_) = (!(triOk (A_m.places.length : Int) L_t_)) := by first | with_reducible rfl | (simp only []; done) | (simp []; done) | rfl
  exact (by first | with_reducible rfl | rw [x16] | rfl)

/- impl.ValidMesh -/
theorem c_impl_ValidMesh (m : List Value) (A_m : MeshT) (w : World) (hv_m : RMeshT w A_m m) : Gives Try.prog 29 #[(.agg m.toArray)] w (fun v w' => v = (Bo (meshOk A_m))) := by
  obtain ⟨y1, y3, rfl, h2, h4⟩ := hv_m
  have hs7 := h2; have hs7l := Sl.len h2; obtain ⟨p5, q6, rfl⟩ := Sl.shape h2
  have hs10 := h4; have hs10l := Sl.len h4; obtain ⟨p8, q9, rfl⟩ := Sl.shape h4
  refine enter [(.agg #[(.slice p5 A_m.places.length q6), (.slice p8 A_m.tris.length q9)]), Ud, Ud, Ud, Ud, Ud, Ud, Ud, Ud, Ud, Ud, Ud, Ud, Ud, Ud, Ud, Ud, Ud, Ud, Ud, Ud, Ud] Try.func29 rfl Try.ntmps29 rfl ?_
  refine wp_seq_k fun K11 hK11 => ?_
  refine wp_region_lit ?_
  refine seqd rfl rfl (does_box (u := (.agg #[(.slice p5 A_m.places.length q6), (.slice p8 A_m.tris.length q9)])) (ev rfl)) ?_; rintro _ w16 ⟨b12, rfl, hb13, hB14, E15⟩
  have g17 : w.heap.size ≤ b12 := Nat.le_trans (Below.size (Ext.refl w)) hb13
  change Blk _ _ [(.slice p5 A_m.places.length q6), (.slice p8 A_m.tris.length q9)] at hB14
  have X18 := Ext.gr (Ext.refl w) E15
  show wpList _ _ _ _ (fr [(.agg #[(.slice p5 A_m.places.length q6), (.slice p8 A_m.tris.length q9)]), (Pt b12 0), Ud, Ud, Ud, Ud, Ud, Ud, Ud, Ud, Ud, Ud, Ud, Ud, Ud, Ud, Ud, Ud, Ud, Ud, Ud, Ud]) _
  refine q_is (l' := [(.agg #[(.slice p5 A_m.places.length q6), (.slice p8 A_m.tris.length q9)]), (Pt b12 0), (Bo false), Ud, Ud, Ud, Ud, Ud, Ud, Ud, Ud, Ud, Ud, Ud, Ud, Ud, Ud, Ud, Ud, Ud, Ud, Ud]) rfl rfl (does_assign (u := (Bo false)) (ev rfl)) rfl ?_
  refine wpList_nil (hK11 _ _ ?_)
  refine wp_seq_k fun K19 hK19 => ?_
  refine wp_region_lit ?_
  refine q_is (l' := [(.agg #[(.slice p5 A_m.places.length q6), (.slice p8 A_m.tris.length q9)]), (Pt b12 0), (Bo false), Ud, (Pt b12 1), Ud, Ud, Ud, Ud, Ud, Ud, Ud, Ud, Ud, Ud, Ud, Ud, Ud, Ud, Ud, Ud, Ud]) rfl rfl (does_fieldAddr (ev rfl) fa32_1) rfl ?_
  refine q_is (l' := [(.agg #[(.slice p5 A_m.places.length q6), (.slice p8 A_m.tris.length q9)]), (Pt b12 0), (Bo false), Ud, (Pt b12 1), (.slice p8 A_m.tris.length q9), Ud, Ud, Ud, Ud, Ud, Ud, Ud, Ud, Ud, Ud, Ud, Ud, Ud, Ud, Ud, Ud]) rfl rfl (does_load (u := (.slice p8 A_m.tris.length q9)) (ev rfl) Try.isAgg23 (Cells.at (Blk.cells hB14) 1 rfl)) rfl ?_
  refine q_is (l' := [(.agg #[(.slice p5 A_m.places.length q6), (.slice p8 A_m.tris.length q9)]), (Pt b12 0), (Bo false), Ud, (Pt b12 1), (.slice p8 A_m.tris.length q9), (.func (.func 47) #[] #[(Pt b12 0)]), Ud, Ud, Ud, Ud, Ud, Ud, Ud, Ud, Ud, Ud, Ud, Ud, Ud, Ud, Ud]) rfl rfl (does_makeFunc (u := (.func (.func 47) #[] #[(Pt b12 0)])) (evs rfl) (evs rfl) rfl) rfl ?_
  refine seqd rfl rfl (does_call (args := #[(.slice p8 A_m.tris.length q9), (.func (.func 47) #[] #[(Pt b12 0)])]) cal46 (evs rfl) (c_slices_ContainsFunc_SS_int64_int64 (.slice p8 A_m.tris.length q9) A_m.tris (.func (.func 47) #[] #[(Pt b12 0)]) (fun x => !triOk (A_m.places.length : Int) x) _ (Sl.ext hs10 (RS.mono RI.mono) X18) ⟨47, #[], #[(Pt b12 0)], rfl, cal47, fun y0 X0 u hu' ha0 => by simpa using (c_impl_ValidMesh_1 y0 X0 b12 0 [(.slice p5 A_m.places.length q6), (.slice p8 A_m.tris.length q9)] A_m u ha0 (Blk.cells (hB14.ext hu')) ⟨(.slice p5 A_m.places.length q6), (.slice p8 A_m.tris.length q9), rfl, (Sl.ext (Sl.ext hs7 RV3.mono X18) RV3.mono hu'), (Sl.ext (Sl.ext hs10 (RS.mono RI.mono) X18) (RS.mono RI.mono) hu')⟩)⟩)) ?_; rintro _ w21 ⟨E20, rfl⟩
  have X22 := Ext.gr X18 E20
  show wpList _ _ _ _ (fr [(.agg #[(.slice p5 A_m.places.length q6), (.slice p8 A_m.tris.length q9)]), (Pt b12 0), (Bo false), Ud, (Pt b12 1), (.slice p8 A_m.tris.length q9), (.func (.func 47) #[] #[(Pt b12 0)]), (Bo (A_m.tris.any (fun x => !triOk (A_m.places.length : Int) x))), Ud, Ud, Ud, Ud, Ud, Ud, Ud, Ud, Ud, Ud, Ud, Ud, Ud, Ud]) _
  refine q_is (l' := [(.agg #[(.slice p5 A_m.places.length q6), (.slice p8 A_m.tris.length q9)]), (Pt b12 0), (Bo false), (Bo (A_m.tris.any (fun x => !triOk (A_m.places.length : Int) x))), (Pt b12 1), (.slice p8 A_m.tris.length q9), (.func (.func 47) #[] #[(Pt b12 0)]), (Bo (A_m.tris.any (fun x => !triOk (A_m.places.length : Int) x))), Ud, Ud, Ud, Ud, Ud, Ud, Ud, Ud, Ud, Ud, Ud, Ud, Ud, Ud]) rfl rfl (does_assign (u := (Bo (A_m.tris.any (fun x => !triOk (A_m.places.length : Int) x)))) (ev rfl)) rfl ?_
  refine wpList_nil (hK19 _ _ ?_)
  refine wp_seq_k fun K23 hK23 => ?_
  obtain ⟨β1, hβ1⟩ : ∃ b : Bool, b = (A_m.tris.any (fun x => !triOk (A_m.places.length : Int) x)) := ⟨_, rfl⟩
  obtain ⟨β2, hβ2⟩ : ∃ b : Bool, b = (icmp .leq (A_m.places.length : Int) 8192) := ⟨_, rfl⟩
  obtain ⟨β3, hβ3⟩ : ∃ b : Bool, b = (icmp .leq (A_m.tris.length : Int) 9000) := ⟨_, rfl⟩
  refine region_text (
    [Fact.pure [] (fun v => v = (Bo β1)),
    Fact.pure [8] (fun v => v = (Bo (!β1))),
    Fact.pure [9] (fun v => v = (Bo (!β1))),
    Fact.pure [10] (fun v => (!β1) = true → v = (Pt b12 0)),
    Fact.pure [11, 10] (fun v => (!β1) = true → v = (.slice p5 A_m.places.length q6)),
    Fact.pure [12, 10] (fun v => (!β1) = true → v = (Iv (A_m.places.length : Int))),
    Fact.pure [13, 10] (fun v => (!β1) = true → v = (Bo β2)),
    Fact.pure [10, 14] (fun v => v = (Bo ((!β1) && β2))),
    Fact.pure [15] (fun v => v = (Bo ((!β1) && β2))),
    Fact.pure [16] (fun v => ((!β1) && β2) = true → v = (Pt b12 1)),
    Fact.pure [17, 16] (fun v => ((!β1) && β2) = true → v = (.slice p8 A_m.tris.length q9)),
    Fact.pure [18, 16] (fun v => ((!β1) && β2) = true → v = (Iv (A_m.tris.length : Int))),
    Fact.pure [19, 16] (fun v => ((!β1) && β2) = true → v = (Bo β3)),
    Fact.pure [16, 20] (fun v => v = (Bo (((!β1) && β2) && β3)))]) (by simp [Fact.pure, Fact.mem]) ?_
  refine RW_d (fun v24 => [(.agg #[(.slice p5 A_m.places.length q6), (.slice p8 A_m.tris.length q9)]), (Pt b12 0), (Bo false), (Bo (A_m.tris.any (fun x => !triOk (A_m.places.length : Int) x))), (Pt b12 1), (.slice p8 A_m.tris.length q9), (.func (.func 47) #[] #[(Pt b12 0)]), (Bo (A_m.tris.any (fun x => !triOk (A_m.places.length : Int) x))), v24, Ud, Ud, Ud, Ud, Ud, Ud, Ud, Ud, Ud, Ud, Ud, Ud, Ud]) rfl (fun _ => rfl) (fun u hu hF => ?_) (fun v24 => ?_)
  · clear hF
    refine doesG_un rfl ?_
    refine (does_move (u := (Bo (A_m.tris.any (fun x => !triOk (A_m.places.length : Int) x)))) (ev rfl)).mono ?_; rintro _ _ ⟨rfl, rfl⟩
    exact ⟨(by first | rfl | (show _ = _; simp only [hβ1]; done) | (show _ = _; simp only [hβ1]; rfl)), Ext.refl _⟩
  refine RW_d (fun v25 => [(.agg #[(.slice p5 A_m.places.length q6), (.slice p8 A_m.tris.length q9)]), (Pt b12 0), (Bo false), (Bo (A_m.tris.any (fun x => !triOk (A_m.places.length : Int) x))), (Pt b12 1), (.slice p8 A_m.tris.length q9), (.func (.func 47) #[] #[(Pt b12 0)]), (Bo (A_m.tris.any (fun x => !triOk (A_m.places.length : Int) x))), v24, v25, Ud, Ud, Ud, Ud, Ud, Ud, Ud, Ud, Ud, Ud, Ud, Ud]) rfl (fun _ => rfl) (fun u hu hF => ?_) (fun v25 => ?_)
  · have h8_ : v24 = (Bo β1) := hF.1
    clear hF
    refine doesG_un rfl ?_
    obtain rfl := h8_
    refine (does_not (ev rfl)).mono ?_; rintro _ _ ⟨rfl, rfl⟩
    exact ⟨rfl, Ext.refl _⟩
  refine RW_d (fun v26 => [(.agg #[(.slice p5 A_m.places.length q6), (.slice p8 A_m.tris.length q9)]), (Pt b12 0), (Bo false), (Bo (A_m.tris.any (fun x => !triOk (A_m.places.length : Int) x))), (Pt b12 1), (.slice p8 A_m.tris.length q9), (.func (.func 47) #[] #[(Pt b12 0)]), (Bo (A_m.tris.any (fun x => !triOk (A_m.places.length : Int) x))), v24, v25, v26, Ud, Ud, Ud, Ud, Ud, Ud, Ud, Ud, Ud, Ud, Ud]) rfl (fun _ => rfl) (fun u hu hF => ?_) (fun v26 => ?_)
  · have h9_ : v25 = (Bo (!β1)) := hF.1
    clear hF
    refine doesG_un rfl ?_
    obtain rfl := h9_
    refine (does_move (u := (Bo (!β1))) (ev rfl)).mono ?_; rintro _ _ ⟨rfl, rfl⟩
    exact ⟨rfl, Ext.refl _⟩
  refine RW_d (fun v27 => [(.agg #[(.slice p5 A_m.places.length q6), (.slice p8 A_m.tris.length q9)]), (Pt b12 0), (Bo false), (Bo (A_m.tris.any (fun x => !triOk (A_m.places.length : Int) x))), (Pt b12 1), (.slice p8 A_m.tris.length q9), (.func (.func 47) #[] #[(Pt b12 0)]), (Bo (A_m.tris.any (fun x => !triOk (A_m.places.length : Int) x))), v24, v25, v26, v27, Ud, Ud, Ud, Ud, Ud, Ud, Ud, Ud, Ud, Ud]) rfl (fun _ => rfl) (fun u hu hF => ?_) (fun v27 => ?_)
  · have h10_ : v26 = (Bo (!β1)) := hF.1
    clear hF
    obtain rfl := h10_
    refine doesG_g (b := (!β1)) rfl (yld rfl rfl) (fun hg1 => ?_) (fun hc => ⟨fun hg1 => absurd hg1 hc, Ext.refl _⟩)
    refine (does_fieldAddr (ev rfl) fa32_0).mono ?_; rintro _ _ ⟨rfl, rfl⟩
    exact ⟨fun _ => rfl, Ext.refl _⟩
  refine RW_d (fun v28 => [(.agg #[(.slice p5 A_m.places.length q6), (.slice p8 A_m.tris.length q9)]), (Pt b12 0), (Bo false), (Bo (A_m.tris.any (fun x => !triOk (A_m.places.length : Int) x))), (Pt b12 1), (.slice p8 A_m.tris.length q9), (.func (.func 47) #[] #[(Pt b12 0)]), (Bo (A_m.tris.any (fun x => !triOk (A_m.places.length : Int) x))), v24, v25, v26, v27, v28, Ud, Ud, Ud, Ud, Ud, Ud, Ud, Ud, Ud]) rfl (fun _ => rfl) (fun u hu hF => ?_) (fun v28 => ?_)
  · have h11_ : (!β1) = true → v27 = (Pt b12 0) := hF.1
    have h10_ : v26 = (Bo (!β1)) := hF.2.1
    clear hF
    obtain rfl := h10_
    refine doesG_g (b := (!β1)) rfl (yld rfl rfl) (fun hg1 => ?_) (fun hc => ⟨fun hg1 => absurd hg1 hc, Ext.refl _⟩)
    obtain rfl := h11_ hg1
    refine (does_load (u := (.slice p5 A_m.places.length q6)) (ev rfl) Try.isAgg30 (Cells.at (Blk.cells ((hB14.ext E20).ext hu)) 0 rfl)).mono ?_; rintro _ _ ⟨rfl, rfl⟩
    exact ⟨fun _ => rfl, Ext.refl _⟩
  refine RW_d (fun v29 => [(.agg #[(.slice p5 A_m.places.length q6), (.slice p8 A_m.tris.length q9)]), (Pt b12 0), (Bo false), (Bo (A_m.tris.any (fun x => !triOk (A_m.places.length : Int) x))), (Pt b12 1), (.slice p8 A_m.tris.length q9), (.func (.func 47) #[] #[(Pt b12 0)]), (Bo (A_m.tris.any (fun x => !triOk (A_m.places.length : Int) x))), v24, v25, v26, v27, v28, v29, Ud, Ud, Ud, Ud, Ud, Ud, Ud, Ud]) rfl (fun _ => rfl) (fun u hu hF => ?_) (fun v29 => ?_)
  · have h12_ : (!β1) = true → v28 = (.slice p5 A_m.places.length q6) := hF.1
    have h10_ : v26 = (Bo (!β1)) := hF.2.1
    clear hF
    obtain rfl := h10_
    refine doesG_g (b := (!β1)) rfl (yld rfl rfl) (fun hg1 => ?_) (fun hc => ⟨fun hg1 => absurd hg1 hc, Ext.refl _⟩)
    obtain rfl := h12_ hg1
    refine (does_len_slice Try.underlying30 (ev rfl)).mono ?_; rintro _ _ ⟨rfl, rfl⟩
    exact ⟨fun _ => rfl, Ext.refl _⟩
  refine RW_d (fun v30 => [(.agg #[(.slice p5 A_m.places.length q6), (.slice p8 A_m.tris.length q9)]), (Pt b12 0), (Bo false), (Bo (A_m.tris.any (fun x => !triOk (A_m.places.length : Int) x))), (Pt b12 1), (.slice p8 A_m.tris.length q9), (.func (.func 47) #[] #[(Pt b12 0)]), (Bo (A_m.tris.any (fun x => !triOk (A_m.places.length : Int) x))), v24, v25, v26, v27, v28, v29, v30, Ud, Ud, Ud, Ud, Ud, Ud, Ud]) rfl (fun _ => rfl) (fun u hu hF => ?_) (fun v30 => ?_)
  · have h13_ : (!β1) = true → v29 = (Iv (A_m.places.length : Int)) := hF.1
    have h10_ : v26 = (Bo (!β1)) := hF.2.1
    clear hF
    obtain rfl := h10_
    refine doesG_g (b := (!β1)) rfl (yld rfl rfl) (fun hg1 => ?_) (fun hc => ⟨fun hg1 => absurd hg1 hc, Ext.refl _⟩)
    obtain rfl := h13_ hg1
    refine (does_icmp (p := (A_m.places.length : Int)) (q := 8192) (.inr (.inr (.inr (.inl rfl)))) (ev rfl) (ev rfl)).mono ?_; rintro _ _ ⟨rfl, rfl⟩
    exact ⟨fun _ => (by first | rfl | (show _ = _; simp only [hβ2]; done) | (show _ = _; simp only [hβ2]; rfl)), Ext.refl _⟩
  refine RW_d (fun v31 => [(.agg #[(.slice p5 A_m.places.length q6), (.slice p8 A_m.tris.length q9)]), (Pt b12 0), (Bo false), (Bo (A_m.tris.any (fun x => !triOk (A_m.places.length : Int) x))), (Pt b12 1), (.slice p8 A_m.tris.length q9), (.func (.func 47) #[] #[(Pt b12 0)]), (Bo (A_m.tris.any (fun x => !triOk (A_m.places.length : Int) x))), v24, v25, v26, v27, v28, v29, v30, v31, Ud, Ud, Ud, Ud, Ud, Ud]) rfl (fun _ => rfl) (fun u hu hF => ?_) (fun v31 => ?_)
  · have h10_ : v26 = (Bo (!β1)) := hF.1
    have h14_ : (!β1) = true → v30 = (Bo β2) := hF.2.1
    clear hF
    refine doesG_un rfl ?_
    skip
    obtain rfl := h10_
    refine (does_pick (b := (!β1)) (u := v30) (v := (Bo false)) (ev rfl) (ev rfl) (ev rfl)).mono ?_; rintro _ _ ⟨rfl, rfl⟩; refine ⟨?_, Ext.refl _⟩; skip
    cases hbb : (!β1)
    all_goals first | (show _ = _; simp only [↓reduceIte, Bool.true_and, Bool.false_and, Bool.true_or, Bool.false_or, Bool.false_eq_true]; done) | (have e_ := h14_ hbb; subst e_; show _ = _; simp only [↓reduceIte, Bool.true_and, Bool.false_and, Bool.true_or, Bool.false_or, Bool.false_eq_true]; done) | rfl | (have e_ := h14_ hbb; subst e_; rfl) | (simp [hbb] at h14_ ⊢; first | done | rfl | (subst h14_; rfl) | simp_all) | (simp [hbb] at h14_ ⊢; done)
  refine RW_d (fun v32 => [(.agg #[(.slice p5 A_m.places.length q6), (.slice p8 A_m.tris.length q9)]), (Pt b12 0), (Bo false), (Bo (A_m.tris.any (fun x => !triOk (A_m.places.length : Int) x))), (Pt b12 1), (.slice p8 A_m.tris.length q9), (.func (.func 47) #[] #[(Pt b12 0)]), (Bo (A_m.tris.any (fun x => !triOk (A_m.places.length : Int) x))), v24, v25, v26, v27, v28, v29, v30, v31, v32, Ud, Ud, Ud, Ud, Ud]) rfl (fun _ => rfl) (fun u hu hF => ?_) (fun v32 => ?_)
  · have h15_ : v31 = (Bo ((!β1) && β2)) := hF.1
    clear hF
    refine doesG_un rfl ?_
    obtain rfl := h15_
    refine (does_move (u := (Bo ((!β1) && β2))) (ev rfl)).mono ?_; rintro _ _ ⟨rfl, rfl⟩
    exact ⟨rfl, Ext.refl _⟩
  refine RW_d (fun v33 => [(.agg #[(.slice p5 A_m.places.length q6), (.slice p8 A_m.tris.length q9)]), (Pt b12 0), (Bo false), (Bo (A_m.tris.any (fun x => !triOk (A_m.places.length : Int) x))), (Pt b12 1), (.slice p8 A_m.tris.length q9), (.func (.func 47) #[] #[(Pt b12 0)]), (Bo (A_m.tris.any (fun x => !triOk (A_m.places.length : Int) x))), v24, v25, v26, v27, v28, v29, v30, v31, v32, v33, Ud, Ud, Ud, Ud]) rfl (fun _ => rfl) (fun u hu hF => ?_) (fun v33 => ?_)
  · have h16_ : v32 = (Bo ((!β1) && β2)) := hF.1
    clear hF
    obtain rfl := h16_
    refine doesG_g (b := ((!β1) && β2)) rfl (yld rfl rfl) (fun hg1 => ?_) (fun hc => ⟨fun hg1 => absurd hg1 hc, Ext.refl _⟩)
    refine (does_fieldAddr (ev rfl) fa32_1).mono ?_; rintro _ _ ⟨rfl, rfl⟩
    exact ⟨fun _ => rfl, Ext.refl _⟩
  refine RW_d (fun v34 => [(.agg #[(.slice p5 A_m.places.length q6), (.slice p8 A_m.tris.length q9)]), (Pt b12 0), (Bo false), (Bo (A_m.tris.any (fun x => !triOk (A_m.places.length : Int) x))), (Pt b12 1), (.slice p8 A_m.tris.length q9), (.func (.func 47) #[] #[(Pt b12 0)]), (Bo (A_m.tris.any (fun x => !triOk (A_m.places.length : Int) x))), v24, v25, v26, v27, v28, v29, v30, v31, v32, v33, v34, Ud, Ud, Ud]) rfl (fun _ => rfl) (fun u hu hF => ?_) (fun v34 => ?_)
  · have h17_ : ((!β1) && β2) = true → v33 = (Pt b12 1) := hF.1
    have h16_ : v32 = (Bo ((!β1) && β2)) := hF.2.1
    clear hF
    obtain rfl := h16_
    refine doesG_g (b := ((!β1) && β2)) rfl (yld rfl rfl) (fun hg1 => ?_) (fun hc => ⟨fun hg1 => absurd hg1 hc, Ext.refl _⟩)
    obtain rfl := h17_ hg1
    refine (does_load (u := (.slice p8 A_m.tris.length q9)) (ev rfl) Try.isAgg23 (Cells.at (Blk.cells ((hB14.ext E20).ext hu)) 1 rfl)).mono ?_; rintro _ _ ⟨rfl, rfl⟩
    exact ⟨fun _ => rfl, Ext.refl _⟩
  refine RW_d (fun v35 => [(.agg #[(.slice p5 A_m.places.length q6), (.slice p8 A_m.tris.length q9)]), (Pt b12 0), (Bo false), (Bo (A_m.tris.any (fun x => !triOk (A_m.places.length : Int) x))), (Pt b12 1), (.slice p8 A_m.tris.length q9), (.func (.func 47) #[] #[(Pt b12 0)]), (Bo (A_m.tris.any (fun x => !triOk (A_m.places.length : Int) x))), v24, v25, v26, v27, v28, v29, v30, v31, v32, v33, v34, v35, Ud, Ud]) rfl (fun _ => rfl) (fun u hu hF => ?_) (fun v35 => ?_)
  · have h18_ : ((!β1) && β2) = true → v34 = (.slice p8 A_m.tris.length q9) := hF.1
    have h16_ : v32 = (Bo ((!β1) && β2)) := hF.2.1
    clear hF
    obtain rfl := h16_
    refine doesG_g (b := ((!β1) && β2)) rfl (yld rfl rfl) (fun hg1 => ?_) (fun hc => ⟨fun hg1 => absurd hg1 hc, Ext.refl _⟩)
    obtain rfl := h18_ hg1
    refine (does_len_slice Try.underlying23 (ev rfl)).mono ?_; rintro _ _ ⟨rfl, rfl⟩
    exact ⟨fun _ => rfl, Ext.refl _⟩
  refine RW_d (fun v36 => [(.agg #[(.slice p5 A_m.places.length q6), (.slice p8 A_m.tris.length q9)]), (Pt b12 0), (Bo false), (Bo (A_m.tris.any (fun x => !triOk (A_m.places.length : Int) x))), (Pt b12 1), (.slice p8 A_m.tris.length q9), (.func (.func 47) #[] #[(Pt b12 0)]), (Bo (A_m.tris.any (fun x => !triOk (A_m.places.length : Int) x))), v24, v25, v26, v27, v28, v29, v30, v31, v32, v33, v34, v35, v36, Ud]) rfl (fun _ => rfl) (fun u hu hF => ?_) (fun v36 => ?_)
  · have h19_ : ((!β1) && β2) = true → v35 = (Iv (A_m.tris.length : Int)) := hF.1
    have h16_ : v32 = (Bo ((!β1) && β2)) := hF.2.1
    clear hF
    obtain rfl := h16_
    refine doesG_g (b := ((!β1) && β2)) rfl (yld rfl rfl) (fun hg1 => ?_) (fun hc => ⟨fun hg1 => absurd hg1 hc, Ext.refl _⟩)
    obtain rfl := h19_ hg1
    refine (does_icmp (p := (A_m.tris.length : Int)) (q := 9000) (.inr (.inr (.inr (.inl rfl)))) (ev rfl) (ev rfl)).mono ?_; rintro _ _ ⟨rfl, rfl⟩
    exact ⟨fun _ => (by first | rfl | (show _ = _; simp only [hβ3]; done) | (show _ = _; simp only [hβ3]; rfl)), Ext.refl _⟩
  refine RW_d (fun v37 => [(.agg #[(.slice p5 A_m.places.length q6), (.slice p8 A_m.tris.length q9)]), (Pt b12 0), (Bo false), (Bo (A_m.tris.any (fun x => !triOk (A_m.places.length : Int) x))), (Pt b12 1), (.slice p8 A_m.tris.length q9), (.func (.func 47) #[] #[(Pt b12 0)]), (Bo (A_m.tris.any (fun x => !triOk (A_m.places.length : Int) x))), v24, v25, v26, v27, v28, v29, v30, v31, v32, v33, v34, v35, v36, v37]) rfl (fun _ => rfl) (fun u hu hF => ?_) (fun v37 => ?_)
  · have h16_ : v32 = (Bo ((!β1) && β2)) := hF.1
    have h20_ : ((!β1) && β2) = true → v36 = (Bo β3) := hF.2.1
    clear hF
    refine doesG_un rfl ?_
    skip
    obtain rfl := h16_
    refine (does_pick (b := ((!β1) && β2)) (u := v36) (v := (Bo false)) (ev rfl) (ev rfl) (ev rfl)).mono ?_; rintro _ _ ⟨rfl, rfl⟩; refine ⟨?_, Ext.refl _⟩; skip
    cases hbb : ((!β1) && β2)
    all_goals first | (show _ = _; simp only [↓reduceIte, Bool.true_and, Bool.false_and, Bool.true_or, Bool.false_or, Bool.false_eq_true]; done) | (have e_ := h20_ hbb; subst e_; show _ = _; simp only [↓reduceIte, Bool.true_and, Bool.false_and, Bool.true_or, Bool.false_or, Bool.false_eq_true]; done) | rfl | (have e_ := h20_ hbb; subst e_; rfl) | (simp [hbb] at h20_ ⊢; first | done | rfl | (subst h20_; rfl) | simp_all) | (simp [hbb] at h20_ ⊢; done)
  refine RW_fin ?_; intro w38 E39 hP40
  obtain ⟨⟨⟨⟨⟨⟨⟨⟨⟨⟨⟨⟨⟨⟨-, -⟩, -⟩, -⟩, -⟩, -⟩, -⟩, -⟩, -⟩, -⟩, -⟩, -⟩, -⟩, -⟩, q41⟩ := hP40
  have X42 := Ext.gr X22 E39
  have q41 : v37 = (Bo (((!β1) && β2) && β3)) := q41
  obtain rfl := q41
  show wpList _ _ _ _ (fr [(.agg #[(.slice p5 A_m.places.length q6), (.slice p8 A_m.tris.length q9)]), (Pt b12 0), (Bo false), (Bo (A_m.tris.any (fun x => !triOk (A_m.places.length : Int) x))), (Pt b12 1), (.slice p8 A_m.tris.length q9), (.func (.func 47) #[] #[(Pt b12 0)]), (Bo (A_m.tris.any (fun x => !triOk (A_m.places.length : Int) x))), v24, v25, v26, v27, v28, v29, v30, v31, v32, v33, v34, v35, v36, (Bo (((!β1) && β2) && β3))]) _
  refine q_is (l' := [(.agg #[(.slice p5 A_m.places.length q6), (.slice p8 A_m.tris.length q9)]), (Pt b12 0), (Bo (((!β1) && β2) && β3)), (Bo (A_m.tris.any (fun x => !triOk (A_m.places.length : Int) x))), (Pt b12 1), (.slice p8 A_m.tris.length q9), (.func (.func 47) #[] #[(Pt b12 0)]), (Bo (A_m.tris.any (fun x => !triOk (A_m.places.length : Int) x))), v24, v25, v26, v27, v28, v29, v30, v31, v32, v33, v34, v35, v36, (Bo (((!β1) && β2) && β3))]) rfl rfl (does_assign (u := (Bo (((!β1) && β2) && β3))) (ev rfl)) rfl ?_
  refine wpList_nil (hK23 _ _ ?_)
  refine wp_ret ?_
  refine ret_val (v := (Bo (((!β1) && β2) && β3))) (res_T rfl (slot rfl)) X42 ?_
  have x43 : (meshOk A_m) = (((!β1) && β2) && β3) := by first | with_reducible rfl | (simp only [meshOk, hβ1, hβ2, hβ3]; done) | (simp [meshOk, hβ1, hβ2, hβ3]; done) | rfl
  exact (by first | with_reducible rfl | rw [x43] | rfl)

/- (*impl.Mesh).edges -/
theorem c_impl_Mesh_edges (m_b : Nat) (m_o : Nat) (m : List Value) (A_m : MeshT) (w : World) (hc_m : Cells w m_b m_o m) (hv_m : RMeshT w A_m m) (hmt : meshOk A_m = true) : Gives Try.prog 41 #[(Pt m_b m_o)] w (fun v w' => ∃ bm_1 : Nat, v = (.map (some bm_1)) ∧ w.heap.size ≤ bm_1 ∧ MapL encP (Value.int .i64) okP w' bm_1 (edL A_m)) := by
  obtain ⟨y1, y3, rfl, h2, h4⟩ := hv_m
  have hs7 := h2; have hs7l := Sl.len h2; obtain ⟨p5, q6, rfl⟩ := Sl.shape h2
  have hs10 := h4; have hs10l := Sl.len h4; obtain ⟨p8, q9, rfl⟩ := Sl.shape h4
  have hml := mesh_len hmt
  refine enter [(Pt m_b m_o), Ud, Ud, Ud, Ud, Ud, Ud, Ud, Ud, Ud, Ud, Ud, Ud, Ud, Ud, Ud, Ud, Ud, Ud, Ud, Ud, Ud, Ud, Ud, Ud, Ud, Ud, Ud, Ud, Ud, Ud, Ud, Ud, Ud, Ud, Ud, Ud, Ud, Ud, Ud, Ud] Try.func41 rfl Try.ntmps41 rfl ?_
  refine wp_seq_k fun K11 hK11 => ?_
  refine wp_region_lit ?_
  refine q_is rfl rfl (does_assign (u := (.map none)) (ev rfl)) (by dsimp only [List.set]; try rfl) ?_
  refine wpList_nil (hK11 _ _ ?_)
  refine wp_seq_k fun K12 hK12 => ?_
  refine wp_region_lit ?_
  refine seqd rfl rfl (does_makeMap (κ := (Int × Int)) (ν := Int) encP (Value.int .i64) okP) ?_; rintro _ w17 ⟨bm13, rfl, hb14, hM15, E16⟩
  have X18 := Ext.gr (Ext.refl w) E16
  have n19 : m_b < bm13 := Nat.lt_of_lt_of_le (cell_lt (Cells.at hc_m 0 rfl)) hb14
  have g20 : w.heap.size ≤ bm13 := Nat.le_trans (Nat.le_refl _) hb14
  show wpList _ _ _ _ (fr [_, _, _, _, _, _, _, _, _, _, _, _, _, _, _, _, _, _, _, _, _, _, _, _, _, _, _, _, _, _, _, _, _, _, _, _, _, _, _, _, _]) _
  refine q_is rfl rfl (does_assign (u := (.map (some bm13))) (ev rfl)) (by dsimp only [List.set]; try rfl) ?_
  refine wpList_nil (hK12 _ _ ?_)
  refine wp_seq_k fun K21 hK21 => ?_
  refine wp_seq_k fun K22 hK22 => ?_
  refine wp_region_lit ?_
  refine q_is rfl rfl (does_move (u := (Pt m_b m_o)) (ev rfl)) (by dsimp only [List.set]; try rfl) ?_
  refine q_is rfl rfl (does_nilCheck (ev rfl)) (by dsimp only [List.set]; try rfl) ?_
  refine q_is rfl rfl (does_fieldAddr (ev rfl) fa32_1) (by dsimp only [List.set]; try rfl) ?_
  refine q_is rfl rfl (does_load (u := (.slice p8 A_m.tris.length q9)) (ev rfl) Try.isAgg23 (Cells.at (hc_m.ext X18) 1 rfl)) (by dsimp only [List.set]; try rfl) ?_
  refine q_is rfl rfl (does_len_slice Try.underlying23 (ev rfl)) (by dsimp only [List.set]; try rfl) ?_
  refine q_is rfl rfl (does_move (u := (Iv 0)) (ev rfl)) (by dsimp only [List.set]; try rfl) ?_
  refine wpList_nil (hK22 _ _ ?_)
  refine wp_block ?_
  refine loop_ghost (σ := Nat) (fun k a w' => ∃ u23 : Nat → Value, a = fr [(Pt m_b m_o), Ud, (.map none), (.map (some bm13)), Ud, (u23 5), (u23 6), (.map (some bm13)), (Pt m_b m_o), (Pt m_b m_o), (Pt m_b (m_o + 1)), (.slice p8 A_m.tris.length q9), (Iv (A_m.tris.length : Int)), (Iv (k : Int)), (u23 14), (u23 15), (u23 16), (u23 17), (u23 18), (u23 19), (u23 20), (u23 21), (u23 22), (u23 23), (u23 24), (u23 25), (u23 26), (u23 27), (u23 28), (u23 29), (u23 30), (u23 31), (u23 32), (u23 33), (u23 34), (u23 35), (u23 36), (u23 37), (u23 38), (u23 39), Ud] ∧ KpL [bm13] w17 w' ∧ MapL encP (Value.int .i64) okP w' bm13 (edTo A_m k) ∧ (k ≤ A_m.tris.length)) (fun k => A_m.tris.length - k) 0 ?_ ?_
  · refine ⟨fun t => (([(Pt m_b m_o), Ud, (.map none), (.map (some bm13)), Ud, Ud, Ud, (.map (some bm13)), (Pt m_b m_o), (Pt m_b m_o), (Pt m_b (m_o + 1)), (.slice p8 A_m.tris.length q9), (Iv (A_m.tris.length : Int)), (Iv 0), Ud, Ud, Ud, Ud, Ud, Ud, Ud, Ud, Ud, Ud, Ud, Ud, Ud, Ud, Ud, Ud, Ud, Ud, Ud, Ud, Ud, Ud, Ud, Ud, Ud, Ud, Ud] : List Value)[t]?).getD undef, rfl, KpL.refl _ _, (MapL.cast hM15 (by (try dsimp only); rfl)), ?_⟩
    exact Nat.zero_le _
  · rintro k a w24 ⟨u23, rfl, E25, hMp0, hk⟩
    have X27 := Below.kl X18 E25 (allS g20 all0) (Nat.le_refl _)
    have hM28 := hMp0; clear hMp0
    refine wp_seq_k fun K29 hK29 => ?_
    refine wp_region_lit ?_
    refine q_is rfl rfl (does_icmp (p := (k : Int)) (q := (A_m.tris.length : Int)) (.inr (.inr (.inl rfl))) (ev rfl) (ev rfl)) (by dsimp only [List.set]; try rfl) ?_
    refine wpList_nil (hK29 _ _ ?_)
    refine wp_seq_k fun K30 hK30 => ?_
    refine wp_cond_split (t := icmp .lss (k : Int) (A_m.tris.length : Int)) (ev rfl) (fun c31 => ?_) (fun c31 => ?_)
    · have c31' := c31
      (try simp only [icmp, Bool.and_eq_true, Bool.or_eq_true, Bool.and_eq_false_iff, Bool.or_eq_false_iff, Bool.not_eq_true', Bool.not_eq_false', decide_eq_true_eq, decide_eq_false_iff_not, beq_iff_eq, bne_iff_ne, beq_eq_false_iff_ne, bne_eq_false_iff_eq] at c31')
      refine wp_skip (hK30 _ _ ?_)
      refine wp_seq_k fun K32 hK32 => ?_
      refine wp_block ?_
      refine wp_seq_k fun K33 hK33 => ?_
      refine wp_region_lit ?_
      obtain ⟨el1, hel1⟩ : ∃ e, A_m.tris[k]? = some e := ⟨_, List.getElem?_eq_getElem (by omega)⟩
      refine seqd rfl rfl (does_indexSl0 (R := (RS RI 1)) (i := (k : Int)) (xs := A_m.tris) (e := el1) Try.underlying23 Try.sizeOf27 (ev rfl) (ev rfl) hs10 (by omega) hel1) ?_; rintro _ w24 ⟨b34, o35, _, rfl, hc37, ⟨y38, rfl, h39⟩, rfl⟩
      have hs42 := h39; have hs42l := Sl.len h39; obtain ⟨p40, q41, rfl⟩ := Sl.shape h39
      show wpList _ _ _ _ (fr [_, _, _, _, _, _, _, _, _, _, _, _, _, _, _, _, _, _, _, _, _, _, _, _, _, _, _, _, _, _, _, _, _, _, _, _, _, _, _, _, _]) _
      refine q_is rfl rfl (does_load (u := (.slice p40 el1.length q41)) (ev rfl) Try.isAgg27 (Cells.at (hc37.ext X27) 0 rfl)) (by dsimp only [List.set]; try rfl) ?_
      refine q_is rfl rfl (does_assign (u := (.slice p40 el1.length q41)) (ev rfl)) (by dsimp only [List.set]; try rfl) ?_
      refine wpList_nil (hK33 _ _ ?_)
      refine wp_seq_k fun K43 hK43 => ?_
      refine wp_region_lit ?_
      have ht3_ := (mesh_tri hmt hel1).1
      refine q_is rfl rfl (does_move (u := (.slice p40 el1.length q41)) (ev rfl)) (by dsimp only [List.set]; try rfl) ?_
      refine q_is rfl rfl (does_len_slice Try.underlying27 (ev rfl)) (by dsimp only [List.set]; try rfl) ?_
      refine q_is rfl rfl (does_move (u := (Iv 0)) (ev rfl)) (by dsimp only [List.set]; try rfl) ?_
      refine wpList_nil (hK43 _ _ ?_)
      refine wp_block ?_
      refine loop_ghost (σ := Nat) (fun q a w' => ∃ u44 : Nat → Value, a = fr [(Pt m_b m_o), Ud, (.map none), (.map (some bm13)), Ud, (.slice p40 el1.length q41), (u44 6), (.map (some bm13)), (Pt m_b m_o), (Pt m_b m_o), (Pt m_b (m_o + 1)), (.slice p8 A_m.tris.length q9), (Iv (A_m.tris.length : Int)), (Iv (k : Int)), (Bo (icmp .lss (k : Int) (A_m.tris.length : Int))), (Pt b34 o35), (.slice p40 el1.length q41), (.slice p40 el1.length q41), (Iv (el1.length : Int)), (Iv (q : Int)), (u44 20), (u44 21), (u44 22), (u44 23), (u44 24), (u44 25), (u44 26), (u44 27), (u44 28), (u44 29), (u44 30), (u44 31), (u44 32), (u44 33), (u44 34), (u44 35), (u44 36), (u44 37), (u44 38), (u23 39), Ud] ∧ KpL [bm13] w24 w' ∧ MapL encP (Value.int .i64) okP w' bm13 (edQ el1 (edTo A_m k) q) ∧ (q ≤ el1.length)) (fun q => el1.length - q) 0 ?_ ?_
      · refine ⟨fun t => (([(Pt m_b m_o), Ud, (.map none), (.map (some bm13)), Ud, (.slice p40 el1.length q41), (u23 6), (.map (some bm13)), (Pt m_b m_o), (Pt m_b m_o), (Pt m_b (m_o + 1)), (.slice p8 A_m.tris.length q9), (Iv (A_m.tris.length : Int)), (Iv (k : Int)), (Bo (icmp .lss (k : Int) (A_m.tris.length : Int))), (Pt b34 o35), (.slice p40 el1.length q41), (.slice p40 el1.length q41), (Iv (el1.length : Int)), (Iv 0), (u23 20), (u23 21), (u23 22), (u23 23), (u23 24), (u23 25), (u23 26), (u23 27), (u23 28), (u23 29), (u23 30), (u23 31), (u23 32), (u23 33), (u23 34), (u23 35), (u23 36), (u23 37), (u23 38), (u23 39), Ud] : List Value)[t]?).getD undef, rfl, KpL.refl _ _, (MapL.cast hM28 (by (try dsimp only); rfl)), ?_⟩
        exact Nat.zero_le _
      · rintro q a w45 ⟨u44, rfl, E46, hMp0, hq⟩
        have X48 := Below.kl X27 E46 (allS g20 all0) (Nat.le_refl _)
        have hM49 := hMp0; clear hMp0
        refine wp_seq_k fun K50 hK50 => ?_
        refine wp_region_lit ?_
        refine q_is rfl rfl (does_icmp (p := (q : Int)) (q := (el1.length : Int)) (.inr (.inr (.inl rfl))) (ev rfl) (ev rfl)) (by dsimp only [List.set]; try rfl) ?_
        refine wpList_nil (hK50 _ _ ?_)
        refine wp_seq_k fun K51 hK51 => ?_
        refine wp_cond_split (t := icmp .lss (q : Int) (el1.length : Int)) (ev rfl) (fun c52 => ?_) (fun c52 => ?_)
        · have c52' := c52
          (try simp only [icmp, Bool.and_eq_true, Bool.or_eq_true, Bool.and_eq_false_iff, Bool.or_eq_false_iff, Bool.not_eq_true', Bool.not_eq_false', decide_eq_true_eq, decide_eq_false_iff_not, beq_iff_eq, bne_iff_ne, beq_eq_false_iff_ne, bne_eq_false_iff_eq] at c52')
          refine wp_skip (hK51 _ _ ?_)
          refine wp_seq_k fun K53 hK53 => ?_
          refine wp_block ?_
          refine wp_seq_k fun K54 hK54 => ?_
          refine wp_region_lit ?_
          refine q_is rfl rfl (does_move (u := (Iv (q : Int))) (ev rfl)) (by dsimp only [List.set]; try rfl) ?_
          refine q_is rfl rfl (does_assign (u := (Iv (q : Int))) (ev rfl)) (by dsimp only [List.set]; try rfl) ?_
          refine wpList_nil (hK54 _ _ ?_)
          have n58 : bm13 < w45.heap.size := MapL.lt hM49
          have htr := mesh_tri hmt hel1
          have ht3 := htr.1
          obtain ⟨el2, hel2⟩ : ∃ e, el1[q]? = some e := ⟨_, List.getElem?_eq_getElem (by omega)⟩
          obtain ⟨el3, hel3⟩ : ∃ e, el1[(((q : Int) + 1) % 3).toNat]? = some e := ⟨_, List.getElem?_eq_getElem (by omega)⟩
          have hb2 := htr.2 _ (List.mem_of_getElem? hel2)
          have hb3 := htr.2 _ (List.mem_of_getElem? hel3)
          have hea := edQ_at el1 A_m k q (el2, el3)
          refine region_anyJ [bm13] [0, 0, 0, 6, 14, 0, 0, 64, 192, 480, 992, 2046, 4095, 8191, 4095, 20479, 65535] [0] (
            [FactW.pure [] [] [0] true (fun v => v = (.map (some bm13))),
              FactW.pure [] [] [0] true (fun v => v = (.slice p40 el1.length q41)),
              FactW.pure [] [] [0] true (fun v => v = (Iv (q : Int))),
              FactW.pure [1, 2] [] [0] true (fun v => PtrR RI w v el2),
              FactW.pure [3] [] [0] true (fun v => v = (Iv el2)),
              FactW.pure [] [] [0] true (fun v => v = (.slice p40 el1.length q41)),
              FactW.pure [] [] [0] true (fun v => v = (Iv (q : Int))),
              FactW.pure [6] [] [0] true (fun v => v = (Iv ((q : Int) + 1))),
              FactW.pure [7] [] [0] true (fun v => v = (Iv (((q : Int) + 1) % 3))),
              FactW.pure [5, 8] [] [0] true (fun v => PtrR RI w v el3),
              FactW.pure [9] [] [0] true (fun v => v = (Iv el3)),
              FactW.pure [4, 10] [] [0] true (fun v => v = (.agg #[(Iv el2), (Iv el3)])),
              FactW.pure [0, 11] [0] [0] true (fun v => v = (Iv ((atM (edQ el1 (edTo A_m k) q) (el2, el3)).getD 0))),
              FactW.pure [12] [0] [0] true (fun v => v = (Iv (((atM (edQ el1 (edTo A_m k) q) (el2, el3)).getD 0) + 1))),
              FactW.mem [0, 11] [] [0] [] true (fun v w' => ∃ v0 st, v = .tuple #[v0, goInt (st : Nat)] ∧ MapE encP (Value.int .i64) okP (0 : Int) w' bm13 (edQ el1 (edTo A_m k) q) (el2, el3) st) (by rintro v w1 w2 hx ⟨v0, st, hv, h⟩; exact ⟨v0, st, hv, MapE.ext h (KpL.toExt hx)⟩),
              FactW.mem [14] [0] [] [] true (fun v w' => ∃ st : Nat, v = goInt st ∧ MapE encP (Value.int .i64) okP (0 : Int) w' bm13 (edQ el1 (edTo A_m k) q) (el2, el3) st) (by rintro v w1 w2 hx ⟨st, hv, h⟩; exact ⟨st, hv, MapE.ext h (KpL.toExt hx)⟩)]) (fun u => MapL encP (Value.int .i64) okP u bm13 (edQ el1 (edTo A_m k) q) ∨ ∃ st, MapE encP (Value.int .i64) okP (0 : Int) u bm13 (edQ el1 (edTo A_m k) q) (el2, el3) st) (.inl (MapL.ext hM49 (Ext.draw _))) mixed (by kernel_rfl) ?_
          obtain ⟨w55, hw57⟩ : ∃ w', w' = World.drew w45 := ⟨_, rfl⟩; rw [← hw57]; have E56 : Ext w45 w55 := by rw [hw57]; exact Ext.draw _
          clear hw57
          have X60 := Ext.gr X48 E56
          have hJE59 : ∀ w w', Ext w w' → (fun u => MapL encP (Value.int .i64) okP u bm13 (edQ el1 (edTo A_m k) q) ∨ ∃ st, MapE encP (Value.int .i64) okP (0 : Int) u bm13 (edQ el1 (edTo A_m k) q) (el2, el3) st) w → (fun u => MapL encP (Value.int .i64) okP u bm13 (edQ el1 (edTo A_m k) q) ∨ ∃ st, MapE encP (Value.int .i64) okP (0 : Int) u bm13 (edQ el1 (edTo A_m k) q) (el2, el3) st) w' := fun w w' hx h => h.elim (fun h => .inl (MapL.ext h hx)) (fun ⟨st, h⟩ => .inr ⟨st, MapE.ext h hx⟩)
          refine RWJ_d hJE59 _ rfl rfl (fun v => by dsimp only [List.set]; try rfl) (fun u hu hJ hF => ?_) (fun v61 => ?_)
          · replace hu : KpL [] _ _ := hu
            clear hF
            refine doesG_un rfl ?_
            refine (does_move (u := (.map (some bm13))) (ev rfl)).mono ?_; rintro _ _ ⟨rfl, rfl⟩
            exact ⟨rfl, KpL.refl _ _⟩
          refine RWJ_d hJE59 _ rfl rfl (fun v => by dsimp only [List.set]; try rfl) (fun u hu hJ hF => ?_) (fun v62 => ?_)
          · replace hu : KpL [] _ _ := hu
            clear hF
            refine doesG_un rfl ?_
            refine (does_move (u := (.slice p40 el1.length q41)) (ev rfl)).mono ?_; rintro _ _ ⟨rfl, rfl⟩
            exact ⟨rfl, KpL.refl _ _⟩
          refine RWJ_d hJE59 _ rfl rfl (fun v => by dsimp only [List.set]; try rfl) (fun u hu hJ hF => ?_) (fun v63 => ?_)
          · replace hu : KpL [] _ _ := hu
            clear hF
            refine doesG_un rfl ?_
            refine (does_move (u := (Iv (q : Int))) (ev rfl)).mono ?_; rintro _ _ ⟨rfl, rfl⟩
            exact ⟨rfl, KpL.refl _ _⟩
          refine RWJ_d hJE59 _ rfl rfl (fun v => by dsimp only [List.set]; try rfl) (fun u hu hJ hF => ?_) (fun v64 => ?_)
          · replace hu : KpL [] _ _ := hu
            have h23_ : v62 = (.slice p40 el1.length q41) := hF.1
            have h24_ : v63 = (Iv (q : Int)) := hF.2.1
            clear hF
            refine doesG_un rfl ?_
            obtain rfl := h23_
            obtain rfl := h24_
            refine (does_indexSl0 (R := RI) (i := (q : Int)) (xs := el1) (e := el2) Try.underlying27 Try.sizeOf2 (ev rfl) (ev rfl) hs42 (by omega) hel2).mono ?_; rintro v u' ⟨b, of, cs, hv, hc, hR, hu'⟩; subst hu'
            exact ⟨⟨b, of, cs, hv, hc, hR⟩, KpL.refl _ _⟩
          refine RWJ_d hJE59 _ rfl rfl (fun v => by dsimp only [List.set]; try rfl) (fun u hu hJ hF => ?_) (fun v65 => ?_)
          · replace hu : KpL [] _ _ := hu
            have h25_ : PtrR RI w v64 el2 := hF.1
            clear hF
            refine doesG_un rfl ?_
            obtain ⟨b25_, o25_, _, rfl, hc25_, rfl⟩ := h25_
            refine (does_load (u := (Iv el2)) (ev rfl) Try.isAgg2 (Cells.at (hc25_.ext (Ext.gr (Ext.gr X48 E56) (KpL.toExt hu))) 0 rfl)).mono ?_; rintro _ _ ⟨rfl, rfl⟩
            exact ⟨rfl, KpL.refl _ _⟩
          refine RWJ_d hJE59 _ rfl rfl (fun v => by dsimp only [List.set]; try rfl) (fun u hu hJ hF => ?_) (fun v66 => ?_)
          · replace hu : KpL [] _ _ := hu
            clear hF
            refine doesG_un rfl ?_
            refine (does_move (u := (.slice p40 el1.length q41)) (ev rfl)).mono ?_; rintro _ _ ⟨rfl, rfl⟩
            exact ⟨rfl, KpL.refl _ _⟩
          refine RWJ_d hJE59 _ rfl rfl (fun v => by dsimp only [List.set]; try rfl) (fun u hu hJ hF => ?_) (fun v67 => ?_)
          · replace hu : KpL [] _ _ := hu
            clear hF
            refine doesG_un rfl ?_
            refine (does_move (u := (Iv (q : Int))) (ev rfl)).mono ?_; rintro _ _ ⟨rfl, rfl⟩
            exact ⟨rfl, KpL.refl _ _⟩
          refine RWJ_d hJE59 _ rfl rfl (fun v => by dsimp only [List.set]; try rfl) (fun u hu hJ hF => ?_) (fun v68 => ?_)
          · replace hu : KpL [] _ _ := hu
            have h28_ : v67 = (Iv (q : Int)) := hF.1
            clear hF
            refine doesG_un rfl ?_
            obtain rfl := h28_
            refine (does_iarith (p := (q : Int)) (q := 1) (r := (q : Int) + 1) (ev rfl) (ev rfl) (.inl ⟨rfl, (in_i64 (by omega) (by omega)).symm⟩)).mono ?_; rintro _ _ ⟨rfl, rfl⟩
            exact ⟨rfl, KpL.refl _ _⟩
          refine RWJ_d hJE59 _ rfl rfl (fun v => by dsimp only [List.set]; try rfl) (fun u hu hJ hF => ?_) (fun v69 => ?_)
          · replace hu : KpL [] _ _ := hu
            have h29_ : v68 = (Iv ((q : Int) + 1)) := hF.1
            clear hF
            refine doesG_un rfl ?_
            obtain rfl := h29_
            refine (does_irem (p := (q : Int) + 1) (q := 3) (ev rfl) (ev rfl) (by first | omega | assumption) (by first | omega | assumption) (by first | omega | assumption)).mono ?_; rintro _ _ ⟨rfl, rfl⟩
            exact ⟨rfl, KpL.refl _ _⟩
          refine RWJ_d hJE59 _ rfl rfl (fun v => by dsimp only [List.set]; try rfl) (fun u hu hJ hF => ?_) (fun v70 => ?_)
          · replace hu : KpL [] _ _ := hu
            have h27_ : v66 = (.slice p40 el1.length q41) := hF.1
            have h30_ : v69 = (Iv (((q : Int) + 1) % 3)) := hF.2.1
            clear hF
            refine doesG_un rfl ?_
            obtain rfl := h27_
            obtain rfl := h30_
            refine (does_indexSl0 (R := RI) (i := ((q : Int) + 1) % 3) (xs := el1) (e := el3) Try.underlying27 Try.sizeOf2 (ev rfl) (ev rfl) hs42 (by omega) hel3).mono ?_; rintro v u' ⟨b, of, cs, hv, hc, hR, hu'⟩; subst hu'
            exact ⟨⟨b, of, cs, hv, hc, hR⟩, KpL.refl _ _⟩
          refine RWJ_d hJE59 _ rfl rfl (fun v => by dsimp only [List.set]; try rfl) (fun u hu hJ hF => ?_) (fun v71 => ?_)
          · replace hu : KpL [] _ _ := hu
            have h31_ : PtrR RI w v70 el3 := hF.1
            clear hF
            refine doesG_un rfl ?_
            obtain ⟨b31_, o31_, _, rfl, hc31_, rfl⟩ := h31_
            refine (does_load (u := (Iv el3)) (ev rfl) Try.isAgg2 (Cells.at (hc31_.ext (Ext.gr (Ext.gr X48 E56) (KpL.toExt hu))) 0 rfl)).mono ?_; rintro _ _ ⟨rfl, rfl⟩
            exact ⟨rfl, KpL.refl _ _⟩
          refine RWJ_d hJE59 _ rfl rfl (fun v => by dsimp only [List.set]; try rfl) (fun u hu hJ hF => ?_) (fun v72 => ?_)
          · replace hu : KpL [] _ _ := hu
            have h26_ : v65 = (Iv el2) := hF.1
            have h32_ : v71 = (Iv el3) := hF.2.1
            clear hF
            refine doesG_un rfl ?_
            obtain rfl := h26_
            obtain rfl := h32_
            refine (does_build (parts' := [(0, (Iv el2)), (1, (Iv el3))]) (cells := #[(Iv el2), (Iv el3)]) (evp rfl) (by kernel_rfl)).mono ?_; rintro _ _ ⟨rfl, rfl⟩
            exact ⟨rfl, KpL.refl _ _⟩
          refine RWJ_d hJE59 _ rfl rfl (fun v => by dsimp only [List.set]; try rfl) (fun u hu hJ hF => ?_) (fun v73 => ?_)
          · replace hu : KpL [bm13] _ _ := hu
            have h22_ : v61 = (.map (some bm13)) := hF.1
            have h33_ : v72 = (.agg #[(Iv el2), (Iv el3)]) := hF.2.1
            clear hF
            refine doesG_un rfl ?_
            obtain rfl := h22_
            obtain rfl := h33_
            refine (does_lookupJ (l := (edQ el1 (edTo A_m k) q)) (p := (el2, el3)) (z := (0 : Int)) kE66 Try.underlying64 Try.zeroValue3 (ev rfl) (ev rfl) hJ (by first | assumption | (refine ⟨?_, ?_, ?_, ?_⟩ <;> (try dsimp only) <;> omega))).mono ?_; rintro _ _ ⟨rfl, rfl⟩
            exact ⟨rfl, KpL.refl _ _⟩
          refine RWJ_d hJE59 _ rfl rfl (fun v => by dsimp only [List.set]; try rfl) (fun u hu hJ hF => ?_) (fun v74 => ?_)
          · replace hu : KpL [bm13] _ _ := hu
            have h34_ : v73 = (Iv ((atM (edQ el1 (edTo A_m k) q) (el2, el3)).getD 0)) := hF.1
            clear hF
            refine doesG_un rfl ?_
            obtain rfl := h34_
            refine (does_iarith (p := ((atM (edQ el1 (edTo A_m k) q) (el2, el3)).getD 0)) (q := 1) (r := ((atM (edQ el1 (edTo A_m k) q) (el2, el3)).getD 0) + 1) (ev rfl) (ev rfl) (.inl ⟨rfl, (in_i64 (by omega) (by omega)).symm⟩)).mono ?_; rintro _ _ ⟨rfl, rfl⟩
            exact ⟨rfl, KpL.refl _ _⟩
          refine RWJ_w _ rfl (fun v => by dsimp only [List.set]; try rfl) (fun u hu hJ hF => ?_) (fun v75 => ?_)
          · replace hu : KpL [] _ _ := hu
            have h22_ : v61 = (.map (some bm13)) := hF.1
            have h33_ : v72 = (.agg #[(Iv el2), (Iv el3)]) := hF.2.1
            clear hF
            refine doesG_un rfl ?_
            obtain rfl := h22_
            obtain rfl := h33_
            refine (does_mapEntry (l := (edQ el1 (edTo A_m k) q)) (p := (el2, el3)) (z := (0 : Int)) kE66 Try.underlying64 Try.zeroValue3 (ev rfl) (ev rfl) (MapL.ext (MapL.ext hM49 E56) (KpL.toExt hu)) (by first | assumption | (refine ⟨?_, ?_, ?_, ?_⟩ <;> (try dsimp only) <;> omega))).mono ?_; rintro v u' ⟨v0, st, hv, hK, hE⟩
            exact ⟨⟨v0, st, hv, hE⟩, hK, .inr ⟨st, hE⟩⟩
          refine RWJ_d hJE59 _ rfl rfl (fun v => by dsimp only [List.set]; try rfl) (fun u hu hJ hF => ?_) (fun v76 => ?_)
          · replace hu : KpL [bm13] _ _ := hu
            have h36_ : ∃ v0 st, v75 = .tuple #[v0, goInt (st : Nat)] ∧ MapE encP (Value.int .i64) okP (0 : Int) u bm13 (edQ el1 (edTo A_m k) q) (el2, el3) st := hF.1
            clear hF
            refine doesG_un rfl ?_
            obtain ⟨v0_, st_, rfl, hME⟩ := h36_
            refine (does_extract (vs := #[v0_, goInt (st_ : Nat)]) (u := goInt (st_ : Nat)) (ev rfl) rfl).mono ?_; rintro _ _ ⟨rfl, rfl⟩; exact ⟨⟨st_, rfl, hME⟩, KpL.refl _ _⟩
          refine RWJ_fin ?_; intro w77 E78 hJ_ hP79; replace E78 : KpL [bm13] _ _ := E78
          obtain ⟨⟨⟨⟨⟨⟨⟨⟨⟨⟨⟨⟨⟨⟨⟨⟨-, q80⟩, -⟩, -⟩, -⟩, -⟩, -⟩, -⟩, -⟩, -⟩, -⟩, -⟩, -⟩, -⟩, q81⟩, -⟩, q82⟩ := hP79
          have X83 := Below.kl X60 E78 (allS g20 all0) (Nat.le_refl _)
          have q80 : v61 = (.map (some bm13)) := q80 rfl
          obtain rfl := q80
          have q81 : v74 = (Iv (((atM (edQ el1 (edTo A_m k) q) (el2, el3)).getD 0) + 1)) := q81 rfl
          obtain rfl := q81
          obtain ⟨st84, hv_, hE85⟩ := q82 rfl; subst hv_
          show wpList _ _ _ _ (fr [_, _, _, _, _, _, _, _, _, _, _, _, _, _, _, _, _, _, _, _, _, _, _, _, _, _, _, _, _, _, _, _, _, _, _, _, _, _, _, _, _]) _
          refine seqn rfl rfl (does_entryStore (z := (0 : Int)) (l := (edQ el1 (edTo A_m k) q)) (p := (el2, el3)) (v := (((atM (edQ el1 (edTo A_m k) q) (el2, el3)).getD 0) + 1)) (st := st84) kE66 (ev rfl) (ev rfl) (ev rfl) hE85) ?_; rintro _ w88 ⟨rfl, K86, hM87⟩
          have X89 := Below.kl X83 K86 (allS g20 all0) (Nat.le_refl _)
          show wpList _ _ _ _ (fr [_, _, _, _, _, _, _, _, _, _, _, _, _, _, _, _, _, _, _, _, _, _, _, _, _, _, _, _, _, _, _, _, _, _, _, _, _, _, _, _, _]) _
          refine wpList_nil (hK53 _ _ ?_)
          refine wp_region_lit ?_
          refine q_is rfl rfl (does_iarith (p := (q : Int)) (q := 1) (r := (q : Int) + 1) (ev rfl) (ev rfl) (.inl ⟨rfl, (in_i64 (by omega) (by omega)).symm⟩)) (by dsimp only [List.set]; try rfl) ?_
          refine q_is rfl rfl (does_move (u := (Iv ((q : Int) + 1))) (ev rfl)) (by dsimp only [List.set]; try rfl) ?_
          refine wpList_nil ?_
          have hM90 := MapL.cast (l' := ((fun (q : Nat) => edQ el1 (edTo A_m k) q) (q + 1))) hM87 (by (try dsimp only); exact edQ_step hel2 hel3)
          refine ⟨q + 1, ⟨fun t => (([(Pt m_b m_o), Ud, (.map none), (.map (some bm13)), Ud, (.slice p40 el1.length q41), (Iv (q : Int)), (.map (some bm13)), (Pt m_b m_o), (Pt m_b m_o), (Pt m_b (m_o + 1)), (.slice p8 A_m.tris.length q9), (Iv (A_m.tris.length : Int)), (Iv (k : Int)), (Bo (icmp .lss (k : Int) (A_m.tris.length : Int))), (Pt b34 o35), (.slice p40 el1.length q41), (.slice p40 el1.length q41), (Iv (el1.length : Int)), (Iv ((q : Int) + 1)), (Bo (icmp .lss (q : Int) (el1.length : Int))), (Iv (q : Int)), (.map (some bm13)), v62, v63, v64, v65, v66, v67, v68, v69, v70, v71, v72, v73, (Iv (((atM (edQ el1 (edTo A_m k) q) (el2, el3)).getD 0) + 1)), v75, (Iv (st84 : Int)), (Iv ((q : Int) + 1)), (u23 39), Ud] : List Value)[t]?).getD undef, ?_, (KpL.more (KpL.more (KpL.ext E46 E56) E78 (allS (.inl (by simp)) all0)) K86 (allS (.inl (by simp)) all0)), hM90, ?_⟩, ?_⟩
          · first | rfl | (simp only [Int.natCast_add, Int.natCast_one]; rfl)
          · (try dsimp only); omega
          · (try dsimp only); omega
        have c52' := c52
        (try simp only [icmp, Bool.and_eq_true, Bool.or_eq_true, Bool.and_eq_false_iff, Bool.or_eq_false_iff, Bool.not_eq_true', Bool.not_eq_false', decide_eq_true_eq, decide_eq_false_iff_not, beq_iff_eq, bne_iff_ne, beq_eq_false_iff_ne, bne_eq_false_iff_eq] at c52')
        refine wp_exit ?_
        refine hK32 _ _ ?_
        refine wp_region_lit ?_
        refine q_is rfl rfl (does_iarith (p := (k : Int)) (q := 1) (r := (k : Int) + 1) (ev rfl) (ev rfl) (.inl ⟨rfl, (in_i64 (by omega) (by omega)).symm⟩)) (by dsimp only [List.set]; try rfl) ?_
        refine q_is rfl rfl (does_move (u := (Iv ((k : Int) + 1))) (ev rfl)) (by dsimp only [List.set]; try rfl) ?_
        refine wpList_nil ?_
        have hM91 := MapL.cast (l' := ((fun (k : Nat) => edTo A_m k) (k + 1))) hM49 (by (try dsimp only); exact edTo_step hel1 (by omega))
        refine ⟨k + 1, ⟨fun t => (([(Pt m_b m_o), Ud, (.map none), (.map (some bm13)), Ud, (.slice p40 el1.length q41), (u44 6), (.map (some bm13)), (Pt m_b m_o), (Pt m_b m_o), (Pt m_b (m_o + 1)), (.slice p8 A_m.tris.length q9), (Iv (A_m.tris.length : Int)), (Iv ((k : Int) + 1)), (Bo (icmp .lss (k : Int) (A_m.tris.length : Int))), (Pt b34 o35), (.slice p40 el1.length q41), (.slice p40 el1.length q41), (Iv (el1.length : Int)), (Iv (q : Int)), (Bo (icmp .lss (q : Int) (el1.length : Int))), (u44 21), (u44 22), (u44 23), (u44 24), (u44 25), (u44 26), (u44 27), (u44 28), (u44 29), (u44 30), (u44 31), (u44 32), (u44 33), (u44 34), (u44 35), (u44 36), (u44 37), (u44 38), (Iv ((k : Int) + 1)), Ud] : List Value)[t]?).getD undef, ?_, (KpL.more E25 E46 (allS (.inl (by simp)) all0)), hM91, ?_⟩, ?_⟩
        · first | rfl | (simp only [Int.natCast_add, Int.natCast_one]; rfl)
        · omega
        · omega
    have c31' := c31
    (try simp only [icmp, Bool.and_eq_true, Bool.or_eq_true, Bool.and_eq_false_iff, Bool.or_eq_false_iff, Bool.not_eq_true', Bool.not_eq_false', decide_eq_true_eq, decide_eq_false_iff_not, beq_iff_eq, bne_iff_ne, beq_eq_false_iff_ne, bne_eq_false_iff_eq] at c31')
    refine wp_exit ?_
    refine hK21 _ _ ?_
    refine wp_seq_k fun K92 hK92 => ?_
    refine wp_region_lit ?_
    refine q_is rfl rfl (does_move (u := (.map (some bm13))) (ev rfl)) (by dsimp only [List.set]; try rfl) ?_
    refine q_is rfl rfl (does_assign (u := (.map (some bm13))) (ev rfl)) (by dsimp only [List.set]; try rfl) ?_
    refine wpList_nil (hK92 _ _ ?_)
    refine wp_ret ?_
    refine ret_val (v := (.map (some bm13))) (res_T rfl (slot rfl)) X27 ?_
    have x93 : (edTo A_m k) = (edL A_m) := by first | rfl | (rw [show k = A_m.tris.length by omega]; rfl)
    exact ⟨bm13, rfl, (Nat.le_trans (Nat.le_refl _) hb14), (MapL.cast hM28 x93)⟩

/- impl.OpenEdges -/
theorem c_impl_OpenEdges (m : List Value) (A_m : MeshT) (w : World) (hv_m : RMeshT w A_m m) : Gives Try.prog 22 #[(.agg m.toArray)] w (fun v w' => v = (.tuple #[(Iv (openN A_m)), (Bo (meshOk A_m))])) := by
  obtain ⟨y1, y3, rfl, h2, h4⟩ := hv_m
  have hs7 := h2; have hs7l := Sl.len h2; obtain ⟨p5, q6, rfl⟩ := Sl.shape h2
  have hs10 := h4; have hs10l := Sl.len h4; obtain ⟨p8, q9, rfl⟩ := Sl.shape h4
  refine enter [(.agg #[(.slice p5 A_m.places.length q6), (.slice p8 A_m.tris.length q9)]), Ud, Ud, Ud, Ud, Ud, Ud, Ud, Ud, Ud, Ud, Ud, Ud, Ud, Ud, Ud, Ud, Ud, Ud, Ud, Ud, Ud, Ud, Ud, Ud, Ud, Ud, Ud, Ud, Ud, Ud] Try.func22 rfl Try.ntmps22 rfl ?_
  refine wp_seq_k fun K11 hK11 => ?_
  refine wp_region_lit ?_
  refine seqd rfl rfl (does_box (u := (.agg #[(.slice p5 A_m.places.length q6), (.slice p8 A_m.tris.length q9)])) (ev rfl)) ?_; rintro _ w16 ⟨b12, rfl, hb13, hB14, E15⟩
  have g17 : w.heap.size ≤ b12 := Nat.le_trans (Below.size (Ext.refl w)) hb13
  change Blk _ _ [(.slice p5 A_m.places.length q6), (.slice p8 A_m.tris.length q9)] at hB14
  have X18 := Ext.gr (Ext.refl w) E15
  show wpList _ _ _ _ (fr [_, _, _, _, _, _, _, _, _, _, _, _, _, _, _, _, _, _, _, _, _, _, _, _, _, _, _, _, _, _, _]) _
  refine q_is rfl rfl (does_assign (u := (Iv 0)) (ev rfl)) (by dsimp only [List.set]; try rfl) ?_
  refine q_is rfl rfl (does_assign (u := (Bo false)) (ev rfl)) (by dsimp only [List.set]; try rfl) ?_
  refine wpList_nil (hK11 _ _ ?_)
  refine wp_seq_k fun K19 hK19 => ?_
  refine wp_seq_k fun K20 hK20 => ?_
  refine wp_region_lit ?_
  refine q_is rfl rfl (does_loadAgg (cs := [(.slice p5 A_m.places.length q6), (.slice p8 A_m.tris.length q9)]) (ev rfl) Try.isAgg32 Try.sizeOf32 (Blk.cells hB14) rfl) (by dsimp only [List.set]; try rfl) ?_
  refine seqd rfl rfl (does_call (args := #[(.agg #[(.slice p5 A_m.places.length q6), (.slice p8 A_m.tris.length q9)])]) cal29 (evs rfl) (c_impl_ValidMesh [(.slice p5 A_m.places.length q6), (.slice p8 A_m.tris.length q9)] A_m _ ⟨(.slice p5 A_m.places.length q6), (.slice p8 A_m.tris.length q9), rfl, (Sl.ext hs7 RV3.mono X18), (Sl.ext hs10 (RS.mono RI.mono) X18)⟩)) ?_; rintro _ w22 ⟨E21, rfl⟩
  have X23 := Ext.gr X18 E21
  show wpList _ _ _ _ (fr [_, _, _, _, _, _, _, _, _, _, _, _, _, _, _, _, _, _, _, _, _, _, _, _, _, _, _, _, _, _, _]) _
  refine q_is rfl rfl (does_not (ev rfl)) (by dsimp only [List.set]; try rfl) ?_
  refine wpList_nil (hK20 _ _ ?_)
  refine wp_cond_split (t := !(meshOk A_m)) (ev rfl) (fun c24 => ?_) (fun c24 => ?_)
  · rw [Bool.not_eq_true'] at c24
    have c24' := c24
    have hmf : meshOk A_m = false := c24
    refine wp_seq_k fun K25 hK25 => ?_
    refine wp_region_lit ?_
    refine q_is rfl rfl (does_assign (u := (Iv 0)) (ev rfl)) (by dsimp only [List.set]; try rfl) ?_
    refine q_is rfl rfl (does_assign (u := (Bo false)) (ev rfl)) (by dsimp only [List.set]; try rfl) ?_
    refine wpList_nil (hK25 _ _ ?_)
    refine wp_ret ?_
    dsimp only [Exit.then, Exit.inBlock]
    refine ret_val (v := (.tuple #[(Iv 0), (Bo false)])) (res_TT rfl (slot rfl) (slot rfl)) X23 ?_
    have x26 : (openN A_m : Int) = 0 := by first | exact hmf | exact hmt | exact openN_f hmf | (have hz : s.1 = [] := (by assumption); rw [hz] at hk; simp only [List.countP_nil] at hk; rw [openN_t hmt, ← open_alike hmt]; omega) | (rw [openN_t hmt, show A_m.places.length = k by omega])
    have x27 : (meshOk A_m) = false := by first | exact hmf | exact hmt | exact openN_f hmf | (have hz : s.1 = [] := (by assumption); rw [hz] at hk; simp only [List.countP_nil] at hk; rw [openN_t hmt, ← open_alike hmt]; omega) | (rw [openN_t hmt, show A_m.places.length = k by omega])
    exact (by first | with_reducible rfl | rw [x26, x27] | rw [x27, x26] | rfl)
  rw [Bool.not_eq_false'] at c24
  have c24' := c24
  have hmt : meshOk A_m = true := c24
  have hml := mesh_len hmt
  refine wp_skip (hK19 _ _ ?_)
  refine wp_seq_k fun K28 hK28 => ?_
  refine wp_region_lit ?_
  refine seqd rfl rfl (does_call (args := #[(Pt b12 0)]) cal41 (evs rfl) (c_impl_Mesh_edges b12 0 [(.slice p5 A_m.places.length q6), (.slice p8 A_m.tris.length q9)] A_m _ (Blk.cells (hB14.ext E21)) ⟨(.slice p5 A_m.places.length q6), (.slice p8 A_m.tris.length q9), rfl, (Sl.ext hs7 RV3.mono X23), (Sl.ext hs10 (RS.mono RI.mono) X23)⟩ (by exact hmt))) ?_; rintro _ w30 ⟨E29, ⟨bm31, rfl, hb32, hM33⟩⟩
  have X34 := Ext.gr X23 E29
  have n35 : b12 < bm31 := Nat.lt_of_lt_of_le (Blk.lt (hB14.ext E21)) hb32
  have g36 : w.heap.size ≤ bm31 := Nat.le_trans (Nat.le_trans (Below.size E15) (Below.size E21)) hb32
  show wpList _ _ _ _ (fr [_, _, _, _, _, _, _, _, _, _, _, _, _, _, _, _, _, _, _, _, _, _, _, _, _, _, _, _, _, _, _]) _
  refine q_is rfl rfl (does_assign (u := (.map (some bm31))) (ev rfl)) (by dsimp only [List.set]; try rfl) ?_
  refine q_is rfl rfl (does_assign (u := (Iv 0)) (ev rfl)) (by dsimp only [List.set]; try rfl) ?_
  refine wpList_nil (hK28 _ _ ?_)
  refine wp_seq_k fun K37 hK37 => ?_
  refine wp_seq_k fun K38 hK38 => ?_
  refine wp_region_lit ?_
  refine q_is rfl rfl (does_move (u := (.map (some bm31))) (ev rfl)) (by dsimp only [List.set]; try rfl) ?_
  refine seqd rfl rfl (does_range (l := (edL A_m)) Try.underlying64 (ev rfl) hM33) ?_; rintro _ w43 ⟨bi39, rfl, hb40, hM41, E42⟩
  have X44 := Ext.gr X34 E42
  have n45 : b12 < bi39 := Nat.lt_of_lt_of_le (Blk.lt ((hB14.ext E21).ext E29)) hb40
  have n46 : bm31 < bi39 := Nat.lt_of_lt_of_le (MapL.lt hM33) hb40
  have g47 : w.heap.size ≤ bi39 := Nat.le_trans (Nat.le_trans (Nat.le_trans (Below.size E15) (Below.size E21)) (Below.size E29)) hb40
  show wpList _ _ _ _ (fr [_, _, _, _, _, _, _, _, _, _, _, _, _, _, _, _, _, _, _, _, _, _, _, _, _, _, _, _, _, _, _]) _
  refine wpList_nil (hK38 _ _ ?_)
  refine wp_block ?_
  refine loop_ghost (σ := List ((Int × Int) × Int) × Int) (fun s a w' => ∃ u48 : Nat → Value, a = fr [(.agg #[(.slice p5 A_m.places.length q6), (.slice p8 A_m.tris.length q9)]), (Pt b12 0), (Iv 0), (Bo false), (.map (some bm31)), (Iv s.2), (u48 6), (u48 7), (.agg #[(.slice p5 A_m.places.length q6), (.slice p8 A_m.tris.length q9)]), (Bo (meshOk A_m)), (Bo (!(meshOk A_m))), (.map (some bm31)), (.map (some bm31)), (Pt bi39 0), (u48 14), (u48 15), (u48 16), (u48 17), (u48 18), (u48 19), (u48 20), (u48 21), (u48 22), (u48 23), (u48 24), (u48 25), (u48 26), (u48 27), (u48 28), (u48 29), Ud] ∧ KpL [bi39] w43 w' ∧ MapIt encP (Value.int .i64) okP w' bm31 bi39 (edL A_m) s.1 none ∧ (0 ≤ s.2 ∧ s.2 + (s.1.countP (opnC A_m) : Nat) = ((edL A_m).countP (opnC A_m) : Nat))) (fun s => s.1.length) (edL A_m, 0) ?_ ?_
  · refine ⟨fun t => (([(.agg #[(.slice p5 A_m.places.length q6), (.slice p8 A_m.tris.length q9)]), (Pt b12 0), (Iv 0), (Bo false), (.map (some bm31)), (Iv 0), Ud, Ud, (.agg #[(.slice p5 A_m.places.length q6), (.slice p8 A_m.tris.length q9)]), (Bo (meshOk A_m)), (Bo (!(meshOk A_m))), (.map (some bm31)), (.map (some bm31)), (Pt bi39 0), Ud, Ud, Ud, Ud, Ud, Ud, Ud, Ud, Ud, Ud, Ud, Ud, Ud, Ud, Ud, Ud, Ud] : List Value)[t]?).getD undef, rfl, KpL.refl _ _, (MapIt.any hM41), ?_⟩
    exact ⟨Int.le_refl _, by simp⟩
  · rintro s a w49 ⟨u48, rfl, E50, hMi0, ⟨hk0, hk⟩⟩
    have X52 := Below.kl X44 E50 (allS g47 all0) (Nat.le_refl _)
    have hM53 := hMi0; clear hMi0
    have hcl := List.countP_le_length (p := opnC A_m) (l := edL A_m)
    have hel := edL_len A_m
    refine wp_seq_k fun K54 hK54 => ?_
    refine wp_region_lit ?_
    refine seqd rfl rfl (does_next (rest := s.1) (ev rfl) hM53) ?_
    rintro _ w61 (⟨hr55, rfl, rfl⟩ | ⟨⟨⟨q63, q64⟩, q65⟩, As56, Bs57, hAB58, rfl, K59, hM60⟩)
    · show wpList _ _ _ _ (fr [_, _, _, _, _, _, _, _, _, _, _, _, _, _, _, _, _, _, _, _, _, _, _, _, _, _, _, _, _, _, _]) _
      refine q_is rfl rfl (does_extract (vs := #[(Bo false)]) (u := (Bo false)) (ev rfl) rfl) (by dsimp only [List.set]; try rfl) ?_
      refine wpList_nil (hK54 _ _ ?_)
      refine wp_seq_k fun K66 hK66 => ?_
      refine wp_cond_false (ev rfl) ?_
      refine wp_exit ?_
      refine hK37 _ _ ?_
      refine wp_seq_k fun K67 hK67 => ?_
      refine wp_region_lit ?_
      refine q_is rfl rfl (does_move (u := (Iv s.2)) (ev rfl)) (by dsimp only [List.set]; try rfl) ?_
      refine q_is rfl rfl (does_assign (u := (Iv s.2)) (ev rfl)) (by dsimp only [List.set]; try rfl) ?_
      refine q_is rfl rfl (does_assign (u := (Bo true)) (ev rfl)) (by dsimp only [List.set]; try rfl) ?_
      refine wpList_nil (hK67 _ _ ?_)
      refine wp_ret ?_
      refine ret_val (v := (.tuple #[(Iv s.2), (Bo true)])) (res_TT rfl (slot rfl) (slot rfl)) X52 ?_
      have x68 : (openN A_m : Int) = s.2 := by first | exact hmf | exact hmt | exact openN_f hmf | (have hz : s.1 = [] := (by assumption); rw [hz] at hk; simp only [List.countP_nil] at hk; rw [openN_t hmt, ← open_alike hmt]; omega) | (rw [openN_t hmt, show A_m.places.length = k by omega])
      have x69 : (meshOk A_m) = true := by first | exact hmf | exact hmt | exact openN_f hmf | (have hz : s.1 = [] := (by assumption); rw [hz] at hk; simp only [List.countP_nil] at hk; rw [openN_t hmt, ← open_alike hmt]; omega) | (rw [openN_t hmt, show A_m.places.length = k by omega])
      exact (by first | with_reducible rfl | rw [x68, x69] | rw [x69, x68] | rfl)
    have hqk := (MapIt.okr (q := ((q63, q64), q65)) hM53 (by rw [hAB58]; simp)).1
    have X70 := Below.kl X52 K59 (allS g47 all0) (Nat.le_refl _)
    show wpList _ _ _ _ (fr [_, _, _, _, _, _, _, _, _, _, _, _, _, _, _, _, _, _, _, _, _, _, _, _, _, _, _, _, _, _, _]) _
    refine q_is rfl rfl (does_extract (vs := #[(Bo true), (.agg #[(Iv q63), (Iv q64)]), (Iv q65)]) (u := (Bo true)) (ev rfl) rfl) (by dsimp only [List.set]; try rfl) ?_
    refine wpList_nil (hK54 _ _ ?_)
    refine wp_seq_k fun K71 hK71 => ?_
    refine wp_cond_true (ev rfl) ?_
    refine wp_skip (hK71 _ _ ?_)
    refine wp_block ?_
    refine wp_seq_k fun K72 hK72 => ?_
    refine wp_region_lit ?_
    refine q_is rfl rfl (does_entry (q := ((q63, q64), q65)) (ev rfl) hM60) (by dsimp only [List.set]; try rfl) ?_
    refine q_is rfl rfl (does_extract (vs := #[(.agg #[(Iv q63), (Iv q64)]), (Iv q65)]) (u := (.agg #[(Iv q63), (Iv q64)])) (ev rfl) rfl) (by dsimp only [List.set]; try rfl) ?_
    refine q_is rfl rfl (does_extract (vs := #[(.agg #[(Iv q63), (Iv q64)]), (Iv q65)]) (u := (Iv q65)) (ev rfl) rfl) (by dsimp only [List.set]; try rfl) ?_
    refine seqd rfl rfl (does_alloc z66) ?_; rintro _ w77 ⟨b73, rfl, hb74, hB75, E76⟩
    have n78 : b12 < b73 := Nat.lt_of_lt_of_le (Blk.lt (((((hB14.ext E21).ext E29).ext E42).kl E50 (ninS (Nat.ne_of_lt n45) nin0)).kl K59 (ninS (Nat.ne_of_lt n45) nin0))) hb74
    have n79 : bi39 < b73 := Nat.lt_of_lt_of_le (MapIt.lt hM60) hb74
    have g80 : w.heap.size ≤ b73 := Nat.le_trans (Below.size X70) hb74
    change Blk _ _ [(Iv 0), (Iv 0)] at hB75
    have X81 := Ext.gr X70 E76
    show wpList _ _ _ _ (fr [_, _, _, _, _, _, _, _, _, _, _, _, _, _, _, _, _, _, _, _, _, _, _, _, _, _, _, _, _, _, _]) _
    refine seqn rfl rfl (does_store (n := 2) (cs := [(Iv 0), (Iv 0)]) (u := (.agg #[(Iv q63), (Iv q64)])) (ev rfl) (ev rfl) Try.sizeOf66 rfl hB75 (Nat.le_of_ble_eq_true rfl) rfl) ?_; rintro _ w84 ⟨rfl, W82, hB83⟩
    change Blk _ _ [(Iv q63), (Iv q64)] at hB83
    have X85 := Below.wr X81 W82 g80
    refine q_is rfl rfl (does_assign (u := (Iv q65)) (ev rfl)) (by dsimp only [List.set]; try rfl) ?_
    refine wpList_nil (hK72 _ _ ?_)
    refine wp_seq_k fun K86 hK86 => ?_
    refine wp_region_lit ?_
    refine q_is rfl rfl (does_move (u := (.map (some bm31))) (ev rfl)) (by dsimp only [List.set]; try rfl) ?_
    refine q_is rfl rfl (does_indexAt_run (r := (Pt b73 1)) (ev rfl) (ev rfl) (fun w => ia66_1 _ _ w)) (by dsimp only [List.set]; try rfl) ?_
    refine q_is rfl rfl (does_load (u := (Iv q64)) (ev rfl) Try.isAgg2 (Cells.at (Blk.cells hB83) 1 rfl)) (by dsimp only [List.set]; try rfl) ?_
    refine q_is rfl rfl (does_indexAt_run (r := (Pt b73 0)) (ev rfl) (ev rfl) (fun w => ia66_0 _ _ w)) (by dsimp only [List.set]; try rfl) ?_
    refine q_is rfl rfl (does_load (u := (Iv q63)) (ev rfl) Try.isAgg2 (Cells.at (Blk.cells hB83) 0 rfl)) (by dsimp only [List.set]; try rfl) ?_
    refine q_is rfl rfl (does_build (parts' := [(0, (Iv q64)), (1, (Iv q63))]) (cells := #[(Iv q64), (Iv q63)]) (evp rfl) (by kernel_rfl)) (by dsimp only [List.set]; try rfl) ?_
    refine q_is rfl rfl (does_lookup (l := (edL A_m)) (p := (q64, q63)) (z := (0 : Int)) kE66 Try.underlying64 Try.zeroValue3 (ev rfl) (ev rfl) (MapIt.owns (MapIt.kl (MapIt.ext hM60 E76) (KpL.of_wr W82) (ninS (by omega) nin0) (ninS (Nat.ne_of_lt n79) nin0))) (by first | exact ⟨hqk.2.2.1, hqk.2.2.2, hqk.1, hqk.2.1⟩)) (by dsimp only [List.set]; try rfl) ?_
    refine q_is rfl rfl (does_move (u := (Iv q65)) (ev rfl)) (by dsimp only [List.set]; try rfl) ?_
    refine q_is rfl rfl (does_icmp (p := ((atM (edL A_m) (q64, q63)).getD (0 : Int))) (q := q65) (.inr (.inr (.inl rfl))) (ev rfl) (ev rfl)) (by dsimp only [List.set]; try rfl) ?_
    refine wpList_nil (hK86 _ _ ?_)
    refine wp_cond_split (t := icmp .lss ((atM (edL A_m) (q64, q63)).getD (0 : Int)) q65) (ev rfl) (fun c87 => ?_) (fun c87 => ?_)
    · have c87' := c87
      (try simp only [icmp, Bool.and_eq_true, Bool.or_eq_true, Bool.and_eq_false_iff, Bool.or_eq_false_iff, Bool.not_eq_true', Bool.not_eq_false', decide_eq_true_eq, decide_eq_false_iff_not, beq_iff_eq, bne_iff_ne, beq_eq_false_iff_ne, bne_eq_false_iff_eq] at c87')
      have hcq : opnC A_m ((q63, q64), q65) = true := by simpa [opnC, icmp] using c87
      refine wp_region_lit ?_
      refine q_is rfl rfl (does_move (u := (Iv s.2)) (ev rfl)) (by dsimp only [List.set]; try rfl) ?_
      refine q_is rfl rfl (does_iarith (p := s.2) (q := 1) (r := s.2 + 1) (ev rfl) (ev rfl) (.inl ⟨rfl, (in_i64 (by omega) (by omega)).symm⟩)) (by dsimp only [List.set]; try rfl) ?_
      refine q_is rfl rfl (does_assign (u := (Iv (s.2 + 1))) (ev rfl)) (by dsimp only [List.set]; try rfl) ?_
      refine wpList_nil ?_
      refine ⟨(As56 ++ Bs57, s.2 + 1), ⟨fun t => (([(.agg #[(.slice p5 A_m.places.length q6), (.slice p8 A_m.tris.length q9)]), (Pt b12 0), (Iv 0), (Bo false), (.map (some bm31)), (Iv (s.2 + 1)), (Pt b73 0), (Iv q65), (.agg #[(.slice p5 A_m.places.length q6), (.slice p8 A_m.tris.length q9)]), (Bo (meshOk A_m)), (Bo (!(meshOk A_m))), (.map (some bm31)), (.map (some bm31)), (Pt bi39 0), (.tuple #[(Bo true), (.agg #[(Iv q63), (Iv q64)]), (Iv q65)]), (Bo true), (.tuple #[(.agg #[(Iv q63), (Iv q64)]), (Iv q65)]), (.agg #[(Iv q63), (Iv q64)]), (Iv q65), (.map (some bm31)), (Pt b73 1), (Iv q64), (Pt b73 0), (Iv q63), (.agg #[(Iv q64), (Iv q63)]), (Iv ((atM (edL A_m) (q64, q63)).getD (0 : Int))), (Iv q65), (Bo (icmp .lss ((atM (edL A_m) (q64, q63)).getD (0 : Int)) q65)), (Iv s.2), (Iv (s.2 + 1)), Ud] : List Value)[t]?).getD undef, ?_, (KpL.more (KpL.ext (KpL.more E50 K59 (allS (.inl (by simp)) all0)) E76) (KpL.of_wr W82) (allS (.inr (Nat.le_trans (KpL.more E50 K59 (allS (.inl (by simp)) all0)).size hb74)) all0)), (MapIt.any (MapIt.kl (MapIt.ext hM60 E76) (KpL.of_wr W82) (ninS (by omega) nin0) (ninS (Nat.ne_of_lt n79) nin0))), ?_⟩, ?_⟩
      · first | rfl | (simp only [Int.natCast_add, Int.natCast_one]; rfl)
      · (try dsimp only); (rw [hAB58, countP_mid] at hk; first | (rw [if_pos hcq] at hk; refine ⟨by omega, by omega⟩) | (rw [if_neg (by rw [hcq]; exact Bool.false_ne_true)] at hk; refine ⟨by omega, by omega⟩))
      · (rw [hAB58]; simp only [List.length_append, List.length_cons]; omega)
    have c87' := c87
    (try simp only [icmp, Bool.and_eq_true, Bool.or_eq_true, Bool.and_eq_false_iff, Bool.or_eq_false_iff, Bool.not_eq_true', Bool.not_eq_false', decide_eq_true_eq, decide_eq_false_iff_not, beq_iff_eq, bne_iff_ne, beq_eq_false_iff_ne, bne_eq_false_iff_eq] at c87')
    have hcq : opnC A_m ((q63, q64), q65) = false := by simpa [opnC, icmp] using c87
    refine wp_skip ?_
    refine ⟨(As56 ++ Bs57, s.2), ⟨fun t => (([(.agg #[(.slice p5 A_m.places.length q6), (.slice p8 A_m.tris.length q9)]), (Pt b12 0), (Iv 0), (Bo false), (.map (some bm31)), (Iv s.2), (Pt b73 0), (Iv q65), (.agg #[(.slice p5 A_m.places.length q6), (.slice p8 A_m.tris.length q9)]), (Bo (meshOk A_m)), (Bo (!(meshOk A_m))), (.map (some bm31)), (.map (some bm31)), (Pt bi39 0), (.tuple #[(Bo true), (.agg #[(Iv q63), (Iv q64)]), (Iv q65)]), (Bo true), (.tuple #[(.agg #[(Iv q63), (Iv q64)]), (Iv q65)]), (.agg #[(Iv q63), (Iv q64)]), (Iv q65), (.map (some bm31)), (Pt b73 1), (Iv q64), (Pt b73 0), (Iv q63), (.agg #[(Iv q64), (Iv q63)]), (Iv ((atM (edL A_m) (q64, q63)).getD (0 : Int))), (Iv q65), (Bo (icmp .lss ((atM (edL A_m) (q64, q63)).getD (0 : Int)) q65)), (u48 28), (u48 29), Ud] : List Value)[t]?).getD undef, ?_, (KpL.more (KpL.ext (KpL.more E50 K59 (allS (.inl (by simp)) all0)) E76) (KpL.of_wr W82) (allS (.inr (Nat.le_trans (KpL.more E50 K59 (allS (.inl (by simp)) all0)).size hb74)) all0)), (MapIt.any (MapIt.kl (MapIt.ext hM60 E76) (KpL.of_wr W82) (ninS (by omega) nin0) (ninS (Nat.ne_of_lt n79) nin0))), ?_⟩, ?_⟩
    · first | rfl | (simp only [Int.natCast_add, Int.natCast_one]; rfl)
    · (try dsimp only); (rw [hAB58, countP_mid] at hk; first | (rw [if_pos hcq] at hk; refine ⟨by omega, by omega⟩) | (rw [if_neg (by rw [hcq]; exact Bool.false_ne_true)] at hk; refine ⟨by omega, by omega⟩))
    · (rw [hAB58]; simp only [List.length_append, List.length_cons]; omega)

/- laws.FnExactOpenEdges -/
theorem c_laws_FnExactOpenEdges (m : List Value) (A_m : MeshT) (w : World) (hv_m : RMeshT w A_m m) : Gives Try.prog 6 #[(.agg m.toArray)] w (fun v w' => v = (Bo true)) := by
  obtain ⟨y1, y3, rfl, h2, h4⟩ := hv_m
  have hs7 := h2; have hs7l := Sl.len h2; obtain ⟨p5, q6, rfl⟩ := Sl.shape h2
  have hs10 := h4; have hs10l := Sl.len h4; obtain ⟨p8, q9, rfl⟩ := Sl.shape h4
  refine enter [(.agg #[(.slice p5 A_m.places.length q6), (.slice p8 A_m.tris.length q9)]), Ud, Ud, Ud, Ud, Ud, Ud, Ud, Ud, Ud, Ud, Ud, Ud, Ud, Ud, Ud, Ud, Ud, Ud, Ud, Ud, Ud, Ud, Ud, Ud, Ud, Ud, Ud, Ud, Ud, Ud, Ud, Ud, Ud, Ud, Ud, Ud, Ud, Ud, Ud] Try.func6 rfl Try.ntmps6 rfl ?_
  refine wp_seq_k fun K11 hK11 => ?_
  refine wp_region_lit ?_
  refine seqd rfl rfl (does_box (u := (.agg #[(.slice p5 A_m.places.length q6), (.slice p8 A_m.tris.length q9)])) (ev rfl)) ?_; rintro _ w16 ⟨b12, rfl, hb13, hB14, E15⟩
  have g17 : w.heap.size ≤ b12 := Nat.le_trans (Below.size (Ext.refl w)) hb13
  change Blk _ _ [(.slice p5 A_m.places.length q6), (.slice p8 A_m.tris.length q9)] at hB14
  have X18 := Ext.gr (Ext.refl w) E15
  show wpList _ _ _ _ (fr [_, _, _, _, _, _, _, _, _, _, _, _, _, _, _, _, _, _, _, _, _, _, _, _, _, _, _, _, _, _, _, _, _, _, _, _, _, _, _, _]) _
  refine q_is rfl rfl (does_assign (u := (Bo false)) (ev rfl)) (by dsimp only [List.set]; try rfl) ?_
  refine wpList_nil (hK11 _ _ ?_)
  refine wp_seq_k fun K19 hK19 => ?_
  refine wp_region_lit ?_
  refine q_is rfl rfl (does_assign (u := (Iv 1048576)) (ev rfl)) (by dsimp only [List.set]; try rfl) ?_
  refine wpList_nil (hK19 _ _ ?_)
  refine wp_seq_k fun K20 hK20 => ?_
  refine wp_region_lit ?_
  refine q_is rfl rfl (does_loadAgg (cs := [(.slice p5 A_m.places.length q6), (.slice p8 A_m.tris.length q9)]) (ev rfl) Try.isAgg25 Try.sizeOf25 (Blk.cells hB14) rfl) (by dsimp only [List.set]; try rfl) ?_
  refine q_is rfl rfl (does_move (u := (Iv 1048576)) (ev rfl)) (by dsimp only [List.set]; try rfl) ?_
  refine seqd rfl rfl (does_call (args := #[(.agg #[(.slice p5 A_m.places.length q6), (.slice p8 A_m.tris.length q9)]), (Iv 1048576)]) cal7 (evs rfl) (c_laws_szMesh [(.slice p5 A_m.places.length q6), (.slice p8 A_m.tris.length q9)] A_m 1048576 _ ⟨(.slice p5 A_m.places.length q6), (.slice p8 A_m.tris.length q9), rfl, (Sl.ext hs7 RV3.mono X18), (Sl.ext hs10 (RS.mono RI.mono) X18)⟩ (by omega) (by omega))) ?_; rintro _ w22 ⟨E21, ⟨i23, rfl, h24⟩⟩
  have X25 := Ext.gr X18 E21
  show wpList _ _ _ _ (fr [_, _, _, _, _, _, _, _, _, _, _, _, _, _, _, _, _, _, _, _, _, _, _, _, _, _, _, _, _, _, _, _, _, _, _, _, _, _, _, _]) _
  refine q_is rfl rfl (does_assign (u := (Iv i23)) (ev rfl)) (by dsimp only [List.set]; try rfl) ?_
  refine wpList_nil (hK20 _ _ ?_)
  refine wp_seq_k fun K26 hK26 => ?_
  refine wp_seq_k fun K27 hK27 => ?_
  refine wp_region_lit ?_
  refine q_is rfl rfl (does_move (u := (Iv i23)) (ev rfl)) (by dsimp only [List.set]; try rfl) ?_
  refine q_is rfl rfl (does_icmp (p := i23) (q := 0) (.inr (.inr (.inl rfl))) (ev rfl) (ev rfl)) (by dsimp only [List.set]; try rfl) ?_
  refine wpList_nil (hK27 _ _ ?_)
  refine wp_cond_split (t := icmp .lss i23 0) (ev rfl) (fun c28 => ?_) (fun c28 => ?_)
  · have c28' := c28
    (try simp only [sameMesh_self, bne_self_eq_false] at c28')
    (try simp only [icmp, Bool.and_eq_true, Bool.or_eq_true, Bool.and_eq_false_iff, Bool.or_eq_false_iff, Bool.not_eq_true', Bool.not_eq_false', decide_eq_true_eq, decide_eq_false_iff_not, beq_iff_eq, bne_iff_ne, beq_eq_false_iff_ne, bne_eq_false_iff_eq] at c28')
    refine wp_seq_k fun K29 hK29 => ?_
    refine wp_region_lit ?_
    refine q_is rfl rfl (does_assign (u := (Bo true)) (ev rfl)) (by dsimp only [List.set]; try rfl) ?_
    refine wpList_nil (hK29 _ _ ?_)
    refine wp_ret ?_
    dsimp only [Exit.then, Exit.inBlock]
    refine ret_val (v := (Bo true)) (res_T rfl (slot rfl)) X25 ?_
    try simp only [sameMesh_self, bne_self_eq_false] at c28
    exact rfl
  have c28' := c28
  (try simp only [sameMesh_self, bne_self_eq_false] at c28')
  (try simp only [icmp, Bool.and_eq_true, Bool.or_eq_true, Bool.and_eq_false_iff, Bool.or_eq_false_iff, Bool.not_eq_true', Bool.not_eq_false', decide_eq_true_eq, decide_eq_false_iff_not, beq_iff_eq, bne_iff_ne, beq_eq_false_iff_ne, bne_eq_false_iff_eq] at c28')
  refine wp_skip (hK26 _ _ ?_)
  refine wp_seq_k fun K30 hK30 => ?_
  refine wp_region_lit ?_
  refine q_is rfl rfl (does_loadAgg (cs := [(.slice p5 A_m.places.length q6), (.slice p8 A_m.tris.length q9)]) (ev rfl) Try.isAgg25 Try.sizeOf25 (Blk.cells (hB14.ext E21)) rfl) (by dsimp only [List.set]; try rfl) ?_
  refine seqd rfl rfl (does_call (args := #[(.agg #[(.slice p5 A_m.places.length q6), (.slice p8 A_m.tris.length q9)])]) cal9 (evs rfl) (c_laws_toMesh [(.slice p5 A_m.places.length q6), (.slice p8 A_m.tris.length q9)] A_m _ ⟨(.slice p5 A_m.places.length q6), (.slice p8 A_m.tris.length q9), rfl, (Sl.ext hs7 RV3.mono X25), (Sl.ext hs10 (RS.mono RI.mono) X25)⟩ (by omega))) ?_; rintro _ w32 ⟨E31, ⟨cs34, Lw35, rfl, hh33, hw36⟩⟩
  have X37 := Ext.gr X25 E31
  have n38 : b12 < w22.heap.size := Blk.lt (hB14.ext E21)
  obtain ⟨y39, y41, rfl, h40, h42⟩ := hh33.get
  have h40l := Sl.len h40; obtain ⟨p43, q44, rfl⟩ := Sl.shape h40
  have hh45 : Hang w22.heap.size w32 (fun u => Sl RV3 3 u (.slice p43 A_m.places.length q44) A_m.places) := fun u hu => by obtain ⟨_, _, hq, _, _⟩ := hh33 u hu; cases hq; assumption
  have h42l := Sl.len h42; obtain ⟨p46, q47, rfl⟩ := Sl.shape h42
  have hh48 : Hang w22.heap.size w32 (fun u => Sl (RS RI 1) 1 u (.slice p46 A_m.tris.length q47) A_m.tris) := fun u hu => by obtain ⟨_, _, hq, _, _⟩ := hh33 u hu; cases hq; assumption
  have hw49 : WLM w22.heap.size w32 Lw35 (.slice p43 A_m.places.length q44) (.slice p46 A_m.tris.length q47) A_m := hw36
  show wpList _ _ _ _ (fr [_, _, _, _, _, _, _, _, _, _, _, _, _, _, _, _, _, _, _, _, _, _, _, _, _, _, _, _, _, _, _, _, _, _, _, _, _, _, _, _]) _
  refine seqd rfl rfl (does_call (args := #[(.agg #[(.slice p43 A_m.places.length q44), (.slice p46 A_m.tris.length q47)])]) cal21 (evs rfl) (c_spec_OpenEdges [(.slice p43 A_m.places.length q44), (.slice p46 A_m.tris.length q47)] A_m _ ⟨(.slice p43 A_m.places.length q44), (.slice p46 A_m.tris.length q47), rfl, hh45.get, hh48.get⟩)) ?_; rintro _ w51 ⟨E50, rfl⟩
  have X52 := Ext.gr X37 E50
  show wpList _ _ _ _ (fr [_, _, _, _, _, _, _, _, _, _, _, _, _, _, _, _, _, _, _, _, _, _, _, _, _, _, _, _, _, _, _, _, _, _, _, _, _, _, _, _]) _
  refine q_is rfl rfl (does_move (u := (.tuple #[(Iv (openN A_m)), (Bo (meshOk A_m))])) (ev rfl)) (by dsimp only [List.set]; try rfl) ?_
  refine q_is rfl rfl (does_extract (vs := #[(Iv (openN A_m)), (Bo (meshOk A_m))]) (u := (Iv (openN A_m))) (ev rfl) rfl) (by dsimp only [List.set]; try rfl) ?_
  refine q_is rfl rfl (does_extract (vs := #[(Iv (openN A_m)), (Bo (meshOk A_m))]) (u := (Bo (meshOk A_m))) (ev rfl) rfl) (by dsimp only [List.set]; try rfl) ?_
  refine q_is rfl rfl (does_assign (u := (Iv (openN A_m))) (ev rfl)) (by dsimp only [List.set]; try rfl) ?_
  refine q_is rfl rfl (does_assign (u := (Bo (meshOk A_m))) (ev rfl)) (by dsimp only [List.set]; try rfl) ?_
  refine wpList_nil (hK30 _ _ ?_)
  refine wp_seq_k fun K53 hK53 => ?_
  refine wp_region_lit ?_
  refine q_is rfl rfl (does_loadAgg (cs := [(.slice p5 A_m.places.length q6), (.slice p8 A_m.tris.length q9)]) (ev rfl) Try.isAgg25 Try.sizeOf25 (Blk.cells (((hB14.ext E21).ext E31).ext E50)) rfl) (by dsimp only [List.set]; try rfl) ?_
  refine seqd rfl rfl (does_call (args := #[(.agg #[(.slice p5 A_m.places.length q6), (.slice p8 A_m.tris.length q9)])]) cal9 (evs rfl) (c_laws_toMesh [(.slice p5 A_m.places.length q6), (.slice p8 A_m.tris.length q9)] A_m _ ⟨(.slice p5 A_m.places.length q6), (.slice p8 A_m.tris.length q9), rfl, (Sl.ext hs7 RV3.mono X52), (Sl.ext hs10 (RS.mono RI.mono) X52)⟩ (by omega))) ?_; rintro _ w55 ⟨E54, ⟨cs57, Lw58, rfl, hh56, hw59⟩⟩
  have X60 := Ext.gr X52 E54
  have n61 : b12 < w51.heap.size := Blk.lt (((hB14.ext E21).ext E31).ext E50)
  obtain ⟨y62, y64, rfl, h63, h65⟩ := hh56.get
  have h63l := Sl.len h63; obtain ⟨p66, q67, rfl⟩ := Sl.shape h63
  have hh68 : Hang w51.heap.size w55 (fun u => Sl RV3 3 u (.slice p66 A_m.places.length q67) A_m.places) := fun u hu => by obtain ⟨_, _, hq, _, _⟩ := hh56 u hu; cases hq; assumption
  have h65l := Sl.len h65; obtain ⟨p69, q70, rfl⟩ := Sl.shape h65
  have hh71 : Hang w51.heap.size w55 (fun u => Sl (RS RI 1) 1 u (.slice p69 A_m.tris.length q70) A_m.tris) := fun u hu => by obtain ⟨_, _, hq, _, _⟩ := hh56 u hu; cases hq; assumption
  have hw72 : WLM w51.heap.size w55 Lw58 (.slice p66 A_m.places.length q67) (.slice p69 A_m.tris.length q70) A_m := hw59
  show wpList _ _ _ _ (fr [_, _, _, _, _, _, _, _, _, _, _, _, _, _, _, _, _, _, _, _, _, _, _, _, _, _, _, _, _, _, _, _, _, _, _, _, _, _, _, _]) _
  refine seqd rfl rfl (does_alloc z32) ?_; rintro _ w77 ⟨b73, rfl, hb74, hB75, E76⟩
  have n78 : b12 < b73 := Nat.lt_of_lt_of_le (Blk.lt ((((hB14.ext E21).ext E31).ext E50).ext E54)) hb74
  have g79 : w.heap.size ≤ b73 := Nat.le_trans (Below.size X60) hb74
  change Blk _ _ [(.slice none 0 0), (.slice none 0 0)] at hB75
  have X80 := Ext.gr X60 E76
  show wpList _ _ _ _ (fr [_, _, _, _, _, _, _, _, _, _, _, _, _, _, _, _, _, _, _, _, _, _, _, _, _, _, _, _, _, _, _, _, _, _, _, _, _, _, _, _]) _
  refine seqn rfl rfl (does_store (n := 2) (cs := [(.slice none 0 0), (.slice none 0 0)]) (u := (.agg #[(.slice p66 A_m.places.length q67), (.slice p69 A_m.tris.length q70)])) (ev rfl) (ev rfl) Try.sizeOf32 rfl hB75 (Nat.le_of_ble_eq_true rfl) rfl) ?_; rintro _ w83 ⟨rfl, W81, hB82⟩
  change Blk _ _ [(.slice p66 A_m.places.length q67), (.slice p69 A_m.tris.length q70)] at hB82
  have X84 := Below.wr X80 W81 g79
  refine wpList_nil (hK53 _ _ ?_)
  refine wp_seq_k fun K85 hK85 => ?_
  refine wp_region_lit ?_
  refine q_is rfl rfl (does_loadAgg (cs := [(.slice p66 A_m.places.length q67), (.slice p69 A_m.tris.length q70)]) (ev rfl) Try.isAgg32 Try.sizeOf32 (Blk.cells hB82) rfl) (by dsimp only [List.set]; try rfl) ?_
  refine seqd rfl rfl (does_call (args := #[(.agg #[(.slice p66 A_m.places.length q67), (.slice p69 A_m.tris.length q70)])]) cal22 (evs rfl) (c_impl_OpenEdges [(.slice p66 A_m.places.length q67), (.slice p69 A_m.tris.length q70)] A_m _ ⟨(.slice p66 A_m.places.length q67), (.slice p69 A_m.tris.length q70), rfl, (hh68 _ (((Same.refl _ _).ext E76).wr W81 (.inr (Nat.le_trans (Nat.le_refl _) hb74)))), (hh71 _ (((Same.refl _ _).ext E76).wr W81 (.inr (Nat.le_trans (Nat.le_refl _) hb74))))⟩)) ?_; rintro _ w87 ⟨E86, rfl⟩
  have X88 := Ext.gr X84 E86
  show wpList _ _ _ _ (fr [_, _, _, _, _, _, _, _, _, _, _, _, _, _, _, _, _, _, _, _, _, _, _, _, _, _, _, _, _, _, _, _, _, _, _, _, _, _, _, _]) _
  refine q_is rfl rfl (does_move (u := (.tuple #[(Iv (openN A_m)), (Bo (meshOk A_m))])) (ev rfl)) (by dsimp only [List.set]; try rfl) ?_
  refine q_is rfl rfl (does_extract (vs := #[(Iv (openN A_m)), (Bo (meshOk A_m))]) (u := (Iv (openN A_m))) (ev rfl) rfl) (by dsimp only [List.set]; try rfl) ?_
  refine q_is rfl rfl (does_extract (vs := #[(Iv (openN A_m)), (Bo (meshOk A_m))]) (u := (Bo (meshOk A_m))) (ev rfl) rfl) (by dsimp only [List.set]; try rfl) ?_
  refine q_is rfl rfl (does_assign (u := (Iv (openN A_m))) (ev rfl)) (by dsimp only [List.set]; try rfl) ?_
  refine q_is rfl rfl (does_assign (u := (Bo (meshOk A_m))) (ev rfl)) (by dsimp only [List.set]; try rfl) ?_
  refine wpList_nil (hK85 _ _ ?_)
  refine wp_seq_k fun K89 hK89 => ?_
  refine wp_seq_k fun K90 hK90 => ?_
  obtain ⟨β1, hβ1⟩ : ∃ b : Bool, b = (icmp .neq (openN A_m) (openN A_m)) := ⟨_, rfl⟩
  obtain ⟨β2, hβ2⟩ : ∃ b : Bool, b = ((meshOk A_m) != (meshOk A_m)) := ⟨_, rfl⟩
  refine region_text (
    [Fact.pure [] (fun v => v = (Iv (openN A_m))),
    Fact.pure [] (fun v => v = (Iv (openN A_m))),
    Fact.pure [27, 28] (fun v => v = (Bo β1)),
    Fact.pure [29] (fun v => v = (Bo β1)),
    Fact.pure [30] (fun v => β1 = false → v = (Bo (meshOk A_m))),
    Fact.pure [30] (fun v => β1 = false → v = (Bo (meshOk A_m))),
    Fact.pure [31, 32, 30] (fun v => β1 = false → v = (Bo β2)),
    Fact.pure [30, 33] (fun v => v = (Bo (β1 || β2)))]) (by simp [Fact.pure, Fact.mem]) ?_
  refine RW_d _ rfl (fun v => by dsimp only [List.set]; try rfl) (fun u hu hF => ?_) (fun v91 => ?_)
  · clear hF
    refine doesG_un rfl ?_
    refine (does_move (u := (Iv (openN A_m))) (ev rfl)).mono ?_; rintro _ _ ⟨rfl, rfl⟩
    exact ⟨rfl, Ext.refl _⟩
  refine RW_d _ rfl (fun v => by dsimp only [List.set]; try rfl) (fun u hu hF => ?_) (fun v92 => ?_)
  · clear hF
    refine doesG_un rfl ?_
    refine (does_move (u := (Iv (openN A_m))) (ev rfl)).mono ?_; rintro _ _ ⟨rfl, rfl⟩
    exact ⟨rfl, Ext.refl _⟩
  refine RW_d _ rfl (fun v => by dsimp only [List.set]; try rfl) (fun u hu hF => ?_) (fun v93 => ?_)
  · have h27_ : v91 = (Iv (openN A_m)) := hF.1
    have h28_ : v92 = (Iv (openN A_m)) := hF.2.1
    clear hF
    refine doesG_un rfl ?_
    obtain rfl := h27_
    obtain rfl := h28_
    refine (does_icmp (p := openN A_m) (q := openN A_m) (.inr (.inl rfl)) (ev rfl) (ev rfl)).mono ?_; rintro _ _ ⟨rfl, rfl⟩
    exact ⟨(by first | rfl | (show _ = _; simp only [hβ1]; done) | (show _ = _; simp only [hβ1]; rfl)), Ext.refl _⟩
  refine RW_d _ rfl (fun v => by dsimp only [List.set]; try rfl) (fun u hu hF => ?_) (fun v94 => ?_)
  · have h29_ : v93 = (Bo β1) := hF.1
    clear hF
    refine doesG_un rfl ?_
    obtain rfl := h29_
    refine (does_move (u := (Bo β1)) (ev rfl)).mono ?_; rintro _ _ ⟨rfl, rfl⟩
    exact ⟨rfl, Ext.refl _⟩
  refine RW_d _ rfl (fun v => by dsimp only [List.set]; try rfl) (fun u hu hF => ?_) (fun v95 => ?_)
  · have h30_ : v94 = (Bo β1) := hF.1
    clear hF
    obtain rfl := h30_
    refine doesG_g (b := β1) rfl (yld rfl rfl) (fun hg1 => ?_) (fun hc => ⟨fun hg1 => absurd hg1 hc, Ext.refl _⟩)
    refine (does_move (u := (Bo (meshOk A_m))) (ev rfl)).mono ?_; rintro _ _ ⟨rfl, rfl⟩
    exact ⟨fun _ => rfl, Ext.refl _⟩
  refine RW_d _ rfl (fun v => by dsimp only [List.set]; try rfl) (fun u hu hF => ?_) (fun v96 => ?_)
  · have h30_ : v94 = (Bo β1) := hF.1
    clear hF
    obtain rfl := h30_
    refine doesG_g (b := β1) rfl (yld rfl rfl) (fun hg1 => ?_) (fun hc => ⟨fun hg1 => absurd hg1 hc, Ext.refl _⟩)
    refine (does_move (u := (Bo (meshOk A_m))) (ev rfl)).mono ?_; rintro _ _ ⟨rfl, rfl⟩
    exact ⟨fun _ => rfl, Ext.refl _⟩
  refine RW_d _ rfl (fun v => by dsimp only [List.set]; try rfl) (fun u hu hF => ?_) (fun v97 => ?_)
  · have h31_ : β1 = false → v95 = (Bo (meshOk A_m)) := hF.1
    have h32_ : β1 = false → v96 = (Bo (meshOk A_m)) := hF.2.1
    have h30_ : v94 = (Bo β1) := hF.2.2.1
    clear hF
    obtain rfl := h30_
    refine doesG_g (b := β1) rfl (yld rfl rfl) (fun hg1 => ?_) (fun hc => ⟨fun hg1 => absurd hg1 hc, Ext.refl _⟩)
    obtain rfl := h31_ hg1
    obtain rfl := h32_ hg1
    refine (does_bne (p := (meshOk A_m)) (q := (meshOk A_m)) Try.underlying4 (ev rfl) (ev rfl)).mono ?_; rintro _ _ ⟨rfl, rfl⟩
    exact ⟨fun _ => (by first | rfl | (show _ = _; simp only [hβ2]; done) | (show _ = _; simp only [hβ2]; rfl)), Ext.refl _⟩
  refine RW_d _ rfl (fun v => by dsimp only [List.set]; try rfl) (fun u hu hF => ?_) (fun v98 => ?_)
  · have h30_ : v94 = (Bo β1) := hF.1
    have h33_ : β1 = false → v97 = (Bo β2) := hF.2.1
    clear hF
    refine doesG_un rfl ?_
    skip
    obtain rfl := h30_
    refine (does_pick (b := β1) (u := (Bo true)) (v := v97) (ev rfl) (ev rfl) (ev rfl)).mono ?_; rintro _ _ ⟨rfl, rfl⟩; refine ⟨?_, Ext.refl _⟩; skip
    cases hbb : β1
    all_goals first | (show _ = _; simp only [↓reduceIte, Bool.true_and, Bool.false_and, Bool.true_or, Bool.false_or, Bool.false_eq_true]; done) | (have e_ := h33_ hbb; subst e_; show _ = _; simp only [↓reduceIte, Bool.true_and, Bool.false_and, Bool.true_or, Bool.false_or, Bool.false_eq_true]; done) | rfl | (have e_ := h33_ hbb; subst e_; rfl) | (simp [hbb] at h33_ ⊢; first | done | rfl | (subst h33_; rfl) | simp_all) | (simp [hbb] at h33_ ⊢; done)
  refine RW_fin ?_; intro w99 E100 hP101
  obtain ⟨⟨⟨⟨⟨⟨⟨⟨-, -⟩, -⟩, -⟩, -⟩, -⟩, -⟩, -⟩, q102⟩ := hP101
  have X103 := Ext.gr X88 E100
  have q102 : v98 = (Bo (β1 || β2)) := q102
  obtain rfl := q102
  show wpList _ _ _ _ (fr [_, _, _, _, _, _, _, _, _, _, _, _, _, _, _, _, _, _, _, _, _, _, _, _, _, _, _, _, _, _, _, _, _, _, _, _, _, _, _, _]) _
  refine wpList_nil (hK90 _ _ ?_)
  refine wp_cond_split (t := β1 || β2) (ev rfl) (fun c104 => ?_) (fun c104 => ?_)
  · have c104' := c104
    (try simp only [hβ1, hβ2, sameMesh_self, bne_self_eq_false] at c104')
    (try simp only [hβ1, hβ2] at c104')
    (try simp only [icmp, Bool.and_eq_true, Bool.or_eq_true, Bool.and_eq_false_iff, Bool.or_eq_false_iff, Bool.not_eq_true', Bool.not_eq_false', decide_eq_true_eq, decide_eq_false_iff_not, beq_iff_eq, bne_iff_ne, beq_eq_false_iff_ne, bne_eq_false_iff_eq] at c104')
    refine wp_seq_k fun K105 hK105 => ?_
    refine wp_region_lit ?_
    refine q_is rfl rfl (does_assign (u := (Bo false)) (ev rfl)) (by dsimp only [List.set]; try rfl) ?_
    refine wpList_nil (hK105 _ _ ?_)
    refine wp_ret ?_
    dsimp only [Exit.then, Exit.inBlock]
    refine ret_val (v := (Bo false)) (res_T rfl (slot rfl)) X103 ?_
    try simp only [hβ1, hβ2, sameMesh_self, bne_self_eq_false] at c28 c104
    have x106 : true = false := by first | with_reducible rfl | (simp only [sameMesh_self, bne_self_eq_false, hβ1, hβ2, c28, c104]; done) | (simp [sameMesh_self, bne_self_eq_false, hβ1, hβ2, c28, c104]; done) | (revert c28 c104; simp +contextual [sameMesh_self, bne_self_eq_false, hβ1, hβ2]; done) | (rcases c28' with hh | hh <;> simp only [hh, sameMesh_self, bne_self_eq_false, hβ1, hβ2, c28, c104]; done) | (rcases c104' with hh | hh <;> simp only [hh, sameMesh_self, bne_self_eq_false, hβ1, hβ2, c28, c104]; done) | (rcases c104' with hh | hh <;> simp_all [sameMesh_self, bne_self_eq_false]; done) | (rcases c104' with hh | hh | hh <;> simp_all [sameMesh_self, bne_self_eq_false]; done) | (rcases c104' with hh | hh | hh | hh <;> simp_all [sameMesh_self, bne_self_eq_false]; done) | (simp_all [sameMesh_self, bne_self_eq_false]; done) | rfl
    exact (by first | with_reducible rfl | rw [x106] | rfl)
  have c104' := c104
  (try simp only [hβ1, hβ2, sameMesh_self, bne_self_eq_false] at c104')
  (try simp only [hβ1, hβ2] at c104')
  (try simp only [icmp, Bool.and_eq_true, Bool.or_eq_true, Bool.and_eq_false_iff, Bool.or_eq_false_iff, Bool.not_eq_true', Bool.not_eq_false', decide_eq_true_eq, decide_eq_false_iff_not, beq_iff_eq, bne_iff_ne, beq_eq_false_iff_ne, bne_eq_false_iff_eq] at c104')
  refine wp_skip (hK89 _ _ ?_)
  refine wp_seq_k fun K107 hK107 => ?_
  refine wp_seq_k fun K108 hK108 => ?_
  refine region_draw (
    [Fact.pure [] (fun v => v = (.agg #[(.slice p66 A_m.places.length q67), (.slice p69 A_m.tris.length q70)])),
    Fact.pure [] (fun v => v = (.agg #[(.slice p5 A_m.places.length q6), (.slice p8 A_m.tris.length q9)])),
    Fact.mem [36] (fun v w' => ∃ cs_1 : List Value, ∃ Lw_2 : List Nat, v = (.agg cs_1.toArray) ∧ Hang w99.heap.size w' (fun u => RMeshT u A_m cs_1) ∧ WLM w99.heap.size w' Lw_2 (cellN cs_1 0) (cellN cs_1 1) A_m) (by rintro v w1 w2 hx ⟨z1, z2, rfl, k0, k1⟩; exact ⟨_, _, rfl, (k0.ext hx), (k1.same (Same.of_ext hx))⟩),
    Fact.pure [35, 37] (fun v => v = (Bo (sameMesh A_m A_m))),
    Fact.pure [38] (fun v => v = (Bo (!(sameMesh A_m A_m))))]) mixed (by kernel_rfl) (by intro _ _ d _ _ h; cases d <;> exact h) ?_
  obtain ⟨w109, hw111⟩ : ∃ w', w' = World.drew w99 := ⟨_, rfl⟩; rw [← hw111]; have E110 : Ext w99 w109 := by rw [hw111]; exact Ext.draw _
  clear hw111
  have X112 := Ext.gr X103 E110
  refine RW_d _ rfl (fun v => by dsimp only [List.set]; try rfl) (fun u hu hF => ?_) (fun v113 => ?_)
  · clear hF
    refine doesG_un rfl ?_
    refine (does_loadAgg (cs := [(.slice p66 A_m.places.length q67), (.slice p69 A_m.tris.length q70)]) (ev rfl) Try.isAgg32 Try.sizeOf32 (Blk.cells ((((hB82.ext E86).ext E100).ext E110).ext hu)) rfl).mono ?_; rintro _ _ ⟨rfl, rfl⟩
    exact ⟨rfl, Ext.refl _⟩
  refine RW_d _ rfl (fun v => by dsimp only [List.set]; try rfl) (fun u hu hF => ?_) (fun v114 => ?_)
  · clear hF
    refine doesG_un rfl ?_
    refine (does_loadAgg (cs := [(.slice p5 A_m.places.length q6), (.slice p8 A_m.tris.length q9)]) (ev rfl) Try.isAgg25 Try.sizeOf25 (Blk.cells ((((((((((hB14.ext E21).ext E31).ext E50).ext E54).ext E76).wr W81 (Nat.ne_of_lt n78)).ext E86).ext E100).ext E110).ext hu)) rfl).mono ?_; rintro _ _ ⟨rfl, rfl⟩
    exact ⟨rfl, Ext.refl _⟩
  refine RW_d _ rfl (fun v => by dsimp only [List.set]; try rfl) (fun u hu hF => ?_) (fun v115 => ?_)
  · have h36_ : v114 = (.agg #[(.slice p5 A_m.places.length q6), (.slice p8 A_m.tris.length q9)]) := hF.1
    clear hF
    refine doesG_un rfl ?_
    obtain rfl := h36_
    refine (does_call (args := #[(.agg #[(.slice p5 A_m.places.length q6), (.slice p8 A_m.tris.length q9)])]) cal9 (evs rfl) (c_laws_toMesh [(.slice p5 A_m.places.length q6), (.slice p8 A_m.tris.length q9)] A_m _ ⟨(.slice p5 A_m.places.length q6), (.slice p8 A_m.tris.length q9), rfl, (Sl.ext (Sl.ext hs7 RV3.mono (Ext.gr X103 E110)) RV3.mono hu), (Sl.ext (Sl.ext hs10 (RS.mono RI.mono) (Ext.gr X103 E110)) (RS.mono RI.mono) hu)⟩ (by omega))).mono ?_; rintro v u' ⟨hx, ⟨csn1, Lwn2, hv, k0, k1⟩⟩
    exact ⟨⟨csn1, Lwn2, hv, (Hang.le k0 (Nat.le_trans (Below.size E110) (Below.size hu))), (WLM.le k1 (Nat.le_trans (Below.size E110) (Below.size hu)))⟩, hx⟩
  refine RW_d _ rfl (fun v => by dsimp only [List.set]; try rfl) (fun u hu hF => ?_) (fun v116 => ?_)
  · have h35_ : v113 = (.agg #[(.slice p66 A_m.places.length q67), (.slice p69 A_m.tris.length q70)]) := hF.1
    have h37_ : ∃ cs_1 : List Value, ∃ Lw_2 : List Nat, v115 = (.agg cs_1.toArray) ∧ Hang w99.heap.size u (fun u => RMeshT u A_m cs_1) ∧ WLM w99.heap.size u Lw_2 (cellN cs_1 0) (cellN cs_1 1) A_m := hF.2.1
    clear hF
    refine doesG_un rfl ?_
    obtain rfl := h35_
    obtain ⟨cs37_2, Lw37_3, rfl, hh37_1, hw37_4⟩ := h37_
    obtain ⟨y37_5, y37_7, rfl, h37_6, h37_8⟩ := hh37_1.get
    have hh37_6 := h37_6; obtain ⟨p37_9, q37_10, rfl⟩ := Sl.shape h37_6
    have hh37_8 := h37_8; obtain ⟨p37_11, q37_12, rfl⟩ := Sl.shape h37_8
    refine (does_call (args := #[(.agg #[(.slice p66 A_m.places.length q67), (.slice p69 A_m.tris.length q70)]), (.agg #[(.slice p37_9 A_m.places.length q37_10), (.slice p37_11 A_m.tris.length q37_12)])]) cal12 (evs rfl) (c_laws_eqMesh [(.slice p66 A_m.places.length q67), (.slice p69 A_m.tris.length q70)] A_m [(.slice p37_9 A_m.places.length q37_10), (.slice p37_11 A_m.tris.length q37_12)] A_m _ ⟨(.slice p66 A_m.places.length q67), (.slice p69 A_m.tris.length q70), rfl, (Sl.ext (hh68 _ ((((((Same.refl _ _).ext E76).wr W81 (.inr (Nat.le_trans (Nat.le_refl _) hb74))).ext E86).ext E100).ext E110)) RV3.mono hu), (Sl.ext (hh71 _ ((((((Same.refl _ _).ext E76).wr W81 (.inr (Nat.le_trans (Nat.le_refl _) hb74))).ext E86).ext E100).ext E110)) (RS.mono RI.mono) hu)⟩ ⟨(.slice p37_9 A_m.places.length q37_10), (.slice p37_11 A_m.tris.length q37_12), rfl, hh37_6, hh37_8⟩)).mono ?_; rintro v u' ⟨hx, hv⟩
    exact ⟨hv, hx⟩
  refine RW_d _ rfl (fun v => by dsimp only [List.set]; try rfl) (fun u hu hF => ?_) (fun v117 => ?_)
  · have h38_ : v116 = (Bo (sameMesh A_m A_m)) := hF.1
    clear hF
    refine doesG_un rfl ?_
    obtain rfl := h38_
    refine (does_not (ev rfl)).mono ?_; rintro _ _ ⟨rfl, rfl⟩
    exact ⟨rfl, Ext.refl _⟩
  refine RW_fin ?_; intro w118 E119 hP120
  obtain ⟨⟨⟨⟨⟨-, -⟩, -⟩, -⟩, -⟩, q121⟩ := hP120
  have X122 := Ext.gr X112 E119
  have q121 : v117 = (Bo (!(sameMesh A_m A_m))) := q121
  obtain rfl := q121
  show wpList _ _ _ _ (fr [_, _, _, _, _, _, _, _, _, _, _, _, _, _, _, _, _, _, _, _, _, _, _, _, _, _, _, _, _, _, _, _, _, _, _, _, _, _, _, _]) _
  refine wpList_nil (hK108 _ _ ?_)
  refine wp_cond_split (t := !(sameMesh A_m A_m)) (ev rfl) (fun c123 => ?_) (fun c123 => ?_)
  · rw [Bool.not_eq_true'] at c123
    have c123' := c123
    (try simp only [hβ1, hβ2, sameMesh_self, bne_self_eq_false] at c123')
    (try simp only [hβ1, hβ2] at c123')
    (try simp only [icmp, Bool.and_eq_true, Bool.or_eq_true, Bool.and_eq_false_iff, Bool.or_eq_false_iff, Bool.not_eq_true', Bool.not_eq_false', decide_eq_true_eq, decide_eq_false_iff_not, beq_iff_eq, bne_iff_ne, beq_eq_false_iff_ne, bne_eq_false_iff_eq] at c123')
    refine wp_seq_k fun K124 hK124 => ?_
    refine wp_region_lit ?_
    refine q_is rfl rfl (does_assign (u := (Bo false)) (ev rfl)) (by dsimp only [List.set]; try rfl) ?_
    refine wpList_nil (hK124 _ _ ?_)
    refine wp_ret ?_
    dsimp only [Exit.then, Exit.inBlock]
    refine ret_val (v := (Bo false)) (res_T rfl (slot rfl)) X122 ?_
    try simp only [hβ1, hβ2, sameMesh_self, bne_self_eq_false] at c28 c104 c123
    have x125 : true = false := by first | with_reducible rfl | (simp only [sameMesh_self, bne_self_eq_false, hβ1, hβ2, c28, c104, c123]; done) | (simp [sameMesh_self, bne_self_eq_false, hβ1, hβ2, c28, c104, c123]; done) | (revert c28 c104 c123; simp +contextual [sameMesh_self, bne_self_eq_false, hβ1, hβ2]; done) | (rcases c28' with hh | hh <;> simp only [hh, sameMesh_self, bne_self_eq_false, hβ1, hβ2, c28, c104, c123]; done) | (rcases c104' with hh | hh <;> simp only [hh, sameMesh_self, bne_self_eq_false, hβ1, hβ2, c28, c104, c123]; done) | (rcases c123' with hh | hh <;> simp only [hh, sameMesh_self, bne_self_eq_false, hβ1, hβ2, c28, c104, c123]; done) | (rcases c123' with hh | hh <;> simp_all [sameMesh_self, bne_self_eq_false]; done) | (rcases c123' with hh | hh | hh <;> simp_all [sameMesh_self, bne_self_eq_false]; done) | (rcases c123' with hh | hh | hh | hh <;> simp_all [sameMesh_self, bne_self_eq_false]; done) | (simp_all [sameMesh_self, bne_self_eq_false]; done) | rfl
    exact (by first | with_reducible rfl | rw [x125] | rfl)
  rw [Bool.not_eq_false'] at c123
  have c123' := c123
  (try simp only [hβ1, hβ2, sameMesh_self, bne_self_eq_false] at c123')
  (try simp only [hβ1, hβ2] at c123')
  (try simp only [icmp, Bool.and_eq_true, Bool.or_eq_true, Bool.and_eq_false_iff, Bool.or_eq_false_iff, Bool.not_eq_true', Bool.not_eq_false', decide_eq_true_eq, decide_eq_false_iff_not, beq_iff_eq, bne_iff_ne, beq_eq_false_iff_ne, bne_eq_false_iff_eq] at c123')
  refine wp_skip (hK107 _ _ ?_)
  refine wp_seq_k fun K126 hK126 => ?_
  refine wp_region_lit ?_
  refine q_is rfl rfl (does_assign (u := (Bo true)) (ev rfl)) (by dsimp only [List.set]; try rfl) ?_
  refine wpList_nil (hK126 _ _ ?_)
  refine wp_ret ?_
  refine ret_val (v := (Bo true)) (res_T rfl (slot rfl)) X122 ?_
  try simp only [hβ1, hβ2, sameMesh_self, bne_self_eq_false] at c28 c104 c123
  exact rfl

end Go.Proofs.Ytoblnfkpjgghiaa
