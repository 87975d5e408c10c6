/- contracts of functions, each walked once -/
import Derived.Test.YtlfpeihlfmdmdaaP
namespace Go.Proofs.Ytlfpeihlfmdmdaa
open Go Go.RowKit
set_option maxRecDepth 100000
set_option maxHeartbeats 3200000
set_option linter.unusedVariables false
set_option linter.unusedSimpArgs false

/- spec.PartsInside -/
theorem c_spec_PartsInside (g : List Value) (A_g : GridT) (w : World) (hv_g : RGridT w A_g g) : Gives Try.prog 15 #[(.agg g.toArray)] w (fun v w' => ∃ y_1 : Value, v = (.tuple #[y_1, (Iv ((prtG A_g).2)), (Bo (isGrid A_g))]) ∧ Hang w.heap.size w' (fun u => Sl RI 1 u y_1 ((prtG A_g).1))) := by
  obtain ⟨r1, r3, r5, r7, y9, rfl, h2, h4, h6, h8, h10⟩ := hv_g
  have hs13 := h10; have hs13l := Sl.len h10; obtain ⟨p11, q12, rfl⟩ := Sl.shape h10
  refine enter [(.agg #[(Fl r1), (Fl r3), (Fl r5), (Fl r7), (Iv A_g.x), (Iv A_g.y), (Iv A_g.z), (.slice p11 A_g.vals.length q12)]), Ud, Ud, Ud, Ud, Ud, Ud, Ud, Ud, Ud, Ud, Ud, Ud, Ud, Ud, Ud, Ud, Ud, Ud, Ud, Ud, Ud, Ud, Ud, Ud, Ud, Ud, Ud, Ud, Ud, Ud, Ud, Ud, Ud, Ud, Ud, Ud, Ud, Ud, Ud, Ud, Ud, Ud, Ud, Ud, Ud, Ud, Ud, Ud, Ud, Ud, Ud, Ud, Ud, Ud, Ud, Ud, Ud, Ud, Ud, Ud, Ud, Ud, Ud, Ud, Ud, Ud, Ud, Ud, Ud, Ud, Ud, Ud, Ud, Ud, Ud, Ud, Ud, Ud, Ud, Ud, Ud, Ud, Ud, Ud, Ud, Ud, Ud, Ud, Ud, Ud, Ud, Ud, Ud, Ud, Ud, Ud, Ud, Ud, Ud, Ud, Ud, Ud, Ud, Ud, Ud, Ud, Ud, Ud, Ud, Ud] Try.func15 rfl Try.ntmps15 rfl ?_
  refine wp_seq_k fun K14 hK14 => ?_
  refine wp_region_lit ?_
  refine seqd rfl rfl (does_box (u := (.agg #[(Fl r1), (Fl r3), (Fl r5), (Fl r7), (Iv A_g.x), (Iv A_g.y), (Iv A_g.z), (.slice p11 A_g.vals.length q12)])) (ev rfl)) ?_; rintro _ w19 ⟨b15, rfl, hb16, hB17, E18⟩
  have g20 : w.heap.size ≤ b15 := Nat.le_trans (Below.size (Ext.refl w)) hb16
  change Blk _ _ [(Fl r1), (Fl r3), (Fl r5), (Fl r7), (Iv A_g.x), (Iv A_g.y), (Iv A_g.z), (.slice p11 A_g.vals.length q12)] at hB17
  have X21 := Ext.gr (Ext.refl w) E18
  show wpList _ _ _ _ (fr [_, _, _, _, _, _, _, _, _, _, _, _, _, _, _, _, _, _, _, _, _, _, _, _, _, _, _, _, _, _, _, _, _, _, _, _, _, _, _, _, _, _, _, _, _, _, _, _, _, _, _, _, _, _, _, _, _, _, _, _, _, _, _, _, _, _, _, _, _, _, _, _, _, _, _, _, _, _, _, _, _, _, _, _, _, _, _, _, _, _, _, _, _, _, _, _, _, _, _, _, _, _, _, _, _, _, _, _, _, _, _]) _
  refine q_is rfl rfl (does_assign (u := (.slice none 0 0)) (ev rfl)) (by dsimp only [List.set]; try rfl) ?_
  refine q_is rfl rfl (does_assign (u := (Iv 0)) (ev rfl)) (by dsimp only [List.set]; try rfl) ?_
  refine q_is rfl rfl (does_assign (u := (Bo false)) (ev rfl)) (by dsimp only [List.set]; try rfl) ?_
  refine wpList_nil (hK14 _ _ ?_)
  refine wp_seq_k fun K22 hK22 => ?_
  refine wp_seq_k fun K23 hK23 => ?_
  refine wp_region_lit ?_
  refine seqd rfl rfl (does_call (args := #[(Pt b15 0)]) cal35 (evs rfl) (c_spec_l06Is b15 0 [(Fl r1), (Fl r3), (Fl r5), (Fl r7), (Iv A_g.x), (Iv A_g.y), (Iv A_g.z), (.slice p11 A_g.vals.length q12)] A_g _ (Blk.cells hB17) ⟨r1, r3, r5, r7, (.slice p11 A_g.vals.length q12), rfl, h2, h4, h6, h8, (Sl.ext hs13 RF.mono X21)⟩)) ?_; rintro _ w25 ⟨E24, rfl⟩
  have X26 := Ext.gr X21 E24
  show wpList _ _ _ _ (fr [_, _, _, _, _, _, _, _, _, _, _, _, _, _, _, _, _, _, _, _, _, _, _, _, _, _, _, _, _, _, _, _, _, _, _, _, _, _, _, _, _, _, _, _, _, _, _, _, _, _, _, _, _, _, _, _, _, _, _, _, _, _, _, _, _, _, _, _, _, _, _, _, _, _, _, _, _, _, _, _, _, _, _, _, _, _, _, _, _, _, _, _, _, _, _, _, _, _, _, _, _, _, _, _, _, _, _, _, _, _, _]) _
  refine q_is rfl rfl (does_not (ev rfl)) (by dsimp only [List.set]; try rfl) ?_
  refine wpList_nil (hK23 _ _ ?_)
  refine wp_cond_split (t := !(isGrid A_g)) (ev rfl) (fun c27 => ?_) (fun c27 => ?_)
  · rw [Bool.not_eq_true'] at c27
    have c27' := c27
    have hgf : isGrid A_g = false := c27
    refine wp_seq_k fun K28 hK28 => ?_
    refine wp_region_lit ?_
    refine q_is rfl rfl (does_assign (u := (.slice none 0 0)) (ev rfl)) (by dsimp only [List.set]; try rfl) ?_
    refine q_is rfl rfl (does_assign (u := (Iv 0)) (ev rfl)) (by dsimp only [List.set]; try rfl) ?_
    refine q_is rfl rfl (does_assign (u := (Bo false)) (ev rfl)) (by dsimp only [List.set]; try rfl) ?_
    refine wpList_nil (hK28 _ _ ?_)
    refine wp_ret ?_
    dsimp only [Exit.then, Exit.inBlock]
    refine ret_val (v := (.tuple #[(.slice none 0 0), (Iv 0), (Bo false)])) (res_TTT rfl (slot rfl) (slot rfl) (slot rfl)) X26 ?_
    try simp only [h2, h4, h6, h8] at c27
    have x29 : ((prtG A_g).2 : Int) = 0 := by first | exact hgf | exact hgt | (rw [prtG_f hgf]; done) | (rw [prtG_f hgf]; rfl) | (rw [prtG_t hgt]; (try simp only [Int.toNat_natCast]); done) | (rw [prtG_t hgt, show k = A_g.vals.length by omega])
    have x30 : (isGrid A_g) = false := by first | exact hgf | exact hgt | (rw [prtG_f hgf]; done) | (rw [prtG_f hgf]; rfl) | (rw [prtG_t hgt]; (try simp only [Int.toNat_natCast]); done) | (rw [prtG_t hgt, show k = A_g.vals.length by omega])
    have x31 : ([]) = ((prtG A_g).1) := by first | exact hgf | exact hgt | (rw [prtG_f hgf]; done) | (rw [prtG_f hgf]; rfl) | (rw [prtG_t hgt]; (try simp only [Int.toNat_natCast]); done) | (rw [prtG_t hgt, show k = A_g.vals.length by omega])
    exact ⟨(.slice none 0 0), (by first | with_reducible rfl | rw [x29, x30] | rw [x30, x29] | rfl), (Hang.castL (Sl.hang_nil _ _ _ _) x31)⟩
  rw [Bool.not_eq_false'] at c27
  have c27' := c27
  have hgt : isGrid A_g = true := c27
  have hgc := isGrid_cnt hgt
  have hgp := grG_pos hgt
  refine wp_skip (hK22 _ _ ?_)
  refine wp_seq_k fun K32 hK32 => ?_
  refine wp_region_lit ?_
  have n39 : b15 < w25.heap.size := Blk.lt (hB17.ext E24)
  refine seqd rfl rfl (does_slice0 (e := 2) (fun _ => by kernel_rfl)) ?_; rintro _ w38 ⟨b33, rfl, hb34, hl35, hO36, E37⟩
  have X40 := Ext.gr X26 E37
  have hO41 := hO36 _ RI 1
  have hH42 : Hang w25.heap.size w38 (fun u => Sl RI 1 u (.slice (some ⟨b33, 0, none⟩) 0 0) ([])) := Own.hang hO41 RI.flat (by decide) hb34 (Below.size E37)
  show wpList _ _ _ _ (fr [_, _, _, _, _, _, _, _, _, _, _, _, _, _, _, _, _, _, _, _, _, _, _, _, _, _, _, _, _, _, _, _, _, _, _, _, _, _, _, _, _, _, _, _, _, _, _, _, _, _, _, _, _, _, _, _, _, _, _, _, _, _, _, _, _, _, _, _, _, _, _, _, _, _, _, _, _, _, _, _, _, _, _, _, _, _, _, _, _, _, _, _, _, _, _, _, _, _, _, _, _, _, _, _, _, _, _, _, _, _, _]) _
  refine q_is rfl rfl (does_assign (u := (.slice (some ⟨b33, 0, none⟩) 0 0)) (ev rfl)) (by dsimp only [List.set]; try rfl) ?_
  refine wpList_nil (hK32 _ _ ?_)
  refine wp_seq_k fun K43 hK43 => ?_
  refine wp_seq_k fun K44 hK44 => ?_
  refine wp_region_lit ?_
  refine q_is rfl rfl (does_assign (u := (Iv 0)) (ev rfl)) (by dsimp only [List.set]; try rfl) ?_
  refine wpList_nil (hK44 _ _ ?_)
  refine wp_block ?_
  have n50 : b15 < w38.heap.size := Blk.lt ((hB17.ext E24).ext E37)
  obtain ⟨gg46, hg47, hg48, hO49⟩ := Own.start' hO41 hO41
  have hN51 : w25.heap.size ≤ gg46 := by rcases hg47 with h | h; exact h ▸ hb34; exact Nat.le_trans (Below.size E37) h
  have g52 : w.heap.size ≤ gg46 := Nat.le_trans (Nat.le_trans (Below.size E18) (Below.size E24)) hN51
  have hg53 : gg46 < w38.heap.size := by rcases hg48 with h | h; exact h ▸ Nat.lt_of_lt_of_le hl35 (Nat.le_refl _); exact h
  refine loop_ghost (σ := Nat) (fun z a w' => ∃ u45 : Nat → Value, ∃ y5 : Value, a = fr [(.agg #[(Fl r1), (Fl r3), (Fl r5), (Fl r7), (Iv A_g.x), (Iv A_g.y), (Iv A_g.z), (.slice p11 A_g.vals.length q12)]), (Pt b15 0), (.slice none 0 0), (Iv 0), (Bo false), y5, (Iv (z : Int)), Ud, Ud, Ud, Ud, Ud, Ud, (Bo (isGrid A_g)), (Bo (!(isGrid A_g))), (.slice (some ⟨b33, 0, none⟩) 0 0), (u45 16), (u45 17), (u45 18), (u45 19), (u45 20), (u45 21), (u45 22), (u45 23), (u45 24), (u45 25), Ud, Ud, Ud, Ud, Ud, Ud, Ud, Ud, Ud, Ud, Ud, Ud, Ud, Ud, Ud, Ud, Ud, Ud, Ud, Ud, Ud, Ud, Ud, Ud, Ud, Ud, Ud, Ud, Ud, Ud, Ud, Ud, Ud, Ud, Ud, Ud, Ud, Ud, Ud, Ud, Ud, Ud, Ud, Ud, Ud, Ud, Ud, Ud, Ud, Ud, Ud, Ud, Ud, Ud, Ud, Ud, Ud, Ud, Ud, Ud, Ud, Ud, Ud, Ud, Ud, Ud, Ud, Ud, Ud, Ud, Ud, Ud, Ud, Ud, Ud, Ud, Ud, Ud, Ud, Ud, Ud, Ud, Ud, Ud, Ud] ∧ KpL [gg46] w38 w' ∧ Own RI 1 2 gg46 w38.heap.size w' y5 (List.replicate z (-1)) ∧ (z ≤ A_g.vals.length)) (fun z => A_g.vals.length - z) 0 ?_ ?_
  · refine ⟨fun t => (([(.agg #[(Fl r1), (Fl r3), (Fl r5), (Fl r7), (Iv A_g.x), (Iv A_g.y), (Iv A_g.z), (.slice p11 A_g.vals.length q12)]), (Pt b15 0), (.slice none 0 0), (Iv 0), (Bo false), (.slice (some ⟨b33, 0, none⟩) 0 0), (Iv 0), Ud, Ud, Ud, Ud, Ud, Ud, (Bo (isGrid A_g)), (Bo (!(isGrid A_g))), (.slice (some ⟨b33, 0, none⟩) 0 0), Ud, Ud, Ud, Ud, Ud, Ud, Ud, Ud, Ud, Ud, Ud, Ud, Ud, Ud, Ud, Ud, Ud, Ud, Ud, Ud, Ud, Ud, Ud, Ud, Ud, Ud, Ud, Ud, Ud, Ud, Ud, Ud, Ud, Ud, Ud, Ud, Ud, Ud, Ud, Ud, Ud, Ud, Ud, Ud, Ud, Ud, Ud, Ud, Ud, Ud, Ud, Ud, Ud, Ud, Ud, Ud, Ud, Ud, Ud, Ud, Ud, Ud, Ud, Ud, Ud, Ud, Ud, Ud, Ud, Ud, Ud, Ud, Ud, Ud, Ud, Ud, Ud, Ud, Ud, Ud, Ud, Ud, Ud, Ud, Ud, Ud, Ud, Ud, Ud, Ud, Ud, Ud, Ud, Ud, Ud] : List Value)[t]?).getD undef, (.slice (some ⟨b33, 0, none⟩) 0 0), rfl, KpL.refl _ _, (Own.cast hO49 (by rfl)), ?_⟩
    exact Nat.zero_le _
  · rintro z a w54 ⟨u45, y5, rfl, E55, hO57, hz⟩
    have X58 := Below.kl X40 E55 (allS g52 all0) (Nat.le_refl _)
    obtain ⟨p59, q60, rfl⟩ := Own.shape hO57
    have hH61 : Hang w25.heap.size w54 (fun u => Sl RI 1 u (.slice p59 ((List.replicate z (-1)).length) q60) (List.replicate z (-1))) := Own.hang hO57 RI.flat (by decide) hN51 (Below.size E37)
    have hzr : (List.replicate z (-1 : Int)).length = z := List.length_replicate
    refine wp_seq_k fun K62 hK62 => ?_
    refine wp_seq_k fun K63 hK63 => ?_
    refine wp_region_lit ?_
    refine q_is rfl rfl (does_move (u := (Iv (z : Int))) (ev rfl)) (by dsimp only [List.set]; try rfl) ?_
    refine q_is rfl rfl (does_fieldAddr (ev rfl) fa49_5) (by dsimp only [List.set]; try rfl) ?_
    refine q_is rfl rfl (does_load (u := (.slice p11 A_g.vals.length q12)) (ev rfl) Try.isAgg42 (Cells.at (Blk.cells (((hB17.ext E24).ext E37).kl E55 (ninS (Nat.ne_of_lt (Nat.lt_of_lt_of_le n39 hN51)) nin0))) 7 rfl)) (by dsimp only [List.set]; try rfl) ?_
    refine q_is rfl rfl (does_len_slice Try.underlying42 (ev rfl)) (by dsimp only [List.set]; try rfl) ?_
    refine q_is rfl rfl (does_icmp (p := (z : Int)) (q := (A_g.vals.length : Int)) (.inr (.inr (.inl rfl))) (ev rfl) (ev rfl)) (by dsimp only [List.set]; try rfl) ?_
    refine wpList_nil (hK63 _ _ ?_)
    refine wp_cond_split (t := icmp .lss (z : Int) (A_g.vals.length : Int)) (ev rfl) (fun c64 => ?_) (fun c64 => ?_)
    · have c64' := c64
      (try simp only [icmp, Bool.and_eq_true, Bool.or_eq_true, Bool.and_eq_false_iff, Bool.or_eq_false_iff, Bool.not_eq_true', Bool.not_eq_false', decide_eq_true_eq, decide_eq_false_iff_not, beq_iff_eq, bne_iff_ne, beq_eq_false_iff_ne, bne_eq_false_iff_eq] at c64')
      refine wp_skip (hK62 _ _ ?_)
      refine wp_seq_k fun K65 hK65 => ?_
      refine wp_block ?_
      refine wp_region_lit ?_
      refine q_is rfl rfl (does_move (u := (.slice p59 ((List.replicate z (-1)).length) q60)) (ev rfl)) (by dsimp only [List.set]; try rfl) ?_
      refine seqd rfl rfl (does_buildSlice (e := 2) (parts' := [(0, (Iv (-1)))]) (cells := [(Iv (-1))]) (evp rfl) (fun _ => by kernel_rfl)) ?_; rintro _ w70 ⟨b66, rfl, hb67, hB68, E69⟩
      have n71 : b15 < b66 := Nat.lt_of_lt_of_le (Blk.lt (((hB17.ext E24).ext E37).kl E55 (ninS (Nat.ne_of_lt (Nat.lt_of_lt_of_le n39 hN51)) nin0))) hb67
      have g72 : w.heap.size ≤ b66 := Nat.le_trans (Below.size X58) hb67
      have X73 := Ext.gr X58 E69
      show wpList _ _ _ _ (fr [_, _, _, _, _, _, _, _, _, _, _, _, _, _, _, _, _, _, _, _, _, _, _, _, _, _, _, _, _, _, _, _, _, _, _, _, _, _, _, _, _, _, _, _, _, _, _, _, _, _, _, _, _, _, _, _, _, _, _, _, _, _, _, _, _, _, _, _, _, _, _, _, _, _, _, _, _, _, _, _, _, _, _, _, _, _, _, _, _, _, _, _, _, _, _, _, _, _, _, _, _, _, _, _, _, _, _, _, _, _, _]) _
      refine seqd rfl rfl (does_append (R := RI) (k := 1) (g0 := gg46) (B := w38.heap.size) (xs := (List.replicate z (-1))) (ys := [-1]) Try.underlying27 inf2 rfl (by decide) (ev rfl) (ev rfl) (Own.same hO57 RI.flat ((Same.refl _ _).ext E69) hN51 (Below.size E37)) RI.flat hB68 rfl rfl rfl (fun i x hi => lit1 (R := RI) (cs := [(Iv (-1))]) (y := -1)  rfl i x hi) (by first | (simp only [List.length_append, List.length_cons, List.length_nil]; omega) | (simp only [List.length_replicate, List.length_append, List.length_cons, List.length_nil]; omega)) (Nat.le_trans (KpL.size E55) (Below.size E69))) ?_; rintro y' w74 ⟨gg75, hg76, K77, hO78⟩
      have hN79 : w25.heap.size ≤ gg75 := by rcases hg76 with h | h; exact h ▸ hN51; exact Nat.le_trans (Below.size E37) h
      have g80 : w.heap.size ≤ gg75 := Nat.le_trans (Nat.le_trans (Below.size E18) (Below.size E24)) hN79
      have n81 : b15 ≠ gg75 := hg76.elim (fun h => by rw [h]; exact (Nat.ne_of_lt (Nat.lt_of_lt_of_le n39 hN51))) (fun h => Nat.ne_of_lt (Nat.lt_of_lt_of_le n50 h))
      have X82 := Below.kl X73 K77 (allS g80 all0) (Nat.le_refl _)
      obtain ⟨p83, q84, rfl⟩ := Own.shape hO78
      have hH85 : Hang w25.heap.size w74 (fun u => Sl RI 1 u (.slice p83 (((List.replicate z (-1)) ++ [-1]).length) q84) ((List.replicate z (-1)) ++ [-1])) := Own.hang hO78 RI.flat (by decide) hN51 (Below.size E37)
      show wpList _ _ _ _ (fr [_, _, _, _, _, _, _, _, _, _, _, _, _, _, _, _, _, _, _, _, _, _, _, _, _, _, _, _, _, _, _, _, _, _, _, _, _, _, _, _, _, _, _, _, _, _, _, _, _, _, _, _, _, _, _, _, _, _, _, _, _, _, _, _, _, _, _, _, _, _, _, _, _, _, _, _, _, _, _, _, _, _, _, _, _, _, _, _, _, _, _, _, _, _, _, _, _, _, _, _, _, _, _, _, _, _, _, _, _, _, _]) _
      refine q_is rfl rfl (does_assign (u := (.slice p83 (((List.replicate z (-1)) ++ [-1]).length) q84)) (ev rfl)) (by dsimp only [List.set]; try rfl) ?_
      refine wpList_nil (hK65 _ _ ?_)
      refine wp_region_lit ?_
      refine q_is rfl rfl (does_move (u := (Iv (z : Int))) (ev rfl)) (by dsimp only [List.set]; try rfl) ?_
      refine q_is rfl rfl (does_iarith (p := (z : Int)) (q := 1) (r := (z : Int) + 1) (ev rfl) (ev rfl) (.inl ⟨rfl, (in_i64 (by omega) (by omega)).symm⟩)) (by dsimp only [List.set]; try rfl) ?_
      refine q_is rfl rfl (does_assign (u := (Iv ((z : Int) + 1))) (ev rfl)) (by dsimp only [List.set]; try rfl) ?_
      refine wpList_nil ?_
      have hO86 := Own.cast (ys := ((fun (z : Nat) => List.replicate z (-1)) (z + 1))) hO78 (by (try dsimp only); exact List.replicate_succ'.symm)
      refine ⟨z + 1, ⟨fun t => (([(.agg #[(Fl r1), (Fl r3), (Fl r5), (Fl r7), (Iv A_g.x), (Iv A_g.y), (Iv A_g.z), (.slice p11 A_g.vals.length q12)]), (Pt b15 0), (.slice none 0 0), (Iv 0), (Bo false), (.slice p83 (((List.replicate z (-1)) ++ [-1]).length) q84), (Iv ((z : Int) + 1)), Ud, Ud, Ud, Ud, Ud, Ud, (Bo (isGrid A_g)), (Bo (!(isGrid A_g))), (.slice (some ⟨b33, 0, none⟩) 0 0), (Iv (z : Int)), (Pt b15 7), (.slice p11 A_g.vals.length q12), (Iv (A_g.vals.length : Int)), (Bo (icmp .lss (z : Int) (A_g.vals.length : Int))), (Iv (z : Int)), (Iv ((z : Int) + 1)), (.slice p59 ((List.replicate z (-1)).length) q60), (.slice (some ⟨b66, 0, none⟩) 1 1), (.slice p83 (((List.replicate z (-1)) ++ [-1]).length) q84), Ud, Ud, Ud, Ud, Ud, Ud, Ud, Ud, Ud, Ud, Ud, Ud, Ud, Ud, Ud, Ud, Ud, Ud, Ud, Ud, Ud, Ud, Ud, Ud, Ud, Ud, Ud, Ud, Ud, Ud, Ud, Ud, Ud, Ud, Ud, Ud, Ud, Ud, Ud, Ud, Ud, Ud, Ud, Ud, Ud, Ud, Ud, Ud, Ud, Ud, Ud, Ud, Ud, Ud, Ud, Ud, Ud, Ud, Ud, Ud, Ud, Ud, Ud, Ud, Ud, Ud, Ud, Ud, Ud, Ud, Ud, Ud, Ud, Ud, Ud, Ud, Ud, Ud, Ud, Ud, Ud, Ud, Ud, Ud, Ud] : List Value)[t]?).getD undef, (.slice p83 (((List.replicate z (-1)) ++ [-1]).length) q84), ?_, (KpL.more (KpL.ext E55 E69) K77 (allS (hg76.imp (fun h => by simp [h]) id) all0)), hO86, ?_⟩, ?_⟩
      · first | rfl | (simp only [Int.natCast_add, Int.natCast_one]; rfl)
      · (try dsimp only); omega
      · omega
    have c64' := c64
    (try simp only [icmp, Bool.and_eq_true, Bool.or_eq_true, Bool.and_eq_false_iff, Bool.or_eq_false_iff, Bool.not_eq_true', Bool.not_eq_false', decide_eq_true_eq, decide_eq_false_iff_not, beq_iff_eq, bne_iff_ne, beq_eq_false_iff_ne, bne_eq_false_iff_eq] at c64')
    have hzl : (List.replicate z (-1 : Int)).length = A_g.vals.length := by rw [List.length_replicate]; omega
    refine wp_exit ?_
    refine hK43 _ _ ?_
    refine wp_seq_k fun K87 hK87 => ?_
    refine wp_region_lit ?_
    refine q_is rfl rfl (does_assign (u := (Iv 0)) (ev rfl)) (by dsimp only [List.set]; try rfl) ?_
    refine wpList_nil (hK87 _ _ ?_)
    refine wp_seq_k fun K88 hK88 => ?_
    refine wp_seq_k fun K89 hK89 => ?_
    refine wp_region_lit ?_
    refine q_is rfl rfl (does_assign (u := (Iv 0)) (ev rfl)) (by dsimp only [List.set]; try rfl) ?_
    refine wpList_nil (hK89 _ _ ?_)
    refine wp_block ?_
    have n90 : b15 < w54.heap.size := Blk.lt (((hB17.ext E24).ext E37).kl E55 (ninS (Nat.ne_of_lt (Nat.lt_of_lt_of_le n39 hN51)) nin0))
    obtain ⟨gr91, hp92, hg97, hR94, hcap95⟩ := Own.rowg hO57 (by omega)
    have hB96 : w25.heap.size ≤ gr91 := by rcases hg97 with h | h; exact h ▸ hN51; exact Nat.le_trans (Below.size E37) h
    have n98 : b15 ≠ gr91 := Nat.ne_of_lt (Nat.lt_of_lt_of_le n39 hB96)
    have g99 : w.heap.size ≤ gr91 := Nat.le_trans (Nat.le_trans (Below.size E18) (Below.size E24)) hB96
    subst hp92
    have hl100 := RowG.lt hR94
    refine loop_ghost (σ := Nat) (fun k a w' => ∃ u101 : Nat → Value, a = fr [(.agg #[(Fl r1), (Fl r3), (Fl r5), (Fl r7), (Iv A_g.x), (Iv A_g.y), (Iv A_g.z), (.slice p11 A_g.vals.length q12)]), (Pt b15 0), (.slice none 0 0), (Iv 0), (Bo false), (.slice (some ⟨gr91, 0, none⟩) ((List.replicate z (-1)).length) q60), (Iv (z : Int)), (Iv ((numTo A_g.vals.length (negAt A_g) (nb A_g) k).2)), (Iv (k : Int)), (u101 9), (u101 10), (u101 11), (u101 12), (Bo (isGrid A_g)), (Bo (!(isGrid A_g))), (.slice (some ⟨b33, 0, none⟩) 0 0), (Iv (z : Int)), (Pt b15 7), (.slice p11 A_g.vals.length q12), (Iv (A_g.vals.length : Int)), (Bo (icmp .lss (z : Int) (A_g.vals.length : Int))), (u45 21), (u45 22), (u45 23), (u45 24), (u45 25), (u101 26), (u101 27), (u101 28), (u101 29), (u101 30), (u101 31), (u101 32), (u101 33), (u101 34), (u101 35), (u101 36), (u101 37), (u101 38), (u101 39), (u101 40), (u101 41), (u101 42), (u101 43), (u101 44), (u101 45), (u101 46), (u101 47), (u101 48), (u101 49), (u101 50), (u101 51), (u101 52), (u101 53), (u101 54), (u101 55), (u101 56), (u101 57), (u101 58), (u101 59), (u101 60), (u101 61), (u101 62), (u101 63), (u101 64), (u101 65), (u101 66), (u101 67), (u101 68), (u101 69), (u101 70), (u101 71), (u101 72), (u101 73), (u101 74), (u101 75), (u101 76), (u101 77), (u101 78), (u101 79), (u101 80), (u101 81), (u101 82), (u101 83), (u101 84), (u101 85), (u101 86), (u101 87), (u101 88), (u101 89), (u101 90), (u101 91), (u101 92), (u101 93), (u101 94), (u101 95), (u101 96), (u101 97), (u101 98), (u101 99), (u101 100), (u101 101), (u101 102), (u101 103), (u101 104), (u101 105), (u101 106), (u101 107), (u101 108), Ud, Ud] ∧ KpL [gr91] w54 w' ∧ RowG RI 1 w' gr91 ((numTo A_g.vals.length (negAt A_g) (nb A_g) k).1) ∧ (k ≤ A_g.vals.length)) (fun k => A_g.vals.length - k) 0 ?_ ?_
    · refine ⟨fun t => (([(.agg #[(Fl r1), (Fl r3), (Fl r5), (Fl r7), (Iv A_g.x), (Iv A_g.y), (Iv A_g.z), (.slice p11 A_g.vals.length q12)]), (Pt b15 0), (.slice none 0 0), (Iv 0), (Bo false), (.slice (some ⟨gr91, 0, none⟩) ((List.replicate z (-1)).length) q60), (Iv (z : Int)), (Iv 0), (Iv 0), Ud, Ud, Ud, Ud, (Bo (isGrid A_g)), (Bo (!(isGrid A_g))), (.slice (some ⟨b33, 0, none⟩) 0 0), (Iv (z : Int)), (Pt b15 7), (.slice p11 A_g.vals.length q12), (Iv (A_g.vals.length : Int)), (Bo (icmp .lss (z : Int) (A_g.vals.length : Int))), (u45 21), (u45 22), (u45 23), (u45 24), (u45 25), Ud, Ud, Ud, Ud, Ud, Ud, Ud, Ud, Ud, Ud, Ud, Ud, Ud, Ud, Ud, Ud, Ud, Ud, Ud, Ud, Ud, Ud, Ud, Ud, Ud, Ud, Ud, Ud, Ud, Ud, Ud, Ud, Ud, Ud, Ud, Ud, Ud, Ud, Ud, Ud, Ud, Ud, Ud, Ud, Ud, Ud, Ud, Ud, Ud, Ud, Ud, Ud, Ud, Ud, Ud, Ud, Ud, Ud, Ud, Ud, Ud, Ud, Ud, Ud, Ud, Ud, Ud, Ud, Ud, Ud, Ud, Ud, Ud, Ud, Ud, Ud, Ud, Ud, Ud, Ud, Ud, Ud, Ud, Ud, Ud] : List Value)[t]?).getD undef, rfl, KpL.refl _ _, (RowG.cast hR94 (by (try dsimp only); rw [show z = A_g.vals.length by omega]; rfl)), ?_⟩
      exact Nat.zero_le _
    · rintro k a w102 ⟨u101, rfl, E103, hRg0, hk⟩
      have X105 := Below.kl X58 E103 (allS g99 all0) (Nat.le_refl _)
      have hR106 := hRg0; clear hRg0
      have hkl := numTo_len A_g.vals.length (negAt A_g) (nb A_g) k
      have hkm := numTo_m A_g.vals.length (negAt A_g) (nb A_g) k
      refine wp_seq_k fun K107 hK107 => ?_
      refine wp_seq_k fun K108 hK108 => ?_
      refine wp_region_lit ?_
      refine q_is rfl rfl (does_move (u := (Iv (k : Int))) (ev rfl)) (by dsimp only [List.set]; try rfl) ?_
      refine q_is rfl rfl (does_move (u := (.slice (some ⟨gr91, 0, none⟩) ((List.replicate z (-1)).length) q60)) (ev rfl)) (by dsimp only [List.set]; try rfl) ?_
      refine q_is rfl rfl (does_len_slice Try.underlying27 (ev rfl)) (by dsimp only [List.set]; try rfl) ?_
      refine q_is rfl rfl (does_icmp (p := (k : Int)) (q := (((List.replicate z (-1)).length) : Int)) (.inr (.inr (.inl rfl))) (ev rfl) (ev rfl)) (by dsimp only [List.set]; try rfl) ?_
      refine wpList_nil (hK108 _ _ ?_)
      refine wp_cond_split (t := icmp .lss (k : Int) (((List.replicate z (-1)).length) : Int)) (ev rfl) (fun c109 => ?_) (fun c109 => ?_)
      · have c109' := c109
        (try simp only [icmp, Bool.and_eq_true, Bool.or_eq_true, Bool.and_eq_false_iff, Bool.or_eq_false_iff, Bool.not_eq_true', Bool.not_eq_false', decide_eq_true_eq, decide_eq_false_iff_not, beq_iff_eq, bne_iff_ne, beq_eq_false_iff_ne, bne_eq_false_iff_eq] at c109')
        refine wp_skip (hK107 _ _ ?_)
        refine wp_seq_k fun K110 hK110 => ?_
        refine wp_block ?_
        refine wp_seq_k fun K111 hK111 => ?_
        refine wp_seq_k fun K112 hK112 => ?_
        obtain ⟨el1, hel1⟩ : ∃ e, ((numTo A_g.vals.length (negAt A_g) (nb A_g) k).1)[k]? = some e := ⟨_, List.getElem?_eq_getElem (by first | assumption | omega | (simp only [numTo_len, List.length_replicate, List.length_set, List.length_set, List.length_replicate]; omega) | (simp only [numTo_len, List.length_replicate, List.length_set, List.length_set, List.length_replicate]; done))⟩
        obtain ⟨el2, hel2⟩ : ∃ e, A_g.vals[k]? = some e := ⟨_, List.getElem?_eq_getElem (by omega)⟩
        obtain ⟨β1, hβ1⟩ : ∃ b : Bool, b = (fcmp .lss (ford .f32 el2 (cf .f32 0))) := ⟨_, rfl⟩
        obtain ⟨β2, hβ2⟩ : ∃ b : Bool, b = ((icmp .geq el1 0) || (!β1)) := ⟨_, rfl⟩
        refine region_text (
          [Fact.pure [] (fun v => v = (.slice (some ⟨gr91, 0, none⟩) ((List.replicate z (-1)).length) q60)),
    Fact.pure [] (fun v => v = (Iv (k : Int))),
    Fact.pure [32, 33] (fun v => v = (Pt gr91 (k * 1))),
    Fact.pure [34] (fun v => v = (Iv el1)),
    Fact.pure [35] (fun v => v = (Bo (icmp .geq el1 0))),
    Fact.pure [36] (fun v => v = (Bo (icmp .geq el1 0))),
    Fact.pure [37] (fun v => (icmp .geq el1 0) = false → v = (Pt b15 7)),
    Fact.pure [38, 37] (fun v => (icmp .geq el1 0) = false → v = (.slice p11 A_g.vals.length q12)),
    Fact.pure [37] (fun v => (icmp .geq el1 0) = false → v = (Iv (k : Int))),
    Fact.mem [39, 40, 37] (fun v w' => (icmp .geq el1 0) = false → PtrR RF w' v el2) (by intro v w1 w2 hx h; exact fun hg1 => (h hg1).ext RF.mono hx),
    Fact.pure [41, 37] (fun v => (icmp .geq el1 0) = false → ∃ r_1 : Nat, v = (Fl r_1) ∧ cf .f32 r_1 = el2),
    Fact.pure [42, 37] (fun v => (icmp .geq el1 0) = false → v = (Bo β1)),
    Fact.pure [43, 37] (fun v => (icmp .geq el1 0) = false → v = (Bo (!β1))),
    Fact.pure [37, 44] (fun v => v = (Bo β2))]) (by simp [Fact.pure, Fact.mem]) ?_
        refine RW_d _ rfl (fun v => by dsimp only [List.set]; try rfl) (fun u hu hF => ?_) (fun v113 => ?_)
        · clear hF
          refine doesG_un rfl ?_
          refine (does_move (u := (.slice (some ⟨gr91, 0, none⟩) ((List.replicate z (-1)).length) q60)) (ev rfl)).mono ?_; rintro _ _ ⟨rfl, rfl⟩
          exact ⟨rfl, Ext.refl _⟩
        refine RW_d _ rfl (fun v => by dsimp only [List.set]; try rfl) (fun u hu hF => ?_) (fun v114 => ?_)
        · clear hF
          refine doesG_un rfl ?_
          refine (does_move (u := (Iv (k : Int))) (ev rfl)).mono ?_; rintro _ _ ⟨rfl, rfl⟩
          exact ⟨rfl, Ext.refl _⟩
        refine RW_d _ rfl (fun v => by dsimp only [List.set]; try rfl) (fun u hu hF => ?_) (fun v115 => ?_)
        · have h32_ : v113 = (.slice (some ⟨gr91, 0, none⟩) ((List.replicate z (-1)).length) q60) := hF.1
          have h33_ : v114 = (Iv (k : Int)) := hF.2.1
          clear hF
          refine doesG_un rfl ?_
          obtain rfl := h32_
          obtain rfl := h33_
          refine (does_indexOwn (b := gr91) (n := (List.replicate z (-1)).length) (i := (k : Int)) Try.underlying27 Try.sizeOf2 (ev rfl) (ev rfl) (by omega) (by omega)).mono ?_; rintro _ _ ⟨rfl, rfl⟩
          exact ⟨rfl, Ext.refl _⟩
        refine RW_d _ rfl (fun v => by dsimp only [List.set]; try rfl) (fun u hu hF => ?_) (fun v116 => ?_)
        · have h34_ : v115 = (Pt gr91 (k * 1)) := hF.1
          clear hF
          refine doesG_un rfl ?_
          obtain rfl := h34_
          refine (does_loadRowI (xs := ((numTo A_g.vals.length (negAt A_g) (nb A_g) k).1)) (i := k) (e := el1) (ev rfl) Try.isAgg2 (RowG.ext hR106 RI.flat hu) rfl hel1).mono ?_; rintro _ _ ⟨rfl, rfl⟩
          exact ⟨rfl, Ext.refl _⟩
        refine RW_d _ rfl (fun v => by dsimp only [List.set]; try rfl) (fun u hu hF => ?_) (fun v117 => ?_)
        · have h35_ : v116 = (Iv el1) := hF.1
          clear hF
          refine doesG_un rfl ?_
          obtain rfl := h35_
          refine (does_icmp (p := el1) (q := 0) (.inr (.inr (.inr (.inr (.inr rfl))))) (ev rfl) (ev rfl)).mono ?_; rintro _ _ ⟨rfl, rfl⟩
          exact ⟨rfl, Ext.refl _⟩
        refine RW_d _ rfl (fun v => by dsimp only [List.set]; try rfl) (fun u hu hF => ?_) (fun v118 => ?_)
        · have h36_ : v117 = (Bo (icmp .geq el1 0)) := hF.1
          clear hF
          refine doesG_un rfl ?_
          obtain rfl := h36_
          refine (does_move (u := (Bo (icmp .geq el1 0))) (ev rfl)).mono ?_; rintro _ _ ⟨rfl, rfl⟩
          exact ⟨rfl, Ext.refl _⟩
        refine RW_d _ rfl (fun v => by dsimp only [List.set]; try rfl) (fun u hu hF => ?_) (fun v119 => ?_)
        · have h37_ : v118 = (Bo (icmp .geq el1 0)) := hF.1
          clear hF
          obtain rfl := h37_
          refine doesG_g (b := (icmp .geq el1 0)) rfl (yld rfl rfl) (fun hg1 => ?_) (fun hc => ⟨fun hg1 => absurd hg1 hc, Ext.refl _⟩)
          refine (does_fieldAddr (ev rfl) fa49_5).mono ?_; rintro _ _ ⟨rfl, rfl⟩
          exact ⟨fun _ => rfl, Ext.refl _⟩
        refine RW_d _ rfl (fun v => by dsimp only [List.set]; try rfl) (fun u hu hF => ?_) (fun v120 => ?_)
        · have h38_ : (icmp .geq el1 0) = false → v119 = (Pt b15 7) := hF.1
          have h37_ : v118 = (Bo (icmp .geq el1 0)) := hF.2.1
          clear hF
          obtain rfl := h37_
          refine doesG_g (b := (icmp .geq el1 0)) rfl (yld rfl rfl) (fun hg1 => ?_) (fun hc => ⟨fun hg1 => absurd hg1 hc, Ext.refl _⟩)
          obtain rfl := h38_ hg1
          refine (does_load (u := (.slice p11 A_g.vals.length q12)) (ev rfl) Try.isAgg42 (Cells.at (Blk.cells (((((hB17.ext E24).ext E37).kl E55 (ninS (Nat.ne_of_lt (Nat.lt_of_lt_of_le n39 hN51)) nin0)).kl E103 (ninS n98 nin0)).ext hu)) 7 rfl)).mono ?_; rintro _ _ ⟨rfl, rfl⟩
          exact ⟨fun _ => rfl, Ext.refl _⟩
        refine RW_d _ rfl (fun v => by dsimp only [List.set]; try rfl) (fun u hu hF => ?_) (fun v121 => ?_)
        · have h37_ : v118 = (Bo (icmp .geq el1 0)) := hF.1
          clear hF
          obtain rfl := h37_
          refine doesG_g (b := (icmp .geq el1 0)) rfl (yld rfl rfl) (fun hg1 => ?_) (fun hc => ⟨fun hg1 => absurd hg1 hc, Ext.refl _⟩)
          refine (does_move (u := (Iv (k : Int))) (ev rfl)).mono ?_; rintro _ _ ⟨rfl, rfl⟩
          exact ⟨fun _ => rfl, Ext.refl _⟩
        refine RW_d _ rfl (fun v => by dsimp only [List.set]; try rfl) (fun u hu hF => ?_) (fun v122 => ?_)
        · have h39_ : (icmp .geq el1 0) = false → v120 = (.slice p11 A_g.vals.length q12) := hF.1
          have h40_ : (icmp .geq el1 0) = false → v121 = (Iv (k : Int)) := hF.2.1
          have h37_ : v118 = (Bo (icmp .geq el1 0)) := hF.2.2.1
          clear hF
          obtain rfl := h37_
          refine doesG_g (b := (icmp .geq el1 0)) rfl (yld rfl rfl) (fun hg1 => ?_) (fun hc => ⟨fun hg1 => absurd hg1 hc, Ext.refl _⟩)
          obtain rfl := h39_ hg1
          obtain rfl := h40_ hg1
          refine (does_indexSl (R := RF) (i := (k : Int)) (xs := A_g.vals) (e := el2) Try.underlying42 Try.sizeOf39 (ev rfl) (ev rfl) (Sl.ext (Sl.ext hs13 RF.mono X105) RF.mono hu) (by first | omega | (simp only [icmp, Bool.or_eq_false_iff, Bool.not_eq_false', Bool.not_eq_true', decide_eq_true_eq, decide_eq_false_iff_not, bne_eq_false_iff_eq] at hg1; omega) | (simp only [icmp, Bool.or_eq_false_iff, Bool.not_eq_false', Bool.not_eq_true', decide_eq_true_eq, decide_eq_false_iff_not, bne_eq_false_iff_eq] at hg1 hg2; omega)) hel2).mono ?_; rintro v u' ⟨b, of, cs, hv, hc, hR, hu'⟩; subst hu'
          exact ⟨fun _ => ⟨b, of, cs, hv, hc, hR⟩, Ext.refl _⟩
        refine RW_d _ rfl (fun v => by dsimp only [List.set]; try rfl) (fun u hu hF => ?_) (fun v123 => ?_)
        · have h41_ : (icmp .geq el1 0) = false → PtrR RF u v122 el2 := hF.1
          have h37_ : v118 = (Bo (icmp .geq el1 0)) := hF.2.1
          clear hF
          obtain rfl := h37_
          refine doesG_g (b := (icmp .geq el1 0)) rfl (yld rfl rfl) (fun hg1 => ?_) (fun hc => ⟨fun hg1 => absurd hg1 hc, Ext.refl _⟩)
          obtain ⟨b41_, o41_, _, rfl, hc41_, ⟨r41_1, rfl, h41_2⟩⟩ := h41_ hg1
          refine (does_load (u := (Fl r41_1)) (ev rfl) Try.isAgg39 (Cells.at hc41_ 0 rfl)).mono ?_; rintro _ _ ⟨rfl, rfl⟩
          exact ⟨fun _ => ⟨r41_1, rfl, (by simp only [h41_2])⟩, Ext.refl _⟩
        refine RW_d _ rfl (fun v => by dsimp only [List.set]; try rfl) (fun u hu hF => ?_) (fun v124 => ?_)
        · have h42_ : (icmp .geq el1 0) = false → ∃ r_1 : Nat, v123 = (Fl r_1) ∧ cf .f32 r_1 = el2 := hF.1
          have h37_ : v118 = (Bo (icmp .geq el1 0)) := hF.2.1
          clear hF
          obtain rfl := h37_
          refine doesG_g (b := (icmp .geq el1 0)) rfl (yld rfl rfl) (fun hg1 => ?_) (fun hc => ⟨fun hg1 => absurd hg1 hc, Ext.refl _⟩)
          obtain ⟨r42_1, rfl, h42_2⟩ := h42_ hg1
          refine (does_fcmp (.inr (.inr (.inl rfl))) (ev rfl) (ev rfl)).mono ?_; rintro _ _ ⟨rfl, rfl⟩
          exact ⟨fun _ => (by first | rfl | (show _ = _; simp only [hβ1, h42_2]; done) | (show _ = _; simp only [hβ1, h42_2]; rfl)), Ext.refl _⟩
        refine RW_d _ rfl (fun v => by dsimp only [List.set]; try rfl) (fun u hu hF => ?_) (fun v125 => ?_)
        · have h43_ : (icmp .geq el1 0) = false → v124 = (Bo β1) := hF.1
          have h37_ : v118 = (Bo (icmp .geq el1 0)) := hF.2.1
          clear hF
          obtain rfl := h37_
          refine doesG_g (b := (icmp .geq el1 0)) rfl (yld rfl rfl) (fun hg1 => ?_) (fun hc => ⟨fun hg1 => absurd hg1 hc, Ext.refl _⟩)
          obtain rfl := h43_ hg1
          refine (does_not (ev rfl)).mono ?_; rintro _ _ ⟨rfl, rfl⟩
          exact ⟨fun _ => rfl, Ext.refl _⟩
        refine RW_d _ rfl (fun v => by dsimp only [List.set]; try rfl) (fun u hu hF => ?_) (fun v126 => ?_)
        · have h37_ : v118 = (Bo (icmp .geq el1 0)) := hF.1
          have h44_ : (icmp .geq el1 0) = false → v125 = (Bo (!β1)) := hF.2.1
          clear hF
          refine doesG_un rfl ?_
          skip
          obtain rfl := h37_
          refine (does_pick (b := (icmp .geq el1 0)) (u := (Bo true)) (v := v125) (ev rfl) (ev rfl) (ev rfl)).mono ?_; rintro _ _ ⟨rfl, rfl⟩; refine ⟨?_, Ext.refl _⟩; rw [hβ2]; skip
          cases hbb : (icmp .geq el1 0)
          all_goals first | (show _ = _; simp only [↓reduceIte, Bool.true_and, Bool.false_and, Bool.true_or, Bool.false_or, Bool.false_eq_true]; done) | (have e_ := h44_ hbb; subst e_; show _ = _; simp only [↓reduceIte, Bool.true_and, Bool.false_and, Bool.true_or, Bool.false_or, Bool.false_eq_true]; done) | rfl | (have e_ := h44_ hbb; subst e_; rfl) | (simp [hbb] at h44_ ⊢; first | done | rfl | (subst h44_; rfl) | simp_all) | (simp [hbb] at h44_ ⊢; done)
        refine RW_fin ?_; intro w127 E128 hP129
        obtain ⟨⟨⟨⟨⟨⟨⟨⟨⟨⟨⟨⟨⟨⟨-, -⟩, -⟩, -⟩, -⟩, -⟩, -⟩, -⟩, -⟩, -⟩, -⟩, -⟩, -⟩, -⟩, q130⟩ := hP129
        have X131 := Ext.gr X105 E128
        have q130 : v126 = (Bo β2) := q130
        obtain rfl := q130
        show wpList _ _ _ _ (fr [_, _, _, _, _, _, _, _, _, _, _, _, _, _, _, _, _, _, _, _, _, _, _, _, _, _, _, _, _, _, _, _, _, _, _, _, _, _, _, _, _, _, _, _, _, _, _, _, _, _, _, _, _, _, _, _, _, _, _, _, _, _, _, _, _, _, _, _, _, _, _, _, _, _, _, _, _, _, _, _, _, _, _, _, _, _, _, _, _, _, _, _, _, _, _, _, _, _, _, _, _, _, _, _, _, _, _, _, _, _, _]) _
        refine wpList_nil (hK112 _ _ ?_)
        refine wp_cond_split (t := β2) (ev rfl) (fun c132 => ?_) (fun c132 => ?_)
        · have c132' := c132
          (try simp only [hβ1, hβ2] at c132')
          (try simp only [icmp, Bool.and_eq_true, Bool.or_eq_true, Bool.and_eq_false_iff, Bool.or_eq_false_iff, Bool.not_eq_true', Bool.not_eq_false', decide_eq_true_eq, decide_eq_false_iff_not, beq_iff_eq, bne_iff_ne, beq_eq_false_iff_ne, bne_eq_false_iff_eq] at c132')
          have hsk : 0 ≤ iAt (numTo A_g.vals.length (negAt A_g) (nb A_g) k).1 k ∨ negAt A_g (k : Int) = false := by rw [show iAt (numTo A_g.vals.length (negAt A_g) (nb A_g) k).1 k = el1 by simp [iAt, hel1]]; refine c132'.imp id fun h => ?_; simpa [negAt, negF, hel2] using h
          refine wp_exit ?_
          refine hK110 _ _ ?_
          refine wp_region_lit ?_
          refine q_is rfl rfl (does_move (u := (Iv (k : Int))) (ev rfl)) (by dsimp only [List.set]; try rfl) ?_
          refine q_is rfl rfl (does_iarith (p := (k : Int)) (q := 1) (r := (k : Int) + 1) (ev rfl) (ev rfl) (.inl ⟨rfl, (in_i64 (by omega) (by omega)).symm⟩)) (by dsimp only [List.set]; try rfl) ?_
          refine q_is rfl rfl (does_assign (u := (Iv ((k : Int) + 1))) (ev rfl)) (by dsimp only [List.set]; try rfl) ?_
          refine wpList_nil ?_
          have hR133 := RowG.cast (ys := ((fun (k : Nat) => (numTo A_g.vals.length (negAt A_g) (nb A_g) k).1) (k + 1))) (RowG.ext hR106 RI.flat E128) (by (try dsimp only); first | exact (congrArg Prod.fst (numTo_skip hsk)).symm | (rw [numTo_new hn1 hnw.2]; exact Fld.finish (grG hgt) (by omega) hnw.2 hfr (hs0 ▸ hfd)))
          refine ⟨k + 1, ⟨fun t => (([(.agg #[(Fl r1), (Fl r3), (Fl r5), (Fl r7), (Iv A_g.x), (Iv A_g.y), (Iv A_g.z), (.slice p11 A_g.vals.length q12)]), (Pt b15 0), (.slice none 0 0), (Iv 0), (Bo false), (.slice (some ⟨gr91, 0, none⟩) ((List.replicate z (-1)).length) q60), (Iv (z : Int)), (Iv ((numTo A_g.vals.length (negAt A_g) (nb A_g) k).2)), (Iv ((k : Int) + 1)), (u101 9), (u101 10), (u101 11), (u101 12), (Bo (isGrid A_g)), (Bo (!(isGrid A_g))), (.slice (some ⟨b33, 0, none⟩) 0 0), (Iv (z : Int)), (Pt b15 7), (.slice p11 A_g.vals.length q12), (Iv (A_g.vals.length : Int)), (Bo (icmp .lss (z : Int) (A_g.vals.length : Int))), (u45 21), (u45 22), (u45 23), (u45 24), (u45 25), (Iv (k : Int)), (.slice (some ⟨gr91, 0, none⟩) ((List.replicate z (-1)).length) q60), (Iv (((List.replicate z (-1)).length) : Int)), (Bo (icmp .lss (k : Int) (((List.replicate z (-1)).length) : Int))), (Iv (k : Int)), (Iv ((k : Int) + 1)), v113, v114, v115, v116, v117, v118, v119, v120, v121, v122, v123, v124, v125, (Bo β2), (u101 46), (u101 47), (u101 48), (u101 49), (u101 50), (u101 51), (u101 52), (u101 53), (u101 54), (u101 55), (u101 56), (u101 57), (u101 58), (u101 59), (u101 60), (u101 61), (u101 62), (u101 63), (u101 64), (u101 65), (u101 66), (u101 67), (u101 68), (u101 69), (u101 70), (u101 71), (u101 72), (u101 73), (u101 74), (u101 75), (u101 76), (u101 77), (u101 78), (u101 79), (u101 80), (u101 81), (u101 82), (u101 83), (u101 84), (u101 85), (u101 86), (u101 87), (u101 88), (u101 89), (u101 90), (u101 91), (u101 92), (u101 93), (u101 94), (u101 95), (u101 96), (u101 97), (u101 98), (u101 99), (u101 100), (u101 101), (u101 102), (u101 103), (u101 104), (u101 105), (u101 106), (u101 107), (u101 108), Ud, Ud] : List Value)[t]?).getD undef, ?_, (KpL.ext E103 E128), hR133, ?_⟩, ?_⟩
          · first | (rw [numTo_skip hsk]; rfl) | (rw [numTo_new hn1 hnw.2]; rfl)
          · omega
          · omega
        have c132' := c132
        (try simp only [hβ1, hβ2] at c132')
        (try simp only [icmp, Bool.and_eq_true, Bool.or_eq_true, Bool.and_eq_false_iff, Bool.or_eq_false_iff, Bool.not_eq_true', Bool.not_eq_false', decide_eq_true_eq, decide_eq_false_iff_not, beq_iff_eq, bne_iff_ne, beq_eq_false_iff_ne, bne_eq_false_iff_eq] at c132')
        have hnw : el1 < 0 ∧ negAt A_g (k : Int) = true := ⟨by have h := c132'.1; omega, by have h := c132'.2; simpa [negAt, negF, hel2] using h⟩
        have hn1 : iAt (numTo A_g.vals.length (negAt A_g) (nb A_g) k).1 k < 0 := by rw [show iAt (numTo A_g.vals.length (negAt A_g) (nb A_g) k).1 k = el1 by simp [iAt, hel1]]; exact hnw.1
        have hfr : ∀ j : Nat, j < A_g.vals.length → Conn (negAt A_g) (nb A_g) (k : Int) j → iAt (numTo A_g.vals.length (negAt A_g) (nb A_g) k).1 j < 0 := fun j hj hc => numTo_free (grG hgt) (by omega) hn1 hnw.2 hj hc
        refine wp_skip (hK111 _ _ ?_)
        refine wp_seq_k fun K134 hK134 => ?_
        refine wp_region_lit ?_
        refine q_is rfl rfl (does_move (u := (Iv (k : Int))) (ev rfl)) (by dsimp only [List.set]; try rfl) ?_
        refine seqd rfl rfl (does_buildSlice (e := 2) (parts' := [(0, (Iv (k : Int)))]) (cells := [(Iv (k : Int))]) (evp rfl) (fun _ => by kernel_rfl)) ?_; rintro _ w139 ⟨b135, rfl, hb136, hB137, E138⟩
        have n140 : b15 < b135 := Nat.lt_of_lt_of_le (Blk.lt (((((hB17.ext E24).ext E37).kl E55 (ninS (Nat.ne_of_lt (Nat.lt_of_lt_of_le n39 hN51)) nin0)).kl E103 (ninS n98 nin0)).ext E128)) hb136
        have n141 : gr91 < b135 := Nat.lt_of_lt_of_le (RowG.lt (RowG.ext hR106 RI.flat E128)) hb136
        have g142 : w.heap.size ≤ b135 := Nat.le_trans (Below.size X131) hb136
        have X143 := Ext.gr X131 E138
        show wpList _ _ _ _ (fr [_, _, _, _, _, _, _, _, _, _, _, _, _, _, _, _, _, _, _, _, _, _, _, _, _, _, _, _, _, _, _, _, _, _, _, _, _, _, _, _, _, _, _, _, _, _, _, _, _, _, _, _, _, _, _, _, _, _, _, _, _, _, _, _, _, _, _, _, _, _, _, _, _, _, _, _, _, _, _, _, _, _, _, _, _, _, _, _, _, _, _, _, _, _, _, _, _, _, _, _, _, _, _, _, _, _, _, _, _, _, _]) _
        refine q_is rfl rfl (does_assign (u := (.slice (some ⟨b135, 0, none⟩) 1 1)) (ev rfl)) (by dsimp only [List.set]; try rfl) ?_
        refine wpList_nil (hK134 _ _ ?_)
        refine wp_seq_k fun K144 hK144 => ?_
        refine wp_region_lit ?_
        refine q_is rfl rfl (does_move (u := (.slice (some ⟨gr91, 0, none⟩) ((List.replicate z (-1)).length) q60)) (ev rfl)) (by dsimp only [List.set]; try rfl) ?_
        refine q_is rfl rfl (does_move (u := (Iv (k : Int))) (ev rfl)) (by dsimp only [List.set]; try rfl) ?_
        refine q_is rfl rfl (does_move (u := (Iv ((numTo A_g.vals.length (negAt A_g) (nb A_g) k).2))) (ev rfl)) (by dsimp only [List.set]; try rfl) ?_
        refine q_is rfl rfl (does_indexOwn (b := gr91) (n := (List.replicate z (-1)).length) (i := (k : Int)) Try.underlying27 Try.sizeOf2 (ev rfl) (ev rfl) (by omega) (by omega)) (by dsimp only [List.set]; try rfl) ?_
        refine seqn rfl rfl (does_storeRowG (R := RI) (k := 1) (xs := ((numTo A_g.vals.length (negAt A_g) (nb A_g) k).1)) (i := k) (u := (Iv ((numTo A_g.vals.length (negAt A_g) (nb A_g) k).2))) (e := ((numTo A_g.vals.length (negAt A_g) (nb A_g) k).2)) (ev rfl) (ev rfl) Try.sizeOf2 rfl rfl RI.flat (RowG.ext (RowG.ext hR106 RI.flat E128) RI.flat E138) rfl (by first | assumption | omega | (simp only [numTo_len, List.length_replicate, List.length_set, List.length_set, List.length_replicate]; omega) | (simp only [numTo_len, List.length_replicate, List.length_set, List.length_set, List.length_replicate]; done)) rfl) ?_; rintro _ w147 ⟨rfl, W145, hR146⟩
        have X148 := Below.wr X143 W145 g99
        refine wpList_nil (hK144 _ _ ?_)
        refine wp_seq_k fun K149 hK149 => ?_
        refine wp_block ?_
        have n151 : b15 < w147.heap.size := Blk.lt (((((((hB17.ext E24).ext E37).kl E55 (ninS (Nat.ne_of_lt (Nat.lt_of_lt_of_le n39 hN51)) nin0)).kl E103 (ninS n98 nin0)).ext E128).ext E138).wr W145 n98)
        have n152 : b135 < w147.heap.size := Blk.lt (hB137.wr W145 (Nat.ne_of_gt n141))
        have n153 : gr91 < w147.heap.size := RowG.lt hR146
        have hO154 : OwnQ RI 1 2 b135 w147.heap.size w147 (.slice (some ⟨b135, 0, none⟩) 1 1) [(k : Int)] := OwnQ.lit1 (hB137.wr W145 (Nat.ne_of_gt n141)) rfl
        have hg155 : b135 < w147.heap.size := Blk.lt (hB137.wr W145 (Nat.ne_of_gt n141))
        have hH156 : Hang w127.heap.size w147 (fun u => Sl RI 1 u (.slice (some ⟨b135, 0, none⟩) 1 1) ([(k : Int)])) := OwnQ.hang hO154 RI.flat (by decide) hb136 (Nat.le_trans (Below.size E138) (Nat.le_of_eq (Eq.symm (Wr.size W145))))
        obtain ⟨gg157, hg158, hg159, hO160⟩ := OwnQ.start' hO154 hO154
        have hN161 : w127.heap.size ≤ gg157 := by rcases hg158 with h | h; exact h ▸ hb136; exact Nat.le_trans (Nat.le_trans (Below.size E138) (Nat.le_of_eq (Eq.symm (Wr.size W145)))) h
        have g162 : w.heap.size ≤ gg157 := Nat.le_trans (Nat.le_trans (Nat.le_trans (Nat.le_trans (Nat.le_trans (Nat.le_trans (Below.size E18) (Below.size E24)) (Below.size E37)) (KpL.size E55)) (KpL.size E103)) (Below.size E128)) hN161
        have hg163 : gg157 < w147.heap.size := by rcases hg159 with h | h; exact h ▸ Nat.lt_of_lt_of_le hg155 (Nat.le_refl _); exact h
        refine loop_ghost (σ := List Int × List Int) (fun s a w' => ∃ u150 : Nat → Value, ∃ y9 : Value, a = fr [(.agg #[(Fl r1), (Fl r3), (Fl r5), (Fl r7), (Iv A_g.x), (Iv A_g.y), (Iv A_g.z), (.slice p11 A_g.vals.length q12)]), (Pt b15 0), (.slice none 0 0), (Iv 0), (Bo false), (.slice (some ⟨gr91, 0, none⟩) ((List.replicate z (-1)).length) q60), (Iv (z : Int)), (Iv ((numTo A_g.vals.length (negAt A_g) (nb A_g) k).2)), (Iv (k : Int)), y9, (u150 10), (u150 11), (u150 12), (Bo (isGrid A_g)), (Bo (!(isGrid A_g))), (.slice (some ⟨b33, 0, none⟩) 0 0), (Iv (z : Int)), (Pt b15 7), (.slice p11 A_g.vals.length q12), (Iv (A_g.vals.length : Int)), (Bo (icmp .lss (z : Int) (A_g.vals.length : Int))), (u45 21), (u45 22), (u45 23), (u45 24), (u45 25), (Iv (k : Int)), (.slice (some ⟨gr91, 0, none⟩) ((List.replicate z (-1)).length) q60), (Iv (((List.replicate z (-1)).length) : Int)), (Bo (icmp .lss (k : Int) (((List.replicate z (-1)).length) : Int))), (u101 30), (u101 31), v113, v114, v115, v116, v117, v118, v119, v120, v121, v122, v123, v124, v125, (Bo β2), (Iv (k : Int)), (.slice (some ⟨b135, 0, none⟩) 1 1), (.slice (some ⟨gr91, 0, none⟩) ((List.replicate z (-1)).length) q60), (Iv (k : Int)), (Iv ((numTo A_g.vals.length (negAt A_g) (nb A_g) k).2)), (Pt gr91 (k * 1)), (u150 52), (u150 53), (u150 54), (u150 55), (u150 56), (u150 57), (u150 58), (u150 59), (u150 60), (u150 61), (u150 62), (u150 63), (u150 64), (u150 65), (u150 66), (u150 67), (u150 68), (u150 69), (u150 70), (u150 71), (u150 72), (u150 73), (u150 74), (u150 75), (u150 76), (u150 77), (u150 78), (u150 79), (u150 80), (u150 81), (u150 82), (u150 83), (u150 84), (u150 85), (u150 86), (u150 87), (u150 88), (u150 89), (u150 90), (u150 91), (u150 92), (u150 93), (u150 94), (u150 95), (u150 96), (u150 97), (u150 98), (u150 99), (u150 100), (u150 101), (u150 102), (u150 103), (u150 104), (u150 105), (u150 106), (u101 107), (u101 108), Ud, Ud] ∧ KpL [gr91, gg157] w147 w' ∧ RowG RI 1 w' gr91 s.1 ∧ OwnQ RI 1 2 gg157 w147.heap.size w' y9 s.2 ∧ (Fld A_g.vals.length (negAt A_g) (nb A_g) (numTo A_g.vals.length (negAt A_g) (nb A_g) k).1 (k : Int) (numTo A_g.vals.length (negAt A_g) (nb A_g) k).2 s.1 s.2)) (fun s => neg s.1 + s.2.length) ((numTo A_g.vals.length (negAt A_g) (nb A_g) k).1.set k (numTo A_g.vals.length (negAt A_g) (nb A_g) k).2, [(k : Int)]) ?_ ?_
        · refine ⟨fun t => (([(.agg #[(Fl r1), (Fl r3), (Fl r5), (Fl r7), (Iv A_g.x), (Iv A_g.y), (Iv A_g.z), (.slice p11 A_g.vals.length q12)]), (Pt b15 0), (.slice none 0 0), (Iv 0), (Bo false), (.slice (some ⟨gr91, 0, none⟩) ((List.replicate z (-1)).length) q60), (Iv (z : Int)), (Iv ((numTo A_g.vals.length (negAt A_g) (nb A_g) k).2)), (Iv (k : Int)), (.slice (some ⟨b135, 0, none⟩) 1 1), (u101 10), (u101 11), (u101 12), (Bo (isGrid A_g)), (Bo (!(isGrid A_g))), (.slice (some ⟨b33, 0, none⟩) 0 0), (Iv (z : Int)), (Pt b15 7), (.slice p11 A_g.vals.length q12), (Iv (A_g.vals.length : Int)), (Bo (icmp .lss (z : Int) (A_g.vals.length : Int))), (u45 21), (u45 22), (u45 23), (u45 24), (u45 25), (Iv (k : Int)), (.slice (some ⟨gr91, 0, none⟩) ((List.replicate z (-1)).length) q60), (Iv (((List.replicate z (-1)).length) : Int)), (Bo (icmp .lss (k : Int) (((List.replicate z (-1)).length) : Int))), (u101 30), (u101 31), v113, v114, v115, v116, v117, v118, v119, v120, v121, v122, v123, v124, v125, (Bo β2), (Iv (k : Int)), (.slice (some ⟨b135, 0, none⟩) 1 1), (.slice (some ⟨gr91, 0, none⟩) ((List.replicate z (-1)).length) q60), (Iv (k : Int)), (Iv ((numTo A_g.vals.length (negAt A_g) (nb A_g) k).2)), (Pt gr91 (k * 1)), (u101 52), (u101 53), (u101 54), (u101 55), (u101 56), (u101 57), (u101 58), (u101 59), (u101 60), (u101 61), (u101 62), (u101 63), (u101 64), (u101 65), (u101 66), (u101 67), (u101 68), (u101 69), (u101 70), (u101 71), (u101 72), (u101 73), (u101 74), (u101 75), (u101 76), (u101 77), (u101 78), (u101 79), (u101 80), (u101 81), (u101 82), (u101 83), (u101 84), (u101 85), (u101 86), (u101 87), (u101 88), (u101 89), (u101 90), (u101 91), (u101 92), (u101 93), (u101 94), (u101 95), (u101 96), (u101 97), (u101 98), (u101 99), (u101 100), (u101 101), (u101 102), (u101 103), (u101 104), (u101 105), (u101 106), (u101 107), (u101 108), Ud, Ud] : List Value)[t]?).getD undef, (.slice (some ⟨b135, 0, none⟩) 1 1), rfl, KpL.refl _ _, (RowG.cast hR146 (by (try dsimp only); try rfl)), (OwnQ.cast hO160 (by try rfl)), ?_⟩
          exact Fld.start (by omega) hkl hel1 hnw.1 hkm.1 hfr
        · rintro s a w164 ⟨u150, y9, rfl, E165, hRg0, hO167, hfd⟩
          have X168 := Below.kl X148 E165 (allS g99 (allS g162 all0)) (Nat.le_refl _)
          have hR169 := hRg0; clear hRg0
          obtain ⟨p170, q171, rfl⟩ := OwnQ.shape hO167
          have hH172 : Hang w127.heap.size w164 (fun u => Sl RI 1 u (.slice p170 s.2.length q171) s.2) := OwnQ.hang hO167 RI.flat (by decide) hN161 (Nat.le_trans (Below.size E138) (Nat.le_of_eq (Eq.symm (Wr.size W145))))
          have hsl := hfd.len
          have hsz := hfd.sz
          refine wp_seq_k fun K173 hK173 => ?_
          refine wp_seq_k fun K174 hK174 => ?_
          refine wp_region_lit ?_
          refine q_is rfl rfl (does_move (u := (.slice p170 s.2.length q171)) (ev rfl)) (by dsimp only [List.set]; try rfl) ?_
          refine q_is rfl rfl (does_len_slice Try.underlying27 (ev rfl)) (by dsimp only [List.set]; try rfl) ?_
          refine q_is rfl rfl (does_icmp (p := (s.2.length : Int)) (q := 0) (.inr (.inr (.inr (.inr (.inl rfl))))) (ev rfl) (ev rfl)) (by dsimp only [List.set]; try rfl) ?_
          refine wpList_nil (hK174 _ _ ?_)
          refine wp_cond_split (t := icmp .gtr (s.2.length : Int) 0) (ev rfl) (fun c175 => ?_) (fun c175 => ?_)
          · have c175' := c175
            (try simp only [hβ1, hβ2] at c175')
            (try simp only [icmp, Bool.and_eq_true, Bool.or_eq_true, Bool.and_eq_false_iff, Bool.or_eq_false_iff, Bool.not_eq_true', Bool.not_eq_false', decide_eq_true_eq, decide_eq_false_iff_not, beq_iff_eq, bne_iff_ne, beq_eq_false_iff_ne, bne_eq_false_iff_eq] at c175')
            obtain ⟨r0, x0, hs2⟩ : ∃ r x, s.2 = r ++ [x] := ⟨s.2.dropLast, s.2.getLast (List.ne_nil_of_length_pos (by omega)), (List.dropLast_concat_getLast _).symm⟩
            have hs2l : s.2.length = r0.length + 1 := by rw [hs2]; simp
            have hx0 := hfd.tdc x0 (by rw [hs2]; simp)
            have hxr := hx0.rng (grG hgt) (by omega) hnw.2
            refine wp_skip (hK173 _ _ ?_)
            refine wp_block ?_
            refine wp_seq_k fun K176 hK176 => ?_
            refine wp_region_lit ?_
            refine q_is rfl rfl (does_move (u := (.slice p170 s.2.length q171)) (ev rfl)) (by dsimp only [List.set]; try rfl) ?_
            refine q_is rfl rfl (does_move (u := (.slice p170 s.2.length q171)) (ev rfl)) (by dsimp only [List.set]; try rfl) ?_
            refine q_is rfl rfl (does_len_slice Try.underlying27 (ev rfl)) (by dsimp only [List.set]; try rfl) ?_
            refine q_is rfl rfl (does_iarith (p := (s.2.length : Int)) (q := 1) (r := (s.2.length : Int) - 1) (ev rfl) (ev rfl) (.inr (.inl ⟨rfl, (in_i64 (by omega) (by omega)).symm⟩))) (by dsimp only [List.set]; try rfl) ?_
            obtain ⟨el3, hel3⟩ : ∃ e, s.2[((s.2.length : Int) - 1).toNat]? = some e := ⟨_, List.getElem?_eq_getElem (by omega)⟩
            refine seqd rfl rfl (does_indexSl (R := RI) (i := (s.2.length : Int) - 1) (xs := s.2) (e := el3) Try.underlying27 Try.sizeOf2 (ev rfl) (ev rfl) hH172.get (by omega) hel3) ?_; rintro _ w164 ⟨b177, o178, _, rfl, hc180, rfl, rfl⟩
            show wpList _ _ _ _ (fr [_, _, _, _, _, _, _, _, _, _, _, _, _, _, _, _, _, _, _, _, _, _, _, _, _, _, _, _, _, _, _, _, _, _, _, _, _, _, _, _, _, _, _, _, _, _, _, _, _, _, _, _, _, _, _, _, _, _, _, _, _, _, _, _, _, _, _, _, _, _, _, _, _, _, _, _, _, _, _, _, _, _, _, _, _, _, _, _, _, _, _, _, _, _, _, _, _, _, _, _, _, _, _, _, _, _, _, _, _, _, _]) _
            refine q_is rfl rfl (does_load (u := (Iv el3)) (ev rfl) Try.isAgg2 (Cells.at hc180 0 rfl)) (by dsimp only [List.set]; try rfl) ?_
            refine q_is rfl rfl (does_assign (u := (Iv el3)) (ev rfl)) (by dsimp only [List.set]; try rfl) ?_
            refine wpList_nil (hK176 _ _ ?_)
            refine wp_seq_k fun K181 hK181 => ?_
            refine wp_region_lit ?_
            have hel3x : el3 = x0 := by rw [hs2] at hel3; simpa using hel3.symm
            subst hel3x
            refine q_is rfl rfl (does_move (u := (.slice p170 s.2.length q171)) (ev rfl)) (by dsimp only [List.set]; try rfl) ?_
            refine q_is rfl rfl (does_move (u := (.slice p170 s.2.length q171)) (ev rfl)) (by dsimp only [List.set]; try rfl) ?_
            refine q_is rfl rfl (does_len_slice Try.underlying27 (ev rfl)) (by dsimp only [List.set]; try rfl) ?_
            refine q_is rfl rfl (does_iarith (p := (s.2.length : Int)) (q := 1) (r := (s.2.length : Int) - 1) (ev rfl) (ev rfl) (.inr (.inl ⟨rfl, (in_i64 (by omega) (by omega)).symm⟩))) (by dsimp only [List.set]; try rfl) ?_
            refine seqd rfl rfl (does_initQ (R := RI) (k := 1) (g0 := gg157) (B := w147.heap.size) (e := 2) (z := el3) (xs := r0) Try.underlying27 Try.sizeOf2 (ev rfl) (ev rfl) (OwnQ.cast hO167 (by exact hs2)) (by (try simp only [List.length_append, List.length_cons, List.length_nil]); omega)) ?_; rintro y' w183 ⟨hw184, hO182⟩
            subst hw184
            obtain ⟨p185, q186, rfl⟩ := OwnQ.shape hO182
            have hH187 : Hang w127.heap.size w164 (fun u => Sl RI 1 u (.slice p185 r0.length q186) r0) := OwnQ.hang hO182 RI.flat (by decide) hN161 (Nat.le_trans (Below.size E138) (Nat.le_of_eq (Eq.symm (Wr.size W145))))
            show wpList _ _ _ _ (fr [_, _, _, _, _, _, _, _, _, _, _, _, _, _, _, _, _, _, _, _, _, _, _, _, _, _, _, _, _, _, _, _, _, _, _, _, _, _, _, _, _, _, _, _, _, _, _, _, _, _, _, _, _, _, _, _, _, _, _, _, _, _, _, _, _, _, _, _, _, _, _, _, _, _, _, _, _, _, _, _, _, _, _, _, _, _, _, _, _, _, _, _, _, _, _, _, _, _, _, _, _, _, _, _, _, _, _, _, _, _, _]) _
            refine q_is rfl rfl (does_assign (u := (.slice p185 r0.length q186)) (ev rfl)) (by dsimp only [List.set]; try rfl) ?_
            refine wpList_nil (hK181 _ _ ?_)
            refine wp_seq_k fun K188 hK188 => ?_
            refine wp_region_lit ?_
            refine q_is rfl rfl (does_move (u := (Iv el3)) (ev rfl)) (by dsimp only [List.set]; try rfl) ?_
            refine seqd rfl rfl (does_call (args := #[(Pt b15 0), (Iv el3)]) cal36 (evs rfl) (c_spec_l06Near b15 0 [(Fl r1), (Fl r3), (Fl r5), (Fl r7), (Iv A_g.x), (Iv A_g.y), (Iv A_g.z), (.slice p11 A_g.vals.length q12)] A_g el3 _ (Blk.cells ((((((((hB17.ext E24).ext E37).kl E55 (ninS (Nat.ne_of_lt (Nat.lt_of_lt_of_le n39 hN51)) nin0)).kl E103 (ninS n98 nin0)).ext E128).ext E138).wr W145 n98).kl E165 (ninS n98 (ninS (by omega) nin0)))) ⟨r1, r3, r5, r7, (.slice p11 A_g.vals.length q12), rfl, h2, h4, h6, h8, (Sl.ext hs13 RF.mono X168)⟩ (by exact hgt) (by omega))) ?_; rintro _ w190 ⟨E189, ⟨y192, rfl, hh191⟩⟩
            have X193 := Ext.gr X168 E189
            have n194 : b15 < w164.heap.size := Blk.lt ((((((((hB17.ext E24).ext E37).kl E55 (ninS (Nat.ne_of_lt (Nat.lt_of_lt_of_le n39 hN51)) nin0)).kl E103 (ninS n98 nin0)).ext E128).ext E138).wr W145 n98).kl E165 (ninS n98 (ninS (by omega) nin0)))
            have n195 : gr91 < w164.heap.size := RowG.lt hR169
            obtain ⟨p196, q197, rfl⟩ := Sl.shape hh191.get
            show wpList _ _ _ _ (fr [_, _, _, _, _, _, _, _, _, _, _, _, _, _, _, _, _, _, _, _, _, _, _, _, _, _, _, _, _, _, _, _, _, _, _, _, _, _, _, _, _, _, _, _, _, _, _, _, _, _, _, _, _, _, _, _, _, _, _, _, _, _, _, _, _, _, _, _, _, _, _, _, _, _, _, _, _, _, _, _, _, _, _, _, _, _, _, _, _, _, _, _, _, _, _, _, _, _, _, _, _, _, _, _, _, _, _, _, _, _, _]) _
            refine q_is rfl rfl (does_assign (u := (.slice p196 ((nb A_g el3).length) q197)) (ev rfl)) (by dsimp only [List.set]; try rfl) ?_
            refine wpList_nil (hK188 _ _ ?_)
            refine wp_seq_k fun K198 hK198 => ?_
            refine wp_region_lit ?_
            refine q_is rfl rfl (does_assign (u := (Iv 0)) (ev rfl)) (by dsimp only [List.set]; try rfl) ?_
            refine wpList_nil (hK198 _ _ ?_)
            refine wp_block ?_
            have n204 : b15 < w190.heap.size := Blk.lt (((((((((hB17.ext E24).ext E37).kl E55 (ninS (Nat.ne_of_lt (Nat.lt_of_lt_of_le n39 hN51)) nin0)).kl E103 (ninS n98 nin0)).ext E128).ext E138).wr W145 n98).kl E165 (ninS n98 (ninS (by omega) nin0))).ext E189)
            have n205 : gr91 < w190.heap.size := RowG.lt (RowG.ext hR169 RI.flat E189)
            have n206 : b177 < w190.heap.size := cell_lt (Cells.at (hc180.ext E189) 0 rfl)
            obtain ⟨gg200, hg201, hg202, hO203⟩ := OwnQ.start' hO182 (OwnQ.same hO182 RI.flat ((Same.refl _ _).ext E189) hN161 (Nat.le_trans (Below.size E138) (Nat.le_of_eq (Eq.symm (Wr.size W145)))))
            have hN207 : w127.heap.size ≤ gg200 := by rcases hg201 with h | h; exact h ▸ hN161; exact Nat.le_trans (Nat.le_trans (Below.size E138) (Nat.le_of_eq (Eq.symm (Wr.size W145)))) h
            have g208 : w.heap.size ≤ gg200 := Nat.le_trans (Nat.le_trans (Nat.le_trans (Nat.le_trans (Nat.le_trans (Nat.le_trans (Below.size E18) (Below.size E24)) (Below.size E37)) (KpL.size E55)) (KpL.size E103)) (Below.size E128)) hN207
            have hg209 : gg200 < w164.heap.size := by rcases hg202 with h | h; exact h ▸ Nat.lt_of_lt_of_le hg163 (KpL.size E165); exact h
            have n210 : gg200 < w164.heap.size := Nat.lt_of_lt_of_le hg209 (Nat.le_refl _)
            refine loop_ghost (σ := List Int × List Int × Nat) (fun q a w' => ∃ u199 : Nat → Value, ∃ y9 : Value, a = fr [(.agg #[(Fl r1), (Fl r3), (Fl r5), (Fl r7), (Iv A_g.x), (Iv A_g.y), (Iv A_g.z), (.slice p11 A_g.vals.length q12)]), (Pt b15 0), (.slice none 0 0), (Iv 0), (Bo false), (.slice (some ⟨gr91, 0, none⟩) ((List.replicate z (-1)).length) q60), (Iv (z : Int)), (Iv ((numTo A_g.vals.length (negAt A_g) (nb A_g) k).2)), (Iv (k : Int)), y9, (Iv el3), (.slice p196 ((nb A_g el3).length) q197), (Iv (q.2.2 : Int)), (Bo (isGrid A_g)), (Bo (!(isGrid A_g))), (.slice (some ⟨b33, 0, none⟩) 0 0), (Iv (z : Int)), (Pt b15 7), (.slice p11 A_g.vals.length q12), (Iv (A_g.vals.length : Int)), (Bo (icmp .lss (z : Int) (A_g.vals.length : Int))), (u45 21), (u45 22), (u45 23), (u45 24), (u45 25), (Iv (k : Int)), (.slice (some ⟨gr91, 0, none⟩) ((List.replicate z (-1)).length) q60), (Iv (((List.replicate z (-1)).length) : Int)), (Bo (icmp .lss (k : Int) (((List.replicate z (-1)).length) : Int))), (u101 30), (u101 31), v113, v114, v115, v116, v117, v118, v119, v120, v121, v122, v123, v124, v125, (Bo β2), (Iv (k : Int)), (.slice (some ⟨b135, 0, none⟩) 1 1), (.slice (some ⟨gr91, 0, none⟩) ((List.replicate z (-1)).length) q60), (Iv (k : Int)), (Iv ((numTo A_g.vals.length (negAt A_g) (nb A_g) k).2)), (Pt gr91 (k * 1)), (.slice p170 s.2.length q171), (Iv (s.2.length : Int)), (Bo (icmp .gtr (s.2.length : Int) 0)), (.slice p170 s.2.length q171), (.slice p170 s.2.length q171), (Iv (s.2.length : Int)), (Iv ((s.2.length : Int) - 1)), (Pt b177 o178), (Iv el3), (.slice p170 s.2.length q171), (.slice p170 s.2.length q171), (Iv (s.2.length : Int)), (Iv ((s.2.length : Int) - 1)), (.slice p185 r0.length q186), (Iv el3), (.slice p196 ((nb A_g el3).length) q197), (u199 68), (u199 69), (u199 70), (u199 71), (u199 72), (u199 73), (u199 74), (u199 75), (u199 76), (u199 77), (u199 78), (u199 79), (u199 80), (u199 81), (u199 82), (u199 83), (u199 84), (u199 85), (u199 86), (u199 87), (u199 88), (u199 89), (u199 90), (u199 91), (u199 92), (u199 93), (u199 94), (u199 95), (u199 96), (u199 97), (u199 98), (u199 99), (u199 100), (u199 101), (u199 102), (u199 103), (u199 104), (u199 105), (u199 106), (u101 107), (u101 108), Ud, Ud] ∧ KpL [gr91, gg200] w190 w' ∧ RowG RI 1 w' gr91 q.1 ∧ OwnQ RI 1 2 gg200 w190.heap.size w' y9 q.2.1 ∧ (Fld A_g.vals.length (negAt A_g) (nb A_g) (numTo A_g.vals.length (negAt A_g) (nb A_g) k).1 (k : Int) (numTo A_g.vals.length (negAt A_g) (nb A_g) k).2 q.1 (el3 :: q.2.1) ∧ Pre (negAt A_g) (nb A_g el3) q.1 q.2.2 ∧ neg q.1 + q.2.1.length + 1 = neg s.1 + s.2.length ∧ q.2.2 ≤ (nb A_g el3).length)) (fun q => (nb A_g el3).length - q.2.2) (s.1, r0, 0) ?_ ?_
            · refine ⟨fun t => (([(.agg #[(Fl r1), (Fl r3), (Fl r5), (Fl r7), (Iv A_g.x), (Iv A_g.y), (Iv A_g.z), (.slice p11 A_g.vals.length q12)]), (Pt b15 0), (.slice none 0 0), (Iv 0), (Bo false), (.slice (some ⟨gr91, 0, none⟩) ((List.replicate z (-1)).length) q60), (Iv (z : Int)), (Iv ((numTo A_g.vals.length (negAt A_g) (nb A_g) k).2)), (Iv (k : Int)), (.slice p185 r0.length q186), (Iv el3), (.slice p196 ((nb A_g el3).length) q197), (Iv 0), (Bo (isGrid A_g)), (Bo (!(isGrid A_g))), (.slice (some ⟨b33, 0, none⟩) 0 0), (Iv (z : Int)), (Pt b15 7), (.slice p11 A_g.vals.length q12), (Iv (A_g.vals.length : Int)), (Bo (icmp .lss (z : Int) (A_g.vals.length : Int))), (u45 21), (u45 22), (u45 23), (u45 24), (u45 25), (Iv (k : Int)), (.slice (some ⟨gr91, 0, none⟩) ((List.replicate z (-1)).length) q60), (Iv (((List.replicate z (-1)).length) : Int)), (Bo (icmp .lss (k : Int) (((List.replicate z (-1)).length) : Int))), (u101 30), (u101 31), v113, v114, v115, v116, v117, v118, v119, v120, v121, v122, v123, v124, v125, (Bo β2), (Iv (k : Int)), (.slice (some ⟨b135, 0, none⟩) 1 1), (.slice (some ⟨gr91, 0, none⟩) ((List.replicate z (-1)).length) q60), (Iv (k : Int)), (Iv ((numTo A_g.vals.length (negAt A_g) (nb A_g) k).2)), (Pt gr91 (k * 1)), (.slice p170 s.2.length q171), (Iv (s.2.length : Int)), (Bo (icmp .gtr (s.2.length : Int) 0)), (.slice p170 s.2.length q171), (.slice p170 s.2.length q171), (Iv (s.2.length : Int)), (Iv ((s.2.length : Int) - 1)), (Pt b177 o178), (Iv el3), (.slice p170 s.2.length q171), (.slice p170 s.2.length q171), (Iv (s.2.length : Int)), (Iv ((s.2.length : Int) - 1)), (.slice p185 r0.length q186), (Iv el3), (.slice p196 ((nb A_g el3).length) q197), (u150 68), (u150 69), (u150 70), (u150 71), (u150 72), (u150 73), (u150 74), (u150 75), (u150 76), (u150 77), (u150 78), (u150 79), (u150 80), (u150 81), (u150 82), (u150 83), (u150 84), (u150 85), (u150 86), (u150 87), (u150 88), (u150 89), (u150 90), (u150 91), (u150 92), (u150 93), (u150 94), (u150 95), (u150 96), (u150 97), (u150 98), (u150 99), (u150 100), (u150 101), (u150 102), (u150 103), (u150 104), (u150 105), (u150 106), (u101 107), (u101 108), Ud, Ud] : List Value)[t]?).getD undef, (.slice p185 r0.length q186), rfl, KpL.refl _ _, (RowG.cast (RowG.ext hR169 RI.flat E189) (by (try dsimp only); try rfl)), (OwnQ.cast hO203 (by try rfl)), ?_⟩
              exact ⟨(hs2 ▸ hfd).last, Pre.start, by rw [hs2]; simp only [List.length_append, List.length_cons, List.length_nil]; omega, Nat.zero_le _⟩
            · rintro q a w211 ⟨u199, y9, rfl, E212, hRg0, hO214, ⟨hfd1, hpre, hng, hq2⟩⟩
              have X215 := Below.kl X193 E212 (allS g99 (allS g208 all0)) (Nat.le_refl _)
              have hR216 := hRg0; clear hRg0
              obtain ⟨p217, q218, rfl⟩ := OwnQ.shape hO214
              have hH219 : Hang w127.heap.size w211 (fun u => Sl RI 1 u (.slice p217 q.2.1.length q218) q.2.1) := OwnQ.hang hO214 RI.flat (by decide) hN207 (Nat.le_trans (Nat.le_trans (Nat.le_trans (Below.size E138) (Nat.le_of_eq (Eq.symm (Wr.size W145)))) (KpL.size E165)) (Below.size E189))
              have hql := hfd1.len
              have hqz := hfd1.sz
              have hb6 := nbK_len A_g el3 6
              replace hb6 : (nb A_g el3).length ≤ 6 := hb6
              refine wp_seq_k fun K220 hK220 => ?_
              refine wp_seq_k fun K221 hK221 => ?_
              refine wp_region_lit ?_
              refine q_is rfl rfl (does_move (u := (Iv (q.2.2 : Int))) (ev rfl)) (by dsimp only [List.set]; try rfl) ?_
              refine q_is rfl rfl (does_move (u := (.slice p196 ((nb A_g el3).length) q197)) (ev rfl)) (by dsimp only [List.set]; try rfl) ?_
              refine q_is rfl rfl (does_len_slice Try.underlying27 (ev rfl)) (by dsimp only [List.set]; try rfl) ?_
              refine q_is rfl rfl (does_icmp (p := (q.2.2 : Int)) (q := (((nb A_g el3).length) : Int)) (.inr (.inr (.inl rfl))) (ev rfl) (ev rfl)) (by dsimp only [List.set]; try rfl) ?_
              refine wpList_nil (hK221 _ _ ?_)
              refine wp_cond_split (t := icmp .lss (q.2.2 : Int) (((nb A_g el3).length) : Int)) (ev rfl) (fun c222 => ?_) (fun c222 => ?_)
              · have c222' := c222
                (try simp only [hβ1, hβ2] at c222')
                (try simp only [icmp, Bool.and_eq_true, Bool.or_eq_true, Bool.and_eq_false_iff, Bool.or_eq_false_iff, Bool.not_eq_true', Bool.not_eq_false', decide_eq_true_eq, decide_eq_false_iff_not, beq_iff_eq, bne_iff_ne, beq_eq_false_iff_ne, bne_eq_false_iff_eq] at c222')
                refine wp_skip (hK220 _ _ ?_)
                refine wp_seq_k fun K223 hK223 => ?_
                refine wp_block ?_
                refine wp_seq_k fun K224 hK224 => ?_
                obtain ⟨el4, hel4⟩ : ∃ e, (nb A_g el3)[q.2.2]? = some e := ⟨_, List.getElem?_eq_getElem (by omega)⟩
                have hrg4 := (grG hgt).rng el3 hxr.1 hxr.2 el4 (List.mem_of_getElem? hel4)
                obtain ⟨el5, hel5⟩ : ∃ e, q.1[el4.toNat]? = some e := ⟨_, List.getElem?_eq_getElem (by first | assumption | omega | (simp only [numTo_len, List.length_replicate, List.length_set, List.length_set, List.length_replicate]; omega) | (simp only [numTo_len, List.length_replicate, List.length_set, List.length_set, List.length_replicate]; done))⟩
                obtain ⟨el6, hel6⟩ : ∃ e, A_g.vals[el4.toNat]? = some e := ⟨_, List.getElem?_eq_getElem (by omega)⟩
                obtain ⟨β3, hβ3⟩ : ∃ b : Bool, b = (fcmp .lss (ford .f32 el6 (cf .f32 0))) := ⟨_, rfl⟩
                refine region_draw (
                  [Fact.pure [] (fun v => v = (.slice (some ⟨gr91, 0, none⟩) ((List.replicate z (-1)).length) q60)),
    Fact.pure [] (fun v => v = (.slice p196 ((nb A_g el3).length) q197)),
    Fact.pure [] (fun v => v = (Iv (q.2.2 : Int))),
    Fact.mem [75, 76] (fun v w' => PtrR RI w' v el4) (by intro v w1 w2 hx h; exact h.ext RI.mono hx),
    Fact.pure [77] (fun v => v = (Iv el4)),
    Fact.pure [74, 78] (fun v => v = (Pt gr91 (el4.toNat * 1))),
    Fact.pure [79] (fun v => v = (Iv el5)),
    Fact.pure [80] (fun v => v = (Bo (icmp .lss el5 0))),
    Fact.pure [81] (fun v => v = (Bo (icmp .lss el5 0))),
    Fact.pure [82] (fun v => (icmp .lss el5 0) = true → v = (Pt b15 7)),
    Fact.pure [83, 82] (fun v => (icmp .lss el5 0) = true → v = (.slice p11 A_g.vals.length q12)),
    Fact.pure [82] (fun v => (icmp .lss el5 0) = true → v = (.slice p196 ((nb A_g el3).length) q197)),
    Fact.pure [82] (fun v => (icmp .lss el5 0) = true → v = (Iv (q.2.2 : Int))),
    Fact.mem [85, 86, 82] (fun v w' => (icmp .lss el5 0) = true → PtrR RI w' v el4) (by intro v w1 w2 hx h; exact fun hg1 => (h hg1).ext RI.mono hx),
    Fact.pure [87, 82] (fun v => (icmp .lss el5 0) = true → v = (Iv el4)),
    Fact.mem [84, 88, 82] (fun v w' => (icmp .lss el5 0) = true → PtrR RF w' v el6) (by intro v w1 w2 hx h; exact fun hg1 => (h hg1).ext RF.mono hx),
    Fact.pure [89, 82] (fun v => (icmp .lss el5 0) = true → ∃ r_1 : Nat, v = (Fl r_1) ∧ cf .f32 r_1 = el6),
    Fact.pure [90, 82] (fun v => (icmp .lss el5 0) = true → v = (Bo β3)),
    Fact.pure [82, 91] (fun v => v = (Bo ((icmp .lss el5 0) && β3)))]) mixed (by kernel_rfl) (by intro _ _ d _ _ h; cases d <;> exact h) ?_
                obtain ⟨w225, hw227⟩ : ∃ w', w' = World.drew w211 := ⟨_, rfl⟩; rw [← hw227]; have E226 : Ext w211 w225 := by rw [hw227]; exact Ext.draw _
                clear hw227
                have X228 := Ext.gr X215 E226
                refine RW_d _ rfl (fun v => by dsimp only [List.set]; try rfl) (fun u hu hF => ?_) (fun v229 => ?_)
                · clear hF
                  refine doesG_un rfl ?_
                  refine (does_move (u := (.slice (some ⟨gr91, 0, none⟩) ((List.replicate z (-1)).length) q60)) (ev rfl)).mono ?_; rintro _ _ ⟨rfl, rfl⟩
                  exact ⟨rfl, Ext.refl _⟩
                refine RW_d _ rfl (fun v => by dsimp only [List.set]; try rfl) (fun u hu hF => ?_) (fun v230 => ?_)
                · clear hF
                  refine doesG_un rfl ?_
                  refine (does_move (u := (.slice p196 ((nb A_g el3).length) q197)) (ev rfl)).mono ?_; rintro _ _ ⟨rfl, rfl⟩
                  exact ⟨rfl, Ext.refl _⟩
                refine RW_d _ rfl (fun v => by dsimp only [List.set]; try rfl) (fun u hu hF => ?_) (fun v231 => ?_)
                · clear hF
                  refine doesG_un rfl ?_
                  refine (does_move (u := (Iv (q.2.2 : Int))) (ev rfl)).mono ?_; rintro _ _ ⟨rfl, rfl⟩
                  exact ⟨rfl, Ext.refl _⟩
                refine RW_d _ rfl (fun v => by dsimp only [List.set]; try rfl) (fun u hu hF => ?_) (fun v232 => ?_)
                · have h75_ : v230 = (.slice p196 ((nb A_g el3).length) q197) := hF.1
                  have h76_ : v231 = (Iv (q.2.2 : Int)) := hF.2.1
                  clear hF
                  refine doesG_un rfl ?_
                  obtain rfl := h75_
                  obtain rfl := h76_
                  refine (does_indexSl (R := RI) (i := (q.2.2 : Int)) (xs := (nb A_g el3)) (e := el4) Try.underlying27 Try.sizeOf2 (ev rfl) (ev rfl) (Sl.ext (hh191 _ (((Same.refl _ _).kl E212 (allS (.inl n195) (allS (.inl n210) all0))).ext E226)) RI.mono hu) (by omega) hel4).mono ?_; rintro v u' ⟨b, of, cs, hv, hc, hR, hu'⟩; subst hu'
                  exact ⟨⟨b, of, cs, hv, hc, hR⟩, Ext.refl _⟩
                refine RW_d _ rfl (fun v => by dsimp only [List.set]; try rfl) (fun u hu hF => ?_) (fun v233 => ?_)
                · have h77_ : PtrR RI u v232 el4 := hF.1
                  clear hF
                  refine doesG_un rfl ?_
                  obtain ⟨b77_, o77_, _, rfl, hc77_, rfl⟩ := h77_
                  refine (does_load (u := (Iv el4)) (ev rfl) Try.isAgg2 (Cells.at hc77_ 0 rfl)).mono ?_; rintro _ _ ⟨rfl, rfl⟩
                  exact ⟨rfl, Ext.refl _⟩
                refine RW_d _ rfl (fun v => by dsimp only [List.set]; try rfl) (fun u hu hF => ?_) (fun v234 => ?_)
                · have h74_ : v229 = (.slice (some ⟨gr91, 0, none⟩) ((List.replicate z (-1)).length) q60) := hF.1
                  have h78_ : v233 = (Iv el4) := hF.2.1
                  clear hF
                  refine doesG_un rfl ?_
                  obtain rfl := h74_
                  obtain rfl := h78_
                  refine (does_indexOwn (b := gr91) (n := (List.replicate z (-1)).length) (i := el4) Try.underlying27 Try.sizeOf2 (ev rfl) (ev rfl) (by omega) (by omega)).mono ?_; rintro _ _ ⟨rfl, rfl⟩
                  exact ⟨rfl, Ext.refl _⟩
                refine RW_d _ rfl (fun v => by dsimp only [List.set]; try rfl) (fun u hu hF => ?_) (fun v235 => ?_)
                · have h79_ : v234 = (Pt gr91 (el4.toNat * 1)) := hF.1
                  clear hF
                  refine doesG_un rfl ?_
                  obtain rfl := h79_
                  refine (does_loadRowI (xs := q.1) (i := el4.toNat) (e := el5) (ev rfl) Try.isAgg2 (RowG.ext (RowG.ext hR216 RI.flat E226) RI.flat hu) rfl hel5).mono ?_; rintro _ _ ⟨rfl, rfl⟩
                  exact ⟨rfl, Ext.refl _⟩
                refine RW_d _ rfl (fun v => by dsimp only [List.set]; try rfl) (fun u hu hF => ?_) (fun v236 => ?_)
                · have h80_ : v235 = (Iv el5) := hF.1
                  clear hF
                  refine doesG_un rfl ?_
                  obtain rfl := h80_
                  refine (does_icmp (p := el5) (q := 0) (.inr (.inr (.inl rfl))) (ev rfl) (ev rfl)).mono ?_; rintro _ _ ⟨rfl, rfl⟩
                  exact ⟨rfl, Ext.refl _⟩
                refine RW_d _ rfl (fun v => by dsimp only [List.set]; try rfl) (fun u hu hF => ?_) (fun v237 => ?_)
                · have h81_ : v236 = (Bo (icmp .lss el5 0)) := hF.1
                  clear hF
                  refine doesG_un rfl ?_
                  obtain rfl := h81_
                  refine (does_move (u := (Bo (icmp .lss el5 0))) (ev rfl)).mono ?_; rintro _ _ ⟨rfl, rfl⟩
                  exact ⟨rfl, Ext.refl _⟩
                refine RW_d _ rfl (fun v => by dsimp only [List.set]; try rfl) (fun u hu hF => ?_) (fun v238 => ?_)
                · have h82_ : v237 = (Bo (icmp .lss el5 0)) := hF.1
                  clear hF
                  obtain rfl := h82_
                  refine doesG_g (b := (icmp .lss el5 0)) rfl (yld rfl rfl) (fun hg1 => ?_) (fun hc => ⟨fun hg1 => absurd hg1 hc, Ext.refl _⟩)
                  refine (does_fieldAddr (ev rfl) fa49_5).mono ?_; rintro _ _ ⟨rfl, rfl⟩
                  exact ⟨fun _ => rfl, Ext.refl _⟩
                refine RW_d _ rfl (fun v => by dsimp only [List.set]; try rfl) (fun u hu hF => ?_) (fun v239 => ?_)
                · have h83_ : (icmp .lss el5 0) = true → v238 = (Pt b15 7) := hF.1
                  have h82_ : v237 = (Bo (icmp .lss el5 0)) := hF.2.1
                  clear hF
                  obtain rfl := h82_
                  refine doesG_g (b := (icmp .lss el5 0)) rfl (yld rfl rfl) (fun hg1 => ?_) (fun hc => ⟨fun hg1 => absurd hg1 hc, Ext.refl _⟩)
                  obtain rfl := h83_ hg1
                  refine (does_load (u := (.slice p11 A_g.vals.length q12)) (ev rfl) Try.isAgg42 (Cells.at (Blk.cells ((((((((((((hB17.ext E24).ext E37).kl E55 (ninS (Nat.ne_of_lt (Nat.lt_of_lt_of_le n39 hN51)) nin0)).kl E103 (ninS n98 nin0)).ext E128).ext E138).wr W145 n98).kl E165 (ninS n98 (ninS (by omega) nin0))).ext E189).kl E212 (ninS n98 (ninS (by omega) nin0))).ext E226).ext hu)) 7 rfl)).mono ?_; rintro _ _ ⟨rfl, rfl⟩
                  exact ⟨fun _ => rfl, Ext.refl _⟩
                refine RW_d _ rfl (fun v => by dsimp only [List.set]; try rfl) (fun u hu hF => ?_) (fun v240 => ?_)
                · have h82_ : v237 = (Bo (icmp .lss el5 0)) := hF.1
                  clear hF
                  obtain rfl := h82_
                  refine doesG_g (b := (icmp .lss el5 0)) rfl (yld rfl rfl) (fun hg1 => ?_) (fun hc => ⟨fun hg1 => absurd hg1 hc, Ext.refl _⟩)
                  refine (does_move (u := (.slice p196 ((nb A_g el3).length) q197)) (ev rfl)).mono ?_; rintro _ _ ⟨rfl, rfl⟩
                  exact ⟨fun _ => rfl, Ext.refl _⟩
                refine RW_d _ rfl (fun v => by dsimp only [List.set]; try rfl) (fun u hu hF => ?_) (fun v241 => ?_)
                · have h82_ : v237 = (Bo (icmp .lss el5 0)) := hF.1
                  clear hF
                  obtain rfl := h82_
                  refine doesG_g (b := (icmp .lss el5 0)) rfl (yld rfl rfl) (fun hg1 => ?_) (fun hc => ⟨fun hg1 => absurd hg1 hc, Ext.refl _⟩)
                  refine (does_move (u := (Iv (q.2.2 : Int))) (ev rfl)).mono ?_; rintro _ _ ⟨rfl, rfl⟩
                  exact ⟨fun _ => rfl, Ext.refl _⟩
                refine RW_d _ rfl (fun v => by dsimp only [List.set]; try rfl) (fun u hu hF => ?_) (fun v242 => ?_)
                · have h85_ : (icmp .lss el5 0) = true → v240 = (.slice p196 ((nb A_g el3).length) q197) := hF.1
                  have h86_ : (icmp .lss el5 0) = true → v241 = (Iv (q.2.2 : Int)) := hF.2.1
                  have h82_ : v237 = (Bo (icmp .lss el5 0)) := hF.2.2.1
                  clear hF
                  obtain rfl := h82_
                  refine doesG_g (b := (icmp .lss el5 0)) rfl (yld rfl rfl) (fun hg1 => ?_) (fun hc => ⟨fun hg1 => absurd hg1 hc, Ext.refl _⟩)
                  obtain rfl := h85_ hg1
                  obtain rfl := h86_ hg1
                  refine (does_indexSl (R := RI) (i := (q.2.2 : Int)) (xs := (nb A_g el3)) (e := el4) Try.underlying27 Try.sizeOf2 (ev rfl) (ev rfl) (Sl.ext (hh191 _ (((Same.refl _ _).kl E212 (allS (.inl n195) (allS (.inl n210) all0))).ext E226)) RI.mono hu) (by first | omega | (simp only [icmp, Bool.or_eq_false_iff, Bool.not_eq_false', Bool.not_eq_true', decide_eq_true_eq, decide_eq_false_iff_not, bne_eq_false_iff_eq] at hg1; omega) | (simp only [icmp, Bool.or_eq_false_iff, Bool.not_eq_false', Bool.not_eq_true', decide_eq_true_eq, decide_eq_false_iff_not, bne_eq_false_iff_eq] at hg1 hg2; omega)) hel4).mono ?_; rintro v u' ⟨b, of, cs, hv, hc, hR, hu'⟩; subst hu'
                  exact ⟨fun _ => ⟨b, of, cs, hv, hc, hR⟩, Ext.refl _⟩
                refine RW_d _ rfl (fun v => by dsimp only [List.set]; try rfl) (fun u hu hF => ?_) (fun v243 => ?_)
                · have h87_ : (icmp .lss el5 0) = true → PtrR RI u v242 el4 := hF.1
                  have h82_ : v237 = (Bo (icmp .lss el5 0)) := hF.2.1
                  clear hF
                  obtain rfl := h82_
                  refine doesG_g (b := (icmp .lss el5 0)) rfl (yld rfl rfl) (fun hg1 => ?_) (fun hc => ⟨fun hg1 => absurd hg1 hc, Ext.refl _⟩)
                  obtain ⟨b87_, o87_, _, rfl, hc87_, rfl⟩ := h87_ hg1
                  refine (does_load (u := (Iv el4)) (ev rfl) Try.isAgg2 (Cells.at hc87_ 0 rfl)).mono ?_; rintro _ _ ⟨rfl, rfl⟩
                  exact ⟨fun _ => rfl, Ext.refl _⟩
                refine RW_d _ rfl (fun v => by dsimp only [List.set]; try rfl) (fun u hu hF => ?_) (fun v244 => ?_)
                · have h84_ : (icmp .lss el5 0) = true → v239 = (.slice p11 A_g.vals.length q12) := hF.1
                  have h88_ : (icmp .lss el5 0) = true → v243 = (Iv el4) := hF.2.1
                  have h82_ : v237 = (Bo (icmp .lss el5 0)) := hF.2.2.1
                  clear hF
                  obtain rfl := h82_
                  refine doesG_g (b := (icmp .lss el5 0)) rfl (yld rfl rfl) (fun hg1 => ?_) (fun hc => ⟨fun hg1 => absurd hg1 hc, Ext.refl _⟩)
                  obtain rfl := h84_ hg1
                  obtain rfl := h88_ hg1
                  refine (does_indexSl (R := RF) (i := el4) (xs := A_g.vals) (e := el6) Try.underlying42 Try.sizeOf39 (ev rfl) (ev rfl) (Sl.ext (Sl.ext hs13 RF.mono (Ext.gr X215 E226)) RF.mono hu) (by first | omega | (simp only [icmp, Bool.or_eq_false_iff, Bool.not_eq_false', Bool.not_eq_true', decide_eq_true_eq, decide_eq_false_iff_not, bne_eq_false_iff_eq] at hg1; omega) | (simp only [icmp, Bool.or_eq_false_iff, Bool.not_eq_false', Bool.not_eq_true', decide_eq_true_eq, decide_eq_false_iff_not, bne_eq_false_iff_eq] at hg1 hg2; omega)) hel6).mono ?_; rintro v u' ⟨b, of, cs, hv, hc, hR, hu'⟩; subst hu'
                  exact ⟨fun _ => ⟨b, of, cs, hv, hc, hR⟩, Ext.refl _⟩
                refine RW_d _ rfl (fun v => by dsimp only [List.set]; try rfl) (fun u hu hF => ?_) (fun v245 => ?_)
                · have h89_ : (icmp .lss el5 0) = true → PtrR RF u v244 el6 := hF.1
                  have h82_ : v237 = (Bo (icmp .lss el5 0)) := hF.2.1
                  clear hF
                  obtain rfl := h82_
                  refine doesG_g (b := (icmp .lss el5 0)) rfl (yld rfl rfl) (fun hg1 => ?_) (fun hc => ⟨fun hg1 => absurd hg1 hc, Ext.refl _⟩)
                  obtain ⟨b89_, o89_, _, rfl, hc89_, ⟨r89_1, rfl, h89_2⟩⟩ := h89_ hg1
                  refine (does_load (u := (Fl r89_1)) (ev rfl) Try.isAgg39 (Cells.at hc89_ 0 rfl)).mono ?_; rintro _ _ ⟨rfl, rfl⟩
                  exact ⟨fun _ => ⟨r89_1, rfl, (by simp only [h89_2])⟩, Ext.refl _⟩
                refine RW_d _ rfl (fun v => by dsimp only [List.set]; try rfl) (fun u hu hF => ?_) (fun v246 => ?_)
                · have h90_ : (icmp .lss el5 0) = true → ∃ r_1 : Nat, v245 = (Fl r_1) ∧ cf .f32 r_1 = el6 := hF.1
                  have h82_ : v237 = (Bo (icmp .lss el5 0)) := hF.2.1
                  clear hF
                  obtain rfl := h82_
                  refine doesG_g (b := (icmp .lss el5 0)) rfl (yld rfl rfl) (fun hg1 => ?_) (fun hc => ⟨fun hg1 => absurd hg1 hc, Ext.refl _⟩)
                  obtain ⟨r90_1, rfl, h90_2⟩ := h90_ hg1
                  refine (does_fcmp (.inr (.inr (.inl rfl))) (ev rfl) (ev rfl)).mono ?_; rintro _ _ ⟨rfl, rfl⟩
                  exact ⟨fun _ => (by first | rfl | (show _ = _; simp only [hβ3, h90_2]; done) | (show _ = _; simp only [hβ3, h90_2]; rfl)), Ext.refl _⟩
                refine RW_d _ rfl (fun v => by dsimp only [List.set]; try rfl) (fun u hu hF => ?_) (fun v247 => ?_)
                · have h82_ : v237 = (Bo (icmp .lss el5 0)) := hF.1
                  have h91_ : (icmp .lss el5 0) = true → v246 = (Bo β3) := hF.2.1
                  clear hF
                  refine doesG_un rfl ?_
                  skip
                  obtain rfl := h82_
                  refine (does_pick (b := (icmp .lss el5 0)) (u := v246) (v := (Bo false)) (ev rfl) (ev rfl) (ev rfl)).mono ?_; rintro _ _ ⟨rfl, rfl⟩; refine ⟨?_, Ext.refl _⟩; skip
                  cases hbb : (icmp .lss el5 0)
                  all_goals first | (show _ = _; simp only [↓reduceIte, Bool.true_and, Bool.false_and, Bool.true_or, Bool.false_or, Bool.false_eq_true]; done) | (have e_ := h91_ hbb; subst e_; show _ = _; simp only [↓reduceIte, Bool.true_and, Bool.false_and, Bool.true_or, Bool.false_or, Bool.false_eq_true]; done) | rfl | (have e_ := h91_ hbb; subst e_; rfl) | (simp [hbb] at h91_ ⊢; first | done | rfl | (subst h91_; rfl) | simp_all) | (simp [hbb] at h91_ ⊢; done)
                refine RW_fin ?_; intro w248 E249 hP250
                obtain ⟨⟨⟨⟨⟨⟨⟨⟨⟨⟨⟨⟨⟨⟨⟨⟨⟨⟨⟨-, -⟩, -⟩, -⟩, -⟩, -⟩, -⟩, -⟩, -⟩, -⟩, -⟩, -⟩, -⟩, -⟩, -⟩, -⟩, -⟩, -⟩, -⟩, q251⟩ := hP250
                have X252 := Ext.gr X228 E249
                have q251 : v247 = (Bo ((icmp .lss el5 0) && β3)) := q251
                obtain rfl := q251
                show wpList _ _ _ _ (fr [_, _, _, _, _, _, _, _, _, _, _, _, _, _, _, _, _, _, _, _, _, _, _, _, _, _, _, _, _, _, _, _, _, _, _, _, _, _, _, _, _, _, _, _, _, _, _, _, _, _, _, _, _, _, _, _, _, _, _, _, _, _, _, _, _, _, _, _, _, _, _, _, _, _, _, _, _, _, _, _, _, _, _, _, _, _, _, _, _, _, _, _, _, _, _, _, _, _, _, _, _, _, _, _, _, _, _, _, _, _, _]) _
                refine wpList_nil (hK224 _ _ ?_)
                refine wp_cond_split (t := (icmp .lss el5 0) && β3) (ev rfl) (fun c253 => ?_) (fun c253 => ?_)
                · have c253' := c253
                  (try simp only [hβ1, hβ2, hβ3] at c253')
                  (try simp only [icmp, Bool.and_eq_true, Bool.or_eq_true, Bool.and_eq_false_iff, Bool.or_eq_false_iff, Bool.not_eq_true', Bool.not_eq_false', decide_eq_true_eq, decide_eq_false_iff_not, beq_iff_eq, bne_iff_ne, beq_eq_false_iff_ne, bne_eq_false_iff_eq] at c253')
                  have hput : el5 < 0 ∧ negAt A_g el4 = true := ⟨c253'.1, by have h := c253'.2; simpa [negAt, negF, hel6] using h⟩
                  have hng2 := neg_set hel5 hput.1 hkm.1
                  refine wp_seq_k fun K254 hK254 => ?_
                  refine wp_region_lit ?_
                  refine q_is rfl rfl (does_move (u := (.slice (some ⟨gr91, 0, none⟩) ((List.replicate z (-1)).length) q60)) (ev rfl)) (by dsimp only [List.set]; try rfl) ?_
                  refine q_is rfl rfl (does_move (u := (.slice p196 ((nb A_g el3).length) q197)) (ev rfl)) (by dsimp only [List.set]; try rfl) ?_
                  refine q_is rfl rfl (does_move (u := (Iv (q.2.2 : Int))) (ev rfl)) (by dsimp only [List.set]; try rfl) ?_
                  refine seqd rfl rfl (does_indexSl (R := RI) (i := (q.2.2 : Int)) (xs := (nb A_g el3)) (e := el4) Try.underlying27 Try.sizeOf2 (ev rfl) (ev rfl) (hh191 _ ((((Same.refl _ _).kl E212 (allS (.inl n195) (allS (.inl n210) all0))).ext E226).ext E249)) (by omega) hel4) ?_; rintro _ w248 ⟨b255, o256, _, rfl, hc258, rfl, rfl⟩
                  show wpList _ _ _ _ (fr [_, _, _, _, _, _, _, _, _, _, _, _, _, _, _, _, _, _, _, _, _, _, _, _, _, _, _, _, _, _, _, _, _, _, _, _, _, _, _, _, _, _, _, _, _, _, _, _, _, _, _, _, _, _, _, _, _, _, _, _, _, _, _, _, _, _, _, _, _, _, _, _, _, _, _, _, _, _, _, _, _, _, _, _, _, _, _, _, _, _, _, _, _, _, _, _, _, _, _, _, _, _, _, _, _, _, _, _, _, _, _]) _
                  refine q_is rfl rfl (does_load (u := (Iv el4)) (ev rfl) Try.isAgg2 (Cells.at hc258 0 rfl)) (by dsimp only [List.set]; try rfl) ?_
                  refine q_is rfl rfl (does_move (u := (Iv ((numTo A_g.vals.length (negAt A_g) (nb A_g) k).2))) (ev rfl)) (by dsimp only [List.set]; try rfl) ?_
                  refine q_is rfl rfl (does_indexOwn (b := gr91) (n := (List.replicate z (-1)).length) (i := el4) Try.underlying27 Try.sizeOf2 (ev rfl) (ev rfl) (by omega) (by omega)) (by dsimp only [List.set]; try rfl) ?_
                  refine seqn rfl rfl (does_storeRowG (R := RI) (k := 1) (xs := q.1) (i := el4.toNat) (u := (Iv ((numTo A_g.vals.length (negAt A_g) (nb A_g) k).2))) (e := ((numTo A_g.vals.length (negAt A_g) (nb A_g) k).2)) (ev rfl) (ev rfl) Try.sizeOf2 rfl rfl RI.flat (RowG.ext (RowG.ext hR216 RI.flat E226) RI.flat E249) rfl (by first | assumption | omega | (simp only [numTo_len, List.length_replicate, List.length_set, List.length_set, List.length_replicate]; omega) | (simp only [numTo_len, List.length_replicate, List.length_set, List.length_set, List.length_replicate]; done)) rfl) ?_; rintro _ w261 ⟨rfl, W259, hR260⟩
                  have X262 := Below.wr X252 W259 g99
                  refine wpList_nil (hK254 _ _ ?_)
                  refine wp_region_lit ?_
                  refine q_is rfl rfl (does_move (u := (.slice p217 q.2.1.length q218)) (ev rfl)) (by dsimp only [List.set]; try rfl) ?_
                  refine q_is rfl rfl (does_move (u := (.slice p196 ((nb A_g el3).length) q197)) (ev rfl)) (by dsimp only [List.set]; try rfl) ?_
                  refine q_is rfl rfl (does_move (u := (Iv (q.2.2 : Int))) (ev rfl)) (by dsimp only [List.set]; try rfl) ?_
                  refine seqd rfl rfl (does_indexSl (R := RI) (i := (q.2.2 : Int)) (xs := (nb A_g el3)) (e := el4) Try.underlying27 Try.sizeOf2 (ev rfl) (ev rfl) (hh191 _ (((((Same.refl _ _).kl E212 (allS (.inl n195) (allS (.inl n210) all0))).ext E226).ext E249).wr W259 (.inl n195))) (by omega) hel4) ?_; rintro _ w261 ⟨b263, o264, _, rfl, hc266, rfl, rfl⟩
                  show wpList _ _ _ _ (fr [_, _, _, _, _, _, _, _, _, _, _, _, _, _, _, _, _, _, _, _, _, _, _, _, _, _, _, _, _, _, _, _, _, _, _, _, _, _, _, _, _, _, _, _, _, _, _, _, _, _, _, _, _, _, _, _, _, _, _, _, _, _, _, _, _, _, _, _, _, _, _, _, _, _, _, _, _, _, _, _, _, _, _, _, _, _, _, _, _, _, _, _, _, _, _, _, _, _, _, _, _, _, _, _, _, _, _, _, _, _, _]) _
                  refine q_is rfl rfl (does_load (u := (Iv el4)) (ev rfl) Try.isAgg2 (Cells.at hc266 0 rfl)) (by dsimp only [List.set]; try rfl) ?_
                  refine seqd rfl rfl (does_buildSlice (e := 2) (parts' := [(0, (Iv el4))]) (cells := [(Iv el4)]) (evp rfl) (fun _ => by kernel_rfl)) ?_; rintro _ w271 ⟨b267, rfl, hb268, hB269, E270⟩
                  have n272 : b15 < b267 := Nat.lt_of_lt_of_le (Blk.lt (((((((((((((hB17.ext E24).ext E37).kl E55 (ninS (Nat.ne_of_lt (Nat.lt_of_lt_of_le n39 hN51)) nin0)).kl E103 (ninS n98 nin0)).ext E128).ext E138).wr W145 n98).kl E165 (ninS n98 (ninS (by omega) nin0))).ext E189).kl E212 (ninS n98 (ninS (by omega) nin0))).ext E226).ext E249).wr W259 n98)) hb268
                  have n273 : gr91 < b267 := Nat.lt_of_lt_of_le (RowG.lt hR260) hb268
                  have n274 : b263 < b267 := Nat.lt_of_lt_of_le (cell_lt (Cells.at hc266 0 rfl)) hb268
                  have g275 : w.heap.size ≤ b267 := Nat.le_trans (Below.size X262) hb268
                  have X276 := Ext.gr X262 E270
                  show wpList _ _ _ _ (fr [_, _, _, _, _, _, _, _, _, _, _, _, _, _, _, _, _, _, _, _, _, _, _, _, _, _, _, _, _, _, _, _, _, _, _, _, _, _, _, _, _, _, _, _, _, _, _, _, _, _, _, _, _, _, _, _, _, _, _, _, _, _, _, _, _, _, _, _, _, _, _, _, _, _, _, _, _, _, _, _, _, _, _, _, _, _, _, _, _, _, _, _, _, _, _, _, _, _, _, _, _, _, _, _, _, _, _, _, _, _, _]) _
                  refine seqd rfl rfl (does_appendQ (R := RI) (k := 1) (g0 := gg200) (B := w190.heap.size) (xs := q.2.1) (x := el4) Try.underlying27 inf2 rfl (ev rfl) (ev rfl) (OwnQ.ext (OwnQ.kl (OwnQ.ext (OwnQ.ext hO214 RI.flat E226) RI.flat E249) RI.flat (KpL.of_wr W259) (allS ⟨(by omega), .inl n205⟩ all0)) RI.flat E270) RI.flat hB269 rfl rfl (by first | omega | (simp only [List.length_replicate, List.length_append, List.length_cons, List.length_nil]; omega)) (Nat.le_trans (Nat.le_trans (Nat.le_trans (Nat.le_trans (KpL.size E212) (Below.size E226)) (Below.size E249)) (Nat.le_of_eq (Eq.symm (Wr.size W259)))) (Below.size E270))) ?_; rintro y' w277 ⟨gg278, hg279, K280, hO281⟩
                  have hN282 : w127.heap.size ≤ gg278 := by rcases hg279 with h | h; exact h ▸ hN207; exact Nat.le_trans (Nat.le_trans (Nat.le_trans (Nat.le_trans (Below.size E138) (Nat.le_of_eq (Eq.symm (Wr.size W145)))) (KpL.size E165)) (Below.size E189)) h
                  have g283 : w.heap.size ≤ gg278 := Nat.le_trans (Nat.le_trans (Nat.le_trans (Nat.le_trans (Nat.le_trans (Nat.le_trans (Below.size E18) (Below.size E24)) (Below.size E37)) (KpL.size E55)) (KpL.size E103)) (Below.size E128)) hN282
                  have X284 := Below.kl X276 K280 (allS g283 all0) (Nat.le_refl _)
                  obtain ⟨p285, q286, rfl⟩ := OwnQ.shape hO281
                  have hH287 : Hang w127.heap.size w277 (fun u => Sl RI 1 u (.slice p285 ((q.2.1 ++ [el4]).length) q286) (q.2.1 ++ [el4])) := OwnQ.hang hO281 RI.flat (by decide) hN207 (Nat.le_trans (Nat.le_trans (Nat.le_trans (Below.size E138) (Nat.le_of_eq (Eq.symm (Wr.size W145)))) (KpL.size E165)) (Below.size E189))
                  show wpList _ _ _ _ (fr [_, _, _, _, _, _, _, _, _, _, _, _, _, _, _, _, _, _, _, _, _, _, _, _, _, _, _, _, _, _, _, _, _, _, _, _, _, _, _, _, _, _, _, _, _, _, _, _, _, _, _, _, _, _, _, _, _, _, _, _, _, _, _, _, _, _, _, _, _, _, _, _, _, _, _, _, _, _, _, _, _, _, _, _, _, _, _, _, _, _, _, _, _, _, _, _, _, _, _, _, _, _, _, _, _, _, _, _, _, _, _]) _
                  refine q_is rfl rfl (does_assign (u := (.slice p285 ((q.2.1 ++ [el4]).length) q286)) (ev rfl)) (by dsimp only [List.set]; try rfl) ?_
                  refine wpList_nil (hK223 _ _ ?_)
                  refine wp_region_lit ?_
                  refine q_is rfl rfl (does_move (u := (Iv (q.2.2 : Int))) (ev rfl)) (by dsimp only [List.set]; try rfl) ?_
                  refine q_is rfl rfl (does_iarith (p := (q.2.2 : Int)) (q := 1) (r := (q.2.2 : Int) + 1) (ev rfl) (ev rfl) (.inl ⟨rfl, (in_i64 (by omega) (by omega)).symm⟩)) (by dsimp only [List.set]; try rfl) ?_
                  refine q_is rfl rfl (does_assign (u := (Iv ((q.2.2 : Int) + 1))) (ev rfl)) (by dsimp only [List.set]; try rfl) ?_
                  refine wpList_nil ?_
                  have hR288 := RowG.cast (ys := ((fun (q : List Int × List Int × Nat) => q.1) ((q.1.set el4.toNat ((numTo A_g.vals.length (negAt A_g) (nb A_g) k).2)), q.2.1 ++ [el4], q.2.2 + 1))) (RowG.kl (RowG.ext hR260 RI.flat E270) RI.flat K280 (ninS (by omega) nin0)) (by (try dsimp only); try rfl)
                  have hO289 := OwnQ.cast (ys := ((fun (q : List Int × List Int × Nat) => q.2.1) ((q.1.set el4.toNat ((numTo A_g.vals.length (negAt A_g) (nb A_g) k).2)), q.2.1 ++ [el4], q.2.2 + 1))) hO281 (by (try dsimp only); try rfl)
                  refine ⟨((q.1.set el4.toNat ((numTo A_g.vals.length (negAt A_g) (nb A_g) k).2)), q.2.1 ++ [el4], q.2.2 + 1), ⟨fun t => (([(.agg #[(Fl r1), (Fl r3), (Fl r5), (Fl r7), (Iv A_g.x), (Iv A_g.y), (Iv A_g.z), (.slice p11 A_g.vals.length q12)]), (Pt b15 0), (.slice none 0 0), (Iv 0), (Bo false), (.slice (some ⟨gr91, 0, none⟩) ((List.replicate z (-1)).length) q60), (Iv (z : Int)), (Iv ((numTo A_g.vals.length (negAt A_g) (nb A_g) k).2)), (Iv (k : Int)), (.slice p285 ((q.2.1 ++ [el4]).length) q286), (Iv el3), (.slice p196 ((nb A_g el3).length) q197), (Iv ((q.2.2 : Int) + 1)), (Bo (isGrid A_g)), (Bo (!(isGrid A_g))), (.slice (some ⟨b33, 0, none⟩) 0 0), (Iv (z : Int)), (Pt b15 7), (.slice p11 A_g.vals.length q12), (Iv (A_g.vals.length : Int)), (Bo (icmp .lss (z : Int) (A_g.vals.length : Int))), (u45 21), (u45 22), (u45 23), (u45 24), (u45 25), (Iv (k : Int)), (.slice (some ⟨gr91, 0, none⟩) ((List.replicate z (-1)).length) q60), (Iv (((List.replicate z (-1)).length) : Int)), (Bo (icmp .lss (k : Int) (((List.replicate z (-1)).length) : Int))), (u101 30), (u101 31), v113, v114, v115, v116, v117, v118, v119, v120, v121, v122, v123, v124, v125, (Bo β2), (Iv (k : Int)), (.slice (some ⟨b135, 0, none⟩) 1 1), (.slice (some ⟨gr91, 0, none⟩) ((List.replicate z (-1)).length) q60), (Iv (k : Int)), (Iv ((numTo A_g.vals.length (negAt A_g) (nb A_g) k).2)), (Pt gr91 (k * 1)), (.slice p170 s.2.length q171), (Iv (s.2.length : Int)), (Bo (icmp .gtr (s.2.length : Int) 0)), (.slice p170 s.2.length q171), (.slice p170 s.2.length q171), (Iv (s.2.length : Int)), (Iv ((s.2.length : Int) - 1)), (Pt b177 o178), (Iv el3), (.slice p170 s.2.length q171), (.slice p170 s.2.length q171), (Iv (s.2.length : Int)), (Iv ((s.2.length : Int) - 1)), (.slice p185 r0.length q186), (Iv el3), (.slice p196 ((nb A_g el3).length) q197), (Iv (q.2.2 : Int)), (.slice p196 ((nb A_g el3).length) q197), (Iv (((nb A_g el3).length) : Int)), (Bo (icmp .lss (q.2.2 : Int) (((nb A_g el3).length) : Int))), (Iv (q.2.2 : Int)), (Iv ((q.2.2 : Int) + 1)), v229, v230, v231, v232, v233, v234, v235, v236, v237, v238, v239, v240, v241, v242, v243, v244, v245, v246, (Bo ((icmp .lss el5 0) && β3)), (.slice (some ⟨gr91, 0, none⟩) ((List.replicate z (-1)).length) q60), (.slice p196 ((nb A_g el3).length) q197), (Iv (q.2.2 : Int)), (Pt b255 o256), (Iv el4), (Iv ((numTo A_g.vals.length (negAt A_g) (nb A_g) k).2)), (Pt gr91 (el4.toNat * 1)), (.slice p217 q.2.1.length q218), (.slice p196 ((nb A_g el3).length) q197), (Iv (q.2.2 : Int)), (Pt b263 o264), (Iv el4), (.slice (some ⟨b267, 0, none⟩) 1 1), (.slice p285 ((q.2.1 ++ [el4]).length) q286), (u101 107), (u101 108), Ud, Ud] : List Value)[t]?).getD undef, (.slice p285 ((q.2.1 ++ [el4]).length) q286), ?_, (KpL.more (KpL.ext (KpL.more (KpL.ext (KpL.ext E212 E226) E249) (KpL.of_wr W259) (allS (.inl (by simp)) all0)) E270) K280 (allS (hg279.imp (fun h => by simp [h]) id) all0)), hR288, hO289, ?_⟩, ?_⟩
                  · first | rfl | (simp only [Int.natCast_add, Int.natCast_one]; rfl)
                  · (try dsimp only); first | exact ⟨hfd1.put (List.mem_of_getElem? hel4) hput.2 hrg4 hel5 hput.1 hkm.1, hpre.put hel4 (by omega) hkm.1, by simp only [List.length_append, List.length_cons, List.length_nil]; omega, by (try dsimp only); omega⟩ | exact ⟨hfd1, hpre.skip hel4 hnput, hng, by (try dsimp only); omega⟩
                  · (try dsimp only); omega
                have c253' := c253
                (try simp only [hβ1, hβ2, hβ3] at c253')
                (try simp only [icmp, Bool.and_eq_true, Bool.or_eq_true, Bool.and_eq_false_iff, Bool.or_eq_false_iff, Bool.not_eq_true', Bool.not_eq_false', decide_eq_true_eq, decide_eq_false_iff_not, beq_iff_eq, bne_iff_ne, beq_eq_false_iff_ne, bne_eq_false_iff_eq] at c253')
                have hnput : negAt A_g el4 = true → 0 ≤ iAt q.1 el4.toNat := fun hc => by rw [show iAt q.1 el4.toNat = el5 by simp [iAt, hel5]]; rcases c253' with h | h; omega; (have h2 : negAt A_g el4 = false := by simpa [negAt, negF, hel6] using h); rw [hc] at h2; cases h2
                refine wp_skip (hK223 _ _ ?_)
                refine wp_region_lit ?_
                refine q_is rfl rfl (does_move (u := (Iv (q.2.2 : Int))) (ev rfl)) (by dsimp only [List.set]; try rfl) ?_
                refine q_is rfl rfl (does_iarith (p := (q.2.2 : Int)) (q := 1) (r := (q.2.2 : Int) + 1) (ev rfl) (ev rfl) (.inl ⟨rfl, (in_i64 (by omega) (by omega)).symm⟩)) (by dsimp only [List.set]; try rfl) ?_
                refine q_is rfl rfl (does_assign (u := (Iv ((q.2.2 : Int) + 1))) (ev rfl)) (by dsimp only [List.set]; try rfl) ?_
                refine wpList_nil ?_
                have hR290 := RowG.cast (ys := ((fun (q : List Int × List Int × Nat) => q.1) (q.1, q.2.1, q.2.2 + 1))) (RowG.ext (RowG.ext hR216 RI.flat E226) RI.flat E249) (by (try dsimp only); try rfl)
                have hO291 := OwnQ.cast (ys := ((fun (q : List Int × List Int × Nat) => q.2.1) (q.1, q.2.1, q.2.2 + 1))) (OwnQ.same hO214 RI.flat (((Same.refl _ _).ext E226).ext E249) hN207 (Nat.le_trans (Nat.le_trans (Nat.le_trans (Below.size E138) (Nat.le_of_eq (Eq.symm (Wr.size W145)))) (KpL.size E165)) (Below.size E189))) (by (try dsimp only); try rfl)
                refine ⟨(q.1, q.2.1, q.2.2 + 1), ⟨fun t => (([(.agg #[(Fl r1), (Fl r3), (Fl r5), (Fl r7), (Iv A_g.x), (Iv A_g.y), (Iv A_g.z), (.slice p11 A_g.vals.length q12)]), (Pt b15 0), (.slice none 0 0), (Iv 0), (Bo false), (.slice (some ⟨gr91, 0, none⟩) ((List.replicate z (-1)).length) q60), (Iv (z : Int)), (Iv ((numTo A_g.vals.length (negAt A_g) (nb A_g) k).2)), (Iv (k : Int)), (.slice p217 q.2.1.length q218), (Iv el3), (.slice p196 ((nb A_g el3).length) q197), (Iv ((q.2.2 : Int) + 1)), (Bo (isGrid A_g)), (Bo (!(isGrid A_g))), (.slice (some ⟨b33, 0, none⟩) 0 0), (Iv (z : Int)), (Pt b15 7), (.slice p11 A_g.vals.length q12), (Iv (A_g.vals.length : Int)), (Bo (icmp .lss (z : Int) (A_g.vals.length : Int))), (u45 21), (u45 22), (u45 23), (u45 24), (u45 25), (Iv (k : Int)), (.slice (some ⟨gr91, 0, none⟩) ((List.replicate z (-1)).length) q60), (Iv (((List.replicate z (-1)).length) : Int)), (Bo (icmp .lss (k : Int) (((List.replicate z (-1)).length) : Int))), (u101 30), (u101 31), v113, v114, v115, v116, v117, v118, v119, v120, v121, v122, v123, v124, v125, (Bo β2), (Iv (k : Int)), (.slice (some ⟨b135, 0, none⟩) 1 1), (.slice (some ⟨gr91, 0, none⟩) ((List.replicate z (-1)).length) q60), (Iv (k : Int)), (Iv ((numTo A_g.vals.length (negAt A_g) (nb A_g) k).2)), (Pt gr91 (k * 1)), (.slice p170 s.2.length q171), (Iv (s.2.length : Int)), (Bo (icmp .gtr (s.2.length : Int) 0)), (.slice p170 s.2.length q171), (.slice p170 s.2.length q171), (Iv (s.2.length : Int)), (Iv ((s.2.length : Int) - 1)), (Pt b177 o178), (Iv el3), (.slice p170 s.2.length q171), (.slice p170 s.2.length q171), (Iv (s.2.length : Int)), (Iv ((s.2.length : Int) - 1)), (.slice p185 r0.length q186), (Iv el3), (.slice p196 ((nb A_g el3).length) q197), (Iv (q.2.2 : Int)), (.slice p196 ((nb A_g el3).length) q197), (Iv (((nb A_g el3).length) : Int)), (Bo (icmp .lss (q.2.2 : Int) (((nb A_g el3).length) : Int))), (Iv (q.2.2 : Int)), (Iv ((q.2.2 : Int) + 1)), v229, v230, v231, v232, v233, v234, v235, v236, v237, v238, v239, v240, v241, v242, v243, v244, v245, v246, (Bo ((icmp .lss el5 0) && β3)), (u199 93), (u199 94), (u199 95), (u199 96), (u199 97), (u199 98), (u199 99), (u199 100), (u199 101), (u199 102), (u199 103), (u199 104), (u199 105), (u199 106), (u101 107), (u101 108), Ud, Ud] : List Value)[t]?).getD undef, (.slice p217 q.2.1.length q218), ?_, (KpL.ext (KpL.ext E212 E226) E249), hR290, hO291, ?_⟩, ?_⟩
                · first | rfl | (simp only [Int.natCast_add, Int.natCast_one]; rfl)
                · (try dsimp only); first | exact ⟨hfd1.put (List.mem_of_getElem? hel4) hput.2 hrg4 hel5 hput.1 hkm.1, hpre.put hel4 (by omega) hkm.1, by simp only [List.length_append, List.length_cons, List.length_nil]; omega, by (try dsimp only); omega⟩ | exact ⟨hfd1, hpre.skip hel4 hnput, hng, by (try dsimp only); omega⟩
                · (try dsimp only); omega
              have c222' := c222
              (try simp only [hβ1, hβ2] at c222')
              (try simp only [icmp, Bool.and_eq_true, Bool.or_eq_true, Bool.and_eq_false_iff, Bool.or_eq_false_iff, Bool.not_eq_true', Bool.not_eq_false', decide_eq_true_eq, decide_eq_false_iff_not, beq_iff_eq, bne_iff_ne, beq_eq_false_iff_ne, bne_eq_false_iff_eq] at c222')
              refine wp_exit ?_
              have hR292 := RowG.cast (ys := ((fun (s : List Int × List Int) => s.1) (q.1, q.2.1))) hR216 (by (try dsimp only); try rfl)
              have hO293 := OwnQ.cast (ys := ((fun (s : List Int × List Int) => s.2) (q.1, q.2.1))) (OwnQ.back hO214 hg201 (Nat.le_trans (KpL.size E165) (Below.size E189))) (by (try dsimp only); try rfl)
              refine ⟨(q.1, q.2.1), ⟨fun t => (([(.agg #[(Fl r1), (Fl r3), (Fl r5), (Fl r7), (Iv A_g.x), (Iv A_g.y), (Iv A_g.z), (.slice p11 A_g.vals.length q12)]), (Pt b15 0), (.slice none 0 0), (Iv 0), (Bo false), (.slice (some ⟨gr91, 0, none⟩) ((List.replicate z (-1)).length) q60), (Iv (z : Int)), (Iv ((numTo A_g.vals.length (negAt A_g) (nb A_g) k).2)), (Iv (k : Int)), (.slice p217 q.2.1.length q218), (Iv el3), (.slice p196 ((nb A_g el3).length) q197), (Iv (q.2.2 : Int)), (Bo (isGrid A_g)), (Bo (!(isGrid A_g))), (.slice (some ⟨b33, 0, none⟩) 0 0), (Iv (z : Int)), (Pt b15 7), (.slice p11 A_g.vals.length q12), (Iv (A_g.vals.length : Int)), (Bo (icmp .lss (z : Int) (A_g.vals.length : Int))), (u45 21), (u45 22), (u45 23), (u45 24), (u45 25), (Iv (k : Int)), (.slice (some ⟨gr91, 0, none⟩) ((List.replicate z (-1)).length) q60), (Iv (((List.replicate z (-1)).length) : Int)), (Bo (icmp .lss (k : Int) (((List.replicate z (-1)).length) : Int))), (u101 30), (u101 31), v113, v114, v115, v116, v117, v118, v119, v120, v121, v122, v123, v124, v125, (Bo β2), (Iv (k : Int)), (.slice (some ⟨b135, 0, none⟩) 1 1), (.slice (some ⟨gr91, 0, none⟩) ((List.replicate z (-1)).length) q60), (Iv (k : Int)), (Iv ((numTo A_g.vals.length (negAt A_g) (nb A_g) k).2)), (Pt gr91 (k * 1)), (.slice p170 s.2.length q171), (Iv (s.2.length : Int)), (Bo (icmp .gtr (s.2.length : Int) 0)), (.slice p170 s.2.length q171), (.slice p170 s.2.length q171), (Iv (s.2.length : Int)), (Iv ((s.2.length : Int) - 1)), (Pt b177 o178), (Iv el3), (.slice p170 s.2.length q171), (.slice p170 s.2.length q171), (Iv (s.2.length : Int)), (Iv ((s.2.length : Int) - 1)), (.slice p185 r0.length q186), (Iv el3), (.slice p196 ((nb A_g el3).length) q197), (Iv (q.2.2 : Int)), (.slice p196 ((nb A_g el3).length) q197), (Iv (((nb A_g el3).length) : Int)), (Bo (icmp .lss (q.2.2 : Int) (((nb A_g el3).length) : Int))), (u199 72), (u199 73), (u199 74), (u199 75), (u199 76), (u199 77), (u199 78), (u199 79), (u199 80), (u199 81), (u199 82), (u199 83), (u199 84), (u199 85), (u199 86), (u199 87), (u199 88), (u199 89), (u199 90), (u199 91), (u199 92), (u199 93), (u199 94), (u199 95), (u199 96), (u199 97), (u199 98), (u199 99), (u199 100), (u199 101), (u199 102), (u199 103), (u199 104), (u199 105), (u199 106), (u101 107), (u101 108), Ud, Ud] : List Value)[t]?).getD undef, (.slice p217 q.2.1.length q218), ?_, (KpL.more (KpL.ext E165 E189) E212 (allS (.inl (by simp)) (allS (hg201.imp (fun h => by simp [h]) id) all0))), hR292, hO293, ?_⟩, ?_⟩
              · first | rfl | (simp only [Int.natCast_add, Int.natCast_one]; rfl)
              · (try dsimp only); exact hfd1.pop (hpre.all (by omega))
              · (try dsimp only); omega
          have c175' := c175
          (try simp only [hβ1, hβ2] at c175')
          (try simp only [icmp, Bool.and_eq_true, Bool.or_eq_true, Bool.and_eq_false_iff, Bool.or_eq_false_iff, Bool.not_eq_true', Bool.not_eq_false', decide_eq_true_eq, decide_eq_false_iff_not, beq_iff_eq, bne_iff_ne, beq_eq_false_iff_ne, bne_eq_false_iff_eq] at c175')
          have hs0 : s.2 = [] := List.eq_nil_of_length_eq_zero (by omega)
          refine wp_exit ?_
          refine hK149 _ _ ?_
          refine wp_region_lit ?_
          refine q_is rfl rfl (does_move (u := (Iv ((numTo A_g.vals.length (negAt A_g) (nb A_g) k).2))) (ev rfl)) (by dsimp only [List.set]; try rfl) ?_
          refine q_is rfl rfl (does_iarith (p := (numTo A_g.vals.length (negAt A_g) (nb A_g) k).2) (q := 1) (r := ((numTo A_g.vals.length (negAt A_g) (nb A_g) k).2) + 1) (ev rfl) (ev rfl) (.inl ⟨rfl, (in_i64 (by omega) (by omega)).symm⟩)) (by dsimp only [List.set]; try rfl) ?_
          refine q_is rfl rfl (does_assign (u := (Iv (((numTo A_g.vals.length (negAt A_g) (nb A_g) k).2) + 1))) (ev rfl)) (by dsimp only [List.set]; try rfl) ?_
          refine wpList_nil (hK110 _ _ ?_)
          refine wp_region_lit ?_
          refine q_is rfl rfl (does_move (u := (Iv (k : Int))) (ev rfl)) (by dsimp only [List.set]; try rfl) ?_
          refine q_is rfl rfl (does_iarith (p := (k : Int)) (q := 1) (r := (k : Int) + 1) (ev rfl) (ev rfl) (.inl ⟨rfl, (in_i64 (by omega) (by omega)).symm⟩)) (by dsimp only [List.set]; try rfl) ?_
          refine q_is rfl rfl (does_assign (u := (Iv ((k : Int) + 1))) (ev rfl)) (by dsimp only [List.set]; try rfl) ?_
          refine wpList_nil ?_
          have hR294 := RowG.cast (ys := ((fun (k : Nat) => (numTo A_g.vals.length (negAt A_g) (nb A_g) k).1) (k + 1))) hR169 (by (try dsimp only); first | exact (congrArg Prod.fst (numTo_skip hsk)).symm | (rw [numTo_new hn1 hnw.2]; exact Fld.finish (grG hgt) (by omega) hnw.2 hfr (hs0 ▸ hfd)))
          refine ⟨k + 1, ⟨fun t => (([(.agg #[(Fl r1), (Fl r3), (Fl r5), (Fl r7), (Iv A_g.x), (Iv A_g.y), (Iv A_g.z), (.slice p11 A_g.vals.length q12)]), (Pt b15 0), (.slice none 0 0), (Iv 0), (Bo false), (.slice (some ⟨gr91, 0, none⟩) ((List.replicate z (-1)).length) q60), (Iv (z : Int)), (Iv (((numTo A_g.vals.length (negAt A_g) (nb A_g) k).2) + 1)), (Iv ((k : Int) + 1)), (.slice p170 s.2.length q171), (u150 10), (u150 11), (u150 12), (Bo (isGrid A_g)), (Bo (!(isGrid A_g))), (.slice (some ⟨b33, 0, none⟩) 0 0), (Iv (z : Int)), (Pt b15 7), (.slice p11 A_g.vals.length q12), (Iv (A_g.vals.length : Int)), (Bo (icmp .lss (z : Int) (A_g.vals.length : Int))), (u45 21), (u45 22), (u45 23), (u45 24), (u45 25), (Iv (k : Int)), (.slice (some ⟨gr91, 0, none⟩) ((List.replicate z (-1)).length) q60), (Iv (((List.replicate z (-1)).length) : Int)), (Bo (icmp .lss (k : Int) (((List.replicate z (-1)).length) : Int))), (Iv (k : Int)), (Iv ((k : Int) + 1)), v113, v114, v115, v116, v117, v118, v119, v120, v121, v122, v123, v124, v125, (Bo β2), (Iv (k : Int)), (.slice (some ⟨b135, 0, none⟩) 1 1), (.slice (some ⟨gr91, 0, none⟩) ((List.replicate z (-1)).length) q60), (Iv (k : Int)), (Iv ((numTo A_g.vals.length (negAt A_g) (nb A_g) k).2)), (Pt gr91 (k * 1)), (.slice p170 s.2.length q171), (Iv (s.2.length : Int)), (Bo (icmp .gtr (s.2.length : Int) 0)), (u150 55), (u150 56), (u150 57), (u150 58), (u150 59), (u150 60), (u150 61), (u150 62), (u150 63), (u150 64), (u150 65), (u150 66), (u150 67), (u150 68), (u150 69), (u150 70), (u150 71), (u150 72), (u150 73), (u150 74), (u150 75), (u150 76), (u150 77), (u150 78), (u150 79), (u150 80), (u150 81), (u150 82), (u150 83), (u150 84), (u150 85), (u150 86), (u150 87), (u150 88), (u150 89), (u150 90), (u150 91), (u150 92), (u150 93), (u150 94), (u150 95), (u150 96), (u150 97), (u150 98), (u150 99), (u150 100), (u150 101), (u150 102), (u150 103), (u150 104), (u150 105), (u150 106), (Iv ((numTo A_g.vals.length (negAt A_g) (nb A_g) k).2)), (Iv (((numTo A_g.vals.length (negAt A_g) (nb A_g) k).2) + 1)), Ud, Ud] : List Value)[t]?).getD undef, ?_, (KpL.more (KpL.more (KpL.ext (KpL.ext E103 E128) E138) (KpL.of_wr W145) (allS (.inl (by simp)) all0)) E165 (allS (.inl (by simp)) (allS (.inr (Nat.le_trans (KpL.ext E103 E128).size hN161)) all0))), hR294, ?_⟩, ?_⟩
          · first | (rw [numTo_skip hsk]; rfl) | (rw [numTo_new hn1 hnw.2]; rfl)
          · omega
          · omega
      have c109' := c109
      (try simp only [icmp, Bool.and_eq_true, Bool.or_eq_true, Bool.and_eq_false_iff, Bool.or_eq_false_iff, Bool.not_eq_true', Bool.not_eq_false', decide_eq_true_eq, decide_eq_false_iff_not, beq_iff_eq, bne_iff_ne, beq_eq_false_iff_ne, bne_eq_false_iff_eq] at c109')
      refine wp_exit ?_
      refine hK88 _ _ ?_
      refine wp_seq_k fun K295 hK295 => ?_
      refine wp_region_lit ?_
      refine q_is rfl rfl (does_move (u := (.slice (some ⟨gr91, 0, none⟩) ((List.replicate z (-1)).length) q60)) (ev rfl)) (by dsimp only [List.set]; try rfl) ?_
      refine q_is rfl rfl (does_move (u := (Iv ((numTo A_g.vals.length (negAt A_g) (nb A_g) k).2))) (ev rfl)) (by dsimp only [List.set]; try rfl) ?_
      refine q_is rfl rfl (does_assign (u := (.slice (some ⟨gr91, 0, none⟩) ((List.replicate z (-1)).length) q60)) (ev rfl)) (by dsimp only [List.set]; try rfl) ?_
      refine q_is rfl rfl (does_assign (u := (Iv ((numTo A_g.vals.length (negAt A_g) (nb A_g) k).2))) (ev rfl)) (by dsimp only [List.set]; try rfl) ?_
      refine q_is rfl rfl (does_assign (u := (Bo true)) (ev rfl)) (by dsimp only [List.set]; try rfl) ?_
      refine wpList_nil (hK295 _ _ ?_)
      refine wp_ret ?_
      refine ret_val (v := (.tuple #[(.slice (some ⟨gr91, 0, none⟩) ((List.replicate z (-1)).length) q60), (Iv ((numTo A_g.vals.length (negAt A_g) (nb A_g) k).2)), (Bo true)])) (res_TTT rfl (slot rfl) (slot rfl) (slot rfl)) X105 ?_
      try simp only [h2, h4, h6, h8] at c27 c64 c109
      have x296 : ((prtG A_g).2 : Int) = ((numTo A_g.vals.length (negAt A_g) (nb A_g) k).2) := by first | exact hgf | exact hgt | (rw [prtG_f hgf]; done) | (rw [prtG_f hgf]; rfl) | (rw [prtG_t hgt]; (try simp only [Int.toNat_natCast]); done) | (rw [prtG_t hgt, show k = A_g.vals.length by omega])
      have x297 : (isGrid A_g) = true := by first | exact hgf | exact hgt | (rw [prtG_f hgf]; done) | (rw [prtG_f hgf]; rfl) | (rw [prtG_t hgt]; (try simp only [Int.toNat_natCast]); done) | (rw [prtG_t hgt, show k = A_g.vals.length by omega])
      have x298 : ((numTo A_g.vals.length (negAt A_g) (nb A_g) k).1) = ((prtG A_g).1) := by first | exact hgf | exact hgt | (rw [prtG_f hgf]; done) | (rw [prtG_f hgf]; rfl) | (rw [prtG_t hgt]; (try simp only [Int.toNat_natCast]); done) | (rw [prtG_t hgt, show k = A_g.vals.length by omega])
      exact ⟨(.slice (some ⟨gr91, 0, none⟩) ((List.replicate z (-1)).length) q60), (by first | with_reducible rfl | rw [x296, x297] | rw [x297, x296] | rfl), (Hang.castL (RowG.hang hR106 RI.flat (by first | assumption | omega | (simp only [numTo_len, List.length_replicate, List.length_set, List.length_set, List.length_replicate]; omega) | (simp only [numTo_len, List.length_replicate, List.length_set, List.length_set, List.length_replicate]; done)) g99 hcap95 (by omega) (by decide)) x298)⟩

/- laws.toVector -/
theorem c_laws_toVector (a : List Value) (A_a : V3) (w : World) (hv_a : RV3 w A_a a) : Gives Try.prog 37 #[(.agg a.toArray)] w (fun v w' => ∃ cs_1 : List Value, v = (.agg cs_1.toArray) ∧ RV3 w A_a cs_1) := by
  obtain ⟨r1, r3, r5, rfl, h2, h4, h6⟩ := hv_a
  refine enter [(.agg #[(Fl r1), (Fl r3), (Fl r5)]), Ud, Ud, Ud, Ud, Ud, Ud, Ud, Ud, Ud, Ud, Ud, Ud, Ud] Try.func37 rfl Try.ntmps37 rfl ?_
  refine wp_seq_k fun K7 hK7 => ?_
  refine wp_region_lit ?_
  refine seqd rfl rfl (does_box (u := (.agg #[(Fl r1), (Fl r3), (Fl r5)])) (ev rfl)) ?_; rintro _ w12 ⟨b8, rfl, hb9, hB10, E11⟩
  have g13 : w.heap.size ≤ b8 := Nat.le_trans (Below.size (Ext.refl w)) hb9
  change Blk _ _ [(Fl r1), (Fl r3), (Fl r5)] at hB10
  have X14 := Ext.gr (Ext.refl w) E11
  show wpList _ _ _ _ (fr [(.agg #[(Fl r1), (Fl r3), (Fl r5)]), (Pt b8 0), Ud, Ud, Ud, Ud, Ud, Ud, Ud, Ud, Ud, Ud, Ud, Ud]) _
  refine seqd rfl rfl (does_alloc z47) ?_; rintro _ w19 ⟨b15, rfl, hb16, hB17, E18⟩
  have n20 : b8 < b15 := Nat.lt_of_lt_of_le (Blk.lt hB10) hb16
  have g21 : w.heap.size ≤ b15 := Nat.le_trans (Below.size X14) hb16
  change Blk _ _ [(Fl 0), (Fl 0), (Fl 0)] at hB17
  have X22 := Ext.gr X14 E18
  show wpList _ _ _ _ (fr [(.agg #[(Fl r1), (Fl r3), (Fl r5)]), (Pt b8 0), (Pt b15 0), Ud, Ud, Ud, Ud, Ud, Ud, Ud, Ud, Ud, Ud, Ud]) _
  refine wpList_nil (hK7 _ _ ?_)
  refine wp_seq_k fun K23 hK23 => ?_
  refine wp_region_lit ?_
  refine seqd rfl rfl (does_alloc z47) ?_; rintro _ w28 ⟨b24, rfl, hb25, hB26, E27⟩
  have n29 : b8 < b24 := Nat.lt_of_lt_of_le (Blk.lt (hB10.ext E18)) hb25
  have n30 : b15 < b24 := Nat.lt_of_lt_of_le (Blk.lt hB17) hb25
  have g31 : w.heap.size ≤ b24 := Nat.le_trans (Below.size X22) hb25
  change Blk _ _ [(Fl 0), (Fl 0), (Fl 0)] at hB26
  have X32 := Ext.gr X22 E27
  show wpList _ _ _ _ (fr [(.agg #[(Fl r1), (Fl r3), (Fl r5)]), (Pt b8 0), (Pt b15 0), (Pt b24 0), Ud, Ud, Ud, Ud, Ud, Ud, Ud, Ud, Ud, Ud]) _
  refine wpList_nil (hK23 _ _ ?_)
  refine wp_seq_k fun K33 hK33 => ?_
  refine wp_region_lit ?_
  refine q_is (l' := [(.agg #[(Fl r1), (Fl r3), (Fl r5)]), (Pt b8 0), (Pt b15 0), (Pt b24 0), (Pt b8 0), Ud, Ud, Ud, Ud, Ud, Ud, Ud, Ud, Ud]) rfl rfl (does_fieldAddr (ev rfl) fa41_0) rfl ?_
  refine q_is (l' := [(.agg #[(Fl r1), (Fl r3), (Fl r5)]), (Pt b8 0), (Pt b15 0), (Pt b24 0), (Pt b8 0), (Fl r1), Ud, Ud, Ud, Ud, Ud, Ud, Ud, Ud]) rfl rfl (does_load (u := (Fl r1)) (ev rfl) Try.isAgg39 (Cells.at (Blk.cells ((hB10.ext E18).ext E27)) 0 rfl)) rfl ?_
  refine q_is (l' := [(.agg #[(Fl r1), (Fl r3), (Fl r5)]), (Pt b8 0), (Pt b15 0), (Pt b24 0), (Pt b8 0), (Fl r1), (Pt b24 0), Ud, Ud, Ud, Ud, Ud, Ud, Ud]) rfl rfl (does_fieldAddr (ev rfl) fa47_0) rfl ?_
  refine seqn rfl rfl (does_store (n := 1) (cs := [(Fl 0), (Fl 0), (Fl 0)]) (u := (Fl r1)) (ev rfl) (ev rfl) Try.sizeOf39 rfl hB26 (Nat.le_of_ble_eq_true rfl) rfl) ?_; rintro _ w36 ⟨rfl, W34, hB35⟩
  change Blk _ _ [(Fl r1), (Fl 0), (Fl 0)] at hB35
  have X37 := Below.wr X32 W34 g31
  refine wpList_nil (hK33 _ _ ?_)
  refine wp_seq_k fun K38 hK38 => ?_
  refine wp_region_lit ?_
  refine q_is (l' := [(.agg #[(Fl r1), (Fl r3), (Fl r5)]), (Pt b8 0), (Pt b15 0), (Pt b24 0), (Pt b8 0), (Fl r1), (Pt b24 0), (Pt b8 1), Ud, Ud, Ud, Ud, Ud, Ud]) rfl rfl (does_fieldAddr (ev rfl) fa41_1) rfl ?_
  refine q_is (l' := [(.agg #[(Fl r1), (Fl r3), (Fl r5)]), (Pt b8 0), (Pt b15 0), (Pt b24 0), (Pt b8 0), (Fl r1), (Pt b24 0), (Pt b8 1), (Fl r3), Ud, Ud, Ud, Ud, Ud]) rfl rfl (does_load (u := (Fl r3)) (ev rfl) Try.isAgg39 (Cells.at (Blk.cells (((hB10.ext E18).ext E27).wr W34 (Nat.ne_of_lt n29))) 1 rfl)) rfl ?_
  refine q_is (l' := [(.agg #[(Fl r1), (Fl r3), (Fl r5)]), (Pt b8 0), (Pt b15 0), (Pt b24 0), (Pt b8 0), (Fl r1), (Pt b24 0), (Pt b8 1), (Fl r3), (Pt b24 1), Ud, Ud, Ud, Ud]) rfl rfl (does_fieldAddr (ev rfl) fa47_1) rfl ?_
  refine seqn rfl rfl (does_store (n := 1) (cs := [(Fl r1), (Fl 0), (Fl 0)]) (u := (Fl r3)) (ev rfl) (ev rfl) Try.sizeOf39 rfl hB35 (Nat.le_of_ble_eq_true rfl) rfl) ?_; rintro _ w41 ⟨rfl, W39, hB40⟩
  change Blk _ _ [(Fl r1), (Fl r3), (Fl 0)] at hB40
  have X42 := Below.wr X37 W39 g31
  refine wpList_nil (hK38 _ _ ?_)
  refine wp_seq_k fun K43 hK43 => ?_
  refine wp_region_lit ?_
  refine q_is (l' := [(.agg #[(Fl r1), (Fl r3), (Fl r5)]), (Pt b8 0), (Pt b15 0), (Pt b24 0), (Pt b8 0), (Fl r1), (Pt b24 0), (Pt b8 1), (Fl r3), (Pt b24 1), (Pt b8 2), Ud, Ud, Ud]) rfl rfl (does_fieldAddr (ev rfl) fa41_2) rfl ?_
  refine q_is (l' := [(.agg #[(Fl r1), (Fl r3), (Fl r5)]), (Pt b8 0), (Pt b15 0), (Pt b24 0), (Pt b8 0), (Fl r1), (Pt b24 0), (Pt b8 1), (Fl r3), (Pt b24 1), (Pt b8 2), (Fl r5), Ud, Ud]) rfl rfl (does_load (u := (Fl r5)) (ev rfl) Try.isAgg39 (Cells.at (Blk.cells ((((hB10.ext E18).ext E27).wr W34 (Nat.ne_of_lt n29)).wr W39 (Nat.ne_of_lt n29))) 2 rfl)) rfl ?_
  refine q_is (l' := [(.agg #[(Fl r1), (Fl r3), (Fl r5)]), (Pt b8 0), (Pt b15 0), (Pt b24 0), (Pt b8 0), (Fl r1), (Pt b24 0), (Pt b8 1), (Fl r3), (Pt b24 1), (Pt b8 2), (Fl r5), (Pt b24 2), Ud]) rfl rfl (does_fieldAddr (ev rfl) fa47_2) rfl ?_
  refine seqn rfl rfl (does_store (n := 1) (cs := [(Fl r1), (Fl r3), (Fl 0)]) (u := (Fl r5)) (ev rfl) (ev rfl) Try.sizeOf39 rfl hB40 (Nat.le_of_ble_eq_true rfl) rfl) ?_; rintro _ w46 ⟨rfl, W44, hB45⟩
  change Blk _ _ [(Fl r1), (Fl r3), (Fl r5)] at hB45
  have X47 := Below.wr X42 W44 g31
  refine wpList_nil (hK43 _ _ ?_)
  refine wp_seq_k fun K48 hK48 => ?_
  refine wp_region_lit ?_
  refine q_is (l' := [(.agg #[(Fl r1), (Fl r3), (Fl r5)]), (Pt b8 0), (Pt b15 0), (Pt b24 0), (Pt b8 0), (Fl r1), (Pt b24 0), (Pt b8 1), (Fl r3), (Pt b24 1), (Pt b8 2), (Fl r5), (Pt b24 2), (.agg #[(Fl r1), (Fl r3), (Fl r5)])]) rfl rfl (does_loadAgg (cs := [(Fl r1), (Fl r3), (Fl r5)]) (ev rfl) Try.isAgg47 Try.sizeOf47 (Blk.cells hB45) rfl) rfl ?_
  refine seqn rfl rfl (does_store (n := 3) (cs := [(Fl 0), (Fl 0), (Fl 0)]) (u := (.agg #[(Fl r1), (Fl r3), (Fl r5)])) (ev rfl) (ev rfl) Try.sizeOf47 rfl ((((hB17.ext E27).wr W34 (Nat.ne_of_lt n30)).wr W39 (Nat.ne_of_lt n30)).wr W44 (Nat.ne_of_lt n30)) (Nat.le_of_ble_eq_true rfl) rfl) ?_; rintro _ w51 ⟨rfl, W49, hB50⟩
  change Blk _ _ [(Fl r1), (Fl r3), (Fl r5)] at hB50
  have X52 := Below.wr X47 W49 g21
  refine wpList_nil (hK48 _ _ ?_)
  refine wp_ret ?_
  refine ret_val (v := (.agg #[(Fl r1), (Fl r3), (Fl r5)])) (res_C rfl (slot rfl) (run_loadAgg (cs := [(Fl r1), (Fl r3), (Fl r5)]) Try.isAgg47 Try.sizeOf47 (Blk.cells hB50) rfl)) X52 ?_
  exact ⟨[(Fl r1), (Fl r3), (Fl r5)], rfl, ⟨r1, r3, r5, rfl, h2, h4, h6⟩⟩

/- laws.toFloat32S -/
theorem c_laws_toFloat32S (a : Value) (L_a : List Nat) (w : World) (hv_a : Sl RF 1 w a L_a) (hsz : L_a.length ≤ 1048576) : Gives Try.prog 38 #[a] w (fun v w' => ∃ y_1 : Value, ∃ Lw_2 : List Nat, v = y_1 ∧ Hang w.heap.size w' (fun u => Sl RF 1 u y_1 L_a) ∧ WL 1 w.heap.size w' Lw_2 y_1 L_a.length) := by
  have hlen_a := Sl.len hv_a; obtain ⟨p_a, q_a, rfl⟩ := Sl.shape hv_a
  refine enter [(.slice p_a L_a.length q_a), Ud, Ud, Ud, Ud, Ud, Ud, Ud, Ud, Ud, Ud, Ud, Ud, Ud, Ud, Ud, Ud, Ud, Ud, Ud, Ud, Ud] Try.func38 rfl Try.ntmps38 rfl ?_
  refine wp_seq_k fun K1 hK1 => ?_
  refine wp_region_lit ?_
  refine q_is (l' := [(.slice p_a L_a.length q_a), Ud, (.slice none 0 0), Ud, Ud, Ud, Ud, Ud, Ud, Ud, Ud, Ud, Ud, Ud, Ud, Ud, Ud, Ud, Ud, Ud, Ud, Ud]) rfl rfl (does_assign (u := (.slice none 0 0)) (ev rfl)) rfl ?_
  refine wpList_nil (hK1 _ _ ?_)
  refine wp_seq_k fun K2 hK2 => ?_
  refine wp_region_lit ?_
  refine q_is (l' := [(.slice p_a L_a.length q_a), Ud, (.slice none 0 0), Ud, Ud, (.slice p_a L_a.length q_a), Ud, Ud, Ud, Ud, Ud, Ud, Ud, Ud, Ud, Ud, Ud, Ud, Ud, Ud, Ud, Ud]) rfl rfl (does_move (u := (.slice p_a L_a.length q_a)) (ev rfl)) rfl ?_
  refine q_is (l' := [(.slice p_a L_a.length q_a), Ud, (.slice none 0 0), Ud, Ud, (.slice p_a L_a.length q_a), (Iv (L_a.length : Int)), Ud, Ud, Ud, Ud, Ud, Ud, Ud, Ud, Ud, Ud, Ud, Ud, Ud, Ud, Ud]) rfl rfl (does_len_slice Try.underlying42 (ev rfl)) rfl ?_
  refine seqd rfl rfl (does_makeSlice (n := L_a.length) Try.underlying42 inf39 (ev rfl) (ev rfl) (by omega)) ?_; rintro _ w7 ⟨b3, rfl, hb4, ⟨cs8, hB5, hl9, hz10⟩, E6⟩
  have g11 : w.heap.size ≤ b3 := Nat.le_trans (Below.size (Ext.refl w)) hb4
  have X12 := Ext.gr (Ext.refl w) E6
  show wpList _ _ _ _ (fr [(.slice p_a L_a.length q_a), Ud, (.slice none 0 0), Ud, Ud, (.slice p_a L_a.length q_a), (Iv (L_a.length : Int)), (.slice (some ⟨b3, 0, none⟩) L_a.length L_a.length), Ud, Ud, Ud, Ud, Ud, Ud, Ud, Ud, Ud, Ud, Ud, Ud, Ud, Ud]) _
  refine q_is (l' := [(.slice p_a L_a.length q_a), Ud, (.slice none 0 0), (.slice (some ⟨b3, 0, none⟩) L_a.length L_a.length), Ud, (.slice p_a L_a.length q_a), (Iv (L_a.length : Int)), (.slice (some ⟨b3, 0, none⟩) L_a.length L_a.length), Ud, Ud, Ud, Ud, Ud, Ud, Ud, Ud, Ud, Ud, Ud, Ud, Ud, Ud]) rfl rfl (does_assign (u := (.slice (some ⟨b3, 0, none⟩) L_a.length L_a.length)) (ev rfl)) rfl ?_
  refine wpList_nil (hK2 _ _ ?_)
  refine wp_seq_k fun K13 hK13 => ?_
  refine wp_seq_k fun K14 hK14 => ?_
  refine wp_region_lit ?_
  refine q_is (l' := [(.slice p_a L_a.length q_a), Ud, (.slice none 0 0), (.slice (some ⟨b3, 0, none⟩) L_a.length L_a.length), (Iv 0), (.slice p_a L_a.length q_a), (Iv (L_a.length : Int)), (.slice (some ⟨b3, 0, none⟩) L_a.length L_a.length), Ud, Ud, Ud, Ud, Ud, Ud, Ud, Ud, Ud, Ud, Ud, Ud, Ud, Ud]) rfl rfl (does_assign (u := (Iv 0)) (ev rfl)) rfl ?_
  refine wpList_nil (hK14 _ _ ?_)
  refine wp_block ?_
  have hF0 : Fill RF 1 w7 b3 L_a.length L_a 0 := Fill.zero hB5 hl9
  refine loop_ghost (σ := Nat) (fun k a w' => ∃ u15 : Nat → Value, a = fr [(.slice p_a L_a.length q_a), Ud, (.slice none 0 0), (.slice (some ⟨b3, 0, none⟩) L_a.length L_a.length), (Iv (k : Int)), (.slice p_a L_a.length q_a), (Iv (L_a.length : Int)), (.slice (some ⟨b3, 0, none⟩) L_a.length L_a.length), (u15 8), (u15 9), (u15 10), (u15 11), (u15 12), (u15 13), (u15 14), (u15 15), (u15 16), (u15 17), (u15 18), (u15 19), (u15 20), Ud] ∧ KpL [b3] w7 w' ∧ Fill RF 1 w' b3 L_a.length L_a k ∧ (k ≤ L_a.length)) (fun k => L_a.length - k) 0 ?_ ?_
  · refine ⟨fun t => (([(.slice p_a L_a.length q_a), Ud, (.slice none 0 0), (.slice (some ⟨b3, 0, none⟩) L_a.length L_a.length), (Iv 0), (.slice p_a L_a.length q_a), (Iv (L_a.length : Int)), (.slice (some ⟨b3, 0, none⟩) L_a.length L_a.length), Ud, Ud, Ud, Ud, Ud, Ud, Ud, Ud, Ud, Ud, Ud, Ud, Ud, Ud] : List Value)[t]?).getD undef, rfl, KpL.refl _ _, hF0, ?_⟩
    exact Nat.zero_le _
  · rintro k a w16 ⟨u15, rfl, E17, hF18, hk⟩
    have X19 := Below.kl X12 E17 (allS g11 all0) (Nat.le_refl _)
    refine wp_seq_k fun K20 hK20 => ?_
    refine wp_seq_k fun K21 hK21 => ?_
    refine wp_region_lit ?_
    refine q_is (l' := [(.slice p_a L_a.length q_a), Ud, (.slice none 0 0), (.slice (some ⟨b3, 0, none⟩) L_a.length L_a.length), (Iv (k : Int)), (.slice p_a L_a.length q_a), (Iv (L_a.length : Int)), (.slice (some ⟨b3, 0, none⟩) L_a.length L_a.length), (Iv (k : Int)), (u15 9), (u15 10), (u15 11), (u15 12), (u15 13), (u15 14), (u15 15), (u15 16), (u15 17), (u15 18), (u15 19), (u15 20), Ud]) rfl rfl (does_move (u := (Iv (k : Int))) (ev rfl)) rfl ?_
    refine q_is (l' := [(.slice p_a L_a.length q_a), Ud, (.slice none 0 0), (.slice (some ⟨b3, 0, none⟩) L_a.length L_a.length), (Iv (k : Int)), (.slice p_a L_a.length q_a), (Iv (L_a.length : Int)), (.slice (some ⟨b3, 0, none⟩) L_a.length L_a.length), (Iv (k : Int)), (.slice p_a L_a.length q_a), (u15 10), (u15 11), (u15 12), (u15 13), (u15 14), (u15 15), (u15 16), (u15 17), (u15 18), (u15 19), (u15 20), Ud]) rfl rfl (does_move (u := (.slice p_a L_a.length q_a)) (ev rfl)) rfl ?_
    refine q_is (l' := [(.slice p_a L_a.length q_a), Ud, (.slice none 0 0), (.slice (some ⟨b3, 0, none⟩) L_a.length L_a.length), (Iv (k : Int)), (.slice p_a L_a.length q_a), (Iv (L_a.length : Int)), (.slice (some ⟨b3, 0, none⟩) L_a.length L_a.length), (Iv (k : Int)), (.slice p_a L_a.length q_a), (Iv (L_a.length : Int)), (u15 11), (u15 12), (u15 13), (u15 14), (u15 15), (u15 16), (u15 17), (u15 18), (u15 19), (u15 20), Ud]) rfl rfl (does_len_slice Try.underlying42 (ev rfl)) rfl ?_
    refine q_is (l' := [(.slice p_a L_a.length q_a), Ud, (.slice none 0 0), (.slice (some ⟨b3, 0, none⟩) L_a.length L_a.length), (Iv (k : Int)), (.slice p_a L_a.length q_a), (Iv (L_a.length : Int)), (.slice (some ⟨b3, 0, none⟩) L_a.length L_a.length), (Iv (k : Int)), (.slice p_a L_a.length q_a), (Iv (L_a.length : Int)), (Bo (icmp .lss (k : Int) (L_a.length : Int))), (u15 12), (u15 13), (u15 14), (u15 15), (u15 16), (u15 17), (u15 18), (u15 19), (u15 20), Ud]) rfl rfl (does_icmp (p := (k : Int)) (q := (L_a.length : Int)) (.inr (.inr (.inl rfl))) (ev rfl) (ev rfl)) rfl ?_
    refine wpList_nil (hK21 _ _ ?_)
    refine wp_cond_split (t := icmp .lss (k : Int) (L_a.length : Int)) (ev rfl) (fun c22 => ?_) (fun c22 => ?_)
    · have c22' := c22
      (try simp only [icmp, Bool.and_eq_true, Bool.or_eq_true, Bool.and_eq_false_iff, Bool.or_eq_false_iff, Bool.not_eq_true', Bool.not_eq_false', decide_eq_true_eq, decide_eq_false_iff_not, beq_iff_eq, bne_iff_ne, beq_eq_false_iff_ne, bne_eq_false_iff_eq] at c22')
      refine wp_skip (hK20 _ _ ?_)
      refine wp_seq_k fun K23 hK23 => ?_
      refine wp_block ?_
      refine wp_region_lit ?_
      refine q_is (l' := [(.slice p_a L_a.length q_a), Ud, (.slice none 0 0), (.slice (some ⟨b3, 0, none⟩) L_a.length L_a.length), (Iv (k : Int)), (.slice p_a L_a.length q_a), (Iv (L_a.length : Int)), (.slice (some ⟨b3, 0, none⟩) L_a.length L_a.length), (Iv (k : Int)), (.slice p_a L_a.length q_a), (Iv (L_a.length : Int)), (Bo (icmp .lss (k : Int) (L_a.length : Int))), (u15 12), (u15 13), (.slice (some ⟨b3, 0, none⟩) L_a.length L_a.length), (u15 15), (u15 16), (u15 17), (u15 18), (u15 19), (u15 20), Ud]) rfl rfl (does_move (u := (.slice (some ⟨b3, 0, none⟩) L_a.length L_a.length)) (ev rfl)) rfl ?_
      refine q_is (l' := [(.slice p_a L_a.length q_a), Ud, (.slice none 0 0), (.slice (some ⟨b3, 0, none⟩) L_a.length L_a.length), (Iv (k : Int)), (.slice p_a L_a.length q_a), (Iv (L_a.length : Int)), (.slice (some ⟨b3, 0, none⟩) L_a.length L_a.length), (Iv (k : Int)), (.slice p_a L_a.length q_a), (Iv (L_a.length : Int)), (Bo (icmp .lss (k : Int) (L_a.length : Int))), (u15 12), (u15 13), (.slice (some ⟨b3, 0, none⟩) L_a.length L_a.length), (Iv (k : Int)), (u15 16), (u15 17), (u15 18), (u15 19), (u15 20), Ud]) rfl rfl (does_move (u := (Iv (k : Int))) (ev rfl)) rfl ?_
      refine q_is (l' := [(.slice p_a L_a.length q_a), Ud, (.slice none 0 0), (.slice (some ⟨b3, 0, none⟩) L_a.length L_a.length), (Iv (k : Int)), (.slice p_a L_a.length q_a), (Iv (L_a.length : Int)), (.slice (some ⟨b3, 0, none⟩) L_a.length L_a.length), (Iv (k : Int)), (.slice p_a L_a.length q_a), (Iv (L_a.length : Int)), (Bo (icmp .lss (k : Int) (L_a.length : Int))), (u15 12), (u15 13), (.slice (some ⟨b3, 0, none⟩) L_a.length L_a.length), (Iv (k : Int)), (.slice p_a L_a.length q_a), (u15 17), (u15 18), (u15 19), (u15 20), Ud]) rfl rfl (does_move (u := (.slice p_a L_a.length q_a)) (ev rfl)) rfl ?_
      refine q_is (l' := [(.slice p_a L_a.length q_a), Ud, (.slice none 0 0), (.slice (some ⟨b3, 0, none⟩) L_a.length L_a.length), (Iv (k : Int)), (.slice p_a L_a.length q_a), (Iv (L_a.length : Int)), (.slice (some ⟨b3, 0, none⟩) L_a.length L_a.length), (Iv (k : Int)), (.slice p_a L_a.length q_a), (Iv (L_a.length : Int)), (Bo (icmp .lss (k : Int) (L_a.length : Int))), (u15 12), (u15 13), (.slice (some ⟨b3, 0, none⟩) L_a.length L_a.length), (Iv (k : Int)), (.slice p_a L_a.length q_a), (Iv (k : Int)), (u15 18), (u15 19), (u15 20), Ud]) rfl rfl (does_move (u := (Iv (k : Int))) (ev rfl)) rfl ?_
      obtain ⟨el1, hel1⟩ : ∃ e, L_a[k]? = some e := ⟨_, List.getElem?_eq_getElem (by omega)⟩
      refine seqd rfl rfl (does_indexSl (R := RF) (i := (k : Int)) (xs := L_a) (e := el1) Try.underlying42 Try.sizeOf39 (ev rfl) (ev rfl) (Sl.ext hv_a RF.mono X19) (by omega) hel1) ?_; rintro _ w16 ⟨b24, o25, _, rfl, hc27, ⟨r28, rfl, h29⟩, rfl⟩
      show wpList _ _ _ _ (fr [(.slice p_a L_a.length q_a), Ud, (.slice none 0 0), (.slice (some ⟨b3, 0, none⟩) L_a.length L_a.length), (Iv (k : Int)), (.slice p_a L_a.length q_a), (Iv (L_a.length : Int)), (.slice (some ⟨b3, 0, none⟩) L_a.length L_a.length), (Iv (k : Int)), (.slice p_a L_a.length q_a), (Iv (L_a.length : Int)), (Bo (icmp .lss (k : Int) (L_a.length : Int))), (u15 12), (u15 13), (.slice (some ⟨b3, 0, none⟩) L_a.length L_a.length), (Iv (k : Int)), (.slice p_a L_a.length q_a), (Iv (k : Int)), (Pt b24 o25), (u15 19), (u15 20), Ud]) _
      refine q_is (l' := [(.slice p_a L_a.length q_a), Ud, (.slice none 0 0), (.slice (some ⟨b3, 0, none⟩) L_a.length L_a.length), (Iv (k : Int)), (.slice p_a L_a.length q_a), (Iv (L_a.length : Int)), (.slice (some ⟨b3, 0, none⟩) L_a.length L_a.length), (Iv (k : Int)), (.slice p_a L_a.length q_a), (Iv (L_a.length : Int)), (Bo (icmp .lss (k : Int) (L_a.length : Int))), (u15 12), (u15 13), (.slice (some ⟨b3, 0, none⟩) L_a.length L_a.length), (Iv (k : Int)), (.slice p_a L_a.length q_a), (Iv (k : Int)), (Pt b24 o25), (Fl r28), (u15 20), Ud]) rfl rfl (does_load (u := (Fl r28)) (ev rfl) Try.isAgg39 (Cells.at hc27 0 rfl)) rfl ?_
      refine q_is (l' := [(.slice p_a L_a.length q_a), Ud, (.slice none 0 0), (.slice (some ⟨b3, 0, none⟩) L_a.length L_a.length), (Iv (k : Int)), (.slice p_a L_a.length q_a), (Iv (L_a.length : Int)), (.slice (some ⟨b3, 0, none⟩) L_a.length L_a.length), (Iv (k : Int)), (.slice p_a L_a.length q_a), (Iv (L_a.length : Int)), (Bo (icmp .lss (k : Int) (L_a.length : Int))), (u15 12), (u15 13), (.slice (some ⟨b3, 0, none⟩) L_a.length L_a.length), (Iv (k : Int)), (.slice p_a L_a.length q_a), (Iv (k : Int)), (Pt b24 o25), (Fl r28), (Pt b3 (k * 1)), Ud]) rfl rfl (does_indexOwn (b := b3) (n := L_a.length) (i := (k : Int)) Try.underlying42 Try.sizeOf39 (ev rfl) (ev rfl) (by omega) (by omega)) rfl ?_
      refine seqn rfl rfl (does_fill (R := RF) (k := 1) (n := L_a.length) (j := k) (xs := L_a) (u := (Fl r28)) (e := el1) (ev rfl) (ev rfl) Try.sizeOf39 rfl rfl hF18 (by omega) hel1 (fun _ => ⟨_, rfl, h29⟩) (fun _ _ _ _ h => h)) ?_; rintro _ w32 ⟨rfl, W30, hF31⟩
      have X33 := Below.wr X19 W30 g11
      refine wpList_nil (hK23 _ _ ?_)
      refine wp_region_lit ?_
      refine q_is (l' := [(.slice p_a L_a.length q_a), Ud, (.slice none 0 0), (.slice (some ⟨b3, 0, none⟩) L_a.length L_a.length), (Iv (k : Int)), (.slice p_a L_a.length q_a), (Iv (L_a.length : Int)), (.slice (some ⟨b3, 0, none⟩) L_a.length L_a.length), (Iv (k : Int)), (.slice p_a L_a.length q_a), (Iv (L_a.length : Int)), (Bo (icmp .lss (k : Int) (L_a.length : Int))), (Iv (k : Int)), (u15 13), (.slice (some ⟨b3, 0, none⟩) L_a.length L_a.length), (Iv (k : Int)), (.slice p_a L_a.length q_a), (Iv (k : Int)), (Pt b24 o25), (Fl r28), (Pt b3 (k * 1)), Ud]) rfl rfl (does_move (u := (Iv (k : Int))) (ev rfl)) rfl ?_
      refine q_is (l' := [(.slice p_a L_a.length q_a), Ud, (.slice none 0 0), (.slice (some ⟨b3, 0, none⟩) L_a.length L_a.length), (Iv (k : Int)), (.slice p_a L_a.length q_a), (Iv (L_a.length : Int)), (.slice (some ⟨b3, 0, none⟩) L_a.length L_a.length), (Iv (k : Int)), (.slice p_a L_a.length q_a), (Iv (L_a.length : Int)), (Bo (icmp .lss (k : Int) (L_a.length : Int))), (Iv (k : Int)), (Iv ((k : Int) + 1)), (.slice (some ⟨b3, 0, none⟩) L_a.length L_a.length), (Iv (k : Int)), (.slice p_a L_a.length q_a), (Iv (k : Int)), (Pt b24 o25), (Fl r28), (Pt b3 (k * 1)), Ud]) rfl rfl (does_iarith (p := (k : Int)) (q := 1) (r := (k : Int) + 1) (ev rfl) (ev rfl) (.inl ⟨rfl, (in_i64 (by omega) (by omega)).symm⟩)) rfl ?_
      refine q_is (l' := [(.slice p_a L_a.length q_a), Ud, (.slice none 0 0), (.slice (some ⟨b3, 0, none⟩) L_a.length L_a.length), (Iv ((k : Int) + 1)), (.slice p_a L_a.length q_a), (Iv (L_a.length : Int)), (.slice (some ⟨b3, 0, none⟩) L_a.length L_a.length), (Iv (k : Int)), (.slice p_a L_a.length q_a), (Iv (L_a.length : Int)), (Bo (icmp .lss (k : Int) (L_a.length : Int))), (Iv (k : Int)), (Iv ((k : Int) + 1)), (.slice (some ⟨b3, 0, none⟩) L_a.length L_a.length), (Iv (k : Int)), (.slice p_a L_a.length q_a), (Iv (k : Int)), (Pt b24 o25), (Fl r28), (Pt b3 (k * 1)), Ud]) rfl rfl (does_assign (u := (Iv ((k : Int) + 1))) (ev rfl)) rfl ?_
      refine wpList_nil ?_
      refine ⟨k + 1, ⟨fun t => (([(.slice p_a L_a.length q_a), Ud, (.slice none 0 0), (.slice (some ⟨b3, 0, none⟩) L_a.length L_a.length), (Iv ((k : Int) + 1)), (.slice p_a L_a.length q_a), (Iv (L_a.length : Int)), (.slice (some ⟨b3, 0, none⟩) L_a.length L_a.length), (Iv (k : Int)), (.slice p_a L_a.length q_a), (Iv (L_a.length : Int)), (Bo (icmp .lss (k : Int) (L_a.length : Int))), (Iv (k : Int)), (Iv ((k : Int) + 1)), (.slice (some ⟨b3, 0, none⟩) L_a.length L_a.length), (Iv (k : Int)), (.slice p_a L_a.length q_a), (Iv (k : Int)), (Pt b24 o25), (Fl r28), (Pt b3 (k * 1)), Ud] : List Value)[t]?).getD undef, ?_, (KpL.more E17 (KpL.of_wr W30) (allS (.inl (by simp)) all0)), hF31, ?_⟩, ?_⟩
      · first | rfl | (simp only [Int.natCast_add, Int.natCast_one]; rfl)
      · omega
      · omega
    have c22' := c22
    (try simp only [icmp, Bool.and_eq_true, Bool.or_eq_true, Bool.and_eq_false_iff, Bool.or_eq_false_iff, Bool.not_eq_true', Bool.not_eq_false', decide_eq_true_eq, decide_eq_false_iff_not, beq_iff_eq, bne_iff_ne, beq_eq_false_iff_ne, bne_eq_false_iff_eq] at c22')
    refine wp_exit ?_
    refine hK13 _ _ ?_
    refine wp_seq_k fun K34 hK34 => ?_
    refine wp_region_lit ?_
    refine q_is (l' := [(.slice p_a L_a.length q_a), Ud, (.slice none 0 0), (.slice (some ⟨b3, 0, none⟩) L_a.length L_a.length), (Iv (k : Int)), (.slice p_a L_a.length q_a), (Iv (L_a.length : Int)), (.slice (some ⟨b3, 0, none⟩) L_a.length L_a.length), (Iv (k : Int)), (.slice p_a L_a.length q_a), (Iv (L_a.length : Int)), (Bo (icmp .lss (k : Int) (L_a.length : Int))), (u15 12), (u15 13), (u15 14), (u15 15), (u15 16), (u15 17), (u15 18), (u15 19), (u15 20), (.slice (some ⟨b3, 0, none⟩) L_a.length L_a.length)]) rfl rfl (does_move (u := (.slice (some ⟨b3, 0, none⟩) L_a.length L_a.length)) (ev rfl)) rfl ?_
    refine q_is (l' := [(.slice p_a L_a.length q_a), Ud, (.slice (some ⟨b3, 0, none⟩) L_a.length L_a.length), (.slice (some ⟨b3, 0, none⟩) L_a.length L_a.length), (Iv (k : Int)), (.slice p_a L_a.length q_a), (Iv (L_a.length : Int)), (.slice (some ⟨b3, 0, none⟩) L_a.length L_a.length), (Iv (k : Int)), (.slice p_a L_a.length q_a), (Iv (L_a.length : Int)), (Bo (icmp .lss (k : Int) (L_a.length : Int))), (u15 12), (u15 13), (u15 14), (u15 15), (u15 16), (u15 17), (u15 18), (u15 19), (u15 20), (.slice (some ⟨b3, 0, none⟩) L_a.length L_a.length)]) rfl rfl (does_assign (u := (.slice (some ⟨b3, 0, none⟩) L_a.length L_a.length)) (ev rfl)) rfl ?_
    refine wpList_nil (hK34 _ _ ?_)
    refine wp_ret ?_
    refine ret_val (v := (.slice (some ⟨b3, 0, none⟩) L_a.length L_a.length)) (res_T rfl (slot rfl)) X19 ?_
    exact ⟨(.slice (some ⟨b3, 0, none⟩) L_a.length L_a.length), [b3], rfl, (Fill.hang hF18 RF.flat g11 (by omega) rfl (by omega) (by decide)), (Fill.wl hF18 g11)⟩

/- laws.toGrid -/
theorem c_laws_toGrid (a : List Value) (A_a : GridT) (w : World) (hv_a : RGridT w A_a a) (hsz : A_a.vals.length ≤ 1048576) : Gives Try.prog 16 #[(.agg a.toArray)] w (fun v w' => ∃ cs_1 : List Value, ∃ Lw_2 : List Nat, v = (.agg cs_1.toArray) ∧ Hang w.heap.size w' (fun u => RGridT u A_a cs_1) ∧ WL 1 w.heap.size w' Lw_2 (cellN cs_1 7) A_a.vals.length) := by
  obtain ⟨r1, r3, r5, r7, y9, rfl, h2, h4, h6, h8, h10⟩ := hv_a
  have hs13 := h10; have hs13l := Sl.len h10; obtain ⟨p11, q12, rfl⟩ := Sl.shape h10
  refine enter [(.agg #[(Fl r1), (Fl r3), (Fl r5), (Fl r7), (Iv A_a.x), (Iv A_a.y), (Iv A_a.z), (.slice p11 A_a.vals.length q12)]), Ud, Ud, Ud, Ud, Ud, Ud, Ud, Ud, Ud, Ud, Ud, Ud, Ud, Ud, Ud, Ud, Ud, Ud, Ud, Ud, Ud, Ud, Ud, Ud] Try.func16 rfl Try.ntmps16 rfl ?_
  refine wp_seq_k fun K14 hK14 => ?_
  refine wp_region_lit ?_
  refine seqd rfl rfl (does_box (u := (.agg #[(Fl r1), (Fl r3), (Fl r5), (Fl r7), (Iv A_a.x), (Iv A_a.y), (Iv A_a.z), (.slice p11 A_a.vals.length q12)])) (ev rfl)) ?_; rintro _ w19 ⟨b15, rfl, hb16, hB17, E18⟩
  have g20 : w.heap.size ≤ b15 := Nat.le_trans (Below.size (Ext.refl w)) hb16
  change Blk _ _ [(Fl r1), (Fl r3), (Fl r5), (Fl r7), (Iv A_a.x), (Iv A_a.y), (Iv A_a.z), (.slice p11 A_a.vals.length q12)] at hB17
  have X21 := Ext.gr (Ext.refl w) E18
  show wpList _ _ _ _ (fr [_, _, _, _, _, _, _, _, _, _, _, _, _, _, _, _, _, _, _, _, _, _, _, _, _]) _
  refine seqd rfl rfl (does_alloc z49) ?_; rintro _ w26 ⟨b22, rfl, hb23, hB24, E25⟩
  have n27 : b15 < b22 := Nat.lt_of_lt_of_le (Blk.lt hB17) hb23
  have g28 : w.heap.size ≤ b22 := Nat.le_trans (Below.size X21) hb23
  change Blk _ _ [(Fl 0), (Fl 0), (Fl 0), (Fl 0), (Iv 0), (Iv 0), (Iv 0), (.slice none 0 0)] at hB24
  have X29 := Ext.gr X21 E25
  show wpList _ _ _ _ (fr [_, _, _, _, _, _, _, _, _, _, _, _, _, _, _, _, _, _, _, _, _, _, _, _, _]) _
  refine wpList_nil (hK14 _ _ ?_)
  refine wp_seq_k fun K30 hK30 => ?_
  refine wp_region_lit ?_
  refine seqd rfl rfl (does_alloc z49) ?_; rintro _ w35 ⟨b31, rfl, hb32, hB33, E34⟩
  have n36 : b15 < b31 := Nat.lt_of_lt_of_le (Blk.lt (hB17.ext E25)) hb32
  have n37 : b22 < b31 := Nat.lt_of_lt_of_le (Blk.lt hB24) hb32
  have g38 : w.heap.size ≤ b31 := Nat.le_trans (Below.size X29) hb32
  change Blk _ _ [(Fl 0), (Fl 0), (Fl 0), (Fl 0), (Iv 0), (Iv 0), (Iv 0), (.slice none 0 0)] at hB33
  have X39 := Ext.gr X29 E34
  show wpList _ _ _ _ (fr [_, _, _, _, _, _, _, _, _, _, _, _, _, _, _, _, _, _, _, _, _, _, _, _, _]) _
  refine wpList_nil (hK30 _ _ ?_)
  refine wp_seq_k fun K40 hK40 => ?_
  refine wp_region_lit ?_
  refine q_is rfl rfl (does_fieldAddr (ev rfl) fa44_0) (by dsimp only [List.set]; try rfl) ?_
  refine q_is rfl rfl (does_loadAgg (cs := [(Fl r1), (Fl r3), (Fl r5)]) (ev rfl) Try.isAgg41 Try.sizeOf41 (Cells.sub (Blk.cells ((hB17.ext E25).ext E34)) 0 3) rfl) (by dsimp only [List.set]; try rfl) ?_
  refine seqd rfl rfl (does_call (args := #[(.agg #[(Fl r1), (Fl r3), (Fl r5)])]) cal37 (evs rfl) (c_laws_toVector [(Fl r1), (Fl r3), (Fl r5)] A_a.low _ ⟨r1, r3, r5, rfl, h2, h4, h6⟩)) ?_; rintro _ w42 ⟨E41, ⟨_, rfl, ⟨r43, r45, r47, rfl, h44, h46, h48⟩⟩⟩
  have X49 := Ext.gr X39 E41
  show wpList _ _ _ _ (fr [_, _, _, _, _, _, _, _, _, _, _, _, _, _, _, _, _, _, _, _, _, _, _, _, _]) _
  refine q_is rfl rfl (does_fieldAddr (ev rfl) fa49_0) (by dsimp only [List.set]; try rfl) ?_
  refine seqn rfl rfl (does_store (n := 3) (cs := [(Fl 0), (Fl 0), (Fl 0), (Fl 0), (Iv 0), (Iv 0), (Iv 0), (.slice none 0 0)]) (u := (.agg #[(Fl r43), (Fl r45), (Fl r47)])) (ev rfl) (ev rfl) Try.sizeOf47 rfl (hB33.ext E41) (Nat.le_of_ble_eq_true rfl) rfl) ?_; rintro _ w52 ⟨rfl, W50, hB51⟩
  change Blk _ _ [(Fl r43), (Fl r45), (Fl r47), (Fl 0), (Iv 0), (Iv 0), (Iv 0), (.slice none 0 0)] at hB51
  have X53 := Below.wr X49 W50 g38
  refine wpList_nil (hK40 _ _ ?_)
  refine wp_seq_k fun K54 hK54 => ?_
  refine wp_region_lit ?_
  refine q_is rfl rfl (does_fieldAddr (ev rfl) fa44_1) (by dsimp only [List.set]; try rfl) ?_
  refine q_is rfl rfl (does_load (u := (Fl r7)) (ev rfl) Try.isAgg39 (Cells.at (Blk.cells ((((hB17.ext E25).ext E34).ext E41).wr W50 (Nat.ne_of_lt n36))) 3 rfl)) (by dsimp only [List.set]; try rfl) ?_
  refine q_is rfl rfl (does_fieldAddr (ev rfl) fa49_1) (by dsimp only [List.set]; try rfl) ?_
  refine seqn rfl rfl (does_store (n := 1) (cs := [(Fl r43), (Fl r45), (Fl r47), (Fl 0), (Iv 0), (Iv 0), (Iv 0), (.slice none 0 0)]) (u := (Fl r7)) (ev rfl) (ev rfl) Try.sizeOf39 rfl hB51 (Nat.le_of_ble_eq_true rfl) rfl) ?_; rintro _ w57 ⟨rfl, W55, hB56⟩
  change Blk _ _ [(Fl r43), (Fl r45), (Fl r47), (Fl r7), (Iv 0), (Iv 0), (Iv 0), (.slice none 0 0)] at hB56
  have X58 := Below.wr X53 W55 g38
  refine wpList_nil (hK54 _ _ ?_)
  refine wp_seq_k fun K59 hK59 => ?_
  refine wp_region_lit ?_
  refine q_is rfl rfl (does_fieldAddr (ev rfl) fa44_2) (by dsimp only [List.set]; try rfl) ?_
  refine q_is rfl rfl (does_load (u := (Iv A_a.x)) (ev rfl) Try.isAgg2 (Cells.at (Blk.cells (((((hB17.ext E25).ext E34).ext E41).wr W50 (Nat.ne_of_lt n36)).wr W55 (Nat.ne_of_lt n36))) 4 rfl)) (by dsimp only [List.set]; try rfl) ?_
  refine q_is rfl rfl (does_fieldAddr (ev rfl) fa49_2) (by dsimp only [List.set]; try rfl) ?_
  refine seqn rfl rfl (does_store (n := 1) (cs := [(Fl r43), (Fl r45), (Fl r47), (Fl r7), (Iv 0), (Iv 0), (Iv 0), (.slice none 0 0)]) (u := (Iv A_a.x)) (ev rfl) (ev rfl) Try.sizeOf2 rfl hB56 (Nat.le_of_ble_eq_true rfl) rfl) ?_; rintro _ w62 ⟨rfl, W60, hB61⟩
  change Blk _ _ [(Fl r43), (Fl r45), (Fl r47), (Fl r7), (Iv A_a.x), (Iv 0), (Iv 0), (.slice none 0 0)] at hB61
  have X63 := Below.wr X58 W60 g38
  refine wpList_nil (hK59 _ _ ?_)
  refine wp_seq_k fun K64 hK64 => ?_
  refine wp_region_lit ?_
  refine q_is rfl rfl (does_fieldAddr (ev rfl) fa44_3) (by dsimp only [List.set]; try rfl) ?_
  refine q_is rfl rfl (does_load (u := (Iv A_a.y)) (ev rfl) Try.isAgg2 (Cells.at (Blk.cells ((((((hB17.ext E25).ext E34).ext E41).wr W50 (Nat.ne_of_lt n36)).wr W55 (Nat.ne_of_lt n36)).wr W60 (Nat.ne_of_lt n36))) 5 rfl)) (by dsimp only [List.set]; try rfl) ?_
  refine q_is rfl rfl (does_fieldAddr (ev rfl) fa49_3) (by dsimp only [List.set]; try rfl) ?_
  refine seqn rfl rfl (does_store (n := 1) (cs := [(Fl r43), (Fl r45), (Fl r47), (Fl r7), (Iv A_a.x), (Iv 0), (Iv 0), (.slice none 0 0)]) (u := (Iv A_a.y)) (ev rfl) (ev rfl) Try.sizeOf2 rfl hB61 (Nat.le_of_ble_eq_true rfl) rfl) ?_; rintro _ w67 ⟨rfl, W65, hB66⟩
  change Blk _ _ [(Fl r43), (Fl r45), (Fl r47), (Fl r7), (Iv A_a.x), (Iv A_a.y), (Iv 0), (.slice none 0 0)] at hB66
  have X68 := Below.wr X63 W65 g38
  refine wpList_nil (hK64 _ _ ?_)
  refine wp_seq_k fun K69 hK69 => ?_
  refine wp_region_lit ?_
  refine q_is rfl rfl (does_fieldAddr (ev rfl) fa44_4) (by dsimp only [List.set]; try rfl) ?_
  refine q_is rfl rfl (does_load (u := (Iv A_a.z)) (ev rfl) Try.isAgg2 (Cells.at (Blk.cells (((((((hB17.ext E25).ext E34).ext E41).wr W50 (Nat.ne_of_lt n36)).wr W55 (Nat.ne_of_lt n36)).wr W60 (Nat.ne_of_lt n36)).wr W65 (Nat.ne_of_lt n36))) 6 rfl)) (by dsimp only [List.set]; try rfl) ?_
  refine q_is rfl rfl (does_fieldAddr (ev rfl) fa49_4) (by dsimp only [List.set]; try rfl) ?_
  refine seqn rfl rfl (does_store (n := 1) (cs := [(Fl r43), (Fl r45), (Fl r47), (Fl r7), (Iv A_a.x), (Iv A_a.y), (Iv 0), (.slice none 0 0)]) (u := (Iv A_a.z)) (ev rfl) (ev rfl) Try.sizeOf2 rfl hB66 (Nat.le_of_ble_eq_true rfl) rfl) ?_; rintro _ w72 ⟨rfl, W70, hB71⟩
  change Blk _ _ [(Fl r43), (Fl r45), (Fl r47), (Fl r7), (Iv A_a.x), (Iv A_a.y), (Iv A_a.z), (.slice none 0 0)] at hB71
  have X73 := Below.wr X68 W70 g38
  refine wpList_nil (hK69 _ _ ?_)
  refine wp_seq_k fun K74 hK74 => ?_
  refine wp_region_lit ?_
  refine q_is rfl rfl (does_fieldAddr (ev rfl) fa44_5) (by dsimp only [List.set]; try rfl) ?_
  refine q_is rfl rfl (does_load (u := (.slice p11 A_a.vals.length q12)) (ev rfl) Try.isAgg42 (Cells.at (Blk.cells ((((((((hB17.ext E25).ext E34).ext E41).wr W50 (Nat.ne_of_lt n36)).wr W55 (Nat.ne_of_lt n36)).wr W60 (Nat.ne_of_lt n36)).wr W65 (Nat.ne_of_lt n36)).wr W70 (Nat.ne_of_lt n36))) 7 rfl)) (by dsimp only [List.set]; try rfl) ?_
  refine seqd rfl rfl (does_call (args := #[(.slice p11 A_a.vals.length q12)]) cal38 (evs rfl) (c_laws_toFloat32S (.slice p11 A_a.vals.length q12) A_a.vals _ (Sl.ext hs13 RF.mono X73) (by omega))) ?_; rintro _ w76 ⟨E75, ⟨y78, Lw79, rfl, hh77, hw80⟩⟩
  have X81 := Ext.gr X73 E75
  have n82 : b15 < w72.heap.size := Blk.lt ((((((((hB17.ext E25).ext E34).ext E41).wr W50 (Nat.ne_of_lt n36)).wr W55 (Nat.ne_of_lt n36)).wr W60 (Nat.ne_of_lt n36)).wr W65 (Nat.ne_of_lt n36)).wr W70 (Nat.ne_of_lt n36))
  have n83 : b22 < w72.heap.size := Blk.lt (((((((hB24.ext E34).ext E41).wr W50 (Nat.ne_of_lt n37)).wr W55 (Nat.ne_of_lt n37)).wr W60 (Nat.ne_of_lt n37)).wr W65 (Nat.ne_of_lt n37)).wr W70 (Nat.ne_of_lt n37))
  have n84 : b31 < w72.heap.size := Blk.lt hB71
  obtain ⟨p85, q86, rfl⟩ := Sl.shape hh77.get
  have hw87 : WL 1 w72.heap.size w76 Lw79 (.slice p85 A_a.vals.length q86) A_a.vals.length := hw80
  show wpList _ _ _ _ (fr [_, _, _, _, _, _, _, _, _, _, _, _, _, _, _, _, _, _, _, _, _, _, _, _, _]) _
  refine q_is rfl rfl (does_fieldAddr (ev rfl) fa49_5) (by dsimp only [List.set]; try rfl) ?_
  refine seqn rfl rfl (does_store (n := 1) (cs := [(Fl r43), (Fl r45), (Fl r47), (Fl r7), (Iv A_a.x), (Iv A_a.y), (Iv A_a.z), (.slice none 0 0)]) (u := (.slice p85 A_a.vals.length q86)) (ev rfl) (ev rfl) Try.sizeOf42 rfl (hB71.ext E75) (Nat.le_of_ble_eq_true rfl) rfl) ?_; rintro _ w90 ⟨rfl, W88, hB89⟩
  change Blk _ _ [(Fl r43), (Fl r45), (Fl r47), (Fl r7), (Iv A_a.x), (Iv A_a.y), (Iv A_a.z), (.slice p85 A_a.vals.length q86)] at hB89
  have X91 := Below.wr X81 W88 g38
  refine wpList_nil (hK74 _ _ ?_)
  refine wp_seq_k fun K92 hK92 => ?_
  refine wp_region_lit ?_
  refine q_is rfl rfl (does_loadAgg (cs := [(Fl r43), (Fl r45), (Fl r47), (Fl r7), (Iv A_a.x), (Iv A_a.y), (Iv A_a.z), (.slice p85 A_a.vals.length q86)]) (ev rfl) Try.isAgg49 Try.sizeOf49 (Blk.cells hB89) rfl) (by dsimp only [List.set]; try rfl) ?_
  refine seqn rfl rfl (does_store (n := 8) (cs := [(Fl 0), (Fl 0), (Fl 0), (Fl 0), (Iv 0), (Iv 0), (Iv 0), (.slice none 0 0)]) (u := (.agg #[(Fl r43), (Fl r45), (Fl r47), (Fl r7), (Iv A_a.x), (Iv A_a.y), (Iv A_a.z), (.slice p85 A_a.vals.length q86)])) (ev rfl) (ev rfl) Try.sizeOf49 rfl (((((((((hB24.ext E34).ext E41).wr W50 (Nat.ne_of_lt n37)).wr W55 (Nat.ne_of_lt n37)).wr W60 (Nat.ne_of_lt n37)).wr W65 (Nat.ne_of_lt n37)).wr W70 (Nat.ne_of_lt n37)).ext E75).wr W88 (Nat.ne_of_lt n37)) (Nat.le_of_ble_eq_true rfl) rfl) ?_; rintro _ w95 ⟨rfl, W93, hB94⟩
  change Blk _ _ [(Fl r43), (Fl r45), (Fl r47), (Fl r7), (Iv A_a.x), (Iv A_a.y), (Iv A_a.z), (.slice p85 A_a.vals.length q86)] at hB94
  have X96 := Below.wr X91 W93 g28
  refine wpList_nil (hK92 _ _ ?_)
  refine wp_ret ?_
  refine ret_val (v := (.agg #[(Fl r43), (Fl r45), (Fl r47), (Fl r7), (Iv A_a.x), (Iv A_a.y), (Iv A_a.z), (.slice p85 A_a.vals.length q86)])) (res_C rfl (slot rfl) (run_loadAgg (cs := [(Fl r43), (Fl r45), (Fl r47), (Fl r7), (Iv A_a.x), (Iv A_a.y), (Iv A_a.z), (.slice p85 A_a.vals.length q86)]) Try.isAgg49 Try.sizeOf49 (Blk.cells hB94) rfl)) X96 ?_
  exact ⟨[(Fl r43), (Fl r45), (Fl r47), (Fl r7), (Iv A_a.x), (Iv A_a.y), (Iv A_a.z), (.slice p85 A_a.vals.length q86)], Lw79, rfl, fun u hu => ⟨r43, r45, r47, r7, (.slice p85 A_a.vals.length q86), rfl, h44, h46, h48, h8, ((Hang.to hh77 (((Same.refl _ _).wr W88 (.inl n84)).wr W93 (.inl n83))).le (Below.size (Below.wr (Below.wr (Below.wr (Below.wr (Below.wr (Ext.gr (Ext.gr (Ext.gr (Ext.gr (Ext.refl _) E18) E25) E34) E41) W50 g38) W55 g38) W60 g38) W65 g38) W70 g38))) u hu⟩, ((hw87.same (((Same.refl _ _).wr W88 (.inl n84)).wr W93 (.inl n83))).le (Below.size (Below.wr (Below.wr (Below.wr (Below.wr (Below.wr (Ext.gr (Ext.gr (Ext.gr (Ext.gr (Ext.refl _) E18) E25) E34) E41) W50 g38) W55 g38) W60 g38) W65 g38) W70 g38)))⟩

/- slices.Repeat[[]int64,int64] -/
theorem c_slices_Repeat_int64_int64 (xs : Value) (L_xs : List Int) (n_ : Nat) (w : World) (hv_xs : Sl RI 1 w xs L_xs) (hl : L_xs.length = 1) (hn : 0 < n_ ∧ n_ ≤ 1000000) : Gives Try.prog 52 #[xs, (Iv (n_ : Int))] w (fun v w' => ∃ y_1 : Value, ∃ Lw_2 : List Nat, v = y_1 ∧ Hang w.heap.size w' (fun u => Sl RI 1 u y_1 (List.replicate n_ (iAt L_xs 0))) ∧ WL 1 w.heap.size w' Lw_2 y_1 (List.replicate n_ (iAt L_xs 0)).length) := by
  have hlen_xs := Sl.len hv_xs; obtain ⟨p_xs, q_xs, rfl⟩ := Sl.shape hv_xs
  have hx0 : L_xs = [iAt L_xs 0] := by obtain ⟨x, hx⟩ := List.length_eq_one_iff.1 hl; rw [hx]; rfl
  refine enter [(.slice p_xs L_xs.length q_xs), (Iv (n_ : Int)), Ud, Ud, Ud, Ud, Ud, Ud, Ud, Ud, Ud, Ud, Ud, Ud, Ud, Ud, Ud, Ud, Ud, Ud, Ud, Ud, Ud, Ud, Ud, Ud, Ud, Ud, Ud, Ud, Ud, Ud, Ud, Ud, Ud, Ud, Ud, Ud, Ud, Ud, Ud, Ud, Ud, Ud, Ud, Ud, Ud, Ud] Try.func52 rfl Try.ntmps52 rfl ?_
  refine wp_seq_k fun K1 hK1 => ?_
  refine wp_region_lit ?_
  refine q_is rfl rfl (does_assign (u := (.slice none 0 0)) (ev rfl)) (by dsimp only [List.set]; try rfl) ?_
  refine wpList_nil (hK1 _ _ ?_)
  refine wp_seq_k fun K2 hK2 => ?_
  refine wp_seq_k fun K3 hK3 => ?_
  refine wp_region_lit ?_
  refine q_is rfl rfl (does_move (u := (Iv (n_ : Int))) (ev rfl)) (by dsimp only [List.set]; try rfl) ?_
  refine q_is rfl rfl (does_icmp (p := (n_ : Int)) (q := 0) (.inr (.inr (.inl rfl))) (ev rfl) (ev rfl)) (by dsimp only [List.set]; try rfl) ?_
  refine wpList_nil (hK3 _ _ ?_)
  refine wp_cond_split (t := icmp .lss (n_ : Int) 0) (ev rfl) (fun c4 => ?_) (fun c4 => ?_)
  · have c4' := c4
    (try simp only [icmp, Bool.and_eq_true, Bool.or_eq_true, Bool.and_eq_false_iff, Bool.or_eq_false_iff, Bool.not_eq_true', Bool.not_eq_false', decide_eq_true_eq, decide_eq_false_iff_not, beq_iff_eq, bne_iff_ne, beq_eq_false_iff_ne, bne_eq_false_iff_eq] at c4')
    exfalso; simp only [icmp, decide_eq_true_eq] at c4; omega
  have c4' := c4
  (try simp only [icmp, Bool.and_eq_true, Bool.or_eq_true, Bool.and_eq_false_iff, Bool.or_eq_false_iff, Bool.not_eq_true', Bool.not_eq_false', decide_eq_true_eq, decide_eq_false_iff_not, beq_iff_eq, bne_iff_ne, beq_eq_false_iff_ne, bne_eq_false_iff_eq] at c4')
  refine wp_skip (hK2 _ _ ?_)
  refine wp_seq_k fun K5 hK5 => ?_
  refine wp_region_lit ?_
  refine q_is rfl rfl (does_move (u := (.slice p_xs L_xs.length q_xs)) (ev rfl)) (by dsimp only [List.set]; try rfl) ?_
  refine q_is rfl rfl (does_len_slice Try.underlying27 (ev rfl)) (by dsimp only [List.set]; try rfl) ?_
  refine q_is rfl rfl (does_conv_ii (r := (L_xs.length : Int)) (k := .i64) (k' := .u64) (n := (L_xs.length : Int)) Try.underlying3 Try.underlying93 (ev rfl) (in_u64 (by omega) (by omega)).symm) (by dsimp only [List.set]; try rfl) ?_
  refine q_is rfl rfl (does_move (u := (Iv (n_ : Int))) (ev rfl)) (by dsimp only [List.set]; try rfl) ?_
  refine q_is rfl rfl (does_conv_ii (r := (n_ : Int)) (k := .i64) (k' := .u64) (n := (n_ : Int)) Try.underlying3 Try.underlying93 (ev rfl) (in_u64 (by omega) (by omega)).symm) (by dsimp only [List.set]; try rfl) ?_
  refine seqd rfl rfl (does_call (args := #[(.int .u64 (L_xs.length : Int)), (.int .u64 (n_ : Int))]) cal64 (evs rfl) (c_bits_Mul (L_xs.length : Int) (n_ : Int) _ (by omega) (by omega))) ?_; rintro _ w7 ⟨E6, ⟨i8, rfl, h9⟩⟩
  have X10 := Ext.gr (Ext.refl w) E6
  show wpList _ _ _ _ (fr [_, _, _, _, _, _, _, _, _, _, _, _, _, _, _, _, _, _, _, _, _, _, _, _, _, _, _, _, _, _, _, _, _, _, _, _, _, _, _, _, _, _, _, _, _, _, _, _]) _
  refine q_is rfl rfl (does_move (u := (.tuple #[(.int .u64 i8), (.int .u64 (n_ : Int))])) (ev rfl)) (by dsimp only [List.set]; try rfl) ?_
  refine q_is rfl rfl (does_extract (vs := #[(.int .u64 i8), (.int .u64 (n_ : Int))]) (u := (.int .u64 i8)) (ev rfl) rfl) (by dsimp only [List.set]; try rfl) ?_
  refine q_is rfl rfl (does_extract (vs := #[(.int .u64 i8), (.int .u64 (n_ : Int))]) (u := (.int .u64 (n_ : Int))) (ev rfl) rfl) (by dsimp only [List.set]; try rfl) ?_
  refine q_is rfl rfl (does_assign (u := (.int .u64 i8)) (ev rfl)) (by dsimp only [List.set]; try rfl) ?_
  refine q_is rfl rfl (does_assign (u := (.int .u64 (n_ : Int))) (ev rfl)) (by dsimp only [List.set]; try rfl) ?_
  refine wpList_nil (hK5 _ _ ?_)
  refine wp_seq_k fun K11 hK11 => ?_
  refine wp_seq_k fun K12 hK12 => ?_
  obtain ⟨β1, hβ1⟩ : ∃ b : Bool, b = (icmp .gtr (n_ : Int) 9223372036854775807) := ⟨_, rfl⟩
  refine region_text (
    [Fact.pure [] (fun v => v = (.int .u64 i8)),
    Fact.pure [21] (fun v => v = (Bo (icmp .gtr i8 0))),
    Fact.pure [22] (fun v => v = (Bo (icmp .gtr i8 0))),
    Fact.pure [23] (fun v => (icmp .gtr i8 0) = false → v = (.int .u64 (n_ : Int))),
    Fact.pure [24, 23] (fun v => (icmp .gtr i8 0) = false → v = (Bo β1)),
    Fact.pure [23, 25] (fun v => v = (Bo ((icmp .gtr i8 0) || β1)))]) (by simp [Fact.pure, Fact.mem]) ?_
  refine RW_d _ rfl (fun v => by dsimp only [List.set]; try rfl) (fun u hu hF => ?_) (fun v13 => ?_)
  · clear hF
    refine doesG_un rfl ?_
    refine (does_move (u := (.int .u64 i8)) (ev rfl)).mono ?_; rintro _ _ ⟨rfl, rfl⟩
    exact ⟨rfl, Ext.refl _⟩
  refine RW_d _ rfl (fun v => by dsimp only [List.set]; try rfl) (fun u hu hF => ?_) (fun v14 => ?_)
  · have h21_ : v13 = (.int .u64 i8) := hF.1
    clear hF
    refine doesG_un rfl ?_
    obtain rfl := h21_
    refine (does_icmp (p := i8) (q := 0) (.inr (.inr (.inr (.inr (.inl rfl))))) (ev rfl) (ev rfl)).mono ?_; rintro _ _ ⟨rfl, rfl⟩
    exact ⟨rfl, Ext.refl _⟩
  refine RW_d _ rfl (fun v => by dsimp only [List.set]; try rfl) (fun u hu hF => ?_) (fun v15 => ?_)
  · have h22_ : v14 = (Bo (icmp .gtr i8 0)) := hF.1
    clear hF
    refine doesG_un rfl ?_
    obtain rfl := h22_
    refine (does_move (u := (Bo (icmp .gtr i8 0))) (ev rfl)).mono ?_; rintro _ _ ⟨rfl, rfl⟩
    exact ⟨rfl, Ext.refl _⟩
  refine RW_d _ rfl (fun v => by dsimp only [List.set]; try rfl) (fun u hu hF => ?_) (fun v16 => ?_)
  · have h23_ : v15 = (Bo (icmp .gtr i8 0)) := hF.1
    clear hF
    obtain rfl := h23_
    refine doesG_g (b := (icmp .gtr i8 0)) rfl (yld rfl rfl) (fun hg1 => ?_) (fun hc => ⟨fun hg1 => absurd hg1 hc, Ext.refl _⟩)
    refine (does_move (u := (.int .u64 (n_ : Int))) (ev rfl)).mono ?_; rintro _ _ ⟨rfl, rfl⟩
    exact ⟨fun _ => rfl, Ext.refl _⟩
  refine RW_d _ rfl (fun v => by dsimp only [List.set]; try rfl) (fun u hu hF => ?_) (fun v17 => ?_)
  · have h24_ : (icmp .gtr i8 0) = false → v16 = (.int .u64 (n_ : Int)) := hF.1
    have h23_ : v15 = (Bo (icmp .gtr i8 0)) := hF.2.1
    clear hF
    obtain rfl := h23_
    refine doesG_g (b := (icmp .gtr i8 0)) rfl (yld rfl rfl) (fun hg1 => ?_) (fun hc => ⟨fun hg1 => absurd hg1 hc, Ext.refl _⟩)
    obtain rfl := h24_ hg1
    refine (does_icmp (p := (n_ : Int)) (q := 9223372036854775807) (.inr (.inr (.inr (.inr (.inl rfl))))) (ev rfl) (ev rfl)).mono ?_; rintro _ _ ⟨rfl, rfl⟩
    exact ⟨fun _ => (by first | rfl | (show _ = _; simp only [hβ1]; done) | (show _ = _; simp only [hβ1]; rfl)), Ext.refl _⟩
  refine RW_d _ rfl (fun v => by dsimp only [List.set]; try rfl) (fun u hu hF => ?_) (fun v18 => ?_)
  · have h23_ : v15 = (Bo (icmp .gtr i8 0)) := hF.1
    have h25_ : (icmp .gtr i8 0) = false → v17 = (Bo β1) := hF.2.1
    clear hF
    refine doesG_un rfl ?_
    skip
    obtain rfl := h23_
    refine (does_pick (b := (icmp .gtr i8 0)) (u := (Bo true)) (v := v17) (ev rfl) (ev rfl) (ev rfl)).mono ?_; rintro _ _ ⟨rfl, rfl⟩; refine ⟨?_, Ext.refl _⟩; skip
    cases hbb : (icmp .gtr i8 0)
    all_goals first | (show _ = _; simp only [↓reduceIte, Bool.true_and, Bool.false_and, Bool.true_or, Bool.false_or, Bool.false_eq_true]; done) | (have e_ := h25_ hbb; subst e_; show _ = _; simp only [↓reduceIte, Bool.true_and, Bool.false_and, Bool.true_or, Bool.false_or, Bool.false_eq_true]; done) | rfl | (have e_ := h25_ hbb; subst e_; rfl) | (simp [hbb] at h25_ ⊢; first | done | rfl | (subst h25_; rfl) | simp_all) | (simp [hbb] at h25_ ⊢; done)
  refine RW_fin ?_; intro w19 E20 hP21
  obtain ⟨⟨⟨⟨⟨⟨-, -⟩, -⟩, -⟩, -⟩, -⟩, q22⟩ := hP21
  have X23 := Ext.gr X10 E20
  have q22 : v18 = (Bo ((icmp .gtr i8 0) || β1)) := q22
  obtain rfl := q22
  show wpList _ _ _ _ (fr [_, _, _, _, _, _, _, _, _, _, _, _, _, _, _, _, _, _, _, _, _, _, _, _, _, _, _, _, _, _, _, _, _, _, _, _, _, _, _, _, _, _, _, _, _, _, _, _]) _
  refine wpList_nil (hK12 _ _ ?_)
  refine wp_cond_split (t := (icmp .gtr i8 0) || β1) (ev rfl) (fun c24 => ?_) (fun c24 => ?_)
  · have c24' := c24
    (try simp only [hβ1] at c24')
    (try simp only [icmp, Bool.and_eq_true, Bool.or_eq_true, Bool.and_eq_false_iff, Bool.or_eq_false_iff, Bool.not_eq_true', Bool.not_eq_false', decide_eq_true_eq, decide_eq_false_iff_not, beq_iff_eq, bne_iff_ne, beq_eq_false_iff_ne, bne_eq_false_iff_eq] at c24')
    exfalso; have h_ := c24'; omega
  have c24' := c24
  (try simp only [hβ1] at c24')
  (try simp only [icmp, Bool.and_eq_true, Bool.or_eq_true, Bool.and_eq_false_iff, Bool.or_eq_false_iff, Bool.not_eq_true', Bool.not_eq_false', decide_eq_true_eq, decide_eq_false_iff_not, beq_iff_eq, bne_iff_ne, beq_eq_false_iff_ne, bne_eq_false_iff_eq] at c24')
  refine wp_skip (hK11 _ _ ?_)
  refine wp_seq_k fun K25 hK25 => ?_
  refine wp_region_lit ?_
  refine q_is rfl rfl (does_move (u := (.int .u64 (n_ : Int))) (ev rfl)) (by dsimp only [List.set]; try rfl) ?_
  refine q_is rfl rfl (does_conv_ii (r := (n_ : Int)) (k := .u64) (k' := .i64) (n := (n_ : Int)) Try.underlying93 Try.underlying3 (ev rfl) (in_i64 (by omega) (by omega)).symm) (by dsimp only [List.set]; try rfl) ?_
  refine seqd rfl rfl (does_makeSlice (n := n_) Try.underlying27 inf2 (ev rfl) (ev rfl) (by omega)) ?_; rintro _ w30 ⟨b26, rfl, hb27, ⟨cs31, hB28, hl32, hz33⟩, E29⟩
  have g34 : w.heap.size ≤ b26 := Nat.le_trans (Below.size X23) hb27
  have X35 := Ext.gr X23 E29
  have hR36 : RowG RI 1 w30 b26 (List.replicate n_ (0 : Int)) := RowG.made (z := (.int .i64 0)) hB28 rfl rfl hz33 rfl
  show wpList _ _ _ _ (fr [_, _, _, _, _, _, _, _, _, _, _, _, _, _, _, _, _, _, _, _, _, _, _, _, _, _, _, _, _, _, _, _, _, _, _, _, _, _, _, _, _, _, _, _, _, _, _, _]) _
  refine q_is rfl rfl (does_assign (u := (.slice (some ⟨b26, 0, none⟩) n_ n_)) (ev rfl)) (by dsimp only [List.set]; try rfl) ?_
  refine wpList_nil (hK25 _ _ ?_)
  refine wp_seq_k fun K37 hK37 => ?_
  refine wp_region_lit ?_
  refine q_is rfl rfl (does_move (u := (.slice (some ⟨b26, 0, none⟩) n_ n_)) (ev rfl)) (by dsimp only [List.set]; try rfl) ?_
  refine q_is rfl rfl (does_move (u := (.slice p_xs L_xs.length q_xs)) (ev rfl)) (by dsimp only [List.set]; try rfl) ?_
  refine seqd rfl rfl (does_copyOne (b := b26) (n := n_) (z := (iAt L_xs 0)) hx0 Try.underlying27 (let ⟨i_, h1_, _, h3_, _⟩ := inf2; by rw [h1_, Option.map_some, h3_]) (ev rfl) (ev rfl) (Sl.ext hv_xs RI.mono X35) hR36 (by omega)) ?_; rintro _ w38 ⟨rfl, K39, hR40⟩
  have X41 := Below.kl X35 K39 (allS g34 all0) (Nat.le_refl _)
  show wpList _ _ _ _ (fr [_, _, _, _, _, _, _, _, _, _, _, _, _, _, _, _, _, _, _, _, _, _, _, _, _, _, _, _, _, _, _, _, _, _, _, _, _, _, _, _, _, _, _, _, _, _, _, _]) _
  refine q_is rfl rfl (does_assign (u := (Iv 1)) (ev rfl)) (by dsimp only [List.set]; try rfl) ?_
  refine wpList_nil (hK37 _ _ ?_)
  refine wp_seq_k fun K42 hK42 => ?_
  refine wp_block ?_
  refine loop_ghost (σ := Nat) (fun k a w' => ∃ u43 : Nat → Value, a = fr [(.slice p_xs L_xs.length q_xs), (Iv (n_ : Int)), Ud, Ud, (.slice none 0 0), (.int .u64 i8), (.int .u64 (n_ : Int)), (.slice (some ⟨b26, 0, none⟩) n_ n_), (Iv (k : Int)), (Iv (n_ : Int)), (Bo (icmp .lss (n_ : Int) 0)), Ud, (.tuple #[(.int .u64 i8), (.int .u64 (n_ : Int))]), (.slice p_xs L_xs.length q_xs), (Iv (L_xs.length : Int)), (.int .u64 (L_xs.length : Int)), (Iv (n_ : Int)), (.int .u64 (n_ : Int)), (.tuple #[(.int .u64 i8), (.int .u64 (n_ : Int))]), (.int .u64 i8), (.int .u64 (n_ : Int)), v13, v14, v15, v16, v17, (Bo ((icmp .gtr i8 0) || β1)), Ud, (.int .u64 (n_ : Int)), (Iv (n_ : Int)), (.slice (some ⟨b26, 0, none⟩) n_ n_), (.slice (some ⟨b26, 0, none⟩) n_ n_), (.slice p_xs L_xs.length q_xs), (Iv 1), (u43 34), (u43 35), (u43 36), (u43 37), (u43 38), (u43 39), (u43 40), (u43 41), (u43 42), (u43 43), (u43 44), (u43 45), (u43 46), Ud] ∧ KpL [b26] w38 w' ∧ RowG RI 1 w' b26 (repTo n_ k (iAt L_xs 0)) ∧ (1 ≤ k ∧ k ≤ n_)) (fun k => n_ - k) 1 ?_ ?_
  · refine ⟨fun t => (([(.slice p_xs L_xs.length q_xs), (Iv (n_ : Int)), Ud, Ud, (.slice none 0 0), (.int .u64 i8), (.int .u64 (n_ : Int)), (.slice (some ⟨b26, 0, none⟩) n_ n_), (Iv 1), (Iv (n_ : Int)), (Bo (icmp .lss (n_ : Int) 0)), Ud, (.tuple #[(.int .u64 i8), (.int .u64 (n_ : Int))]), (.slice p_xs L_xs.length q_xs), (Iv (L_xs.length : Int)), (.int .u64 (L_xs.length : Int)), (Iv (n_ : Int)), (.int .u64 (n_ : Int)), (.tuple #[(.int .u64 i8), (.int .u64 (n_ : Int))]), (.int .u64 i8), (.int .u64 (n_ : Int)), v13, v14, v15, v16, v17, (Bo ((icmp .gtr i8 0) || β1)), Ud, (.int .u64 (n_ : Int)), (Iv (n_ : Int)), (.slice (some ⟨b26, 0, none⟩) n_ n_), (.slice (some ⟨b26, 0, none⟩) n_ n_), (.slice p_xs L_xs.length q_xs), (Iv 1), Ud, Ud, Ud, Ud, Ud, Ud, Ud, Ud, Ud, Ud, Ud, Ud, Ud, Ud] : List Value)[t]?).getD undef, rfl, KpL.refl _ _, (RowG.cast hR40 (by (try dsimp only); try rfl)), ?_⟩
    exact ⟨Nat.le_refl _, by omega⟩
  · rintro k a w44 ⟨u43, rfl, E45, hRg0, ⟨hk1, hk⟩⟩
    have X47 := Below.kl X41 E45 (allS g34 all0) (Nat.le_refl _)
    have hR48 := hRg0; clear hRg0
    have hrl := repTo_len (x := iAt L_xs 0) hk
    refine wp_seq_k fun K49 hK49 => ?_
    refine wp_seq_k fun K50 hK50 => ?_
    refine wp_region_lit ?_
    refine q_is rfl rfl (does_move (u := (Iv (k : Int))) (ev rfl)) (by dsimp only [List.set]; try rfl) ?_
    refine q_is rfl rfl (does_move (u := (.slice (some ⟨b26, 0, none⟩) n_ n_)) (ev rfl)) (by dsimp only [List.set]; try rfl) ?_
    refine q_is rfl rfl (does_len_slice Try.underlying27 (ev rfl)) (by dsimp only [List.set]; try rfl) ?_
    refine q_is rfl rfl (does_icmp (p := (k : Int)) (q := (n_ : Int)) (.inr (.inr (.inl rfl))) (ev rfl) (ev rfl)) (by dsimp only [List.set]; try rfl) ?_
    refine wpList_nil (hK50 _ _ ?_)
    refine wp_cond_split (t := icmp .lss (k : Int) (n_ : Int)) (ev rfl) (fun c51 => ?_) (fun c51 => ?_)
    · have c51' := c51
      (try simp only [hβ1] at c51')
      (try simp only [icmp, Bool.and_eq_true, Bool.or_eq_true, Bool.and_eq_false_iff, Bool.or_eq_false_iff, Bool.not_eq_true', Bool.not_eq_false', decide_eq_true_eq, decide_eq_false_iff_not, beq_iff_eq, bne_iff_ne, beq_eq_false_iff_ne, bne_eq_false_iff_eq] at c51')
      refine wp_skip (hK49 _ _ ?_)
      refine wp_block ?_
      have n55 : b26 < w44.heap.size := RowG.lt hR48
      refine region_any2 [b26] [0, 0, 0, 6, 0, 0, 48, 126, 255, 511] [0] (
        [FactW.pure [] [0] [0] true (fun v => v = (Iv (k : Int))),
          FactW.pure [] [] [0] true (fun v => v = (.slice (some ⟨b26, 0, none⟩) n_ n_)),
          FactW.pure [] [] [0] true (fun v => v = (Iv (k : Int))),
          FactW.pure [1, 2] [] [0] true (fun v => v = (.slice (some ⟨b26, k, none⟩) (n_ - k) (n_ - k))),
          FactW.pure [] [] [0] true (fun v => v = (.slice (some ⟨b26, 0, none⟩) n_ n_)),
          FactW.pure [] [] [0] true (fun v => v = (Iv (k : Int))),
          FactW.pure [4, 5] [] [0] true (fun v => v = (.slice (some ⟨b26, 0, none⟩) k n_)),
          FactW.mem [3, 6] [] [0] [] true (fun v w' => v = (Iv ((min k (n_ - k) : Nat) : Int)) ∧ RowG RI 1 w' b26 (repTo n_ (k + min k (n_ - k)) (iAt L_xs 0))) (by rintro v w1 w2 hx ⟨hv, h⟩; exact ⟨hv, RowG.kl h RI.flat hx nin0⟩)]) mixed (by kernel_rfl) ?_
      obtain ⟨w52, hw54⟩ : ∃ w', w' = World.drew w44 := ⟨_, rfl⟩; rw [← hw54]; have E53 : Ext w44 w52 := by rw [hw54]; exact Ext.draw _
      clear hw54
      have X56 := Ext.gr X47 E53
      refine RW2_d _ rfl (fun v => by dsimp only [List.set]; try rfl) (fun u hu hF => ?_) (fun v57 => ?_)
      · replace hu : KpL [b26] _ _ := hu
        clear hF
        refine doesG_un rfl ?_
        refine (does_move (u := (Iv (k : Int))) (ev rfl)).mono ?_; rintro _ _ ⟨rfl, rfl⟩
        exact ⟨rfl, KpL.refl _ _⟩
      refine RW2_d _ rfl (fun v => by dsimp only [List.set]; try rfl) (fun u hu hF => ?_) (fun v58 => ?_)
      · replace hu : KpL [] _ _ := hu
        clear hF
        refine doesG_un rfl ?_
        refine (does_move (u := (.slice (some ⟨b26, 0, none⟩) n_ n_)) (ev rfl)).mono ?_; rintro _ _ ⟨rfl, rfl⟩
        exact ⟨rfl, KpL.refl _ _⟩
      refine RW2_d _ rfl (fun v => by dsimp only [List.set]; try rfl) (fun u hu hF => ?_) (fun v59 => ?_)
      · replace hu : KpL [] _ _ := hu
        clear hF
        refine doesG_un rfl ?_
        refine (does_move (u := (Iv (k : Int))) (ev rfl)).mono ?_; rintro _ _ ⟨rfl, rfl⟩
        exact ⟨rfl, KpL.refl _ _⟩
      refine RW2_d _ rfl (fun v => by dsimp only [List.set]; try rfl) (fun u hu hF => ?_) (fun v60 => ?_)
      · replace hu : KpL [] _ _ := hu
        have h39_ : v58 = (.slice (some ⟨b26, 0, none⟩) n_ n_) := hF.1
        have h40_ : v59 = (Iv (k : Int)) := hF.2.1
        clear hF
        refine doesG_un rfl ?_
        obtain rfl := h39_
        obtain rfl := h40_
        refine (does_sliceLo (b := b26) (n := n_) (c := n_) (j := (k : Int)) Try.underlying27 Try.sizeOf2 (ev rfl) (ev rfl) (by omega) (by omega) (by omega)).mono ?_; rintro _ _ ⟨rfl, rfl⟩
        exact ⟨rfl, KpL.refl _ _⟩
      refine RW2_d _ rfl (fun v => by dsimp only [List.set]; try rfl) (fun u hu hF => ?_) (fun v61 => ?_)
      · replace hu : KpL [] _ _ := hu
        clear hF
        refine doesG_un rfl ?_
        refine (does_move (u := (.slice (some ⟨b26, 0, none⟩) n_ n_)) (ev rfl)).mono ?_; rintro _ _ ⟨rfl, rfl⟩
        exact ⟨rfl, KpL.refl _ _⟩
      refine RW2_d _ rfl (fun v => by dsimp only [List.set]; try rfl) (fun u hu hF => ?_) (fun v62 => ?_)
      · replace hu : KpL [] _ _ := hu
        clear hF
        refine doesG_un rfl ?_
        refine (does_move (u := (Iv (k : Int))) (ev rfl)).mono ?_; rintro _ _ ⟨rfl, rfl⟩
        exact ⟨rfl, KpL.refl _ _⟩
      refine RW2_d _ rfl (fun v => by dsimp only [List.set]; try rfl) (fun u hu hF => ?_) (fun v63 => ?_)
      · replace hu : KpL [] _ _ := hu
        have h42_ : v61 = (.slice (some ⟨b26, 0, none⟩) n_ n_) := hF.1
        have h43_ : v62 = (Iv (k : Int)) := hF.2.1
        clear hF
        refine doesG_un rfl ?_
        obtain rfl := h42_
        obtain rfl := h43_
        refine (does_sliceHi (b := b26) (n := n_) (c := n_) (j := (k : Int)) Try.underlying27 Try.sizeOf2 (ev rfl) (ev rfl) (by omega) (by omega) (by omega)).mono ?_; rintro _ _ ⟨rfl, rfl⟩
        exact ⟨rfl, KpL.refl _ _⟩
      refine RW2_d _ rfl (fun v => by dsimp only [List.set]; try rfl) (fun u hu hF => ?_) (fun v64 => ?_)
      · replace hu : KpL [] _ _ := hu
        have h41_ : v60 = (.slice (some ⟨b26, k, none⟩) (n_ - k) (n_ - k)) := hF.1
        have h44_ : v63 = (.slice (some ⟨b26, 0, none⟩) k n_) := hF.2.1
        clear hF
        refine doesG_un rfl ?_
        obtain rfl := h41_
        obtain rfl := h44_
        refine (does_copySelf (b := b26) (n := n_) (j := k) (z := (iAt L_xs 0)) Try.underlying27 (let ⟨i_, h1_, _, h3_, _⟩ := inf2; by rw [h1_, Option.map_some, h3_]) (ev rfl) (ev rfl) (RowG.ext (RowG.ext hR48 RI.flat E53) RI.flat (KpL.toExt hu)) (by omega)).mono ?_; rintro _ _ ⟨rfl, hK, hR⟩; exact ⟨⟨rfl, hR⟩, hK⟩
      refine RW2_fin ?_; intro w65 E66 hP67; replace E66 : KpL [b26] _ _ := E66
      obtain ⟨⟨⟨⟨⟨⟨⟨⟨-, q68⟩, -⟩, -⟩, -⟩, -⟩, -⟩, -⟩, q69⟩ := hP67
      have X70 := Below.kl X56 E66 (allS g34 all0) (Nat.le_refl _)
      have hB71 := (q69 rfl).2
      have q68 : v57 = (Iv (k : Int)) := q68 rfl
      obtain rfl := q68
      have hv72 : v64 = (Iv ((min k (n_ - k) : Nat) : Int)) := (q69 rfl).1; subst hv72
      show wpList _ _ _ _ (fr [_, _, _, _, _, _, _, _, _, _, _, _, _, _, _, _, _, _, _, _, _, _, _, _, _, _, _, _, _, _, _, _, _, _, _, _, _, _, _, _, _, _, _, _, _, _, _, _]) _
      refine q_is rfl rfl (does_iarith (p := (k : Int)) (q := ((min k (n_ - k) : Nat) : Int)) (r := (k : Int) + ((min k (n_ - k) : Nat) : Int)) (ev rfl) (ev rfl) (.inl ⟨rfl, (in_i64 (by omega) (by omega)).symm⟩)) (by dsimp only [List.set]; try rfl) ?_
      refine q_is rfl rfl (does_assign (u := (Iv ((k : Int) + ((min k (n_ - k) : Nat) : Int)))) (ev rfl)) (by dsimp only [List.set]; try rfl) ?_
      refine wpList_nil ?_
      have hR73 := RowG.cast (ys := ((fun (k : Nat) => repTo n_ k (iAt L_xs 0)) (k + min k (n_ - k)))) hB71 (by (try dsimp only); try rfl)
      refine ⟨k + min k (n_ - k), ⟨fun t => (([(.slice p_xs L_xs.length q_xs), (Iv (n_ : Int)), Ud, Ud, (.slice none 0 0), (.int .u64 i8), (.int .u64 (n_ : Int)), (.slice (some ⟨b26, 0, none⟩) n_ n_), (Iv ((k : Int) + ((min k (n_ - k) : Nat) : Int))), (Iv (n_ : Int)), (Bo (icmp .lss (n_ : Int) 0)), Ud, (.tuple #[(.int .u64 i8), (.int .u64 (n_ : Int))]), (.slice p_xs L_xs.length q_xs), (Iv (L_xs.length : Int)), (.int .u64 (L_xs.length : Int)), (Iv (n_ : Int)), (.int .u64 (n_ : Int)), (.tuple #[(.int .u64 i8), (.int .u64 (n_ : Int))]), (.int .u64 i8), (.int .u64 (n_ : Int)), v13, v14, v15, v16, v17, (Bo ((icmp .gtr i8 0) || β1)), Ud, (.int .u64 (n_ : Int)), (Iv (n_ : Int)), (.slice (some ⟨b26, 0, none⟩) n_ n_), (.slice (some ⟨b26, 0, none⟩) n_ n_), (.slice p_xs L_xs.length q_xs), (Iv 1), (Iv (k : Int)), (.slice (some ⟨b26, 0, none⟩) n_ n_), (Iv (n_ : Int)), (Bo (icmp .lss (k : Int) (n_ : Int))), (Iv (k : Int)), v58, v59, v60, v61, v62, v63, (Iv ((min k (n_ - k) : Nat) : Int)), (Iv ((k : Int) + ((min k (n_ - k) : Nat) : Int))), Ud] : List Value)[t]?).getD undef, ?_, (KpL.more (KpL.ext E45 E53) E66 (allS (.inl (by simp)) all0)), hR73, ?_⟩, ?_⟩
      · first | rfl | (simp only [Int.natCast_add, Int.natCast_one]; rfl)
      · omega
      · omega
    have c51' := c51
    (try simp only [hβ1] at c51')
    (try simp only [icmp, Bool.and_eq_true, Bool.or_eq_true, Bool.and_eq_false_iff, Bool.or_eq_false_iff, Bool.not_eq_true', Bool.not_eq_false', decide_eq_true_eq, decide_eq_false_iff_not, beq_iff_eq, bne_iff_ne, beq_eq_false_iff_ne, bne_eq_false_iff_eq] at c51')
    refine wp_exit ?_
    refine hK42 _ _ ?_
    refine wp_seq_k fun K74 hK74 => ?_
    refine wp_region_lit ?_
    refine q_is rfl rfl (does_move (u := (.slice (some ⟨b26, 0, none⟩) n_ n_)) (ev rfl)) (by dsimp only [List.set]; try rfl) ?_
    refine q_is rfl rfl (does_assign (u := (.slice (some ⟨b26, 0, none⟩) n_ n_)) (ev rfl)) (by dsimp only [List.set]; try rfl) ?_
    refine wpList_nil (hK74 _ _ ?_)
    refine wp_ret ?_
    refine ret_val (v := (.slice (some ⟨b26, 0, none⟩) n_ n_)) (res_T rfl (slot rfl)) X47 ?_
    try simp only [hβ1] at c4 c24 c51
    have x75 : (repTo n_ k (iAt L_xs 0)) = (List.replicate n_ (iAt L_xs 0)) := by first | rfl | (rw [repTo_all (by omega), show k = n_ by omega])
    have x76 : (repTo n_ k (iAt L_xs 0)) = (List.replicate n_ (iAt L_xs 0)) := by first | rfl | (rw [repTo_all (by omega), show k = n_ by omega])
    exact ⟨(.slice (some ⟨b26, 0, none⟩) n_ n_), [b26], rfl, (Hang.castL (RowG.hang hR48 RI.flat (by first | assumption | omega | (simp only [List.length_replicate, List.length_set, List.length_replicate]; omega) | (simp only [List.length_replicate, List.length_set, List.length_replicate]; done)) g34 (Nat.le_refl _) (by omega) (by decide)) x75), (WL.cast (WL.cast (RowG.wl hR48 (by first | assumption | omega | (simp only [List.length_replicate, List.length_set, List.length_replicate]; omega) | (simp only [List.length_replicate, List.length_set, List.length_replicate]; done)) g34 (Nat.le_refl _)) (by first | rfl | (symm; first | assumption | omega | (simp only [List.length_replicate, List.length_set, List.length_replicate]; omega) | (simp only [List.length_replicate, List.length_set, List.length_replicate]; done)))) (congrArg List.length x76))⟩

/- impl.numbered -/
theorem c_impl_numbered (n_ : Nat) (counts : Value) (D_counts : Int → Prop) (pr_counts : Int → Bool) (beside : Value) (D_beside : Int → Prop) (pr_beside : Int → List Int) (w : World) (hv_counts : ∃ fi fst cap, counts = .func (.func fi) fst cap ∧ (∀ args w, (callFunc fi args).run Try.prog w = .ok (.enter fi args) w) ∧ ∀ (y : Int) u, D_counts y → Ext w u → Gives Try.prog fi (fst ++ #[Iv y] ++ cap) u (fun v _ => v = .bool (pr_counts y))) (hv_beside : ∃ fi fst cap, beside = .func (.func fi) fst cap ∧ (∀ args w, (callFunc fi args).run Try.prog w = .ok (.enter fi args) w) ∧ ∀ (y : Int) u, D_beside y → Ext w u → Gives Try.prog fi (fst ++ #[Iv y] ++ cap) u (fun v w' => ∃ y_1 : Value, v = y_1 ∧ Hang u.heap.size w' (fun u => Sl RI 1 u y_1 (pr_beside y)))) (hn : 0 < n_ ∧ n_ ≤ 1000000) (G : Gr n_ pr_counts pr_beside) (hD1 : ∀ y : Int, 0 ≤ y ∧ y < n_ → D_counts y) (hD2 : ∀ y : Int, 0 ≤ y ∧ y < n_ → pr_counts y = true → D_beside y) (hlb : ∀ y : Int, 0 ≤ y ∧ y < n_ → (pr_beside y).length ≤ 1000000) : Gives Try.prog 27 #[(Iv (n_ : Int)), counts, beside] w (fun v w' => ∃ y_1 : Value, ∃ Lw_2 : List Nat, v = (.tuple #[y_1, (Iv ((numTo n_ pr_counts pr_beside n_).2))]) ∧ Hang w.heap.size w' (fun u => Sl RI 1 u y_1 ((numTo n_ pr_counts pr_beside n_).1)) ∧ WL 1 w.heap.size w' Lw_2 y_1 ((numTo n_ pr_counts pr_beside n_).1).length) := by
  obtain ⟨f_counts, s_counts, c_counts, rfl, hcal_counts, hg_counts⟩ := hv_counts
  obtain ⟨f_beside, s_beside, c_beside, rfl, hcal_beside, hg_beside⟩ := hv_beside
  have hrl : (List.replicate n_ (iAt ([-1]) 0)).length = n_ := List.length_replicate
  refine enter [(Iv (n_ : Int)), (.func (.func f_counts) s_counts c_counts), (.func (.func f_beside) s_beside c_beside), Ud, Ud, Ud, Ud, Ud, Ud, Ud, Ud, Ud, Ud, Ud, Ud, Ud, Ud, Ud, Ud, Ud, Ud, Ud, Ud, Ud, Ud, Ud, Ud, Ud, Ud, Ud, Ud, Ud, Ud, Ud, Ud, Ud, Ud, Ud, Ud, Ud, Ud, Ud, Ud, Ud, Ud, Ud, Ud, Ud, Ud, Ud, Ud, Ud, Ud, Ud, Ud, Ud, Ud, Ud, Ud, Ud, Ud, Ud, Ud, Ud, Ud, Ud, Ud, Ud, Ud, Ud, Ud, Ud, Ud, Ud, Ud, Ud, Ud] Try.func27 rfl Try.ntmps27 rfl ?_
  refine wp_seq_k fun K1 hK1 => ?_
  refine wp_region_lit ?_
  refine q_is rfl rfl (does_assign (u := (.slice none 0 0)) (ev rfl)) (by dsimp only [List.set]; try rfl) ?_
  refine q_is rfl rfl (does_assign (u := (Iv 0)) (ev rfl)) (by dsimp only [List.set]; try rfl) ?_
  refine wpList_nil (hK1 _ _ ?_)
  refine wp_seq_k fun K2 hK2 => ?_
  refine wp_region_lit ?_
  refine seqd rfl rfl (does_buildSlice (e := 2) (parts' := [(0, (Iv (-1)))]) (cells := [(Iv (-1))]) (evp rfl) (fun _ => by kernel_rfl)) ?_; rintro _ w7 ⟨b3, rfl, hb4, hB5, E6⟩
  have g8 : w.heap.size ≤ b3 := Nat.le_trans (Below.size (Ext.refl w)) hb4
  have X9 := Ext.gr (Ext.refl w) E6
  show wpList _ _ _ _ (fr [_, _, _, _, _, _, _, _, _, _, _, _, _, _, _, _, _, _, _, _, _, _, _, _, _, _, _, _, _, _, _, _, _, _, _, _, _, _, _, _, _, _, _, _, _, _, _, _, _, _, _, _, _, _, _, _, _, _, _, _, _, _, _, _, _, _, _, _, _, _, _, _, _, _, _, _, _]) _
  refine q_is rfl rfl (does_move (u := (Iv (n_ : Int))) (ev rfl)) (by dsimp only [List.set]; try rfl) ?_
  refine seqd rfl rfl (does_call (args := #[(.slice (some ⟨b3, 0, none⟩) 1 1), (Iv (n_ : Int))]) cal52 (evs rfl) (c_slices_Repeat_int64_int64 (.slice (some ⟨b3, 0, none⟩) 1 1) [-1] n_ _ (Sl_lit1 hB5 rfl) (by rfl) (by exact hn))) ?_; rintro _ w11 ⟨E10, ⟨y13, Lw14, rfl, hh12, hw15⟩⟩
  have X16 := Ext.gr X9 E10
  have n17 : b3 < w7.heap.size := Blk.lt hB5
  obtain ⟨p18, q19, rfl⟩ := Sl.shape hh12.get
  have hw20 : WL 1 w7.heap.size w11 Lw14 (.slice p18 ((List.replicate n_ (iAt ([-1]) 0)).length) q19) (List.replicate n_ (iAt ([-1]) 0)).length := hw15
  show wpList _ _ _ _ (fr [_, _, _, _, _, _, _, _, _, _, _, _, _, _, _, _, _, _, _, _, _, _, _, _, _, _, _, _, _, _, _, _, _, _, _, _, _, _, _, _, _, _, _, _, _, _, _, _, _, _, _, _, _, _, _, _, _, _, _, _, _, _, _, _, _, _, _, _, _, _, _, _, _, _, _, _, _]) _
  refine q_is rfl rfl (does_assign (u := (.slice p18 ((List.replicate n_ (iAt ([-1]) 0)).length) q19)) (ev rfl)) (by dsimp only [List.set]; try rfl) ?_
  refine q_is rfl rfl (does_assign (u := (Iv 0)) (ev rfl)) (by dsimp only [List.set]; try rfl) ?_
  refine wpList_nil (hK2 _ _ ?_)
  refine wp_seq_k fun K21 hK21 => ?_
  refine wp_seq_k fun K22 hK22 => ?_
  refine wp_region_lit ?_
  refine q_is rfl rfl (does_move (u := (Iv (n_ : Int))) (ev rfl)) (by dsimp only [List.set]; try rfl) ?_
  refine q_is rfl rfl (does_move (u := (Iv 0)) (ev rfl)) (by dsimp only [List.set]; try rfl) ?_
  refine wpList_nil (hK22 _ _ ?_)
  refine wp_block ?_
  have n23 : b3 < w11.heap.size := Blk.lt (hB5.ext E10)
  obtain ⟨gr24, hp25, hL26, hR27, hcap28, hB29⟩ := WL.rowg (R := RI) (k := 1) hw20 hh12.get (by omega)
  have n30 : b3 ≠ gr24 := Nat.ne_of_lt (Nat.lt_of_lt_of_le n17 hB29)
  have g31 : w.heap.size ≤ gr24 := Nat.le_trans (Below.size E6) hB29
  subst hp25
  subst hL26
  have hl32 := RowG.lt hR27
  refine loop_ghost (σ := Nat) (fun k a w' => ∃ u33 : Nat → Value, a = fr [(Iv (n_ : Int)), (.func (.func f_counts) s_counts c_counts), (.func (.func f_beside) s_beside c_beside), Ud, Ud, Ud, (.slice none 0 0), (Iv 0), (.slice (some ⟨gr24, 0, none⟩) ((List.replicate n_ (iAt ([-1]) 0)).length) q19), (Iv ((numTo n_ pr_counts pr_beside k).2)), (u33 10), (u33 11), Ud, (u33 13), (.slice (some ⟨b3, 0, none⟩) 1 1), (Iv (n_ : Int)), (.slice (some ⟨gr24, 0, none⟩) ((List.replicate n_ (iAt ([-1]) 0)).length) q19), (Iv (n_ : Int)), (Iv (k : Int)), (u33 19), (u33 20), (u33 21), (u33 22), (u33 23), (u33 24), (u33 25), (u33 26), (u33 27), (u33 28), (u33 29), (u33 30), (u33 31), (u33 32), (u33 33), (u33 34), (u33 35), (u33 36), (u33 37), (u33 38), (u33 39), (u33 40), (u33 41), (u33 42), (u33 43), (u33 44), (u33 45), (u33 46), (u33 47), (u33 48), (u33 49), (u33 50), (u33 51), (u33 52), (u33 53), (u33 54), (u33 55), (u33 56), (u33 57), (u33 58), (u33 59), (u33 60), (u33 61), (u33 62), (u33 63), (u33 64), (u33 65), (u33 66), (u33 67), (u33 68), (u33 69), (u33 70), (u33 71), (u33 72), (u33 73), (u33 74), Ud, Ud] ∧ KpL [gr24] w11 w' ∧ RowG RI 1 w' gr24 ((numTo n_ pr_counts pr_beside k).1) ∧ (k ≤ n_)) (fun k => n_ - k) 0 ?_ ?_
  · refine ⟨fun t => (([(Iv (n_ : Int)), (.func (.func f_counts) s_counts c_counts), (.func (.func f_beside) s_beside c_beside), Ud, Ud, Ud, (.slice none 0 0), (Iv 0), (.slice (some ⟨gr24, 0, none⟩) ((List.replicate n_ (iAt ([-1]) 0)).length) q19), (Iv 0), Ud, Ud, Ud, Ud, (.slice (some ⟨b3, 0, none⟩) 1 1), (Iv (n_ : Int)), (.slice (some ⟨gr24, 0, none⟩) ((List.replicate n_ (iAt ([-1]) 0)).length) q19), (Iv (n_ : Int)), (Iv 0), Ud, Ud, Ud, Ud, Ud, Ud, Ud, Ud, Ud, Ud, Ud, Ud, Ud, Ud, Ud, Ud, Ud, Ud, Ud, Ud, Ud, Ud, Ud, Ud, Ud, Ud, Ud, Ud, Ud, Ud, Ud, Ud, Ud, Ud, Ud, Ud, Ud, Ud, Ud, Ud, Ud, Ud, Ud, Ud, Ud, Ud, Ud, Ud, Ud, Ud, Ud, Ud, Ud, Ud, Ud, Ud, Ud, Ud] : List Value)[t]?).getD undef, rfl, KpL.refl _ _, (RowG.cast hR27 (by (try dsimp only); rfl)), ?_⟩
    exact Nat.zero_le _
  · rintro k a w34 ⟨u33, rfl, E35, hRg0, hk⟩
    have X37 := Below.kl X16 E35 (allS g31 all0) (Nat.le_refl _)
    have hR38 := hRg0; clear hRg0
    have hkl := numTo_len n_ pr_counts pr_beside k
    have hkm := numTo_m n_ pr_counts pr_beside k
    refine wp_seq_k fun K39 hK39 => ?_
    refine wp_region_lit ?_
    refine q_is rfl rfl (does_icmp (p := (k : Int)) (q := (n_ : Int)) (.inr (.inr (.inl rfl))) (ev rfl) (ev rfl)) (by dsimp only [List.set]; try rfl) ?_
    refine wpList_nil (hK39 _ _ ?_)
    refine wp_seq_k fun K40 hK40 => ?_
    refine wp_cond_split (t := icmp .lss (k : Int) (n_ : Int)) (ev rfl) (fun c41 => ?_) (fun c41 => ?_)
    · have c41' := c41
      (try simp only [icmp, Bool.and_eq_true, Bool.or_eq_true, Bool.and_eq_false_iff, Bool.or_eq_false_iff, Bool.not_eq_true', Bool.not_eq_false', decide_eq_true_eq, decide_eq_false_iff_not, beq_iff_eq, bne_iff_ne, beq_eq_false_iff_ne, bne_eq_false_iff_eq] at c41')
      refine wp_skip (hK40 _ _ ?_)
      refine wp_seq_k fun K42 hK42 => ?_
      refine wp_block ?_
      refine wp_seq_k fun K43 hK43 => ?_
      refine wp_region_lit ?_
      refine q_is rfl rfl (does_move (u := (Iv (k : Int))) (ev rfl)) (by dsimp only [List.set]; try rfl) ?_
      refine q_is rfl rfl (does_assign (u := (Iv (k : Int))) (ev rfl)) (by dsimp only [List.set]; try rfl) ?_
      refine wpList_nil (hK43 _ _ ?_)
      refine wp_seq_k fun K44 hK44 => ?_
      refine wp_seq_k fun K45 hK45 => ?_
      obtain ⟨el1, hel1⟩ : ∃ e, ((numTo n_ pr_counts pr_beside k).1)[k]? = some e := ⟨_, List.getElem?_eq_getElem (by first | assumption | omega | (simp only [numTo_len, List.length_replicate, List.length_set, List.length_set, List.length_replicate]; omega) | (simp only [numTo_len, List.length_replicate, List.length_set, List.length_set, List.length_replicate]; done))⟩
      obtain ⟨β1, hβ1⟩ : ∃ b : Bool, b = ((icmp .geq el1 0) || (!(pr_counts (k : Int)))) := ⟨_, rfl⟩
      refine region_text (
        [Fact.pure [] (fun v => v = (.slice (some ⟨gr24, 0, none⟩) ((List.replicate n_ (iAt ([-1]) 0)).length) q19)),
    Fact.pure [] (fun v => v = (Iv (k : Int))),
    Fact.pure [21, 22] (fun v => v = (Pt gr24 (k * 1))),
    Fact.pure [23] (fun v => v = (Iv el1)),
    Fact.pure [24] (fun v => v = (Bo (icmp .geq el1 0))),
    Fact.pure [25] (fun v => v = (Bo (icmp .geq el1 0))),
    Fact.pure [26] (fun v => (icmp .geq el1 0) = false → v = (.func (.func f_counts) s_counts c_counts)),
    Fact.pure [26] (fun v => (icmp .geq el1 0) = false → v = (Iv (k : Int))),
    Fact.pure [28, 27, 26] (fun v => (icmp .geq el1 0) = false → v = (Bo (pr_counts (k : Int)))),
    Fact.pure [29, 26] (fun v => (icmp .geq el1 0) = false → v = (Bo (!(pr_counts (k : Int))))),
    Fact.pure [26, 30] (fun v => v = (Bo β1))]) (by simp [Fact.pure, Fact.mem]) ?_
      refine RW_d _ rfl (fun v => by dsimp only [List.set]; try rfl) (fun u hu hF => ?_) (fun v46 => ?_)
      · clear hF
        refine doesG_un rfl ?_
        refine (does_move (u := (.slice (some ⟨gr24, 0, none⟩) ((List.replicate n_ (iAt ([-1]) 0)).length) q19)) (ev rfl)).mono ?_; rintro _ _ ⟨rfl, rfl⟩
        exact ⟨rfl, Ext.refl _⟩
      refine RW_d _ rfl (fun v => by dsimp only [List.set]; try rfl) (fun u hu hF => ?_) (fun v47 => ?_)
      · clear hF
        refine doesG_un rfl ?_
        refine (does_move (u := (Iv (k : Int))) (ev rfl)).mono ?_; rintro _ _ ⟨rfl, rfl⟩
        exact ⟨rfl, Ext.refl _⟩
      refine RW_d _ rfl (fun v => by dsimp only [List.set]; try rfl) (fun u hu hF => ?_) (fun v48 => ?_)
      · have h21_ : v46 = (.slice (some ⟨gr24, 0, none⟩) ((List.replicate n_ (iAt ([-1]) 0)).length) q19) := hF.1
        have h22_ : v47 = (Iv (k : Int)) := hF.2.1
        clear hF
        refine doesG_un rfl ?_
        obtain rfl := h21_
        obtain rfl := h22_
        refine (does_indexOwn (b := gr24) (n := (List.replicate n_ (iAt ([-1]) 0)).length) (i := (k : Int)) Try.underlying27 Try.sizeOf2 (ev rfl) (ev rfl) (by omega) (by omega)).mono ?_; rintro _ _ ⟨rfl, rfl⟩
        exact ⟨rfl, Ext.refl _⟩
      refine RW_d _ rfl (fun v => by dsimp only [List.set]; try rfl) (fun u hu hF => ?_) (fun v49 => ?_)
      · have h23_ : v48 = (Pt gr24 (k * 1)) := hF.1
        clear hF
        refine doesG_un rfl ?_
        obtain rfl := h23_
        refine (does_loadRowI (xs := ((numTo n_ pr_counts pr_beside k).1)) (i := k) (e := el1) (ev rfl) Try.isAgg2 (RowG.ext hR38 RI.flat hu) rfl hel1).mono ?_; rintro _ _ ⟨rfl, rfl⟩
        exact ⟨rfl, Ext.refl _⟩
      refine RW_d _ rfl (fun v => by dsimp only [List.set]; try rfl) (fun u hu hF => ?_) (fun v50 => ?_)
      · have h24_ : v49 = (Iv el1) := hF.1
        clear hF
        refine doesG_un rfl ?_
        obtain rfl := h24_
        refine (does_icmp (p := el1) (q := 0) (.inr (.inr (.inr (.inr (.inr rfl))))) (ev rfl) (ev rfl)).mono ?_; rintro _ _ ⟨rfl, rfl⟩
        exact ⟨rfl, Ext.refl _⟩
      refine RW_d _ rfl (fun v => by dsimp only [List.set]; try rfl) (fun u hu hF => ?_) (fun v51 => ?_)
      · have h25_ : v50 = (Bo (icmp .geq el1 0)) := hF.1
        clear hF
        refine doesG_un rfl ?_
        obtain rfl := h25_
        refine (does_move (u := (Bo (icmp .geq el1 0))) (ev rfl)).mono ?_; rintro _ _ ⟨rfl, rfl⟩
        exact ⟨rfl, Ext.refl _⟩
      refine RW_d _ rfl (fun v => by dsimp only [List.set]; try rfl) (fun u hu hF => ?_) (fun v52 => ?_)
      · have h26_ : v51 = (Bo (icmp .geq el1 0)) := hF.1
        clear hF
        obtain rfl := h26_
        refine doesG_g (b := (icmp .geq el1 0)) rfl (yld rfl rfl) (fun hg1 => ?_) (fun hc => ⟨fun hg1 => absurd hg1 hc, Ext.refl _⟩)
        refine (does_move (u := (.func (.func f_counts) s_counts c_counts)) (ev rfl)).mono ?_; rintro _ _ ⟨rfl, rfl⟩
        exact ⟨fun _ => rfl, Ext.refl _⟩
      refine RW_d _ rfl (fun v => by dsimp only [List.set]; try rfl) (fun u hu hF => ?_) (fun v53 => ?_)
      · have h26_ : v51 = (Bo (icmp .geq el1 0)) := hF.1
        clear hF
        obtain rfl := h26_
        refine doesG_g (b := (icmp .geq el1 0)) rfl (yld rfl rfl) (fun hg1 => ?_) (fun hc => ⟨fun hg1 => absurd hg1 hc, Ext.refl _⟩)
        refine (does_move (u := (Iv (k : Int))) (ev rfl)).mono ?_; rintro _ _ ⟨rfl, rfl⟩
        exact ⟨fun _ => rfl, Ext.refl _⟩
      refine RW_d _ rfl (fun v => by dsimp only [List.set]; try rfl) (fun u hu hF => ?_) (fun v54 => ?_)
      · have h28_ : (icmp .geq el1 0) = false → v53 = (Iv (k : Int)) := hF.1
        have h27_ : (icmp .geq el1 0) = false → v52 = (.func (.func f_counts) s_counts c_counts) := hF.2.1
        have h26_ : v51 = (Bo (icmp .geq el1 0)) := hF.2.2.1
        clear hF
        obtain rfl := h26_
        refine doesG_g (b := (icmp .geq el1 0)) rfl (yld rfl rfl) (fun hg1 => ?_) (fun hc => ⟨fun hg1 => absurd hg1 hc, Ext.refl _⟩)
        obtain rfl := h28_ hg1
        obtain rfl := h27_ hg1
        refine (does_callf (args := #[(Iv (k : Int))]) (ev rfl) hcal_counts (evs rfl) (hg_counts (k : Int) _ (by exact hD1 _ (by omega)) (Ext.gr X37 hu))).mono ?_; rintro v u' ⟨hx, hv⟩
        exact ⟨fun _ => hv, hx⟩
      refine RW_d _ rfl (fun v => by dsimp only [List.set]; try rfl) (fun u hu hF => ?_) (fun v55 => ?_)
      · have h29_ : (icmp .geq el1 0) = false → v54 = (Bo (pr_counts (k : Int))) := hF.1
        have h26_ : v51 = (Bo (icmp .geq el1 0)) := hF.2.1
        clear hF
        obtain rfl := h26_
        refine doesG_g (b := (icmp .geq el1 0)) rfl (yld rfl rfl) (fun hg1 => ?_) (fun hc => ⟨fun hg1 => absurd hg1 hc, Ext.refl _⟩)
        obtain rfl := h29_ hg1
        refine (does_not (ev rfl)).mono ?_; rintro _ _ ⟨rfl, rfl⟩
        exact ⟨fun _ => rfl, Ext.refl _⟩
      refine RW_d _ rfl (fun v => by dsimp only [List.set]; try rfl) (fun u hu hF => ?_) (fun v56 => ?_)
      · have h26_ : v51 = (Bo (icmp .geq el1 0)) := hF.1
        have h30_ : (icmp .geq el1 0) = false → v55 = (Bo (!(pr_counts (k : Int)))) := hF.2.1
        clear hF
        refine doesG_un rfl ?_
        skip
        obtain rfl := h26_
        refine (does_pick (b := (icmp .geq el1 0)) (u := (Bo true)) (v := v55) (ev rfl) (ev rfl) (ev rfl)).mono ?_; rintro _ _ ⟨rfl, rfl⟩; refine ⟨?_, Ext.refl _⟩; rw [hβ1]; skip
        cases hbb : (icmp .geq el1 0)
        all_goals first | (show _ = _; simp only [↓reduceIte, Bool.true_and, Bool.false_and, Bool.true_or, Bool.false_or, Bool.false_eq_true]; done) | (have e_ := h30_ hbb; subst e_; show _ = _; simp only [↓reduceIte, Bool.true_and, Bool.false_and, Bool.true_or, Bool.false_or, Bool.false_eq_true]; done) | rfl | (have e_ := h30_ hbb; subst e_; rfl) | (simp [hbb] at h30_ ⊢; first | done | rfl | (subst h30_; rfl) | simp_all) | (simp [hbb] at h30_ ⊢; done)
      refine RW_fin ?_; intro w57 E58 hP59
      obtain ⟨⟨⟨⟨⟨⟨⟨⟨⟨⟨⟨-, -⟩, -⟩, -⟩, -⟩, -⟩, -⟩, -⟩, -⟩, -⟩, -⟩, q60⟩ := hP59
      have X61 := Ext.gr X37 E58
      have q60 : v56 = (Bo β1) := q60
      obtain rfl := q60
      show wpList _ _ _ _ (fr [_, _, _, _, _, _, _, _, _, _, _, _, _, _, _, _, _, _, _, _, _, _, _, _, _, _, _, _, _, _, _, _, _, _, _, _, _, _, _, _, _, _, _, _, _, _, _, _, _, _, _, _, _, _, _, _, _, _, _, _, _, _, _, _, _, _, _, _, _, _, _, _, _, _, _, _, _]) _
      refine wpList_nil (hK45 _ _ ?_)
      refine wp_cond_split (t := β1) (ev rfl) (fun c62 => ?_) (fun c62 => ?_)
      · have c62' := c62
        (try simp only [hβ1] at c62')
        (try simp only [icmp, Bool.and_eq_true, Bool.or_eq_true, Bool.and_eq_false_iff, Bool.or_eq_false_iff, Bool.not_eq_true', Bool.not_eq_false', decide_eq_true_eq, decide_eq_false_iff_not, beq_iff_eq, bne_iff_ne, beq_eq_false_iff_ne, bne_eq_false_iff_eq] at c62')
        have hsk : 0 ≤ iAt (numTo n_ pr_counts pr_beside k).1 k ∨ pr_counts (k : Int) = false := by rw [show iAt (numTo n_ pr_counts pr_beside k).1 k = el1 by simp [iAt, hel1]]; exact c62'
        refine wp_exit ?_
        refine hK42 _ _ ?_
        refine wp_region_lit ?_
        refine q_is rfl rfl (does_iarith (p := (k : Int)) (q := 1) (r := (k : Int) + 1) (ev rfl) (ev rfl) (.inl ⟨rfl, (in_i64 (by omega) (by omega)).symm⟩)) (by dsimp only [List.set]; try rfl) ?_
        refine q_is rfl rfl (does_move (u := (Iv ((k : Int) + 1))) (ev rfl)) (by dsimp only [List.set]; try rfl) ?_
        refine wpList_nil ?_
        have hR63 := RowG.cast (ys := ((fun (k : Nat) => (numTo n_ pr_counts pr_beside k).1) (k + 1))) (RowG.ext hR38 RI.flat E58) (by (try dsimp only); first | exact (congrArg Prod.fst (numTo_skip hsk)).symm | (rw [numTo_new hn1 hnw.2]; exact Fld.finish G (by omega) hnw.2 hfr (hs0 ▸ hfd)))
        refine ⟨k + 1, ⟨fun t => (([(Iv (n_ : Int)), (.func (.func f_counts) s_counts c_counts), (.func (.func f_beside) s_beside c_beside), Ud, Ud, Ud, (.slice none 0 0), (Iv 0), (.slice (some ⟨gr24, 0, none⟩) ((List.replicate n_ (iAt ([-1]) 0)).length) q19), (Iv ((numTo n_ pr_counts pr_beside k).2)), (Iv (k : Int)), (u33 11), Ud, (u33 13), (.slice (some ⟨b3, 0, none⟩) 1 1), (Iv (n_ : Int)), (.slice (some ⟨gr24, 0, none⟩) ((List.replicate n_ (iAt ([-1]) 0)).length) q19), (Iv (n_ : Int)), (Iv ((k : Int) + 1)), (Bo (icmp .lss (k : Int) (n_ : Int))), (Iv (k : Int)), v46, v47, v48, v49, v50, v51, v52, v53, v54, v55, (Bo β1), (u33 32), (u33 33), (u33 34), (u33 35), (u33 36), (u33 37), (u33 38), (u33 39), (u33 40), (u33 41), (u33 42), (u33 43), (u33 44), (u33 45), (u33 46), (u33 47), (u33 48), (u33 49), (u33 50), (u33 51), (u33 52), (u33 53), (u33 54), (u33 55), (u33 56), (u33 57), (u33 58), (u33 59), (u33 60), (u33 61), (u33 62), (u33 63), (u33 64), (u33 65), (u33 66), (u33 67), (u33 68), (u33 69), (u33 70), (u33 71), (u33 72), (u33 73), (Iv ((k : Int) + 1)), Ud, Ud] : List Value)[t]?).getD undef, ?_, (KpL.ext E35 E58), hR63, ?_⟩, ?_⟩
        · first | (rw [numTo_skip hsk]; rfl) | (rw [numTo_new hn1 hnw.2]; rfl)
        · omega
        · omega
      have c62' := c62
      (try simp only [hβ1] at c62')
      (try simp only [icmp, Bool.and_eq_true, Bool.or_eq_true, Bool.and_eq_false_iff, Bool.or_eq_false_iff, Bool.not_eq_true', Bool.not_eq_false', decide_eq_true_eq, decide_eq_false_iff_not, beq_iff_eq, bne_iff_ne, beq_eq_false_iff_ne, bne_eq_false_iff_eq] at c62')
      have hnw : el1 < 0 ∧ pr_counts (k : Int) = true := ⟨by have h := c62'.1; omega, by have h := c62'.2; simpa using h⟩
      have hn1 : iAt (numTo n_ pr_counts pr_beside k).1 k < 0 := by rw [show iAt (numTo n_ pr_counts pr_beside k).1 k = el1 by simp [iAt, hel1]]; exact hnw.1
      have hfr : ∀ j : Nat, j < n_ → Conn pr_counts pr_beside (k : Int) j → iAt (numTo n_ pr_counts pr_beside k).1 j < 0 := fun j hj hc => numTo_free G (by omega) hn1 hnw.2 hj hc
      refine wp_skip (hK44 _ _ ?_)
      refine wp_seq_k fun K64 hK64 => ?_
      refine wp_region_lit ?_
      refine q_is rfl rfl (does_move (u := (.slice (some ⟨gr24, 0, none⟩) ((List.replicate n_ (iAt ([-1]) 0)).length) q19)) (ev rfl)) (by dsimp only [List.set]; try rfl) ?_
      refine q_is rfl rfl (does_move (u := (Iv (k : Int))) (ev rfl)) (by dsimp only [List.set]; try rfl) ?_
      refine q_is rfl rfl (does_move (u := (Iv ((numTo n_ pr_counts pr_beside k).2))) (ev rfl)) (by dsimp only [List.set]; try rfl) ?_
      refine q_is rfl rfl (does_indexOwn (b := gr24) (n := (List.replicate n_ (iAt ([-1]) 0)).length) (i := (k : Int)) Try.underlying27 Try.sizeOf2 (ev rfl) (ev rfl) (by omega) (by omega)) (by dsimp only [List.set]; try rfl) ?_
      refine seqn rfl rfl (does_storeRowG (R := RI) (k := 1) (xs := ((numTo n_ pr_counts pr_beside k).1)) (i := k) (u := (Iv ((numTo n_ pr_counts pr_beside k).2))) (e := ((numTo n_ pr_counts pr_beside k).2)) (ev rfl) (ev rfl) Try.sizeOf2 rfl rfl RI.flat (RowG.ext hR38 RI.flat E58) rfl (by first | assumption | omega | (simp only [numTo_len, List.length_replicate, List.length_set, List.length_set, List.length_replicate]; omega) | (simp only [numTo_len, List.length_replicate, List.length_set, List.length_set, List.length_replicate]; done)) rfl) ?_; rintro _ w67 ⟨rfl, W65, hR66⟩
      have X68 := Below.wr X61 W65 g31
      refine wpList_nil (hK64 _ _ ?_)
      refine wp_seq_k fun K69 hK69 => ?_
      refine wp_seq_k fun K70 hK70 => ?_
      refine wp_region_lit ?_
      refine q_is rfl rfl (does_move (u := (Iv (k : Int))) (ev rfl)) (by dsimp only [List.set]; try rfl) ?_
      refine seqd rfl rfl (does_buildSlice (e := 2) (parts' := [(0, (Iv (k : Int)))]) (cells := [(Iv (k : Int))]) (evp rfl) (fun _ => by kernel_rfl)) ?_; rintro _ w75 ⟨b71, rfl, hb72, hB73, E74⟩
      have n76 : b3 < b71 := Nat.lt_of_lt_of_le (Blk.lt ((((hB5.ext E10).kl E35 (ninS n30 nin0)).ext E58).wr W65 n30)) hb72
      have n77 : gr24 < b71 := Nat.lt_of_lt_of_le (RowG.lt hR66) hb72
      have g78 : w.heap.size ≤ b71 := Nat.le_trans (Below.size X68) hb72
      have X79 := Ext.gr X68 E74
      show wpList _ _ _ _ (fr [_, _, _, _, _, _, _, _, _, _, _, _, _, _, _, _, _, _, _, _, _, _, _, _, _, _, _, _, _, _, _, _, _, _, _, _, _, _, _, _, _, _, _, _, _, _, _, _, _, _, _, _, _, _, _, _, _, _, _, _, _, _, _, _, _, _, _, _, _, _, _, _, _, _, _, _, _]) _
      refine q_is rfl rfl (does_assign (u := (.slice (some ⟨b71, 0, none⟩) 1 1)) (ev rfl)) (by dsimp only [List.set]; try rfl) ?_
      refine wpList_nil (hK70 _ _ ?_)
      refine wp_block ?_
      have n81 : b3 < w75.heap.size := Blk.lt (((((hB5.ext E10).kl E35 (ninS n30 nin0)).ext E58).wr W65 n30).ext E74)
      have n82 : gr24 < w75.heap.size := RowG.lt (RowG.ext hR66 RI.flat E74)
      have n83 : b71 < w75.heap.size := Blk.lt hB73
      have hO84 : OwnQ RI 1 2 b71 w75.heap.size w75 (.slice (some ⟨b71, 0, none⟩) 1 1) [(k : Int)] := OwnQ.lit1 hB73 rfl
      have hg85 : b71 < w75.heap.size := Blk.lt hB73
      have hH86 : Hang w67.heap.size w75 (fun u => Sl RI 1 u (.slice (some ⟨b71, 0, none⟩) 1 1) ([(k : Int)])) := OwnQ.hang hO84 RI.flat (by decide) hb72 (Below.size E74)
      obtain ⟨gg87, hg88, hg89, hO90⟩ := OwnQ.start' hO84 hO84
      have hN91 : w67.heap.size ≤ gg87 := by rcases hg88 with h | h; exact h ▸ hb72; exact Nat.le_trans (Below.size E74) h
      have g92 : w.heap.size ≤ gg87 := Nat.le_trans (Nat.le_trans (Nat.le_trans (Nat.le_trans (Nat.le_trans (Below.size E6) (Below.size E10)) (KpL.size E35)) (Below.size E58)) (Nat.le_of_eq (Eq.symm (Wr.size W65)))) hN91
      have hg93 : gg87 < w75.heap.size := by rcases hg89 with h | h; exact h ▸ Nat.lt_of_lt_of_le hg85 (Nat.le_refl _); exact h
      refine loop_ghost (σ := List Int × List Int) (fun s a w' => ∃ u80 : Nat → Value, ∃ y11 : Value, a = fr [(Iv (n_ : Int)), (.func (.func f_counts) s_counts c_counts), (.func (.func f_beside) s_beside c_beside), Ud, Ud, Ud, (.slice none 0 0), (Iv 0), (.slice (some ⟨gr24, 0, none⟩) ((List.replicate n_ (iAt ([-1]) 0)).length) q19), (Iv ((numTo n_ pr_counts pr_beside k).2)), (Iv (k : Int)), y11, Ud, (u80 13), (.slice (some ⟨b3, 0, none⟩) 1 1), (Iv (n_ : Int)), (.slice (some ⟨gr24, 0, none⟩) ((List.replicate n_ (iAt ([-1]) 0)).length) q19), (Iv (n_ : Int)), (Iv (k : Int)), (Bo (icmp .lss (k : Int) (n_ : Int))), (Iv (k : Int)), v46, v47, v48, v49, v50, v51, v52, v53, v54, v55, (Bo β1), (.slice (some ⟨gr24, 0, none⟩) ((List.replicate n_ (iAt ([-1]) 0)).length) q19), (Iv (k : Int)), (Iv ((numTo n_ pr_counts pr_beside k).2)), (Pt gr24 (k * 1)), (Iv (k : Int)), (.slice (some ⟨b71, 0, none⟩) 1 1), (u80 38), (u80 39), (u80 40), (u80 41), (u80 42), (u80 43), (u80 44), (u80 45), (u80 46), (u80 47), (u80 48), (u80 49), (u80 50), (u80 51), (u80 52), (u80 53), (u80 54), (u80 55), (u80 56), (u80 57), (u80 58), (u80 59), (u80 60), (u80 61), (u80 62), (u80 63), (u80 64), (u80 65), (u80 66), (u80 67), (u80 68), (u80 69), (u80 70), (u80 71), (u33 72), (u33 73), (u33 74), Ud, Ud] ∧ KpL [gr24, gg87] w75 w' ∧ RowG RI 1 w' gr24 s.1 ∧ OwnQ RI 1 2 gg87 w75.heap.size w' y11 s.2 ∧ (Fld n_ pr_counts pr_beside (numTo n_ pr_counts pr_beside k).1 (k : Int) (numTo n_ pr_counts pr_beside k).2 s.1 s.2)) (fun s => neg s.1 + s.2.length) ((numTo n_ pr_counts pr_beside k).1.set k (numTo n_ pr_counts pr_beside k).2, [(k : Int)]) ?_ ?_
      · refine ⟨fun t => (([(Iv (n_ : Int)), (.func (.func f_counts) s_counts c_counts), (.func (.func f_beside) s_beside c_beside), Ud, Ud, Ud, (.slice none 0 0), (Iv 0), (.slice (some ⟨gr24, 0, none⟩) ((List.replicate n_ (iAt ([-1]) 0)).length) q19), (Iv ((numTo n_ pr_counts pr_beside k).2)), (Iv (k : Int)), (.slice (some ⟨b71, 0, none⟩) 1 1), Ud, (u33 13), (.slice (some ⟨b3, 0, none⟩) 1 1), (Iv (n_ : Int)), (.slice (some ⟨gr24, 0, none⟩) ((List.replicate n_ (iAt ([-1]) 0)).length) q19), (Iv (n_ : Int)), (Iv (k : Int)), (Bo (icmp .lss (k : Int) (n_ : Int))), (Iv (k : Int)), v46, v47, v48, v49, v50, v51, v52, v53, v54, v55, (Bo β1), (.slice (some ⟨gr24, 0, none⟩) ((List.replicate n_ (iAt ([-1]) 0)).length) q19), (Iv (k : Int)), (Iv ((numTo n_ pr_counts pr_beside k).2)), (Pt gr24 (k * 1)), (Iv (k : Int)), (.slice (some ⟨b71, 0, none⟩) 1 1), (u33 38), (u33 39), (u33 40), (u33 41), (u33 42), (u33 43), (u33 44), (u33 45), (u33 46), (u33 47), (u33 48), (u33 49), (u33 50), (u33 51), (u33 52), (u33 53), (u33 54), (u33 55), (u33 56), (u33 57), (u33 58), (u33 59), (u33 60), (u33 61), (u33 62), (u33 63), (u33 64), (u33 65), (u33 66), (u33 67), (u33 68), (u33 69), (u33 70), (u33 71), (u33 72), (u33 73), (u33 74), Ud, Ud] : List Value)[t]?).getD undef, (.slice (some ⟨b71, 0, none⟩) 1 1), rfl, KpL.refl _ _, (RowG.cast (RowG.ext hR66 RI.flat E74) (by (try dsimp only); try rfl)), (OwnQ.cast hO90 (by try rfl)), ?_⟩
        exact Fld.start (by omega) hkl hel1 hnw.1 hkm.1 hfr
      · rintro s a w94 ⟨u80, y11, rfl, E95, hRg0, hO97, hfd⟩
        have X98 := Below.kl X79 E95 (allS g31 (allS g92 all0)) (Nat.le_refl _)
        have hR99 := hRg0; clear hRg0
        obtain ⟨p100, q101, rfl⟩ := OwnQ.shape hO97
        have hH102 : Hang w67.heap.size w94 (fun u => Sl RI 1 u (.slice p100 s.2.length q101) s.2) := OwnQ.hang hO97 RI.flat (by decide) hN91 (Below.size E74)
        have hsl := hfd.len
        have hsz := hfd.sz
        refine wp_seq_k fun K103 hK103 => ?_
        refine wp_seq_k fun K104 hK104 => ?_
        refine wp_region_lit ?_
        refine q_is rfl rfl (does_move (u := (.slice p100 s.2.length q101)) (ev rfl)) (by dsimp only [List.set]; try rfl) ?_
        refine q_is rfl rfl (does_len_slice Try.underlying27 (ev rfl)) (by dsimp only [List.set]; try rfl) ?_
        refine q_is rfl rfl (does_icmp (p := (s.2.length : Int)) (q := 0) (.inr (.inr (.inr (.inr (.inl rfl))))) (ev rfl) (ev rfl)) (by dsimp only [List.set]; try rfl) ?_
        refine wpList_nil (hK104 _ _ ?_)
        refine wp_cond_split (t := icmp .gtr (s.2.length : Int) 0) (ev rfl) (fun c105 => ?_) (fun c105 => ?_)
        · have c105' := c105
          (try simp only [hβ1] at c105')
          (try simp only [icmp, Bool.and_eq_true, Bool.or_eq_true, Bool.and_eq_false_iff, Bool.or_eq_false_iff, Bool.not_eq_true', Bool.not_eq_false', decide_eq_true_eq, decide_eq_false_iff_not, beq_iff_eq, bne_iff_ne, beq_eq_false_iff_ne, bne_eq_false_iff_eq] at c105')
          obtain ⟨x0, r0, hs2⟩ : ∃ x r, s.2 = x :: r := List.exists_cons_of_length_pos (by omega)
          have hx0 := hfd.tdc x0 (by rw [hs2]; simp)
          have hxr := hx0.rng G (by omega) hnw.2
          refine wp_skip (hK103 _ _ ?_)
          refine wp_seq_k fun K106 hK106 => ?_
          refine wp_block ?_
          refine wp_seq_k fun K107 hK107 => ?_
          refine wp_region_lit ?_
          refine q_is rfl rfl (does_move (u := (.func (.func f_beside) s_beside c_beside)) (ev rfl)) (by dsimp only [List.set]; try rfl) ?_
          refine q_is rfl rfl (does_move (u := (.slice p100 s.2.length q101)) (ev rfl)) (by dsimp only [List.set]; try rfl) ?_
          obtain ⟨el2, hel2⟩ : ∃ e, s.2[0]? = some e := ⟨_, List.getElem?_eq_getElem (by omega)⟩
          refine seqd rfl rfl (does_indexSl (R := RI) (i := 0) (xs := s.2) (e := el2) Try.underlying27 Try.sizeOf2 (ev rfl) (ev rfl) hH102.get (by omega) hel2) ?_; rintro _ w94 ⟨b108, o109, _, rfl, hc111, rfl, rfl⟩
          show wpList _ _ _ _ (fr [_, _, _, _, _, _, _, _, _, _, _, _, _, _, _, _, _, _, _, _, _, _, _, _, _, _, _, _, _, _, _, _, _, _, _, _, _, _, _, _, _, _, _, _, _, _, _, _, _, _, _, _, _, _, _, _, _, _, _, _, _, _, _, _, _, _, _, _, _, _, _, _, _, _, _, _, _]) _
          refine q_is rfl rfl (does_load (u := (Iv el2)) (ev rfl) Try.isAgg2 (Cells.at hc111 0 rfl)) (by dsimp only [List.set]; try rfl) ?_
          have hel2x : el2 = x0 := by rw [hs2] at hel2; simpa using hel2.symm
          subst hel2x
          have hbl := hlb el2 (by omega)
          refine seqd rfl rfl (does_callf (args := #[(Iv el2)]) (ev rfl) hcal_beside (evs rfl) (hg_beside el2 _ (by exact hD2 _ (by omega) hxr.2) X98)) ?_; rintro _ w113 ⟨E112, ⟨y115, rfl, hh114⟩⟩
          have X116 := Ext.gr X98 E112
          have n117 : b3 < w94.heap.size := Blk.lt ((((((hB5.ext E10).kl E35 (ninS n30 nin0)).ext E58).wr W65 n30).ext E74).kl E95 (ninS n30 (ninS (by omega) nin0)))
          have n118 : gr24 < w94.heap.size := RowG.lt hR99
          obtain ⟨p119, q120, rfl⟩ := Sl.shape hh114.get
          show wpList _ _ _ _ (fr [_, _, _, _, _, _, _, _, _, _, _, _, _, _, _, _, _, _, _, _, _, _, _, _, _, _, _, _, _, _, _, _, _, _, _, _, _, _, _, _, _, _, _, _, _, _, _, _, _, _, _, _, _, _, _, _, _, _, _, _, _, _, _, _, _, _, _, _, _, _, _, _, _, _, _, _, _]) _
          refine q_is rfl rfl (does_len_slice Try.underlying27 (ev rfl)) (by dsimp only [List.set]; try rfl) ?_
          refine q_is rfl rfl (does_move (u := (Iv 0)) (ev rfl)) (by dsimp only [List.set]; try rfl) ?_
          refine wpList_nil (hK107 _ _ ?_)
          refine wp_block ?_
          have n126 : b3 < w113.heap.size := Blk.lt (((((((hB5.ext E10).kl E35 (ninS n30 nin0)).ext E58).wr W65 n30).ext E74).kl E95 (ninS n30 (ninS (by omega) nin0))).ext E112)
          have n127 : gr24 < w113.heap.size := RowG.lt (RowG.ext hR99 RI.flat E112)
          have n128 : b108 < w113.heap.size := cell_lt (Cells.at (hc111.ext E112) 0 rfl)
          obtain ⟨gg122, hg123, hg124, hO125⟩ := OwnQ.start' hO97 (OwnQ.same hO97 RI.flat ((Same.refl _ _).ext E112) hN91 (Below.size E74))
          have hN129 : w67.heap.size ≤ gg122 := by rcases hg123 with h | h; exact h ▸ hN91; exact Nat.le_trans (Below.size E74) h
          have g130 : w.heap.size ≤ gg122 := Nat.le_trans (Nat.le_trans (Nat.le_trans (Nat.le_trans (Nat.le_trans (Below.size E6) (Below.size E10)) (KpL.size E35)) (Below.size E58)) (Nat.le_of_eq (Eq.symm (Wr.size W65)))) hN129
          have hg131 : gg122 < w94.heap.size := by rcases hg124 with h | h; exact h ▸ Nat.lt_of_lt_of_le hg93 (KpL.size E95); exact h
          have n132 : gg122 < w94.heap.size := Nat.lt_of_lt_of_le hg131 (Nat.le_refl _)
          refine loop_ghost (σ := List Int × List Int × Nat) (fun q a w' => ∃ u121 : Nat → Value, ∃ y11 : Value, a = fr [(Iv (n_ : Int)), (.func (.func f_counts) s_counts c_counts), (.func (.func f_beside) s_beside c_beside), Ud, Ud, Ud, (.slice none 0 0), (Iv 0), (.slice (some ⟨gr24, 0, none⟩) ((List.replicate n_ (iAt ([-1]) 0)).length) q19), (Iv ((numTo n_ pr_counts pr_beside k).2)), (Iv (k : Int)), y11, Ud, (u121 13), (.slice (some ⟨b3, 0, none⟩) 1 1), (Iv (n_ : Int)), (.slice (some ⟨gr24, 0, none⟩) ((List.replicate n_ (iAt ([-1]) 0)).length) q19), (Iv (n_ : Int)), (Iv (k : Int)), (Bo (icmp .lss (k : Int) (n_ : Int))), (Iv (k : Int)), v46, v47, v48, v49, v50, v51, v52, v53, v54, v55, (Bo β1), (.slice (some ⟨gr24, 0, none⟩) ((List.replicate n_ (iAt ([-1]) 0)).length) q19), (Iv (k : Int)), (Iv ((numTo n_ pr_counts pr_beside k).2)), (Pt gr24 (k * 1)), (Iv (k : Int)), (.slice (some ⟨b71, 0, none⟩) 1 1), (.slice p100 s.2.length q101), (Iv (s.2.length : Int)), (Bo (icmp .gtr (s.2.length : Int) 0)), (u80 41), (u80 42), (.func (.func f_beside) s_beside c_beside), (.slice p100 s.2.length q101), (Pt b108 o109), (Iv el2), (.slice p119 ((pr_beside el2).length) q120), (Iv (((pr_beside el2).length) : Int)), (Iv (q.2.2 : Int)), (u121 50), (u121 51), (u121 52), (u121 53), (u121 54), (u121 55), (u121 56), (u121 57), (u121 58), (u121 59), (u121 60), (u121 61), (u121 62), (u121 63), (u121 64), (u121 65), (u121 66), (u121 67), (u121 68), (u121 69), (u121 70), (u121 71), (u33 72), (u33 73), (u33 74), Ud, Ud] ∧ KpL [gr24, gg122] w113 w' ∧ RowG RI 1 w' gr24 q.1 ∧ OwnQ RI 1 2 gg122 w113.heap.size w' y11 q.2.1 ∧ (∃ r, q.2.1 = el2 :: r ∧ Fld n_ pr_counts pr_beside (numTo n_ pr_counts pr_beside k).1 (k : Int) (numTo n_ pr_counts pr_beside k).2 q.1 (el2 :: r) ∧ Pre pr_counts (pr_beside el2) q.1 q.2.2 ∧ neg q.1 + q.2.1.length = neg s.1 + s.2.length ∧ q.2.2 ≤ (pr_beside el2).length)) (fun q => (pr_beside el2).length - q.2.2) (s.1, s.2, 0) ?_ ?_
          · refine ⟨fun t => (([(Iv (n_ : Int)), (.func (.func f_counts) s_counts c_counts), (.func (.func f_beside) s_beside c_beside), Ud, Ud, Ud, (.slice none 0 0), (Iv 0), (.slice (some ⟨gr24, 0, none⟩) ((List.replicate n_ (iAt ([-1]) 0)).length) q19), (Iv ((numTo n_ pr_counts pr_beside k).2)), (Iv (k : Int)), (.slice p100 s.2.length q101), Ud, (u80 13), (.slice (some ⟨b3, 0, none⟩) 1 1), (Iv (n_ : Int)), (.slice (some ⟨gr24, 0, none⟩) ((List.replicate n_ (iAt ([-1]) 0)).length) q19), (Iv (n_ : Int)), (Iv (k : Int)), (Bo (icmp .lss (k : Int) (n_ : Int))), (Iv (k : Int)), v46, v47, v48, v49, v50, v51, v52, v53, v54, v55, (Bo β1), (.slice (some ⟨gr24, 0, none⟩) ((List.replicate n_ (iAt ([-1]) 0)).length) q19), (Iv (k : Int)), (Iv ((numTo n_ pr_counts pr_beside k).2)), (Pt gr24 (k * 1)), (Iv (k : Int)), (.slice (some ⟨b71, 0, none⟩) 1 1), (.slice p100 s.2.length q101), (Iv (s.2.length : Int)), (Bo (icmp .gtr (s.2.length : Int) 0)), (u80 41), (u80 42), (.func (.func f_beside) s_beside c_beside), (.slice p100 s.2.length q101), (Pt b108 o109), (Iv el2), (.slice p119 ((pr_beside el2).length) q120), (Iv (((pr_beside el2).length) : Int)), (Iv 0), (u80 50), (u80 51), (u80 52), (u80 53), (u80 54), (u80 55), (u80 56), (u80 57), (u80 58), (u80 59), (u80 60), (u80 61), (u80 62), (u80 63), (u80 64), (u80 65), (u80 66), (u80 67), (u80 68), (u80 69), (u80 70), (u80 71), (u33 72), (u33 73), (u33 74), Ud, Ud] : List Value)[t]?).getD undef, (.slice p100 s.2.length q101), rfl, KpL.refl _ _, (RowG.cast (RowG.ext hR99 RI.flat E112) (by (try dsimp only); try rfl)), (OwnQ.cast hO125 (by try rfl)), ?_⟩
            exact ⟨r0, hs2, hs2 ▸ hfd, Pre.start, rfl, Nat.zero_le _⟩
          · rintro q a w133 ⟨u121, y11, rfl, E134, hRg0, hO136, ⟨r1, hq1, hfd1, hpre, hng, hq2⟩⟩
            have X137 := Below.kl X116 E134 (allS g31 (allS g130 all0)) (Nat.le_refl _)
            have hR138 := hRg0; clear hRg0
            obtain ⟨p139, q140, rfl⟩ := OwnQ.shape hO136
            have hH141 : Hang w67.heap.size w133 (fun u => Sl RI 1 u (.slice p139 q.2.1.length q140) q.2.1) := OwnQ.hang hO136 RI.flat (by decide) hN129 (Nat.le_trans (Nat.le_trans (Below.size E74) (KpL.size E95)) (Below.size E112))
            have hql := hfd1.len
            have hqz := hfd1.sz
            refine wp_seq_k fun K142 hK142 => ?_
            refine wp_region_lit ?_
            refine q_is rfl rfl (does_icmp (p := (q.2.2 : Int)) (q := (((pr_beside el2).length) : Int)) (.inr (.inr (.inl rfl))) (ev rfl) (ev rfl)) (by dsimp only [List.set]; try rfl) ?_
            refine wpList_nil (hK142 _ _ ?_)
            refine wp_seq_k fun K143 hK143 => ?_
            refine wp_cond_split (t := icmp .lss (q.2.2 : Int) (((pr_beside el2).length) : Int)) (ev rfl) (fun c144 => ?_) (fun c144 => ?_)
            · have c144' := c144
              (try simp only [hβ1] at c144')
              (try simp only [icmp, Bool.and_eq_true, Bool.or_eq_true, Bool.and_eq_false_iff, Bool.or_eq_false_iff, Bool.not_eq_true', Bool.not_eq_false', decide_eq_true_eq, decide_eq_false_iff_not, beq_iff_eq, bne_iff_ne, beq_eq_false_iff_ne, bne_eq_false_iff_eq] at c144')
              refine wp_skip (hK143 _ _ ?_)
              refine wp_seq_k fun K145 hK145 => ?_
              refine wp_block ?_
              refine wp_seq_k fun K146 hK146 => ?_
              refine wp_region_lit ?_
              obtain ⟨el3, hel3⟩ : ∃ e, (pr_beside el2)[q.2.2]? = some e := ⟨_, List.getElem?_eq_getElem (by omega)⟩
              refine seqd rfl rfl (does_indexSl (R := RI) (i := (q.2.2 : Int)) (xs := (pr_beside el2)) (e := el3) Try.underlying27 Try.sizeOf2 (ev rfl) (ev rfl) (hh114 _ ((Same.refl _ _).kl E134 (allS (.inl n118) (allS (.inl n132) all0)))) (by omega) hel3) ?_; rintro _ w133 ⟨b147, o148, _, rfl, hc150, rfl, rfl⟩
              show wpList _ _ _ _ (fr [_, _, _, _, _, _, _, _, _, _, _, _, _, _, _, _, _, _, _, _, _, _, _, _, _, _, _, _, _, _, _, _, _, _, _, _, _, _, _, _, _, _, _, _, _, _, _, _, _, _, _, _, _, _, _, _, _, _, _, _, _, _, _, _, _, _, _, _, _, _, _, _, _, _, _, _, _]) _
              refine q_is rfl rfl (does_load (u := (Iv el3)) (ev rfl) Try.isAgg2 (Cells.at hc150 0 rfl)) (by dsimp only [List.set]; try rfl) ?_
              refine q_is rfl rfl (does_assign (u := (Iv el3)) (ev rfl)) (by dsimp only [List.set]; try rfl) ?_
              refine wpList_nil (hK146 _ _ ?_)
              refine wp_seq_k fun K151 hK151 => ?_
              have hrg3 := G.rng el2 hxr.1 hxr.2 el3 (List.mem_of_getElem? hel3)
              obtain ⟨el4, hel4⟩ : ∃ e, q.1[el3.toNat]? = some e := ⟨_, List.getElem?_eq_getElem (by first | assumption | omega | (simp only [numTo_len, List.length_replicate, List.length_set, List.length_set, List.length_replicate]; omega) | (simp only [numTo_len, List.length_replicate, List.length_set, List.length_set, List.length_replicate]; done))⟩
              obtain ⟨β2, hβ2⟩ : ∃ b : Bool, b = ((icmp .lss el4 0) && (pr_counts el3)) := ⟨_, rfl⟩
              refine region_text (
                [Fact.pure [] (fun v => v = (.slice (some ⟨gr24, 0, none⟩) ((List.replicate n_ (iAt ([-1]) 0)).length) q19)),
    Fact.pure [] (fun v => v = (Iv el3)),
    Fact.pure [53, 54] (fun v => v = (Pt gr24 (el3.toNat * 1))),
    Fact.pure [55] (fun v => v = (Iv el4)),
    Fact.pure [56] (fun v => v = (Bo (icmp .lss el4 0))),
    Fact.pure [57] (fun v => v = (Bo (icmp .lss el4 0))),
    Fact.pure [58] (fun v => (icmp .lss el4 0) = true → v = (.func (.func f_counts) s_counts c_counts)),
    Fact.pure [58] (fun v => (icmp .lss el4 0) = true → v = (Iv el3)),
    Fact.pure [60, 59, 58] (fun v => (icmp .lss el4 0) = true → v = (Bo (pr_counts el3))),
    Fact.pure [58, 61] (fun v => v = (Bo β2))]) (by simp [Fact.pure, Fact.mem]) ?_
              refine RW_d _ rfl (fun v => by dsimp only [List.set]; try rfl) (fun u hu hF => ?_) (fun v152 => ?_)
              · clear hF
                refine doesG_un rfl ?_
                refine (does_move (u := (.slice (some ⟨gr24, 0, none⟩) ((List.replicate n_ (iAt ([-1]) 0)).length) q19)) (ev rfl)).mono ?_; rintro _ _ ⟨rfl, rfl⟩
                exact ⟨rfl, Ext.refl _⟩
              refine RW_d _ rfl (fun v => by dsimp only [List.set]; try rfl) (fun u hu hF => ?_) (fun v153 => ?_)
              · clear hF
                refine doesG_un rfl ?_
                refine (does_move (u := (Iv el3)) (ev rfl)).mono ?_; rintro _ _ ⟨rfl, rfl⟩
                exact ⟨rfl, Ext.refl _⟩
              refine RW_d _ rfl (fun v => by dsimp only [List.set]; try rfl) (fun u hu hF => ?_) (fun v154 => ?_)
              · have h53_ : v152 = (.slice (some ⟨gr24, 0, none⟩) ((List.replicate n_ (iAt ([-1]) 0)).length) q19) := hF.1
                have h54_ : v153 = (Iv el3) := hF.2.1
                clear hF
                refine doesG_un rfl ?_
                obtain rfl := h53_
                obtain rfl := h54_
                refine (does_indexOwn (b := gr24) (n := (List.replicate n_ (iAt ([-1]) 0)).length) (i := el3) Try.underlying27 Try.sizeOf2 (ev rfl) (ev rfl) (by omega) (by omega)).mono ?_; rintro _ _ ⟨rfl, rfl⟩
                exact ⟨rfl, Ext.refl _⟩
              refine RW_d _ rfl (fun v => by dsimp only [List.set]; try rfl) (fun u hu hF => ?_) (fun v155 => ?_)
              · have h55_ : v154 = (Pt gr24 (el3.toNat * 1)) := hF.1
                clear hF
                refine doesG_un rfl ?_
                obtain rfl := h55_
                refine (does_loadRowI (xs := q.1) (i := el3.toNat) (e := el4) (ev rfl) Try.isAgg2 (RowG.ext hR138 RI.flat hu) rfl hel4).mono ?_; rintro _ _ ⟨rfl, rfl⟩
                exact ⟨rfl, Ext.refl _⟩
              refine RW_d _ rfl (fun v => by dsimp only [List.set]; try rfl) (fun u hu hF => ?_) (fun v156 => ?_)
              · have h56_ : v155 = (Iv el4) := hF.1
                clear hF
                refine doesG_un rfl ?_
                obtain rfl := h56_
                refine (does_icmp (p := el4) (q := 0) (.inr (.inr (.inl rfl))) (ev rfl) (ev rfl)).mono ?_; rintro _ _ ⟨rfl, rfl⟩
                exact ⟨rfl, Ext.refl _⟩
              refine RW_d _ rfl (fun v => by dsimp only [List.set]; try rfl) (fun u hu hF => ?_) (fun v157 => ?_)
              · have h57_ : v156 = (Bo (icmp .lss el4 0)) := hF.1
                clear hF
                refine doesG_un rfl ?_
                obtain rfl := h57_
                refine (does_move (u := (Bo (icmp .lss el4 0))) (ev rfl)).mono ?_; rintro _ _ ⟨rfl, rfl⟩
                exact ⟨rfl, Ext.refl _⟩
              refine RW_d _ rfl (fun v => by dsimp only [List.set]; try rfl) (fun u hu hF => ?_) (fun v158 => ?_)
              · have h58_ : v157 = (Bo (icmp .lss el4 0)) := hF.1
                clear hF
                obtain rfl := h58_
                refine doesG_g (b := (icmp .lss el4 0)) rfl (yld rfl rfl) (fun hg1 => ?_) (fun hc => ⟨fun hg1 => absurd hg1 hc, Ext.refl _⟩)
                refine (does_move (u := (.func (.func f_counts) s_counts c_counts)) (ev rfl)).mono ?_; rintro _ _ ⟨rfl, rfl⟩
                exact ⟨fun _ => rfl, Ext.refl _⟩
              refine RW_d _ rfl (fun v => by dsimp only [List.set]; try rfl) (fun u hu hF => ?_) (fun v159 => ?_)
              · have h58_ : v157 = (Bo (icmp .lss el4 0)) := hF.1
                clear hF
                obtain rfl := h58_
                refine doesG_g (b := (icmp .lss el4 0)) rfl (yld rfl rfl) (fun hg1 => ?_) (fun hc => ⟨fun hg1 => absurd hg1 hc, Ext.refl _⟩)
                refine (does_move (u := (Iv el3)) (ev rfl)).mono ?_; rintro _ _ ⟨rfl, rfl⟩
                exact ⟨fun _ => rfl, Ext.refl _⟩
              refine RW_d _ rfl (fun v => by dsimp only [List.set]; try rfl) (fun u hu hF => ?_) (fun v160 => ?_)
              · have h60_ : (icmp .lss el4 0) = true → v159 = (Iv el3) := hF.1
                have h59_ : (icmp .lss el4 0) = true → v158 = (.func (.func f_counts) s_counts c_counts) := hF.2.1
                have h58_ : v157 = (Bo (icmp .lss el4 0)) := hF.2.2.1
                clear hF
                obtain rfl := h58_
                refine doesG_g (b := (icmp .lss el4 0)) rfl (yld rfl rfl) (fun hg1 => ?_) (fun hc => ⟨fun hg1 => absurd hg1 hc, Ext.refl _⟩)
                obtain rfl := h60_ hg1
                obtain rfl := h59_ hg1
                refine (does_callf (args := #[(Iv el3)]) (ev rfl) hcal_counts (evs rfl) (hg_counts el3 _ (by exact hD1 _ (by omega)) (Ext.gr X137 hu))).mono ?_; rintro v u' ⟨hx, hv⟩
                exact ⟨fun _ => hv, hx⟩
              refine RW_d _ rfl (fun v => by dsimp only [List.set]; try rfl) (fun u hu hF => ?_) (fun v161 => ?_)
              · have h58_ : v157 = (Bo (icmp .lss el4 0)) := hF.1
                have h61_ : (icmp .lss el4 0) = true → v160 = (Bo (pr_counts el3)) := hF.2.1
                clear hF
                refine doesG_un rfl ?_
                skip
                obtain rfl := h58_
                refine (does_pick (b := (icmp .lss el4 0)) (u := v160) (v := (Bo false)) (ev rfl) (ev rfl) (ev rfl)).mono ?_; rintro _ _ ⟨rfl, rfl⟩; refine ⟨?_, Ext.refl _⟩; rw [hβ2]; skip
                cases hbb : (icmp .lss el4 0)
                all_goals first | (show _ = _; simp only [↓reduceIte, Bool.true_and, Bool.false_and, Bool.true_or, Bool.false_or, Bool.false_eq_true]; done) | (have e_ := h61_ hbb; subst e_; show _ = _; simp only [↓reduceIte, Bool.true_and, Bool.false_and, Bool.true_or, Bool.false_or, Bool.false_eq_true]; done) | rfl | (have e_ := h61_ hbb; subst e_; rfl) | (simp [hbb] at h61_ ⊢; first | done | rfl | (subst h61_; rfl) | simp_all) | (simp [hbb] at h61_ ⊢; done)
              refine RW_fin ?_; intro w162 E163 hP164
              obtain ⟨⟨⟨⟨⟨⟨⟨⟨⟨⟨-, -⟩, -⟩, -⟩, -⟩, -⟩, -⟩, -⟩, -⟩, -⟩, q165⟩ := hP164
              have X166 := Ext.gr X137 E163
              have q165 : v161 = (Bo β2) := q165
              obtain rfl := q165
              show wpList _ _ _ _ (fr [_, _, _, _, _, _, _, _, _, _, _, _, _, _, _, _, _, _, _, _, _, _, _, _, _, _, _, _, _, _, _, _, _, _, _, _, _, _, _, _, _, _, _, _, _, _, _, _, _, _, _, _, _, _, _, _, _, _, _, _, _, _, _, _, _, _, _, _, _, _, _, _, _, _, _, _, _]) _
              refine wpList_nil (hK151 _ _ ?_)
              refine wp_cond_split (t := β2) (ev rfl) (fun c167 => ?_) (fun c167 => ?_)
              · have c167' := c167
                (try simp only [hβ1, hβ2] at c167')
                (try simp only [icmp, Bool.and_eq_true, Bool.or_eq_true, Bool.and_eq_false_iff, Bool.or_eq_false_iff, Bool.not_eq_true', Bool.not_eq_false', decide_eq_true_eq, decide_eq_false_iff_not, beq_iff_eq, bne_iff_ne, beq_eq_false_iff_ne, bne_eq_false_iff_eq] at c167')
                have hput : el4 < 0 ∧ pr_counts el3 = true := c167'
                have hng2 := neg_set hel4 hput.1 hkm.1
                refine wp_seq_k fun K168 hK168 => ?_
                refine wp_region_lit ?_
                refine q_is rfl rfl (does_move (u := (.slice (some ⟨gr24, 0, none⟩) ((List.replicate n_ (iAt ([-1]) 0)).length) q19)) (ev rfl)) (by dsimp only [List.set]; try rfl) ?_
                refine q_is rfl rfl (does_move (u := (Iv el3)) (ev rfl)) (by dsimp only [List.set]; try rfl) ?_
                refine q_is rfl rfl (does_move (u := (Iv ((numTo n_ pr_counts pr_beside k).2))) (ev rfl)) (by dsimp only [List.set]; try rfl) ?_
                refine q_is rfl rfl (does_indexOwn (b := gr24) (n := (List.replicate n_ (iAt ([-1]) 0)).length) (i := el3) Try.underlying27 Try.sizeOf2 (ev rfl) (ev rfl) (by omega) (by omega)) (by dsimp only [List.set]; try rfl) ?_
                refine seqn rfl rfl (does_storeRowG (R := RI) (k := 1) (xs := q.1) (i := el3.toNat) (u := (Iv ((numTo n_ pr_counts pr_beside k).2))) (e := ((numTo n_ pr_counts pr_beside k).2)) (ev rfl) (ev rfl) Try.sizeOf2 rfl rfl RI.flat (RowG.ext hR138 RI.flat E163) rfl (by first | assumption | omega | (simp only [numTo_len, List.length_replicate, List.length_set, List.length_set, List.length_replicate]; omega) | (simp only [numTo_len, List.length_replicate, List.length_set, List.length_set, List.length_replicate]; done)) rfl) ?_; rintro _ w171 ⟨rfl, W169, hR170⟩
                have X172 := Below.wr X166 W169 g31
                refine wpList_nil (hK168 _ _ ?_)
                refine wp_region_lit ?_
                refine q_is rfl rfl (does_move (u := (.slice p139 q.2.1.length q140)) (ev rfl)) (by dsimp only [List.set]; try rfl) ?_
                refine q_is rfl rfl (does_move (u := (Iv el3)) (ev rfl)) (by dsimp only [List.set]; try rfl) ?_
                refine seqd rfl rfl (does_buildSlice (e := 2) (parts' := [(0, (Iv el3))]) (cells := [(Iv el3)]) (evp rfl) (fun _ => by kernel_rfl)) ?_; rintro _ w177 ⟨b173, rfl, hb174, hB175, E176⟩
                have n178 : b3 < b173 := Nat.lt_of_lt_of_le (Blk.lt ((((((((((hB5.ext E10).kl E35 (ninS n30 nin0)).ext E58).wr W65 n30).ext E74).kl E95 (ninS n30 (ninS (by omega) nin0))).ext E112).kl E134 (ninS n30 (ninS (by omega) nin0))).ext E163).wr W169 n30)) hb174
                have n179 : gr24 < b173 := Nat.lt_of_lt_of_le (RowG.lt hR170) hb174
                have g180 : w.heap.size ≤ b173 := Nat.le_trans (Below.size X172) hb174
                have X181 := Ext.gr X172 E176
                show wpList _ _ _ _ (fr [_, _, _, _, _, _, _, _, _, _, _, _, _, _, _, _, _, _, _, _, _, _, _, _, _, _, _, _, _, _, _, _, _, _, _, _, _, _, _, _, _, _, _, _, _, _, _, _, _, _, _, _, _, _, _, _, _, _, _, _, _, _, _, _, _, _, _, _, _, _, _, _, _, _, _, _, _]) _
                refine seqd rfl rfl (does_appendQ (R := RI) (k := 1) (g0 := gg122) (B := w113.heap.size) (xs := q.2.1) (x := el3) Try.underlying27 inf2 rfl (ev rfl) (ev rfl) (OwnQ.ext (OwnQ.kl (OwnQ.ext hO136 RI.flat E163) RI.flat (KpL.of_wr W169) (allS ⟨(by omega), .inl n127⟩ all0)) RI.flat E176) RI.flat hB175 rfl rfl (by first | omega | omega) (Nat.le_trans (Nat.le_trans (Nat.le_trans (KpL.size E134) (Below.size E163)) (Nat.le_of_eq (Eq.symm (Wr.size W169)))) (Below.size E176))) ?_; rintro y' w182 ⟨gg183, hg184, K185, hO186⟩
                have hN187 : w67.heap.size ≤ gg183 := by rcases hg184 with h | h; exact h ▸ hN129; exact Nat.le_trans (Nat.le_trans (Nat.le_trans (Below.size E74) (KpL.size E95)) (Below.size E112)) h
                have g188 : w.heap.size ≤ gg183 := Nat.le_trans (Nat.le_trans (Nat.le_trans (Nat.le_trans (Nat.le_trans (Below.size E6) (Below.size E10)) (KpL.size E35)) (Below.size E58)) (Nat.le_of_eq (Eq.symm (Wr.size W65)))) hN187
                have X189 := Below.kl X181 K185 (allS g188 all0) (Nat.le_refl _)
                obtain ⟨p190, q191, rfl⟩ := OwnQ.shape hO186
                have hH192 : Hang w67.heap.size w182 (fun u => Sl RI 1 u (.slice p190 ((q.2.1 ++ [el3]).length) q191) (q.2.1 ++ [el3])) := OwnQ.hang hO186 RI.flat (by decide) hN129 (Nat.le_trans (Nat.le_trans (Below.size E74) (KpL.size E95)) (Below.size E112))
                show wpList _ _ _ _ (fr [_, _, _, _, _, _, _, _, _, _, _, _, _, _, _, _, _, _, _, _, _, _, _, _, _, _, _, _, _, _, _, _, _, _, _, _, _, _, _, _, _, _, _, _, _, _, _, _, _, _, _, _, _, _, _, _, _, _, _, _, _, _, _, _, _, _, _, _, _, _, _, _, _, _, _, _, _]) _
                refine q_is rfl rfl (does_assign (u := (.slice p190 ((q.2.1 ++ [el3]).length) q191)) (ev rfl)) (by dsimp only [List.set]; try rfl) ?_
                refine wpList_nil (hK145 _ _ ?_)
                refine wp_region_lit ?_
                refine q_is rfl rfl (does_iarith (p := (q.2.2 : Int)) (q := 1) (r := (q.2.2 : Int) + 1) (ev rfl) (ev rfl) (.inl ⟨rfl, (in_i64 (by omega) (by omega)).symm⟩)) (by dsimp only [List.set]; try rfl) ?_
                refine q_is rfl rfl (does_move (u := (Iv ((q.2.2 : Int) + 1))) (ev rfl)) (by dsimp only [List.set]; try rfl) ?_
                refine wpList_nil ?_
                have hR193 := RowG.cast (ys := ((fun (q : List Int × List Int × Nat) => q.1) ((q.1.set el3.toNat ((numTo n_ pr_counts pr_beside k).2)), q.2.1 ++ [el3], q.2.2 + 1))) (RowG.kl (RowG.ext hR170 RI.flat E176) RI.flat K185 (ninS (by omega) nin0)) (by (try dsimp only); try rfl)
                have hO194 := OwnQ.cast (ys := ((fun (q : List Int × List Int × Nat) => q.2.1) ((q.1.set el3.toNat ((numTo n_ pr_counts pr_beside k).2)), q.2.1 ++ [el3], q.2.2 + 1))) hO186 (by (try dsimp only); try rfl)
                refine ⟨((q.1.set el3.toNat ((numTo n_ pr_counts pr_beside k).2)), q.2.1 ++ [el3], q.2.2 + 1), ⟨fun t => (([(Iv (n_ : Int)), (.func (.func f_counts) s_counts c_counts), (.func (.func f_beside) s_beside c_beside), Ud, Ud, Ud, (.slice none 0 0), (Iv 0), (.slice (some ⟨gr24, 0, none⟩) ((List.replicate n_ (iAt ([-1]) 0)).length) q19), (Iv ((numTo n_ pr_counts pr_beside k).2)), (Iv (k : Int)), (.slice p190 ((q.2.1 ++ [el3]).length) q191), Ud, (Iv el3), (.slice (some ⟨b3, 0, none⟩) 1 1), (Iv (n_ : Int)), (.slice (some ⟨gr24, 0, none⟩) ((List.replicate n_ (iAt ([-1]) 0)).length) q19), (Iv (n_ : Int)), (Iv (k : Int)), (Bo (icmp .lss (k : Int) (n_ : Int))), (Iv (k : Int)), v46, v47, v48, v49, v50, v51, v52, v53, v54, v55, (Bo β1), (.slice (some ⟨gr24, 0, none⟩) ((List.replicate n_ (iAt ([-1]) 0)).length) q19), (Iv (k : Int)), (Iv ((numTo n_ pr_counts pr_beside k).2)), (Pt gr24 (k * 1)), (Iv (k : Int)), (.slice (some ⟨b71, 0, none⟩) 1 1), (.slice p100 s.2.length q101), (Iv (s.2.length : Int)), (Bo (icmp .gtr (s.2.length : Int) 0)), (u80 41), (u80 42), (.func (.func f_beside) s_beside c_beside), (.slice p100 s.2.length q101), (Pt b108 o109), (Iv el2), (.slice p119 ((pr_beside el2).length) q120), (Iv (((pr_beside el2).length) : Int)), (Iv ((q.2.2 : Int) + 1)), (Bo (icmp .lss (q.2.2 : Int) (((pr_beside el2).length) : Int))), (Pt b147 o148), (Iv el3), v152, v153, v154, v155, v156, v157, v158, v159, v160, (Bo β2), (.slice (some ⟨gr24, 0, none⟩) ((List.replicate n_ (iAt ([-1]) 0)).length) q19), (Iv el3), (Iv ((numTo n_ pr_counts pr_beside k).2)), (Pt gr24 (el3.toNat * 1)), (.slice p139 q.2.1.length q140), (Iv el3), (.slice (some ⟨b173, 0, none⟩) 1 1), (.slice p190 ((q.2.1 ++ [el3]).length) q191), (Iv ((q.2.2 : Int) + 1)), (u33 72), (u33 73), (u33 74), Ud, Ud] : List Value)[t]?).getD undef, (.slice p190 ((q.2.1 ++ [el3]).length) q191), ?_, (KpL.more (KpL.ext (KpL.more (KpL.ext E134 E163) (KpL.of_wr W169) (allS (.inl (by simp)) all0)) E176) K185 (allS (hg184.imp (fun h => by simp [h]) id) all0)), hR193, hO194, ?_⟩, ?_⟩
                · first | rfl | (simp only [Int.natCast_add, Int.natCast_one]; rfl)
                · (try dsimp only); first | exact ⟨r1 ++ [el3], by simp [hq1], hfd1.put (List.mem_of_getElem? hel3) hput.2 hrg3 hel4 hput.1 hkm.1, hpre.put hel3 (by omega) hkm.1, by simp only [List.length_append, List.length_cons, List.length_nil]; omega, by (try dsimp only); omega⟩ | exact ⟨r1, hq1, hfd1, hpre.skip hel3 hnput, hng, by (try dsimp only); omega⟩
                · (try dsimp only); omega
              have c167' := c167
              (try simp only [hβ1, hβ2] at c167')
              (try simp only [icmp, Bool.and_eq_true, Bool.or_eq_true, Bool.and_eq_false_iff, Bool.or_eq_false_iff, Bool.not_eq_true', Bool.not_eq_false', decide_eq_true_eq, decide_eq_false_iff_not, beq_iff_eq, bne_iff_ne, beq_eq_false_iff_ne, bne_eq_false_iff_eq] at c167')
              have hnput : pr_counts el3 = true → 0 ≤ iAt q.1 el3.toNat := fun hc => by rw [show iAt q.1 el3.toNat = el4 by simp [iAt, hel4]]; rcases c167' with h | h; omega; rw [hc] at h; cases h
              refine wp_skip (hK145 _ _ ?_)
              refine wp_region_lit ?_
              refine q_is rfl rfl (does_iarith (p := (q.2.2 : Int)) (q := 1) (r := (q.2.2 : Int) + 1) (ev rfl) (ev rfl) (.inl ⟨rfl, (in_i64 (by omega) (by omega)).symm⟩)) (by dsimp only [List.set]; try rfl) ?_
              refine q_is rfl rfl (does_move (u := (Iv ((q.2.2 : Int) + 1))) (ev rfl)) (by dsimp only [List.set]; try rfl) ?_
              refine wpList_nil ?_
              have hR195 := RowG.cast (ys := ((fun (q : List Int × List Int × Nat) => q.1) (q.1, q.2.1, q.2.2 + 1))) (RowG.ext hR138 RI.flat E163) (by (try dsimp only); try rfl)
              have hO196 := OwnQ.cast (ys := ((fun (q : List Int × List Int × Nat) => q.2.1) (q.1, q.2.1, q.2.2 + 1))) (OwnQ.same hO136 RI.flat ((Same.refl _ _).ext E163) hN129 (Nat.le_trans (Nat.le_trans (Below.size E74) (KpL.size E95)) (Below.size E112))) (by (try dsimp only); try rfl)
              refine ⟨(q.1, q.2.1, q.2.2 + 1), ⟨fun t => (([(Iv (n_ : Int)), (.func (.func f_counts) s_counts c_counts), (.func (.func f_beside) s_beside c_beside), Ud, Ud, Ud, (.slice none 0 0), (Iv 0), (.slice (some ⟨gr24, 0, none⟩) ((List.replicate n_ (iAt ([-1]) 0)).length) q19), (Iv ((numTo n_ pr_counts pr_beside k).2)), (Iv (k : Int)), (.slice p139 q.2.1.length q140), Ud, (Iv el3), (.slice (some ⟨b3, 0, none⟩) 1 1), (Iv (n_ : Int)), (.slice (some ⟨gr24, 0, none⟩) ((List.replicate n_ (iAt ([-1]) 0)).length) q19), (Iv (n_ : Int)), (Iv (k : Int)), (Bo (icmp .lss (k : Int) (n_ : Int))), (Iv (k : Int)), v46, v47, v48, v49, v50, v51, v52, v53, v54, v55, (Bo β1), (.slice (some ⟨gr24, 0, none⟩) ((List.replicate n_ (iAt ([-1]) 0)).length) q19), (Iv (k : Int)), (Iv ((numTo n_ pr_counts pr_beside k).2)), (Pt gr24 (k * 1)), (Iv (k : Int)), (.slice (some ⟨b71, 0, none⟩) 1 1), (.slice p100 s.2.length q101), (Iv (s.2.length : Int)), (Bo (icmp .gtr (s.2.length : Int) 0)), (u80 41), (u80 42), (.func (.func f_beside) s_beside c_beside), (.slice p100 s.2.length q101), (Pt b108 o109), (Iv el2), (.slice p119 ((pr_beside el2).length) q120), (Iv (((pr_beside el2).length) : Int)), (Iv ((q.2.2 : Int) + 1)), (Bo (icmp .lss (q.2.2 : Int) (((pr_beside el2).length) : Int))), (Pt b147 o148), (Iv el3), v152, v153, v154, v155, v156, v157, v158, v159, v160, (Bo β2), (u121 63), (u121 64), (u121 65), (u121 66), (u121 67), (u121 68), (u121 69), (u121 70), (Iv ((q.2.2 : Int) + 1)), (u33 72), (u33 73), (u33 74), Ud, Ud] : List Value)[t]?).getD undef, (.slice p139 q.2.1.length q140), ?_, (KpL.ext E134 E163), hR195, hO196, ?_⟩, ?_⟩
              · first | rfl | (simp only [Int.natCast_add, Int.natCast_one]; rfl)
              · (try dsimp only); first | exact ⟨r1 ++ [el3], by simp [hq1], hfd1.put (List.mem_of_getElem? hel3) hput.2 hrg3 hel4 hput.1 hkm.1, hpre.put hel3 (by omega) hkm.1, by simp only [List.length_append, List.length_cons, List.length_nil]; omega, by (try dsimp only); omega⟩ | exact ⟨r1, hq1, hfd1, hpre.skip hel3 hnput, hng, by (try dsimp only); omega⟩
              · (try dsimp only); omega
            have c144' := c144
            (try simp only [hβ1] at c144')
            (try simp only [icmp, Bool.and_eq_true, Bool.or_eq_true, Bool.and_eq_false_iff, Bool.or_eq_false_iff, Bool.not_eq_true', Bool.not_eq_false', decide_eq_true_eq, decide_eq_false_iff_not, beq_iff_eq, bne_iff_ne, beq_eq_false_iff_ne, bne_eq_false_iff_eq] at c144')
            refine wp_exit ?_
            refine hK106 _ _ ?_
            refine wp_region_lit ?_
            refine q_is rfl rfl (does_move (u := (.slice p139 q.2.1.length q140)) (ev rfl)) (by dsimp only [List.set]; try rfl) ?_
            refine seqd rfl rfl (does_tailQ (R := RI) (k := 1) (g0 := gg122) (B := w113.heap.size) (e := 2) (z := el2) (xs := r1) Try.underlying27 Try.sizeOf2 (ev rfl) (ev rfl) (OwnQ.cast hO136 (by exact hq1))) ?_; rintro y' w198 ⟨hw199, hO197⟩
            subst hw199
            obtain ⟨p200, q201, rfl⟩ := OwnQ.shape hO197
            have hH202 : Hang w67.heap.size w133 (fun u => Sl RI 1 u (.slice p200 r1.length q201) r1) := OwnQ.hang hO197 RI.flat (by decide) hN129 (Nat.le_trans (Nat.le_trans (Below.size E74) (KpL.size E95)) (Below.size E112))
            show wpList _ _ _ _ (fr [_, _, _, _, _, _, _, _, _, _, _, _, _, _, _, _, _, _, _, _, _, _, _, _, _, _, _, _, _, _, _, _, _, _, _, _, _, _, _, _, _, _, _, _, _, _, _, _, _, _, _, _, _, _, _, _, _, _, _, _, _, _, _, _, _, _, _, _, _, _, _, _, _, _, _, _, _]) _
            refine q_is rfl rfl (does_assign (u := (.slice p200 r1.length q201)) (ev rfl)) (by dsimp only [List.set]; try rfl) ?_
            refine wpList_nil ?_
            have hR203 := RowG.cast (ys := ((fun (s : List Int × List Int) => s.1) (q.1, r1))) hR138 (by (try dsimp only); try rfl)
            have hO204 := OwnQ.cast (ys := ((fun (s : List Int × List Int) => s.2) (q.1, r1))) (OwnQ.back hO197 hg123 (Nat.le_trans (KpL.size E95) (Below.size E112))) (by (try dsimp only); try rfl)
            refine ⟨(q.1, r1), ⟨fun t => (([(Iv (n_ : Int)), (.func (.func f_counts) s_counts c_counts), (.func (.func f_beside) s_beside c_beside), Ud, Ud, Ud, (.slice none 0 0), (Iv 0), (.slice (some ⟨gr24, 0, none⟩) ((List.replicate n_ (iAt ([-1]) 0)).length) q19), (Iv ((numTo n_ pr_counts pr_beside k).2)), (Iv (k : Int)), (.slice p200 r1.length q201), Ud, (u121 13), (.slice (some ⟨b3, 0, none⟩) 1 1), (Iv (n_ : Int)), (.slice (some ⟨gr24, 0, none⟩) ((List.replicate n_ (iAt ([-1]) 0)).length) q19), (Iv (n_ : Int)), (Iv (k : Int)), (Bo (icmp .lss (k : Int) (n_ : Int))), (Iv (k : Int)), v46, v47, v48, v49, v50, v51, v52, v53, v54, v55, (Bo β1), (.slice (some ⟨gr24, 0, none⟩) ((List.replicate n_ (iAt ([-1]) 0)).length) q19), (Iv (k : Int)), (Iv ((numTo n_ pr_counts pr_beside k).2)), (Pt gr24 (k * 1)), (Iv (k : Int)), (.slice (some ⟨b71, 0, none⟩) 1 1), (.slice p100 s.2.length q101), (Iv (s.2.length : Int)), (Bo (icmp .gtr (s.2.length : Int) 0)), (.slice p139 q.2.1.length q140), (.slice p200 r1.length q201), (.func (.func f_beside) s_beside c_beside), (.slice p100 s.2.length q101), (Pt b108 o109), (Iv el2), (.slice p119 ((pr_beside el2).length) q120), (Iv (((pr_beside el2).length) : Int)), (Iv (q.2.2 : Int)), (Bo (icmp .lss (q.2.2 : Int) (((pr_beside el2).length) : Int))), (u121 51), (u121 52), (u121 53), (u121 54), (u121 55), (u121 56), (u121 57), (u121 58), (u121 59), (u121 60), (u121 61), (u121 62), (u121 63), (u121 64), (u121 65), (u121 66), (u121 67), (u121 68), (u121 69), (u121 70), (u121 71), (u33 72), (u33 73), (u33 74), Ud, Ud] : List Value)[t]?).getD undef, (.slice p200 r1.length q201), ?_, (KpL.more (KpL.ext E95 E112) E134 (allS (.inl (by simp)) (allS (hg123.imp (fun h => by simp [h]) id) all0))), hR203, hO204, ?_⟩, ?_⟩
            · first | rfl | (simp only [Int.natCast_add, Int.natCast_one]; rfl)
            · (try dsimp only); exact hfd1.pop (hpre.all (by omega))
            · (rw [hq1] at hng; simp only [List.length_cons] at hng; (try dsimp only); omega)
        have c105' := c105
        (try simp only [hβ1] at c105')
        (try simp only [icmp, Bool.and_eq_true, Bool.or_eq_true, Bool.and_eq_false_iff, Bool.or_eq_false_iff, Bool.not_eq_true', Bool.not_eq_false', decide_eq_true_eq, decide_eq_false_iff_not, beq_iff_eq, bne_iff_ne, beq_eq_false_iff_ne, bne_eq_false_iff_eq] at c105')
        have hs0 : s.2 = [] := List.eq_nil_of_length_eq_zero (by omega)
        refine wp_exit ?_
        refine hK69 _ _ ?_
        refine wp_region_lit ?_
        refine q_is rfl rfl (does_move (u := (Iv ((numTo n_ pr_counts pr_beside k).2))) (ev rfl)) (by dsimp only [List.set]; try rfl) ?_
        refine q_is rfl rfl (does_iarith (p := (numTo n_ pr_counts pr_beside k).2) (q := 1) (r := ((numTo n_ pr_counts pr_beside k).2) + 1) (ev rfl) (ev rfl) (.inl ⟨rfl, (in_i64 (by omega) (by omega)).symm⟩)) (by dsimp only [List.set]; try rfl) ?_
        refine q_is rfl rfl (does_assign (u := (Iv (((numTo n_ pr_counts pr_beside k).2) + 1))) (ev rfl)) (by dsimp only [List.set]; try rfl) ?_
        refine wpList_nil (hK42 _ _ ?_)
        refine wp_region_lit ?_
        refine q_is rfl rfl (does_iarith (p := (k : Int)) (q := 1) (r := (k : Int) + 1) (ev rfl) (ev rfl) (.inl ⟨rfl, (in_i64 (by omega) (by omega)).symm⟩)) (by dsimp only [List.set]; try rfl) ?_
        refine q_is rfl rfl (does_move (u := (Iv ((k : Int) + 1))) (ev rfl)) (by dsimp only [List.set]; try rfl) ?_
        refine wpList_nil ?_
        have hR205 := RowG.cast (ys := ((fun (k : Nat) => (numTo n_ pr_counts pr_beside k).1) (k + 1))) hR99 (by (try dsimp only); first | exact (congrArg Prod.fst (numTo_skip hsk)).symm | (rw [numTo_new hn1 hnw.2]; exact Fld.finish G (by omega) hnw.2 hfr (hs0 ▸ hfd)))
        refine ⟨k + 1, ⟨fun t => (([(Iv (n_ : Int)), (.func (.func f_counts) s_counts c_counts), (.func (.func f_beside) s_beside c_beside), Ud, Ud, Ud, (.slice none 0 0), (Iv 0), (.slice (some ⟨gr24, 0, none⟩) ((List.replicate n_ (iAt ([-1]) 0)).length) q19), (Iv (((numTo n_ pr_counts pr_beside k).2) + 1)), (Iv (k : Int)), (.slice p100 s.2.length q101), Ud, (u80 13), (.slice (some ⟨b3, 0, none⟩) 1 1), (Iv (n_ : Int)), (.slice (some ⟨gr24, 0, none⟩) ((List.replicate n_ (iAt ([-1]) 0)).length) q19), (Iv (n_ : Int)), (Iv ((k : Int) + 1)), (Bo (icmp .lss (k : Int) (n_ : Int))), (Iv (k : Int)), v46, v47, v48, v49, v50, v51, v52, v53, v54, v55, (Bo β1), (.slice (some ⟨gr24, 0, none⟩) ((List.replicate n_ (iAt ([-1]) 0)).length) q19), (Iv (k : Int)), (Iv ((numTo n_ pr_counts pr_beside k).2)), (Pt gr24 (k * 1)), (Iv (k : Int)), (.slice (some ⟨b71, 0, none⟩) 1 1), (.slice p100 s.2.length q101), (Iv (s.2.length : Int)), (Bo (icmp .gtr (s.2.length : Int) 0)), (u80 41), (u80 42), (u80 43), (u80 44), (u80 45), (u80 46), (u80 47), (u80 48), (u80 49), (u80 50), (u80 51), (u80 52), (u80 53), (u80 54), (u80 55), (u80 56), (u80 57), (u80 58), (u80 59), (u80 60), (u80 61), (u80 62), (u80 63), (u80 64), (u80 65), (u80 66), (u80 67), (u80 68), (u80 69), (u80 70), (u80 71), (Iv ((numTo n_ pr_counts pr_beside k).2)), (Iv (((numTo n_ pr_counts pr_beside k).2) + 1)), (Iv ((k : Int) + 1)), Ud, Ud] : List Value)[t]?).getD undef, ?_, (KpL.more (KpL.ext (KpL.more (KpL.ext E35 E58) (KpL.of_wr W65) (allS (.inl (by simp)) all0)) E74) E95 (allS (.inl (by simp)) (allS (.inr (Nat.le_trans (KpL.more (KpL.ext E35 E58) (KpL.of_wr W65) (allS (.inl (by simp)) all0)).size hN91)) all0))), hR205, ?_⟩, ?_⟩
        · first | (rw [numTo_skip hsk]; rfl) | (rw [numTo_new hn1 hnw.2]; rfl)
        · omega
        · omega
    have c41' := c41
    (try simp only [icmp, Bool.and_eq_true, Bool.or_eq_true, Bool.and_eq_false_iff, Bool.or_eq_false_iff, Bool.not_eq_true', Bool.not_eq_false', decide_eq_true_eq, decide_eq_false_iff_not, beq_iff_eq, bne_iff_ne, beq_eq_false_iff_ne, bne_eq_false_iff_eq] at c41')
    refine wp_exit ?_
    refine hK21 _ _ ?_
    refine wp_seq_k fun K206 hK206 => ?_
    refine wp_region_lit ?_
    refine q_is rfl rfl (does_move (u := (.slice (some ⟨gr24, 0, none⟩) ((List.replicate n_ (iAt ([-1]) 0)).length) q19)) (ev rfl)) (by dsimp only [List.set]; try rfl) ?_
    refine q_is rfl rfl (does_move (u := (Iv ((numTo n_ pr_counts pr_beside k).2))) (ev rfl)) (by dsimp only [List.set]; try rfl) ?_
    refine q_is rfl rfl (does_assign (u := (.slice (some ⟨gr24, 0, none⟩) ((List.replicate n_ (iAt ([-1]) 0)).length) q19)) (ev rfl)) (by dsimp only [List.set]; try rfl) ?_
    refine q_is rfl rfl (does_assign (u := (Iv ((numTo n_ pr_counts pr_beside k).2))) (ev rfl)) (by dsimp only [List.set]; try rfl) ?_
    refine wpList_nil (hK206 _ _ ?_)
    refine wp_ret ?_
    refine ret_val (v := (.tuple #[(.slice (some ⟨gr24, 0, none⟩) ((List.replicate n_ (iAt ([-1]) 0)).length) q19), (Iv ((numTo n_ pr_counts pr_beside k).2))])) (res_TT rfl (slot rfl) (slot rfl)) X37 ?_
    have x207 : ((numTo n_ pr_counts pr_beside n_).2 : Int) = ((numTo n_ pr_counts pr_beside k).2) := by first | rfl | (rw [show k = n_ by omega])
    have x208 : ((numTo n_ pr_counts pr_beside k).1) = ((numTo n_ pr_counts pr_beside n_).1) := by first | rfl | (rw [show k = n_ by omega])
    have x209 : ((numTo n_ pr_counts pr_beside k).1) = ((numTo n_ pr_counts pr_beside n_).1) := by first | rfl | (rw [show k = n_ by omega])
    exact ⟨(.slice (some ⟨gr24, 0, none⟩) ((List.replicate n_ (iAt ([-1]) 0)).length) q19), [gr24], (by first | with_reducible rfl | rw [x207] | rfl), (Hang.castL (RowG.hang hR38 RI.flat (by first | assumption | omega | (simp only [numTo_len, List.length_replicate, List.length_set, List.length_set, List.length_replicate]; omega) | (simp only [numTo_len, List.length_replicate, List.length_set, List.length_set, List.length_replicate]; done)) g31 hcap28 (by omega) (by decide)) x208), (WL.cast (WL.cast (RowG.wl hR38 (by first | assumption | omega | (simp only [numTo_len, List.length_replicate, List.length_set, List.length_set, List.length_replicate]; omega) | (simp only [numTo_len, List.length_replicate, List.length_set, List.length_set, List.length_replicate]; done)) g31 hcap28) (by first | rfl | (symm; first | assumption | omega | (simp only [numTo_len, List.length_replicate, List.length_set, List.length_set, List.length_replicate]; omega) | (simp only [numTo_len, List.length_replicate, List.length_set, List.length_set, List.length_replicate]; done)))) (congrArg List.length x209))⟩

/- slices.IndexFunc[[]float32,float32] -/
theorem c_slices_IndexFunc_float32_float32 (xs : Value) (L_xs : List Nat) (f : Value) (pr_f : Nat → Bool) (w : World) (hv_xs : Sl RF 1 w xs L_xs) (hv_f : TellsF Try.prog f w pr_f) : Gives Try.prog 72 #[xs, f] w (fun v w' => v = (Iv (findI pr_f L_xs))) := by
  have hlen_xs := Sl.len hv_xs; obtain ⟨p_xs, q_xs, rfl⟩ := Sl.shape hv_xs
  obtain ⟨f_f, s_f, c_f, rfl, hcal_f, hg_f⟩ := hv_f
  refine enter [(.slice p_xs L_xs.length q_xs), (.func (.func f_f) s_f c_f), Ud, Ud, Ud, Ud, Ud, Ud, Ud, Ud, Ud, Ud, Ud, Ud, Ud, Ud, Ud, Ud, Ud] Try.func72 rfl Try.ntmps72 rfl ?_
  refine wp_seq_k fun K1 hK1 => ?_
  refine wp_region_lit ?_
  refine q_is (l' := [(.slice p_xs L_xs.length q_xs), (.func (.func f_f) s_f c_f), Ud, Ud, (Iv 0), Ud, Ud, Ud, Ud, Ud, Ud, Ud, Ud, Ud, Ud, Ud, Ud, Ud, Ud]) rfl rfl (does_assign (u := (Iv 0)) (ev rfl)) rfl ?_
  refine wpList_nil (hK1 _ _ ?_)
  refine wp_seq_k fun K2 hK2 => ?_
  refine wp_seq_k fun K3 hK3 => ?_
  refine wp_region_lit ?_
  refine q_is (l' := [(.slice p_xs L_xs.length q_xs), (.func (.func f_f) s_f c_f), Ud, Ud, (Iv 0), Ud, (.slice p_xs L_xs.length q_xs), Ud, Ud, Ud, Ud, Ud, Ud, Ud, Ud, Ud, Ud, Ud, Ud]) rfl rfl (does_move (u := (.slice p_xs L_xs.length q_xs)) (ev rfl)) rfl ?_
  refine q_is (l' := [(.slice p_xs L_xs.length q_xs), (.func (.func f_f) s_f c_f), Ud, Ud, (Iv 0), Ud, (.slice p_xs L_xs.length q_xs), (Iv (L_xs.length : Int)), Ud, Ud, Ud, Ud, Ud, Ud, Ud, Ud, Ud, Ud, Ud]) rfl rfl (does_len_slice Try.underlying42 (ev rfl)) rfl ?_
  refine q_is (l' := [(.slice p_xs L_xs.length q_xs), (.func (.func f_f) s_f c_f), Ud, Ud, (Iv 0), Ud, (.slice p_xs L_xs.length q_xs), (Iv (L_xs.length : Int)), (Iv 0), Ud, Ud, Ud, Ud, Ud, Ud, Ud, Ud, Ud, Ud]) rfl rfl (does_move (u := (Iv 0)) (ev rfl)) rfl ?_
  refine wpList_nil (hK3 _ _ ?_)
  refine wp_block ?_
  refine loop_ghost (σ := Nat) (fun k a w' => ∃ u4 : Nat → Value, a = fr [(.slice p_xs L_xs.length q_xs), (.func (.func f_f) s_f c_f), Ud, Ud, (u4 4), (u4 5), (.slice p_xs L_xs.length q_xs), (Iv (L_xs.length : Int)), (Iv (k : Int)), (u4 9), (u4 10), (u4 11), (u4 12), (u4 13), (u4 14), (u4 15), (u4 16), (u4 17), (u4 18)] ∧ Ext w w' ∧ (k ≤ L_xs.length ∧ NoneTo pr_f L_xs k)) (fun k => L_xs.length - k) 0 ?_ ?_
  · refine ⟨fun t => (([(.slice p_xs L_xs.length q_xs), (.func (.func f_f) s_f c_f), Ud, Ud, (Iv 0), Ud, (.slice p_xs L_xs.length q_xs), (Iv (L_xs.length : Int)), (Iv 0), Ud, Ud, Ud, Ud, Ud, Ud, Ud, Ud, Ud, Ud] : List Value)[t]?).getD undef, rfl, Ext.refl _, ?_⟩
    exact ⟨Nat.zero_le _, NoneTo.zero⟩
  · rintro k a w5 ⟨u4, rfl, E6, ⟨hk, hno⟩⟩
    have X8 := Ext.gr (Ext.refl w) E6
    refine wp_seq_k fun K9 hK9 => ?_
    refine wp_region_lit ?_
    refine q_is (l' := [(.slice p_xs L_xs.length q_xs), (.func (.func f_f) s_f c_f), Ud, Ud, (u4 4), (u4 5), (.slice p_xs L_xs.length q_xs), (Iv (L_xs.length : Int)), (Iv (k : Int)), (Bo (icmp .lss (k : Int) (L_xs.length : Int))), (u4 10), (u4 11), (u4 12), (u4 13), (u4 14), (u4 15), (u4 16), (u4 17), (u4 18)]) rfl rfl (does_icmp (p := (k : Int)) (q := (L_xs.length : Int)) (.inr (.inr (.inl rfl))) (ev rfl) (ev rfl)) rfl ?_
    refine wpList_nil (hK9 _ _ ?_)
    refine wp_seq_k fun K10 hK10 => ?_
    refine wp_cond_split (t := icmp .lss (k : Int) (L_xs.length : Int)) (ev rfl) (fun c11 => ?_) (fun c11 => ?_)
    · have c11' := c11
      (try simp only [icmp, Bool.and_eq_true, Bool.or_eq_true, Bool.and_eq_false_iff, Bool.or_eq_false_iff, Bool.not_eq_true', Bool.not_eq_false', decide_eq_true_eq, decide_eq_false_iff_not, beq_iff_eq, bne_iff_ne, beq_eq_false_iff_ne, bne_eq_false_iff_eq] at c11')
      refine wp_skip (hK10 _ _ ?_)
      refine wp_seq_k fun K12 hK12 => ?_
      refine wp_block ?_
      refine wp_seq_k fun K13 hK13 => ?_
      refine wp_region_lit ?_
      refine q_is (l' := [(.slice p_xs L_xs.length q_xs), (.func (.func f_f) s_f c_f), Ud, Ud, (u4 4), (u4 5), (.slice p_xs L_xs.length q_xs), (Iv (L_xs.length : Int)), (Iv (k : Int)), (Bo (icmp .lss (k : Int) (L_xs.length : Int))), (Iv (k : Int)), (u4 11), (u4 12), (u4 13), (u4 14), (u4 15), (u4 16), (u4 17), (u4 18)]) rfl rfl (does_move (u := (Iv (k : Int))) (ev rfl)) rfl ?_
      refine q_is (l' := [(.slice p_xs L_xs.length q_xs), (.func (.func f_f) s_f c_f), Ud, Ud, (u4 4), (Iv (k : Int)), (.slice p_xs L_xs.length q_xs), (Iv (L_xs.length : Int)), (Iv (k : Int)), (Bo (icmp .lss (k : Int) (L_xs.length : Int))), (Iv (k : Int)), (u4 11), (u4 12), (u4 13), (u4 14), (u4 15), (u4 16), (u4 17), (u4 18)]) rfl rfl (does_assign (u := (Iv (k : Int))) (ev rfl)) rfl ?_
      refine wpList_nil (hK13 _ _ ?_)
      refine wp_seq_k fun K14 hK14 => ?_
      refine wp_region_lit ?_
      refine q_is (l' := [(.slice p_xs L_xs.length q_xs), (.func (.func f_f) s_f c_f), Ud, Ud, (u4 4), (Iv (k : Int)), (.slice p_xs L_xs.length q_xs), (Iv (L_xs.length : Int)), (Iv (k : Int)), (Bo (icmp .lss (k : Int) (L_xs.length : Int))), (Iv (k : Int)), (.func (.func f_f) s_f c_f), (u4 12), (u4 13), (u4 14), (u4 15), (u4 16), (u4 17), (u4 18)]) rfl rfl (does_move (u := (.func (.func f_f) s_f c_f)) (ev rfl)) rfl ?_
      refine q_is (l' := [(.slice p_xs L_xs.length q_xs), (.func (.func f_f) s_f c_f), Ud, Ud, (u4 4), (Iv (k : Int)), (.slice p_xs L_xs.length q_xs), (Iv (L_xs.length : Int)), (Iv (k : Int)), (Bo (icmp .lss (k : Int) (L_xs.length : Int))), (Iv (k : Int)), (.func (.func f_f) s_f c_f), (.slice p_xs L_xs.length q_xs), (u4 13), (u4 14), (u4 15), (u4 16), (u4 17), (u4 18)]) rfl rfl (does_move (u := (.slice p_xs L_xs.length q_xs)) (ev rfl)) rfl ?_
      refine q_is (l' := [(.slice p_xs L_xs.length q_xs), (.func (.func f_f) s_f c_f), Ud, Ud, (u4 4), (Iv (k : Int)), (.slice p_xs L_xs.length q_xs), (Iv (L_xs.length : Int)), (Iv (k : Int)), (Bo (icmp .lss (k : Int) (L_xs.length : Int))), (Iv (k : Int)), (.func (.func f_f) s_f c_f), (.slice p_xs L_xs.length q_xs), (Iv (k : Int)), (u4 14), (u4 15), (u4 16), (u4 17), (u4 18)]) rfl rfl (does_move (u := (Iv (k : Int))) (ev rfl)) rfl ?_
      obtain ⟨el1, hel1⟩ : ∃ e, L_xs[k]? = some e := ⟨_, List.getElem?_eq_getElem (by omega)⟩
      refine seqd rfl rfl (does_indexSl (R := RF) (i := (k : Int)) (xs := L_xs) (e := el1) Try.underlying42 Try.sizeOf39 (ev rfl) (ev rfl) (Sl.ext hv_xs RF.mono X8) (by omega) hel1) ?_; rintro _ w5 ⟨b15, o16, _, rfl, hc18, ⟨r19, rfl, h20⟩, rfl⟩
      show wpList _ _ _ _ (fr [(.slice p_xs L_xs.length q_xs), (.func (.func f_f) s_f c_f), Ud, Ud, (u4 4), (Iv (k : Int)), (.slice p_xs L_xs.length q_xs), (Iv (L_xs.length : Int)), (Iv (k : Int)), (Bo (icmp .lss (k : Int) (L_xs.length : Int))), (Iv (k : Int)), (.func (.func f_f) s_f c_f), (.slice p_xs L_xs.length q_xs), (Iv (k : Int)), (Pt b15 o16), (u4 15), (u4 16), (u4 17), (u4 18)]) _
      refine q_is (l' := [(.slice p_xs L_xs.length q_xs), (.func (.func f_f) s_f c_f), Ud, Ud, (u4 4), (Iv (k : Int)), (.slice p_xs L_xs.length q_xs), (Iv (L_xs.length : Int)), (Iv (k : Int)), (Bo (icmp .lss (k : Int) (L_xs.length : Int))), (Iv (k : Int)), (.func (.func f_f) s_f c_f), (.slice p_xs L_xs.length q_xs), (Iv (k : Int)), (Pt b15 o16), (Fl r19), (u4 16), (u4 17), (u4 18)]) rfl rfl (does_load (u := (Fl r19)) (ev rfl) Try.isAgg39 (Cells.at hc18 0 rfl)) rfl ?_
      refine seqd rfl rfl (does_callf (args := #[(Fl r19)]) (ev rfl) hcal_f (evs rfl) (hg_f r19 _ X8)) ?_; rintro _ w22 ⟨E21, rfl⟩
      have X23 := Ext.gr X8 E21
      show wpList _ _ _ _ (fr [(.slice p_xs L_xs.length q_xs), (.func (.func f_f) s_f c_f), Ud, Ud, (u4 4), (Iv (k : Int)), (.slice p_xs L_xs.length q_xs), (Iv (L_xs.length : Int)), (Iv (k : Int)), (Bo (icmp .lss (k : Int) (L_xs.length : Int))), (Iv (k : Int)), (.func (.func f_f) s_f c_f), (.slice p_xs L_xs.length q_xs), (Iv (k : Int)), (Pt b15 o16), (Fl r19), (Bo (pr_f (cf .f32 r19))), (u4 17), (u4 18)]) _
      refine wpList_nil (hK14 _ _ ?_)
      refine wp_cond_split (t := pr_f (cf .f32 r19)) (ev rfl) (fun c24 => ?_) (fun c24 => ?_)
      · have c24' := c24
        refine wp_seq_k fun K25 hK25 => ?_
        refine wp_region_lit ?_
        refine q_is (l' := [(.slice p_xs L_xs.length q_xs), (.func (.func f_f) s_f c_f), Ud, Ud, (u4 4), (Iv (k : Int)), (.slice p_xs L_xs.length q_xs), (Iv (L_xs.length : Int)), (Iv (k : Int)), (Bo (icmp .lss (k : Int) (L_xs.length : Int))), (Iv (k : Int)), (.func (.func f_f) s_f c_f), (.slice p_xs L_xs.length q_xs), (Iv (k : Int)), (Pt b15 o16), (Fl r19), (Bo (pr_f (cf .f32 r19))), (Iv (k : Int)), (u4 18)]) rfl rfl (does_move (u := (Iv (k : Int))) (ev rfl)) rfl ?_
        refine q_is (l' := [(.slice p_xs L_xs.length q_xs), (.func (.func f_f) s_f c_f), Ud, Ud, (Iv (k : Int)), (Iv (k : Int)), (.slice p_xs L_xs.length q_xs), (Iv (L_xs.length : Int)), (Iv (k : Int)), (Bo (icmp .lss (k : Int) (L_xs.length : Int))), (Iv (k : Int)), (.func (.func f_f) s_f c_f), (.slice p_xs L_xs.length q_xs), (Iv (k : Int)), (Pt b15 o16), (Fl r19), (Bo (pr_f (cf .f32 r19))), (Iv (k : Int)), (u4 18)]) rfl rfl (does_assign (u := (Iv (k : Int))) (ev rfl)) rfl ?_
        refine wpList_nil (hK25 _ _ ?_)
        refine wp_ret ?_
        dsimp only [Exit.then, Exit.inBlock]
        refine ret_val (v := (Iv (k : Int))) (res_T rfl (slot rfl)) X23 ?_
        try simp only [hel1, h20] at c11 c24
        have x26 : (findI pr_f L_xs : Int) = (k : Int) := by first | exact findI_at hno (by assumption) (by simp_all) | exact findI_none hno (by omega)
        exact (by first | with_reducible rfl | rw [x26] | rfl)
      have c24' := c24
      refine wp_skip (hK12 _ _ ?_)
      refine wp_region_lit ?_
      refine q_is (l' := [(.slice p_xs L_xs.length q_xs), (.func (.func f_f) s_f c_f), Ud, Ud, (u4 4), (Iv (k : Int)), (.slice p_xs L_xs.length q_xs), (Iv (L_xs.length : Int)), (Iv (k : Int)), (Bo (icmp .lss (k : Int) (L_xs.length : Int))), (Iv (k : Int)), (.func (.func f_f) s_f c_f), (.slice p_xs L_xs.length q_xs), (Iv (k : Int)), (Pt b15 o16), (Fl r19), (Bo (pr_f (cf .f32 r19))), (u4 17), (Iv ((k : Int) + 1))]) rfl rfl (does_iarith (p := (k : Int)) (q := 1) (r := (k : Int) + 1) (ev rfl) (ev rfl) (.inl ⟨rfl, (in_i64 (by omega) (by omega)).symm⟩)) rfl ?_
      refine q_is (l' := [(.slice p_xs L_xs.length q_xs), (.func (.func f_f) s_f c_f), Ud, Ud, (u4 4), (Iv (k : Int)), (.slice p_xs L_xs.length q_xs), (Iv (L_xs.length : Int)), (Iv ((k : Int) + 1)), (Bo (icmp .lss (k : Int) (L_xs.length : Int))), (Iv (k : Int)), (.func (.func f_f) s_f c_f), (.slice p_xs L_xs.length q_xs), (Iv (k : Int)), (Pt b15 o16), (Fl r19), (Bo (pr_f (cf .f32 r19))), (u4 17), (Iv ((k : Int) + 1))]) rfl rfl (does_move (u := (Iv ((k : Int) + 1))) (ev rfl)) rfl ?_
      refine wpList_nil ?_
      refine ⟨k + 1, ⟨fun t => (([(.slice p_xs L_xs.length q_xs), (.func (.func f_f) s_f c_f), Ud, Ud, (u4 4), (Iv (k : Int)), (.slice p_xs L_xs.length q_xs), (Iv (L_xs.length : Int)), (Iv ((k : Int) + 1)), (Bo (icmp .lss (k : Int) (L_xs.length : Int))), (Iv (k : Int)), (.func (.func f_f) s_f c_f), (.slice p_xs L_xs.length q_xs), (Iv (k : Int)), (Pt b15 o16), (Fl r19), (Bo (pr_f (cf .f32 r19))), (u4 17), (Iv ((k : Int) + 1))] : List Value)[t]?).getD undef, ?_, (Ext.gr E6 E21), ?_⟩, ?_⟩
      · first | rfl | (simp only [Int.natCast_add, Int.natCast_one]; rfl)
      · exact ⟨by omega, NoneTo.step hno (by assumption) (by simp_all)⟩
      · omega
    have c11' := c11
    (try simp only [icmp, Bool.and_eq_true, Bool.or_eq_true, Bool.and_eq_false_iff, Bool.or_eq_false_iff, Bool.not_eq_true', Bool.not_eq_false', decide_eq_true_eq, decide_eq_false_iff_not, beq_iff_eq, bne_iff_ne, beq_eq_false_iff_ne, bne_eq_false_iff_eq] at c11')
    refine wp_exit ?_
    refine hK2 _ _ ?_
    refine wp_seq_k fun K27 hK27 => ?_
    refine wp_region_lit ?_
    refine q_is (l' := [(.slice p_xs L_xs.length q_xs), (.func (.func f_f) s_f c_f), Ud, Ud, (Iv (-1)), (u4 5), (.slice p_xs L_xs.length q_xs), (Iv (L_xs.length : Int)), (Iv (k : Int)), (Bo (icmp .lss (k : Int) (L_xs.length : Int))), (u4 10), (u4 11), (u4 12), (u4 13), (u4 14), (u4 15), (u4 16), (u4 17), (u4 18)]) rfl rfl (does_assign (u := (Iv (-1))) (ev rfl)) rfl ?_
    refine wpList_nil (hK27 _ _ ?_)
    refine wp_ret ?_
    refine ret_val (v := (Iv (-1))) (res_T rfl (slot rfl)) X8 ?_
    have x28 : (findI pr_f L_xs : Int) = (-1) := by first | exact findI_at hno (by assumption) (by simp_all) | exact findI_none hno (by omega)
    exact (by first | with_reducible rfl | rw [x28] | rfl)

/- slices.ContainsFunc[[]float32,float32] -/
theorem c_slices_ContainsFunc_float32_float32 (xs : Value) (L_xs : List Nat) (f : Value) (pr_f : Nat → Bool) (w : World) (hv_xs : Sl RF 1 w xs L_xs) (hv_f : TellsF Try.prog f w pr_f) : Gives Try.prog 70 #[xs, f] w (fun v w' => v = (Bo (L_xs.any pr_f))) := by
  have hlen_xs := Sl.len hv_xs; obtain ⟨p_xs, q_xs, rfl⟩ := Sl.shape hv_xs
  obtain ⟨f_f, s_f, c_f, rfl, hcal_f, hg_f⟩ := hv_f
  refine enter [(.slice p_xs L_xs.length q_xs), (.func (.func f_f) s_f c_f), Ud, Ud, Ud, Ud, Ud, Ud, Ud] Try.func70 rfl Try.ntmps70 rfl ?_
  refine wp_seq_k fun K1 hK1 => ?_
  refine wp_region_lit ?_
  refine q_is (l' := [(.slice p_xs L_xs.length q_xs), (.func (.func f_f) s_f c_f), Ud, Ud, (Bo false), Ud, Ud, Ud, Ud]) rfl rfl (does_assign (u := (Bo false)) (ev rfl)) rfl ?_
  refine wpList_nil (hK1 _ _ ?_)
  refine wp_seq_k fun K2 hK2 => ?_
  refine wp_region_lit ?_
  refine q_is (l' := [(.slice p_xs L_xs.length q_xs), (.func (.func f_f) s_f c_f), Ud, Ud, (Bo false), (.slice p_xs L_xs.length q_xs), Ud, Ud, Ud]) rfl rfl (does_move (u := (.slice p_xs L_xs.length q_xs)) (ev rfl)) rfl ?_
  refine q_is (l' := [(.slice p_xs L_xs.length q_xs), (.func (.func f_f) s_f c_f), Ud, Ud, (Bo false), (.slice p_xs L_xs.length q_xs), (.func (.func f_f) s_f c_f), Ud, Ud]) rfl rfl (does_move (u := (.func (.func f_f) s_f c_f)) (ev rfl)) rfl ?_
  refine seqd rfl rfl (does_call (args := #[(.slice p_xs L_xs.length q_xs), (.func (.func f_f) s_f c_f)]) cal72 (evs rfl) (c_slices_IndexFunc_float32_float32 (.slice p_xs L_xs.length q_xs) L_xs (.func (.func f_f) s_f c_f) pr_f _ hv_xs ⟨_, _, _, rfl, hcal_f, fun r u hu' => hg_f r u (Ext.gr (Ext.refl w) hu')⟩)) ?_; rintro _ w4 ⟨E3, rfl⟩
  have X5 := Ext.gr (Ext.refl w) E3
  show wpList _ _ _ _ (fr [(.slice p_xs L_xs.length q_xs), (.func (.func f_f) s_f c_f), Ud, Ud, (Bo false), (.slice p_xs L_xs.length q_xs), (.func (.func f_f) s_f c_f), (Iv (findI pr_f L_xs)), Ud]) _
  refine q_is (l' := [(.slice p_xs L_xs.length q_xs), (.func (.func f_f) s_f c_f), Ud, Ud, (Bo false), (.slice p_xs L_xs.length q_xs), (.func (.func f_f) s_f c_f), (Iv (findI pr_f L_xs)), (Bo (icmp .geq (findI pr_f L_xs) 0))]) rfl rfl (does_icmp (p := findI pr_f L_xs) (q := 0) (.inr (.inr (.inr (.inr (.inr rfl))))) (ev rfl) (ev rfl)) rfl ?_
  refine q_is (l' := [(.slice p_xs L_xs.length q_xs), (.func (.func f_f) s_f c_f), Ud, Ud, (Bo (icmp .geq (findI pr_f L_xs) 0)), (.slice p_xs L_xs.length q_xs), (.func (.func f_f) s_f c_f), (Iv (findI pr_f L_xs)), (Bo (icmp .geq (findI pr_f L_xs) 0))]) rfl rfl (does_assign (u := (Bo (icmp .geq (findI pr_f L_xs) 0))) (ev rfl)) rfl ?_
  refine wpList_nil (hK2 _ _ ?_)
  refine wp_ret ?_
  refine ret_val (v := (Bo (icmp .geq (findI pr_f L_xs) 0))) (res_T rfl (slot rfl)) X5 ?_
  have x6 : (L_xs.any pr_f) = (icmp .geq (findI pr_f L_xs) 0) := by first | with_reducible rfl | (simp only [findI_any]; done) | (simp [findI_any]; done) | rfl
  exact (by first | with_reducible rfl | rw [x6] | rfl)

/- impl.IsFinite -/
theorem c_impl_IsFinite (x : Nat) (w : World) : Gives Try.prog 66 #[(Fl x)] w (fun v w' => v = (Bo (finF (cf .f32 x)))) := by
  refine enter [(Fl x), Ud, Ud, Ud, Ud, Ud, Ud] Try.func66 rfl Try.ntmps66 rfl ?_
  refine wp_seq_k fun K1 hK1 => ?_
  refine wp_region_lit ?_
  refine q_is (l' := [(Fl x), Ud, (Bo false), Ud, Ud, Ud, Ud]) rfl rfl (does_assign (u := (Bo false)) (ev rfl)) rfl ?_
  refine wpList_nil (hK1 _ _ ?_)
  refine wp_seq_k fun K2 hK2 => ?_
  refine wp_region_lit ?_
  refine q_is (l' := [(Fl x), Ud, (Bo false), (Fl x), Ud, Ud, Ud]) rfl rfl (does_move (u := (Fl x)) (ev rfl)) rfl ?_
  refine q_is (l' := [(Fl x), Ud, (Bo false), (Fl x), (Fl x), Ud, Ud]) rfl rfl (does_move (u := (Fl x)) (ev rfl)) rfl ?_
  refine seqd rfl rfl (does_float (.inr (.inl rfl)) (ev rfl) (ev rfl)) ?_; rintro _ w6 ⟨r3, rfl, h4, E5⟩
  have X7 := Ext.gr (Ext.refl w) E5
  show wpList _ _ _ _ (fr [(Fl x), Ud, (Bo false), (Fl x), (Fl x), (Fl r3), Ud]) _
  refine q_is (l' := [(Fl x), Ud, (Bo false), (Fl x), (Fl x), (Fl r3), (Bo (fcmp .eql (ford .f32 (cf .f32 r3) (cf .f32 0))))]) rfl rfl (does_fcmp (.inl rfl) (ev rfl) (ev rfl)) rfl ?_
  refine q_is (l' := [(Fl x), Ud, (Bo (fcmp .eql (ford .f32 (cf .f32 r3) (cf .f32 0)))), (Fl x), (Fl x), (Fl r3), (Bo (fcmp .eql (ford .f32 (cf .f32 r3) (cf .f32 0))))]) rfl rfl (does_assign (u := (Bo (fcmp .eql (ford .f32 (cf .f32 r3) (cf .f32 0))))) (ev rfl)) rfl ?_
  refine wpList_nil (hK2 _ _ ?_)
  refine wp_ret ?_
  refine ret_val (v := (Bo (fcmp .eql (ford .f32 (cf .f32 r3) (cf .f32 0))))) (res_T rfl (slot rfl)) X7 ?_
  have x8 : (finF (cf .f32 x)) = (fcmp .eql (ford .f32 (cf .f32 r3) (cf .f32 0))) := by first | with_reducible rfl | (simp only [finF, h4]; done) | (simp [finF, h4]; done) | rfl
  exact (by first | with_reducible rfl | rw [x8] | rfl)

/- impl.finite$1 -/
theorem c_impl_finite_1 (x : Nat) (w : World) : Gives Try.prog 71 #[(Fl x)] w (fun v w' => v = (Bo (!finF (cf .f32 x)))) := by
  refine enter [(Fl x), Ud, Ud, Ud, Ud, Ud] Try.func71 rfl Try.ntmps71 rfl ?_
  refine wp_seq_k fun K1 hK1 => ?_
  refine wp_region_lit ?_
  refine q_is (l' := [(Fl x), Ud, (Bo false), Ud, Ud, Ud]) rfl rfl (does_assign (u := (Bo false)) (ev rfl)) rfl ?_
  refine wpList_nil (hK1 _ _ ?_)
  refine wp_seq_k fun K2 hK2 => ?_
  refine wp_region_lit ?_
  refine q_is (l' := [(Fl x), Ud, (Bo false), (Fl x), Ud, Ud]) rfl rfl (does_move (u := (Fl x)) (ev rfl)) rfl ?_
  refine seqd rfl rfl (does_call (args := #[(Fl x)]) cal66 (evs rfl) (c_impl_IsFinite x _)) ?_; rintro _ w4 ⟨E3, rfl⟩
  have X5 := Ext.gr (Ext.refl w) E3
  show wpList _ _ _ _ (fr [(Fl x), Ud, (Bo false), (Fl x), (Bo (finF (cf .f32 x))), Ud]) _
  refine q_is (l' := [(Fl x), Ud, (Bo false), (Fl x), (Bo (finF (cf .f32 x))), (Bo (!(finF (cf .f32 x))))]) rfl rfl (does_not (ev rfl)) rfl ?_
  refine q_is (l' := [(Fl x), Ud, (Bo (!(finF (cf .f32 x)))), (Fl x), (Bo (finF (cf .f32 x))), (Bo (!(finF (cf .f32 x))))]) rfl rfl (does_assign (u := (Bo (!(finF (cf .f32 x))))) (ev rfl)) rfl ?_
  refine wpList_nil (hK2 _ _ ?_)
  refine wp_ret ?_
  refine ret_val (v := (Bo (!(finF (cf .f32 x))))) (res_T rfl (slot rfl)) X5 ?_
  have x6 : (!finF (cf .f32 x)) = (!(finF (cf .f32 x))) := by first | with_reducible rfl | (simp only []; done) | (simp []; done) | rfl
  exact (by first | with_reducible rfl | rw [x6] | rfl)

/- impl.finite -/
theorem c_impl_finite (xs : Value) (L_xs : List Nat) (w : World) (hv_xs : Sl RF 1 w xs L_xs) : Gives Try.prog 65 #[xs] w (fun v w' => v = (Bo (!L_xs.any (fun x => !finF x)))) := by
  have hlen_xs := Sl.len hv_xs; obtain ⟨p_xs, q_xs, rfl⟩ := Sl.shape hv_xs
  refine enter [(.slice p_xs L_xs.length q_xs), Ud, Ud, Ud, Ud, Ud] Try.func65 rfl Try.ntmps65 rfl ?_
  refine wp_seq_k fun K1 hK1 => ?_
  refine wp_region_lit ?_
  refine q_is (l' := [(.slice p_xs L_xs.length q_xs), Ud, (Bo false), Ud, Ud, Ud]) rfl rfl (does_assign (u := (Bo false)) (ev rfl)) rfl ?_
  refine wpList_nil (hK1 _ _ ?_)
  refine wp_seq_k fun K2 hK2 => ?_
  refine wp_region_lit ?_
  refine q_is (l' := [(.slice p_xs L_xs.length q_xs), Ud, (Bo false), (.slice p_xs L_xs.length q_xs), Ud, Ud]) rfl rfl (does_move (u := (.slice p_xs L_xs.length q_xs)) (ev rfl)) rfl ?_
  refine seqd rfl rfl (does_call (args := #[(.slice p_xs L_xs.length q_xs), (.func (.func 71) #[] #[])]) cal70 (evs rfl) (c_slices_ContainsFunc_float32_float32 (.slice p_xs L_xs.length q_xs) L_xs (.func (.func 71) #[] #[]) (fun x => !finF x) _ hv_xs ⟨71, #[], #[], rfl, cal71, fun r u hu' => by simpa using (c_impl_finite_1 r u)⟩)) ?_; rintro _ w4 ⟨E3, rfl⟩
  have X5 := Ext.gr (Ext.refl w) E3
  show wpList _ _ _ _ (fr [(.slice p_xs L_xs.length q_xs), Ud, (Bo false), (.slice p_xs L_xs.length q_xs), (Bo (L_xs.any (fun x => !finF x))), Ud]) _
  refine q_is (l' := [(.slice p_xs L_xs.length q_xs), Ud, (Bo false), (.slice p_xs L_xs.length q_xs), (Bo (L_xs.any (fun x => !finF x))), (Bo (!(L_xs.any (fun x => !finF x))))]) rfl rfl (does_not (ev rfl)) rfl ?_
  refine q_is (l' := [(.slice p_xs L_xs.length q_xs), Ud, (Bo (!(L_xs.any (fun x => !finF x)))), (.slice p_xs L_xs.length q_xs), (Bo (L_xs.any (fun x => !finF x))), (Bo (!(L_xs.any (fun x => !finF x))))]) rfl rfl (does_assign (u := (Bo (!(L_xs.any (fun x => !finF x))))) (ev rfl)) rfl ?_
  refine wpList_nil (hK2 _ _ ?_)
  refine wp_ret ?_
  refine ret_val (v := (Bo (!(L_xs.any (fun x => !finF x))))) (res_T rfl (slot rfl)) X5 ?_
  have x6 : (!L_xs.any (fun x => !finF x)) = (!(L_xs.any (fun x => !finF x))) := by first | with_reducible rfl | (simp only []; done) | (simp []; done) | rfl
  exact (by first | with_reducible rfl | rw [x6] | rfl)

/- impl.finiteVector -/
theorem c_impl_finiteVector (v : List Value) (A_v : V3) (w : World) (hv_v : RV3 w A_v v) : Gives Try.prog 56 #[(.agg v.toArray)] w (fun v w' => v = (Bo (finV A_v))) := by
  obtain ⟨r1, r3, r5, rfl, h2, h4, h6⟩ := hv_v
  refine enter [(.agg #[(Fl r1), (Fl r3), (Fl r5)]), Ud, Ud, Ud, Ud, Ud, Ud, Ud, Ud, Ud, Ud] Try.func56 rfl Try.ntmps56 rfl ?_
  refine wp_seq_k fun K7 hK7 => ?_
  refine wp_region_lit ?_
  refine seqd rfl rfl (does_box (u := (.agg #[(Fl r1), (Fl r3), (Fl r5)])) (ev rfl)) ?_; rintro _ w12 ⟨b8, rfl, hb9, hB10, E11⟩
  have g13 : w.heap.size ≤ b8 := Nat.le_trans (Below.size (Ext.refl w)) hb9
  change Blk _ _ [(Fl r1), (Fl r3), (Fl r5)] at hB10
  have X14 := Ext.gr (Ext.refl w) E11
  show wpList _ _ _ _ (fr [(.agg #[(Fl r1), (Fl r3), (Fl r5)]), (Pt b8 0), Ud, Ud, Ud, Ud, Ud, Ud, Ud, Ud, Ud]) _
  refine q_is (l' := [(.agg #[(Fl r1), (Fl r3), (Fl r5)]), (Pt b8 0), (Bo false), Ud, Ud, Ud, Ud, Ud, Ud, Ud, Ud]) rfl rfl (does_assign (u := (Bo false)) (ev rfl)) rfl ?_
  refine wpList_nil (hK7 _ _ ?_)
  refine wp_seq_k fun K15 hK15 => ?_
  refine wp_region_lit ?_
  refine q_is (l' := [(.agg #[(Fl r1), (Fl r3), (Fl r5)]), (Pt b8 0), (Bo false), (Pt b8 0), Ud, Ud, Ud, Ud, Ud, Ud, Ud]) rfl rfl (does_fieldAddr (ev rfl) fa47_0) rfl ?_
  refine q_is (l' := [(.agg #[(Fl r1), (Fl r3), (Fl r5)]), (Pt b8 0), (Bo false), (Pt b8 0), (Fl r1), Ud, Ud, Ud, Ud, Ud, Ud]) rfl rfl (does_load (u := (Fl r1)) (ev rfl) Try.isAgg39 (Cells.at (Blk.cells hB10) 0 rfl)) rfl ?_
  refine q_is (l' := [(.agg #[(Fl r1), (Fl r3), (Fl r5)]), (Pt b8 0), (Bo false), (Pt b8 0), (Fl r1), (Pt b8 1), Ud, Ud, Ud, Ud, Ud]) rfl rfl (does_fieldAddr (ev rfl) fa47_1) rfl ?_
  refine q_is (l' := [(.agg #[(Fl r1), (Fl r3), (Fl r5)]), (Pt b8 0), (Bo false), (Pt b8 0), (Fl r1), (Pt b8 1), (Fl r3), Ud, Ud, Ud, Ud]) rfl rfl (does_load (u := (Fl r3)) (ev rfl) Try.isAgg39 (Cells.at (Blk.cells hB10) 1 rfl)) rfl ?_
  refine q_is (l' := [(.agg #[(Fl r1), (Fl r3), (Fl r5)]), (Pt b8 0), (Bo false), (Pt b8 0), (Fl r1), (Pt b8 1), (Fl r3), (Pt b8 2), Ud, Ud, Ud]) rfl rfl (does_fieldAddr (ev rfl) fa47_2) rfl ?_
  refine q_is (l' := [(.agg #[(Fl r1), (Fl r3), (Fl r5)]), (Pt b8 0), (Bo false), (Pt b8 0), (Fl r1), (Pt b8 1), (Fl r3), (Pt b8 2), (Fl r5), Ud, Ud]) rfl rfl (does_load (u := (Fl r5)) (ev rfl) Try.isAgg39 (Cells.at (Blk.cells hB10) 2 rfl)) rfl ?_
  refine seqd rfl rfl (does_buildSlice (e := 39) (parts' := [(0, (Fl r1)), (1, (Fl r3)), (2, (Fl r5))]) (cells := [(Fl r1), (Fl r3), (Fl r5)]) (evp rfl) (fun _ => by kernel_rfl)) ?_; rintro _ w20 ⟨b16, rfl, hb17, hB18, E19⟩
  have n21 : b8 < b16 := Nat.lt_of_lt_of_le (Blk.lt hB10) hb17
  have g22 : w.heap.size ≤ b16 := Nat.le_trans (Below.size X14) hb17
  have X23 := Ext.gr X14 E19
  show wpList _ _ _ _ (fr [(.agg #[(Fl r1), (Fl r3), (Fl r5)]), (Pt b8 0), (Bo false), (Pt b8 0), (Fl r1), (Pt b8 1), (Fl r3), (Pt b8 2), (Fl r5), (.slice (some ⟨b16, 0, none⟩) 3 3), Ud]) _
  refine seqd rfl rfl (does_call (args := #[(.slice (some ⟨b16, 0, none⟩) 3 3)]) cal65 (evs rfl) (c_impl_finite (.slice (some ⟨b16, 0, none⟩) 3 3) [(cf .f32 r1), (cf .f32 r3), (cf .f32 r5)] _ (Sl_lit3 hB18 ⟨_, rfl, rfl⟩ ⟨_, rfl, rfl⟩ ⟨_, rfl, rfl⟩))) ?_; rintro _ w25 ⟨E24, rfl⟩
  have X26 := Ext.gr X23 E24
  show wpList _ _ _ _ (fr [(.agg #[(Fl r1), (Fl r3), (Fl r5)]), (Pt b8 0), (Bo false), (Pt b8 0), (Fl r1), (Pt b8 1), (Fl r3), (Pt b8 2), (Fl r5), (.slice (some ⟨b16, 0, none⟩) 3 3), (Bo (!([(cf .f32 r1), (cf .f32 r3), (cf .f32 r5)]).any (fun x => !finF x)))]) _
  refine q_is (l' := [(.agg #[(Fl r1), (Fl r3), (Fl r5)]), (Pt b8 0), (Bo (!([(cf .f32 r1), (cf .f32 r3), (cf .f32 r5)]).any (fun x => !finF x))), (Pt b8 0), (Fl r1), (Pt b8 1), (Fl r3), (Pt b8 2), (Fl r5), (.slice (some ⟨b16, 0, none⟩) 3 3), (Bo (!([(cf .f32 r1), (cf .f32 r3), (cf .f32 r5)]).any (fun x => !finF x)))]) rfl rfl (does_assign (u := (Bo (!([(cf .f32 r1), (cf .f32 r3), (cf .f32 r5)]).any (fun x => !finF x)))) (ev rfl)) rfl ?_
  refine wpList_nil (hK15 _ _ ?_)
  refine wp_ret ?_
  refine ret_val (v := (Bo (!([(cf .f32 r1), (cf .f32 r3), (cf .f32 r5)]).any (fun x => !finF x)))) (res_T rfl (slot rfl)) X26 ?_
  have x27 : (finV A_v) = (!([(cf .f32 r1), (cf .f32 r3), (cf .f32 r5)]).any (fun x => !finF x)) := by first | with_reducible rfl | (simp only [finV, any3_finF, h2, h4, h6]; done) | (simp [finV, any3_finF, h2, h4, h6]; done) | rfl
  exact (by first | with_reducible rfl | rw [x27] | rfl)

/- impl.stepOk -/
theorem c_impl_stepOk (x : Nat) (w : World) : Gives Try.prog 57 #[(Fl x)] w (fun v w' => v = (Bo (finF (cf .f32 x) && posF (cf .f32 x)))) := by
  refine enter [(Fl x), Ud, Ud, Ud, Ud, Ud, Ud, Ud, Ud] Try.func57 rfl Try.ntmps57 rfl ?_
  refine wp_seq_k fun K1 hK1 => ?_
  refine wp_region_lit ?_
  refine q_is (l' := [(Fl x), Ud, (Bo false), Ud, Ud, Ud, Ud, Ud, Ud]) rfl rfl (does_assign (u := (Bo false)) (ev rfl)) rfl ?_
  refine wpList_nil (hK1 _ _ ?_)
  refine wp_seq_k fun K2 hK2 => ?_
  obtain ⟨β1, hβ1⟩ : ∃ b : Bool, b = (fcmp .gtr (ford .f32 (cf .f32 x) (cf .f32 0))) := ⟨_, rfl⟩
  refine region_text (
    [Fact.pure [] (fun v => v = (Fl x)),
    Fact.pure [3] (fun v => v = (Bo (finF (cf .f32 x)))),
    Fact.pure [4] (fun v => v = (Bo (finF (cf .f32 x)))),
    Fact.pure [5] (fun v => (finF (cf .f32 x)) = true → v = (Fl x)),
    Fact.pure [6, 5] (fun v => (finF (cf .f32 x)) = true → v = (Bo β1)),
    Fact.pure [5, 7] (fun v => v = (Bo ((finF (cf .f32 x)) && β1)))]) (by simp [Fact.pure, Fact.mem]) ?_
  refine RW_d (fun v3 => [(Fl x), Ud, (Bo false), v3, Ud, Ud, Ud, Ud, Ud]) rfl (fun _ => rfl) (fun u hu hF => ?_) (fun v3 => ?_)
  · clear hF
    refine doesG_un rfl ?_
    refine (does_move (u := (Fl x)) (ev rfl)).mono ?_; rintro _ _ ⟨rfl, rfl⟩
    exact ⟨rfl, Ext.refl _⟩
  refine RW_d (fun v4 => [(Fl x), Ud, (Bo false), v3, v4, Ud, Ud, Ud, Ud]) rfl (fun _ => rfl) (fun u hu hF => ?_) (fun v4 => ?_)
  · have h3_ : v3 = (Fl x) := hF.1
    clear hF
    refine doesG_un rfl ?_
    obtain rfl := h3_
    refine (does_call (args := #[(Fl x)]) cal66 (evs rfl) (c_impl_IsFinite x _)).mono ?_; rintro v u' ⟨hx, hv⟩
    exact ⟨hv, hx⟩
  refine RW_d (fun v5 => [(Fl x), Ud, (Bo false), v3, v4, v5, Ud, Ud, Ud]) rfl (fun _ => rfl) (fun u hu hF => ?_) (fun v5 => ?_)
  · have h4_ : v4 = (Bo (finF (cf .f32 x))) := hF.1
    clear hF
    refine doesG_un rfl ?_
    obtain rfl := h4_
    refine (does_move (u := (Bo (finF (cf .f32 x)))) (ev rfl)).mono ?_; rintro _ _ ⟨rfl, rfl⟩
    exact ⟨rfl, Ext.refl _⟩
  refine RW_d (fun v6 => [(Fl x), Ud, (Bo false), v3, v4, v5, v6, Ud, Ud]) rfl (fun _ => rfl) (fun u hu hF => ?_) (fun v6 => ?_)
  · have h5_ : v5 = (Bo (finF (cf .f32 x))) := hF.1
    clear hF
    obtain rfl := h5_
    refine doesG_g (b := (finF (cf .f32 x))) rfl (yld rfl rfl) (fun hg1 => ?_) (fun hc => ⟨fun hg1 => absurd hg1 hc, Ext.refl _⟩)
    refine (does_move (u := (Fl x)) (ev rfl)).mono ?_; rintro _ _ ⟨rfl, rfl⟩
    exact ⟨fun _ => rfl, Ext.refl _⟩
  refine RW_d (fun v7 => [(Fl x), Ud, (Bo false), v3, v4, v5, v6, v7, Ud]) rfl (fun _ => rfl) (fun u hu hF => ?_) (fun v7 => ?_)
  · have h6_ : (finF (cf .f32 x)) = true → v6 = (Fl x) := hF.1
    have h5_ : v5 = (Bo (finF (cf .f32 x))) := hF.2.1
    clear hF
    obtain rfl := h5_
    refine doesG_g (b := (finF (cf .f32 x))) rfl (yld rfl rfl) (fun hg1 => ?_) (fun hc => ⟨fun hg1 => absurd hg1 hc, Ext.refl _⟩)
    obtain rfl := h6_ hg1
    refine (does_fcmp (.inr (.inr (.inr (.inr (.inl rfl))))) (ev rfl) (ev rfl)).mono ?_; rintro _ _ ⟨rfl, rfl⟩
    exact ⟨fun _ => (by first | rfl | (show _ = _; simp only [hβ1]; done) | (show _ = _; simp only [hβ1]; rfl)), Ext.refl _⟩
  refine RW_d (fun v8 => [(Fl x), Ud, (Bo false), v3, v4, v5, v6, v7, v8]) rfl (fun _ => rfl) (fun u hu hF => ?_) (fun v8 => ?_)
  · have h5_ : v5 = (Bo (finF (cf .f32 x))) := hF.1
    have h7_ : (finF (cf .f32 x)) = true → v7 = (Bo β1) := hF.2.1
    clear hF
    refine doesG_un rfl ?_
    skip
    obtain rfl := h5_
    refine (does_pick (b := (finF (cf .f32 x))) (u := v7) (v := (Bo false)) (ev rfl) (ev rfl) (ev rfl)).mono ?_; rintro _ _ ⟨rfl, rfl⟩; refine ⟨?_, Ext.refl _⟩; skip
    cases hbb : (finF (cf .f32 x))
    all_goals first | (show _ = _; simp only [↓reduceIte, Bool.true_and, Bool.false_and, Bool.true_or, Bool.false_or, Bool.false_eq_true]; done) | (have e_ := h7_ hbb; subst e_; show _ = _; simp only [↓reduceIte, Bool.true_and, Bool.false_and, Bool.true_or, Bool.false_or, Bool.false_eq_true]; done) | rfl | (have e_ := h7_ hbb; subst e_; rfl) | (simp [hbb] at h7_ ⊢; first | done | rfl | (subst h7_; rfl) | simp_all) | (simp [hbb] at h7_ ⊢; done)
  refine RW_fin ?_; intro w9 E10 hP11
  obtain ⟨⟨⟨⟨⟨⟨-, -⟩, -⟩, -⟩, -⟩, -⟩, q12⟩ := hP11
  have X13 := Ext.gr (Ext.refl w) E10
  have q12 : v8 = (Bo ((finF (cf .f32 x)) && β1)) := q12
  obtain rfl := q12
  show wpList _ _ _ _ (fr [(Fl x), Ud, (Bo false), v3, v4, v5, v6, v7, (Bo ((finF (cf .f32 x)) && β1))]) _
  refine q_is (l' := [(Fl x), Ud, (Bo ((finF (cf .f32 x)) && β1)), v3, v4, v5, v6, v7, (Bo ((finF (cf .f32 x)) && β1))]) rfl rfl (does_assign (u := (Bo ((finF (cf .f32 x)) && β1))) (ev rfl)) rfl ?_
  refine wpList_nil (hK2 _ _ ?_)
  refine wp_ret ?_
  refine ret_val (v := (Bo ((finF (cf .f32 x)) && β1))) (res_T rfl (slot rfl)) X13 ?_
  have x14 : (finF (cf .f32 x) && posF (cf .f32 x)) = ((finF (cf .f32 x)) && β1) := by first | with_reducible rfl | (simp only [posF, hβ1]; done) | (simp [posF, hβ1]; done) | rfl
  exact (by first | with_reducible rfl | rw [x14] | rfl)

end Go.Proofs.Ytlfpeihlfmdmdaa
