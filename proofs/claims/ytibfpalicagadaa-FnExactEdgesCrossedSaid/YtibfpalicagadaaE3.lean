/- contracts of functions, each walked once -/
import Derived.Test.YtibfpalicagadaaE2
namespace Go.Proofs.Ytibfpalicagadaa
open Go Go.RowKit
set_option maxRecDepth 100000
set_option maxHeartbeats 3200000
set_option linter.unusedVariables false
set_option linter.unusedSimpArgs false

/- spec.EdgesCrossed -/
theorem c_spec_EdgesCrossed (g : List Value) (A_g : GridT) (w : World) (hv_g : RGridT w A_g g) : Gives Try.prog 36 #[(.agg g.toArray)] w (fun v w' => v = (.tuple #[(Iv (gvI (isGrid A_g) (edgesG A_g))), (Bo (isGrid A_g))])) := by
  obtain ⟨r1, r3, r5, r7, y9, rfl, h2, h4, h6, h8, h10⟩ := hv_g
  have hs13 := h10; have hs13l := Sl.len h10; obtain ⟨p11, q12, rfl⟩ := Sl.shape h10
  refine enter [(.agg #[(Fl r1), (Fl r3), (Fl r5), (Fl r7), (Iv A_g.x), (Iv A_g.y), (Iv A_g.z), (.slice p11 A_g.vals.length q12)]), Ud, Ud, Ud, Ud, Ud, Ud, Ud, Ud, Ud, Ud, Ud, Ud, Ud, Ud, Ud, Ud, Ud, Ud, Ud, Ud, Ud, Ud, Ud, Ud, Ud, Ud, Ud, Ud, Ud, Ud, Ud, Ud, Ud, Ud, Ud, Ud, Ud, Ud, Ud, Ud, Ud, Ud, Ud, Ud, Ud, Ud, Ud, Ud, Ud, Ud, Ud] Try.func36 rfl Try.ntmps36 rfl ?_
  refine wp_seq_k fun K14 hK14 => ?_
  refine wp_region_lit ?_
  refine seqd rfl rfl (does_box (u := (.agg #[(Fl r1), (Fl r3), (Fl r5), (Fl r7), (Iv A_g.x), (Iv A_g.y), (Iv A_g.z), (.slice p11 A_g.vals.length q12)])) (ev rfl)) ?_; rintro _ w19 ⟨b15, rfl, hb16, hB17, E18⟩
  have g20 : w.heap.size ≤ b15 := Nat.le_trans (Below.size (Ext.refl w)) hb16
  change Blk _ _ [(Fl r1), (Fl r3), (Fl r5), (Fl r7), (Iv A_g.x), (Iv A_g.y), (Iv A_g.z), (.slice p11 A_g.vals.length q12)] at hB17
  have X21 := Ext.gr (Ext.refl w) E18
  show wpList _ _ _ _ (fr [(.agg #[(Fl r1), (Fl r3), (Fl r5), (Fl r7), (Iv A_g.x), (Iv A_g.y), (Iv A_g.z), (.slice p11 A_g.vals.length q12)]), (Pt b15 0), Ud, Ud, Ud, Ud, Ud, Ud, Ud, Ud, Ud, Ud, Ud, Ud, Ud, Ud, Ud, Ud, Ud, Ud, Ud, Ud, Ud, Ud, Ud, Ud, Ud, Ud, Ud, Ud, Ud, Ud, Ud, Ud, Ud, Ud, Ud, Ud, Ud, Ud, Ud, Ud, Ud, Ud, Ud, Ud, Ud, Ud, Ud, Ud, Ud, Ud]) _
  refine q_is (l' := [(.agg #[(Fl r1), (Fl r3), (Fl r5), (Fl r7), (Iv A_g.x), (Iv A_g.y), (Iv A_g.z), (.slice p11 A_g.vals.length q12)]), (Pt b15 0), (Iv 0), Ud, Ud, Ud, Ud, Ud, Ud, Ud, Ud, Ud, Ud, Ud, Ud, Ud, Ud, Ud, Ud, Ud, Ud, Ud, Ud, Ud, Ud, Ud, Ud, Ud, Ud, Ud, Ud, Ud, Ud, Ud, Ud, Ud, Ud, Ud, Ud, Ud, Ud, Ud, Ud, Ud, Ud, Ud, Ud, Ud, Ud, Ud, Ud, Ud]) rfl rfl (does_assign (u := (Iv 0)) (ev rfl)) rfl ?_
  refine q_is (l' := [(.agg #[(Fl r1), (Fl r3), (Fl r5), (Fl r7), (Iv A_g.x), (Iv A_g.y), (Iv A_g.z), (.slice p11 A_g.vals.length q12)]), (Pt b15 0), (Iv 0), (Bo false), Ud, Ud, Ud, Ud, Ud, Ud, Ud, Ud, Ud, Ud, Ud, Ud, Ud, Ud, Ud, Ud, Ud, Ud, Ud, Ud, Ud, Ud, Ud, Ud, Ud, Ud, Ud, Ud, Ud, Ud, Ud, Ud, Ud, Ud, Ud, Ud, Ud, Ud, Ud, Ud, Ud, Ud, Ud, Ud, Ud, Ud, Ud, Ud]) rfl rfl (does_assign (u := (Bo false)) (ev rfl)) rfl ?_
  refine wpList_nil (hK14 _ _ ?_)
  refine wp_seq_k fun K22 hK22 => ?_
  refine wp_seq_k fun K23 hK23 => ?_
  refine wp_region_lit ?_
  refine seqd rfl rfl (does_call (args := #[(Pt b15 0)]) cal61 (evs rfl) (c_spec_l06Is b15 0 [(Fl r1), (Fl r3), (Fl r5), (Fl r7), (Iv A_g.x), (Iv A_g.y), (Iv A_g.z), (.slice p11 A_g.vals.length q12)] A_g _ (Blk.cells hB17) ⟨r1, r3, r5, r7, (.slice p11 A_g.vals.length q12), rfl, h2, h4, h6, h8, (Sl.ext hs13 RF.mono X21)⟩)) ?_; rintro _ w25 ⟨E24, rfl⟩
  have X26 := Ext.gr X21 E24
  show wpList _ _ _ _ (fr [(.agg #[(Fl r1), (Fl r3), (Fl r5), (Fl r7), (Iv A_g.x), (Iv A_g.y), (Iv A_g.z), (.slice p11 A_g.vals.length q12)]), (Pt b15 0), (Iv 0), (Bo false), Ud, Ud, Ud, Ud, (Bo (isGrid A_g)), Ud, Ud, Ud, Ud, Ud, Ud, Ud, Ud, Ud, Ud, Ud, Ud, Ud, Ud, Ud, Ud, Ud, Ud, Ud, Ud, Ud, Ud, Ud, Ud, Ud, Ud, Ud, Ud, Ud, Ud, Ud, Ud, Ud, Ud, Ud, Ud, Ud, Ud, Ud, Ud, Ud, Ud, Ud]) _
  refine q_is (l' := [(.agg #[(Fl r1), (Fl r3), (Fl r5), (Fl r7), (Iv A_g.x), (Iv A_g.y), (Iv A_g.z), (.slice p11 A_g.vals.length q12)]), (Pt b15 0), (Iv 0), (Bo false), Ud, Ud, Ud, Ud, (Bo (isGrid A_g)), (Bo (!(isGrid A_g))), Ud, Ud, Ud, Ud, Ud, Ud, Ud, Ud, Ud, Ud, Ud, Ud, Ud, Ud, Ud, Ud, Ud, Ud, Ud, Ud, Ud, Ud, Ud, Ud, Ud, Ud, Ud, Ud, Ud, Ud, Ud, Ud, Ud, Ud, Ud, Ud, Ud, Ud, Ud, Ud, Ud, Ud]) rfl rfl (does_not (ev rfl)) rfl ?_
  refine wpList_nil (hK23 _ _ ?_)
  refine wp_cond_split (t := !(isGrid A_g)) (ev rfl) (fun c27 => ?_) (fun c27 => ?_)
  · rw [Bool.not_eq_true'] at c27
    have c27' := c27
    refine wp_seq_k fun K28 hK28 => ?_
    refine wp_region_lit ?_
    refine q_is (l' := [(.agg #[(Fl r1), (Fl r3), (Fl r5), (Fl r7), (Iv A_g.x), (Iv A_g.y), (Iv A_g.z), (.slice p11 A_g.vals.length q12)]), (Pt b15 0), (Iv 0), (Bo false), Ud, Ud, Ud, Ud, (Bo (isGrid A_g)), (Bo (!(isGrid A_g))), Ud, Ud, Ud, Ud, Ud, Ud, Ud, Ud, Ud, Ud, Ud, Ud, Ud, Ud, Ud, Ud, Ud, Ud, Ud, Ud, Ud, Ud, Ud, Ud, Ud, Ud, Ud, Ud, Ud, Ud, Ud, Ud, Ud, Ud, Ud, Ud, Ud, Ud, Ud, Ud, Ud, Ud]) rfl rfl (does_assign (u := (Iv 0)) (ev rfl)) rfl ?_
    refine q_is (l' := [(.agg #[(Fl r1), (Fl r3), (Fl r5), (Fl r7), (Iv A_g.x), (Iv A_g.y), (Iv A_g.z), (.slice p11 A_g.vals.length q12)]), (Pt b15 0), (Iv 0), (Bo false), Ud, Ud, Ud, Ud, (Bo (isGrid A_g)), (Bo (!(isGrid A_g))), Ud, Ud, Ud, Ud, Ud, Ud, Ud, Ud, Ud, Ud, Ud, Ud, Ud, Ud, Ud, Ud, Ud, Ud, Ud, Ud, Ud, Ud, Ud, Ud, Ud, Ud, Ud, Ud, Ud, Ud, Ud, Ud, Ud, Ud, Ud, Ud, Ud, Ud, Ud, Ud, Ud, Ud]) rfl rfl (does_assign (u := (Bo false)) (ev rfl)) rfl ?_
    refine wpList_nil (hK28 _ _ ?_)
    refine wp_ret ?_
    dsimp only [Exit.then, Exit.inBlock]
    refine ret_val (v := (.tuple #[(Iv 0), (Bo false)])) (res_TT rfl (slot rfl) (slot rfl)) X26 ?_
    try simp only [h2, h4, h6, h8] at c27
    have x29 : (gvI (isGrid A_g) (edgesG A_g) : Int) = 0 := by first | rfl | assumption | (rw [‹isGrid A_g = false›]; rfl) | (rw [‹isGrid A_g = true›, gvI_t, edgesG, hn, show s.1 = A_g.vals.length by omega])
    have x30 : (isGrid A_g) = false := by first | rfl | assumption | (rw [‹isGrid A_g = false›]; rfl) | (rw [‹isGrid A_g = true›, gvI_t, edgesG, hn, show s.1 = A_g.vals.length by omega])
    exact (by first | rfl | rw [x29, x30])
  rw [Bool.not_eq_false'] at c27
  have c27' := c27
  refine wp_skip (hK22 _ _ ?_)
  refine wp_seq_k fun K31 hK31 => ?_
  refine wp_region_lit ?_
  refine q_is (l' := [(.agg #[(Fl r1), (Fl r3), (Fl r5), (Fl r7), (Iv A_g.x), (Iv A_g.y), (Iv A_g.z), (.slice p11 A_g.vals.length q12)]), (Pt b15 0), (Iv 0), (Bo false), (Iv 0), Ud, Ud, Ud, (Bo (isGrid A_g)), (Bo (!(isGrid A_g))), Ud, Ud, Ud, Ud, Ud, Ud, Ud, Ud, Ud, Ud, Ud, Ud, Ud, Ud, Ud, Ud, Ud, Ud, Ud, Ud, Ud, Ud, Ud, Ud, Ud, Ud, Ud, Ud, Ud, Ud, Ud, Ud, Ud, Ud, Ud, Ud, Ud, Ud, Ud, Ud, Ud, Ud]) rfl rfl (does_assign (u := (Iv 0)) (ev rfl)) rfl ?_
  refine wpList_nil (hK31 _ _ ?_)
  refine wp_seq_k fun K32 hK32 => ?_
  refine wp_seq_k fun K33 hK33 => ?_
  refine wp_region_lit ?_
  refine q_is (l' := [(.agg #[(Fl r1), (Fl r3), (Fl r5), (Fl r7), (Iv A_g.x), (Iv A_g.y), (Iv A_g.z), (.slice p11 A_g.vals.length q12)]), (Pt b15 0), (Iv 0), (Bo false), (Iv 0), (Iv 0), Ud, Ud, (Bo (isGrid A_g)), (Bo (!(isGrid A_g))), Ud, Ud, Ud, Ud, Ud, Ud, Ud, Ud, Ud, Ud, Ud, Ud, Ud, Ud, Ud, Ud, Ud, Ud, Ud, Ud, Ud, Ud, Ud, Ud, Ud, Ud, Ud, Ud, Ud, Ud, Ud, Ud, Ud, Ud, Ud, Ud, Ud, Ud, Ud, Ud, Ud, Ud]) rfl rfl (does_assign (u := (Iv 0)) (ev rfl)) rfl ?_
  refine wpList_nil (hK33 _ _ ?_)
  refine wp_block ?_
  refine loop_ghost (σ := Nat × Int) (fun s a w' => ∃ u34 : Nat → Value, a = fr [(.agg #[(Fl r1), (Fl r3), (Fl r5), (Fl r7), (Iv A_g.x), (Iv A_g.y), (Iv A_g.z), (.slice p11 A_g.vals.length q12)]), (Pt b15 0), (Iv 0), (Bo false), (Iv s.2), (Iv (s.1 : Int)), (u34 6), (u34 7), (Bo (isGrid A_g)), (Bo (!(isGrid A_g))), (u34 10), (u34 11), (u34 12), (u34 13), (u34 14), (u34 15), (u34 16), (u34 17), (u34 18), (u34 19), (u34 20), (u34 21), (u34 22), (u34 23), (u34 24), (u34 25), (u34 26), (u34 27), (u34 28), (u34 29), (u34 30), (u34 31), (u34 32), (u34 33), (u34 34), (u34 35), (u34 36), (u34 37), (u34 38), (u34 39), (u34 40), (u34 41), (u34 42), (u34 43), (u34 44), (u34 45), (u34 46), (u34 47), (u34 48), (u34 49), (u34 50), Ud] ∧ Ext w25 w' ∧ (s.1 ≤ A_g.vals.length ∧ s.2 = ((sumTo (edgS A_g) s.1 : Nat) : Int))) (fun s => A_g.vals.length - s.1) (0, 0) ?_ ?_
  · refine ⟨fun t => (([(.agg #[(Fl r1), (Fl r3), (Fl r5), (Fl r7), (Iv A_g.x), (Iv A_g.y), (Iv A_g.z), (.slice p11 A_g.vals.length q12)]), (Pt b15 0), (Iv 0), (Bo false), (Iv 0), (Iv 0), Ud, Ud, (Bo (isGrid A_g)), (Bo (!(isGrid A_g))), Ud, Ud, Ud, Ud, Ud, Ud, Ud, Ud, Ud, Ud, Ud, Ud, Ud, Ud, Ud, Ud, Ud, Ud, Ud, Ud, Ud, Ud, Ud, Ud, Ud, Ud, Ud, Ud, Ud, Ud, Ud, Ud, Ud, Ud, Ud, Ud, Ud, Ud, Ud, Ud, Ud, Ud] : List Value)[t]?).getD undef, rfl, Ext.refl _, ?_⟩
    exact ⟨Nat.zero_le _, rfl⟩
  · rintro s a w35 ⟨u34, rfl, E36, ⟨hk, hn⟩⟩
    have X38 := Ext.gr X26 E36
    have hb1 := sumTo_le (edgS_le A_g) s.1
    have hgc := isGrid_cnt (g := A_g) (by assumption)
    refine wp_seq_k fun K39 hK39 => ?_
    refine wp_seq_k fun K40 hK40 => ?_
    refine wp_region_lit ?_
    refine q_is (l' := [(.agg #[(Fl r1), (Fl r3), (Fl r5), (Fl r7), (Iv A_g.x), (Iv A_g.y), (Iv A_g.z), (.slice p11 A_g.vals.length q12)]), (Pt b15 0), (Iv 0), (Bo false), (Iv s.2), (Iv (s.1 : Int)), (u34 6), (u34 7), (Bo (isGrid A_g)), (Bo (!(isGrid A_g))), (Iv (s.1 : Int)), (u34 11), (u34 12), (u34 13), (u34 14), (u34 15), (u34 16), (u34 17), (u34 18), (u34 19), (u34 20), (u34 21), (u34 22), (u34 23), (u34 24), (u34 25), (u34 26), (u34 27), (u34 28), (u34 29), (u34 30), (u34 31), (u34 32), (u34 33), (u34 34), (u34 35), (u34 36), (u34 37), (u34 38), (u34 39), (u34 40), (u34 41), (u34 42), (u34 43), (u34 44), (u34 45), (u34 46), (u34 47), (u34 48), (u34 49), (u34 50), Ud]) rfl rfl (does_move (u := (Iv (s.1 : Int))) (ev rfl)) rfl ?_
    refine q_is (l' := [(.agg #[(Fl r1), (Fl r3), (Fl r5), (Fl r7), (Iv A_g.x), (Iv A_g.y), (Iv A_g.z), (.slice p11 A_g.vals.length q12)]), (Pt b15 0), (Iv 0), (Bo false), (Iv s.2), (Iv (s.1 : Int)), (u34 6), (u34 7), (Bo (isGrid A_g)), (Bo (!(isGrid A_g))), (Iv (s.1 : Int)), (Pt b15 7), (u34 12), (u34 13), (u34 14), (u34 15), (u34 16), (u34 17), (u34 18), (u34 19), (u34 20), (u34 21), (u34 22), (u34 23), (u34 24), (u34 25), (u34 26), (u34 27), (u34 28), (u34 29), (u34 30), (u34 31), (u34 32), (u34 33), (u34 34), (u34 35), (u34 36), (u34 37), (u34 38), (u34 39), (u34 40), (u34 41), (u34 42), (u34 43), (u34 44), (u34 45), (u34 46), (u34 47), (u34 48), (u34 49), (u34 50), Ud]) rfl rfl (does_fieldAddr (ev rfl) fa32_5) rfl ?_
    refine q_is (l' := [(.agg #[(Fl r1), (Fl r3), (Fl r5), (Fl r7), (Iv A_g.x), (Iv A_g.y), (Iv A_g.z), (.slice p11 A_g.vals.length q12)]), (Pt b15 0), (Iv 0), (Bo false), (Iv s.2), (Iv (s.1 : Int)), (u34 6), (u34 7), (Bo (isGrid A_g)), (Bo (!(isGrid A_g))), (Iv (s.1 : Int)), (Pt b15 7), (.slice p11 A_g.vals.length q12), (u34 13), (u34 14), (u34 15), (u34 16), (u34 17), (u34 18), (u34 19), (u34 20), (u34 21), (u34 22), (u34 23), (u34 24), (u34 25), (u34 26), (u34 27), (u34 28), (u34 29), (u34 30), (u34 31), (u34 32), (u34 33), (u34 34), (u34 35), (u34 36), (u34 37), (u34 38), (u34 39), (u34 40), (u34 41), (u34 42), (u34 43), (u34 44), (u34 45), (u34 46), (u34 47), (u34 48), (u34 49), (u34 50), Ud]) rfl rfl (does_load (u := (.slice p11 A_g.vals.length q12)) (ev rfl) Try.isAgg25 (Cells.at (Blk.cells ((hB17.ext E24).ext E36)) 7 rfl)) rfl ?_
    refine q_is (l' := [(.agg #[(Fl r1), (Fl r3), (Fl r5), (Fl r7), (Iv A_g.x), (Iv A_g.y), (Iv A_g.z), (.slice p11 A_g.vals.length q12)]), (Pt b15 0), (Iv 0), (Bo false), (Iv s.2), (Iv (s.1 : Int)), (u34 6), (u34 7), (Bo (isGrid A_g)), (Bo (!(isGrid A_g))), (Iv (s.1 : Int)), (Pt b15 7), (.slice p11 A_g.vals.length q12), (Iv (A_g.vals.length : Int)), (u34 14), (u34 15), (u34 16), (u34 17), (u34 18), (u34 19), (u34 20), (u34 21), (u34 22), (u34 23), (u34 24), (u34 25), (u34 26), (u34 27), (u34 28), (u34 29), (u34 30), (u34 31), (u34 32), (u34 33), (u34 34), (u34 35), (u34 36), (u34 37), (u34 38), (u34 39), (u34 40), (u34 41), (u34 42), (u34 43), (u34 44), (u34 45), (u34 46), (u34 47), (u34 48), (u34 49), (u34 50), Ud]) rfl rfl (does_len_slice Try.underlying25 (ev rfl)) rfl ?_
    refine q_is (l' := [(.agg #[(Fl r1), (Fl r3), (Fl r5), (Fl r7), (Iv A_g.x), (Iv A_g.y), (Iv A_g.z), (.slice p11 A_g.vals.length q12)]), (Pt b15 0), (Iv 0), (Bo false), (Iv s.2), (Iv (s.1 : Int)), (u34 6), (u34 7), (Bo (isGrid A_g)), (Bo (!(isGrid A_g))), (Iv (s.1 : Int)), (Pt b15 7), (.slice p11 A_g.vals.length q12), (Iv (A_g.vals.length : Int)), (Bo (icmp .lss (s.1 : Int) (A_g.vals.length : Int))), (u34 15), (u34 16), (u34 17), (u34 18), (u34 19), (u34 20), (u34 21), (u34 22), (u34 23), (u34 24), (u34 25), (u34 26), (u34 27), (u34 28), (u34 29), (u34 30), (u34 31), (u34 32), (u34 33), (u34 34), (u34 35), (u34 36), (u34 37), (u34 38), (u34 39), (u34 40), (u34 41), (u34 42), (u34 43), (u34 44), (u34 45), (u34 46), (u34 47), (u34 48), (u34 49), (u34 50), Ud]) rfl rfl (does_icmp (p := (s.1 : Int)) (q := (A_g.vals.length : Int)) (.inr (.inr (.inl rfl))) (ev rfl) (ev rfl)) rfl ?_
    refine wpList_nil (hK40 _ _ ?_)
    refine wp_cond_split (t := icmp .lss (s.1 : Int) (A_g.vals.length : Int)) (ev rfl) (fun c41 => ?_) (fun c41 => ?_)
    · have c41' := c41
      (try simp only [icmp, Bool.and_eq_true, Bool.or_eq_true, Bool.and_eq_false_iff, Bool.or_eq_false_iff, Bool.not_eq_true', Bool.not_eq_false', decide_eq_true_eq, decide_eq_false_iff_not, beq_iff_eq, bne_iff_ne, beq_eq_false_iff_ne, bne_eq_false_iff_eq] at c41')
      refine wp_skip (hK39 _ _ ?_)
      refine wp_seq_k fun K42 hK42 => ?_
      refine wp_block ?_
      refine wp_seq_k fun K43 hK43 => ?_
      refine wp_region_lit ?_
      refine q_is (l' := [(.agg #[(Fl r1), (Fl r3), (Fl r5), (Fl r7), (Iv A_g.x), (Iv A_g.y), (Iv A_g.z), (.slice p11 A_g.vals.length q12)]), (Pt b15 0), (Iv 0), (Bo false), (Iv s.2), (Iv (s.1 : Int)), (u34 6), (u34 7), (Bo (isGrid A_g)), (Bo (!(isGrid A_g))), (Iv (s.1 : Int)), (Pt b15 7), (.slice p11 A_g.vals.length q12), (Iv (A_g.vals.length : Int)), (Bo (icmp .lss (s.1 : Int) (A_g.vals.length : Int))), (u34 15), (u34 16), (Iv (s.1 : Int)), (u34 18), (u34 19), (u34 20), (u34 21), (u34 22), (u34 23), (u34 24), (u34 25), (u34 26), (u34 27), (u34 28), (u34 29), (u34 30), (u34 31), (u34 32), (u34 33), (u34 34), (u34 35), (u34 36), (u34 37), (u34 38), (u34 39), (u34 40), (u34 41), (u34 42), (u34 43), (u34 44), (u34 45), (u34 46), (u34 47), (u34 48), (u34 49), (u34 50), Ud]) rfl rfl (does_move (u := (Iv (s.1 : Int))) (ev rfl)) rfl ?_
      refine seqd rfl rfl (does_call (args := #[(Pt b15 0), (Iv (s.1 : Int))]) cal79 (evs rfl) (c_spec_l06Near b15 0 [(Fl r1), (Fl r3), (Fl r5), (Fl r7), (Iv A_g.x), (Iv A_g.y), (Iv A_g.z), (.slice p11 A_g.vals.length q12)] A_g (s.1 : Int) _ (Blk.cells ((hB17.ext E24).ext E36)) ⟨r1, r3, r5, r7, (.slice p11 A_g.vals.length q12), rfl, h2, h4, h6, h8, (Sl.ext hs13 RF.mono X38)⟩ (by assumption) (by omega))) ?_; rintro _ w45 ⟨E44, ⟨y47, rfl, hh46⟩⟩
      have X48 := Ext.gr X38 E44
      have n49 : b15 < w35.heap.size := Blk.lt ((hB17.ext E24).ext E36)
      obtain ⟨p50, q51, rfl⟩ := Sl.shape hh46.get
      show wpList _ _ _ _ (fr [(.agg #[(Fl r1), (Fl r3), (Fl r5), (Fl r7), (Iv A_g.x), (Iv A_g.y), (Iv A_g.z), (.slice p11 A_g.vals.length q12)]), (Pt b15 0), (Iv 0), (Bo false), (Iv s.2), (Iv (s.1 : Int)), (u34 6), (u34 7), (Bo (isGrid A_g)), (Bo (!(isGrid A_g))), (Iv (s.1 : Int)), (Pt b15 7), (.slice p11 A_g.vals.length q12), (Iv (A_g.vals.length : Int)), (Bo (icmp .lss (s.1 : Int) (A_g.vals.length : Int))), (u34 15), (u34 16), (Iv (s.1 : Int)), (.slice p50 ((nb A_g (s.1 : Int)).length) q51), (u34 19), (u34 20), (u34 21), (u34 22), (u34 23), (u34 24), (u34 25), (u34 26), (u34 27), (u34 28), (u34 29), (u34 30), (u34 31), (u34 32), (u34 33), (u34 34), (u34 35), (u34 36), (u34 37), (u34 38), (u34 39), (u34 40), (u34 41), (u34 42), (u34 43), (u34 44), (u34 45), (u34 46), (u34 47), (u34 48), (u34 49), (u34 50), Ud]) _
      refine q_is (l' := [(.agg #[(Fl r1), (Fl r3), (Fl r5), (Fl r7), (Iv A_g.x), (Iv A_g.y), (Iv A_g.z), (.slice p11 A_g.vals.length q12)]), (Pt b15 0), (Iv 0), (Bo false), (Iv s.2), (Iv (s.1 : Int)), (.slice p50 ((nb A_g (s.1 : Int)).length) q51), (u34 7), (Bo (isGrid A_g)), (Bo (!(isGrid A_g))), (Iv (s.1 : Int)), (Pt b15 7), (.slice p11 A_g.vals.length q12), (Iv (A_g.vals.length : Int)), (Bo (icmp .lss (s.1 : Int) (A_g.vals.length : Int))), (u34 15), (u34 16), (Iv (s.1 : Int)), (.slice p50 ((nb A_g (s.1 : Int)).length) q51), (u34 19), (u34 20), (u34 21), (u34 22), (u34 23), (u34 24), (u34 25), (u34 26), (u34 27), (u34 28), (u34 29), (u34 30), (u34 31), (u34 32), (u34 33), (u34 34), (u34 35), (u34 36), (u34 37), (u34 38), (u34 39), (u34 40), (u34 41), (u34 42), (u34 43), (u34 44), (u34 45), (u34 46), (u34 47), (u34 48), (u34 49), (u34 50), Ud]) rfl rfl (does_assign (u := (.slice p50 ((nb A_g (s.1 : Int)).length) q51)) (ev rfl)) rfl ?_
      refine wpList_nil (hK43 _ _ ?_)
      refine wp_seq_k fun K52 hK52 => ?_
      refine wp_region_lit ?_
      refine q_is (l' := [(.agg #[(Fl r1), (Fl r3), (Fl r5), (Fl r7), (Iv A_g.x), (Iv A_g.y), (Iv A_g.z), (.slice p11 A_g.vals.length q12)]), (Pt b15 0), (Iv 0), (Bo false), (Iv s.2), (Iv (s.1 : Int)), (.slice p50 ((nb A_g (s.1 : Int)).length) q51), (Iv 0), (Bo (isGrid A_g)), (Bo (!(isGrid A_g))), (Iv (s.1 : Int)), (Pt b15 7), (.slice p11 A_g.vals.length q12), (Iv (A_g.vals.length : Int)), (Bo (icmp .lss (s.1 : Int) (A_g.vals.length : Int))), (u34 15), (u34 16), (Iv (s.1 : Int)), (.slice p50 ((nb A_g (s.1 : Int)).length) q51), (u34 19), (u34 20), (u34 21), (u34 22), (u34 23), (u34 24), (u34 25), (u34 26), (u34 27), (u34 28), (u34 29), (u34 30), (u34 31), (u34 32), (u34 33), (u34 34), (u34 35), (u34 36), (u34 37), (u34 38), (u34 39), (u34 40), (u34 41), (u34 42), (u34 43), (u34 44), (u34 45), (u34 46), (u34 47), (u34 48), (u34 49), (u34 50), Ud]) rfl rfl (does_assign (u := (Iv 0)) (ev rfl)) rfl ?_
      refine wpList_nil (hK52 _ _ ?_)
      refine wp_block ?_
      refine loop_ghost (σ := Nat × Int) (fun u2 a w' => ∃ u53 : Nat → Value, a = fr [(.agg #[(Fl r1), (Fl r3), (Fl r5), (Fl r7), (Iv A_g.x), (Iv A_g.y), (Iv A_g.z), (.slice p11 A_g.vals.length q12)]), (Pt b15 0), (Iv 0), (Bo false), (Iv u2.2), (Iv (s.1 : Int)), (.slice p50 ((nb A_g (s.1 : Int)).length) q51), (Iv (u2.1 : Int)), (Bo (isGrid A_g)), (Bo (!(isGrid A_g))), (Iv (s.1 : Int)), (Pt b15 7), (.slice p11 A_g.vals.length q12), (Iv (A_g.vals.length : Int)), (Bo (icmp .lss (s.1 : Int) (A_g.vals.length : Int))), (u34 15), (u34 16), (Iv (s.1 : Int)), (.slice p50 ((nb A_g (s.1 : Int)).length) q51), (u53 19), (u53 20), (u53 21), (u53 22), (u53 23), (u53 24), (u53 25), (u53 26), (u53 27), (u53 28), (u53 29), (u53 30), (u53 31), (u53 32), (u53 33), (u53 34), (u53 35), (u53 36), (u53 37), (u53 38), (u53 39), (u53 40), (u53 41), (u53 42), (u53 43), (u53 44), (u53 45), (u53 46), (u53 47), (u53 48), (u53 49), (u53 50), Ud] ∧ Ext w45 w' ∧ (u2.1 ≤ (nb A_g s.1).length ∧ u2.2 = ((sumTo (edgS A_g) s.1 + ((nb A_g s.1).take u2.1).countP (fun k => decide ((s.1 : Int) < k) && (negAt A_g s.1 != negAt A_g k)) : Nat) : Int))) (fun u2 => (nb A_g s.1).length - u2.1) (0, s.2) ?_ ?_
      · refine ⟨fun t => (([(.agg #[(Fl r1), (Fl r3), (Fl r5), (Fl r7), (Iv A_g.x), (Iv A_g.y), (Iv A_g.z), (.slice p11 A_g.vals.length q12)]), (Pt b15 0), (Iv 0), (Bo false), (Iv s.2), (Iv (s.1 : Int)), (.slice p50 ((nb A_g (s.1 : Int)).length) q51), (Iv 0), (Bo (isGrid A_g)), (Bo (!(isGrid A_g))), (Iv (s.1 : Int)), (Pt b15 7), (.slice p11 A_g.vals.length q12), (Iv (A_g.vals.length : Int)), (Bo (icmp .lss (s.1 : Int) (A_g.vals.length : Int))), (u34 15), (u34 16), (Iv (s.1 : Int)), (.slice p50 ((nb A_g (s.1 : Int)).length) q51), (u34 19), (u34 20), (u34 21), (u34 22), (u34 23), (u34 24), (u34 25), (u34 26), (u34 27), (u34 28), (u34 29), (u34 30), (u34 31), (u34 32), (u34 33), (u34 34), (u34 35), (u34 36), (u34 37), (u34 38), (u34 39), (u34 40), (u34 41), (u34 42), (u34 43), (u34 44), (u34 45), (u34 46), (u34 47), (u34 48), (u34 49), (u34 50), Ud] : List Value)[t]?).getD undef, rfl, Ext.refl _, ?_⟩
        exact ⟨Nat.zero_le _, by rw [hn]; rfl⟩
      · rintro u2 a w54 ⟨u53, rfl, E55, ⟨hm, hn2⟩⟩
        have X57 := Ext.gr X48 E55
        have hb2 := take_le (l := nb A_g s.1) (p := fun k => decide ((s.1 : Int) < k) && (negAt A_g s.1 != negAt A_g k)) (k := u2.1)
        have hb3 := nbK_len A_g s.1 6
        replace hb3 : (nb A_g s.1).length ≤ 6 := hb3
        refine wp_seq_k fun K58 hK58 => ?_
        refine wp_seq_k fun K59 hK59 => ?_
        refine wp_region_lit ?_
        refine q_is (l' := [(.agg #[(Fl r1), (Fl r3), (Fl r5), (Fl r7), (Iv A_g.x), (Iv A_g.y), (Iv A_g.z), (.slice p11 A_g.vals.length q12)]), (Pt b15 0), (Iv 0), (Bo false), (Iv u2.2), (Iv (s.1 : Int)), (.slice p50 ((nb A_g (s.1 : Int)).length) q51), (Iv (u2.1 : Int)), (Bo (isGrid A_g)), (Bo (!(isGrid A_g))), (Iv (s.1 : Int)), (Pt b15 7), (.slice p11 A_g.vals.length q12), (Iv (A_g.vals.length : Int)), (Bo (icmp .lss (s.1 : Int) (A_g.vals.length : Int))), (u34 15), (u34 16), (Iv (s.1 : Int)), (.slice p50 ((nb A_g (s.1 : Int)).length) q51), (Iv (u2.1 : Int)), (u53 20), (u53 21), (u53 22), (u53 23), (u53 24), (u53 25), (u53 26), (u53 27), (u53 28), (u53 29), (u53 30), (u53 31), (u53 32), (u53 33), (u53 34), (u53 35), (u53 36), (u53 37), (u53 38), (u53 39), (u53 40), (u53 41), (u53 42), (u53 43), (u53 44), (u53 45), (u53 46), (u53 47), (u53 48), (u53 49), (u53 50), Ud]) rfl rfl (does_move (u := (Iv (u2.1 : Int))) (ev rfl)) rfl ?_
        refine q_is (l' := [(.agg #[(Fl r1), (Fl r3), (Fl r5), (Fl r7), (Iv A_g.x), (Iv A_g.y), (Iv A_g.z), (.slice p11 A_g.vals.length q12)]), (Pt b15 0), (Iv 0), (Bo false), (Iv u2.2), (Iv (s.1 : Int)), (.slice p50 ((nb A_g (s.1 : Int)).length) q51), (Iv (u2.1 : Int)), (Bo (isGrid A_g)), (Bo (!(isGrid A_g))), (Iv (s.1 : Int)), (Pt b15 7), (.slice p11 A_g.vals.length q12), (Iv (A_g.vals.length : Int)), (Bo (icmp .lss (s.1 : Int) (A_g.vals.length : Int))), (u34 15), (u34 16), (Iv (s.1 : Int)), (.slice p50 ((nb A_g (s.1 : Int)).length) q51), (Iv (u2.1 : Int)), (.slice p50 ((nb A_g (s.1 : Int)).length) q51), (u53 21), (u53 22), (u53 23), (u53 24), (u53 25), (u53 26), (u53 27), (u53 28), (u53 29), (u53 30), (u53 31), (u53 32), (u53 33), (u53 34), (u53 35), (u53 36), (u53 37), (u53 38), (u53 39), (u53 40), (u53 41), (u53 42), (u53 43), (u53 44), (u53 45), (u53 46), (u53 47), (u53 48), (u53 49), (u53 50), Ud]) rfl rfl (does_move (u := (.slice p50 ((nb A_g (s.1 : Int)).length) q51)) (ev rfl)) rfl ?_
        refine q_is (l' := [(.agg #[(Fl r1), (Fl r3), (Fl r5), (Fl r7), (Iv A_g.x), (Iv A_g.y), (Iv A_g.z), (.slice p11 A_g.vals.length q12)]), (Pt b15 0), (Iv 0), (Bo false), (Iv u2.2), (Iv (s.1 : Int)), (.slice p50 ((nb A_g (s.1 : Int)).length) q51), (Iv (u2.1 : Int)), (Bo (isGrid A_g)), (Bo (!(isGrid A_g))), (Iv (s.1 : Int)), (Pt b15 7), (.slice p11 A_g.vals.length q12), (Iv (A_g.vals.length : Int)), (Bo (icmp .lss (s.1 : Int) (A_g.vals.length : Int))), (u34 15), (u34 16), (Iv (s.1 : Int)), (.slice p50 ((nb A_g (s.1 : Int)).length) q51), (Iv (u2.1 : Int)), (.slice p50 ((nb A_g (s.1 : Int)).length) q51), (Iv (((nb A_g (s.1 : Int)).length) : Int)), (u53 22), (u53 23), (u53 24), (u53 25), (u53 26), (u53 27), (u53 28), (u53 29), (u53 30), (u53 31), (u53 32), (u53 33), (u53 34), (u53 35), (u53 36), (u53 37), (u53 38), (u53 39), (u53 40), (u53 41), (u53 42), (u53 43), (u53 44), (u53 45), (u53 46), (u53 47), (u53 48), (u53 49), (u53 50), Ud]) rfl rfl (does_len_slice Try.underlying50 (ev rfl)) rfl ?_
        refine q_is (l' := [(.agg #[(Fl r1), (Fl r3), (Fl r5), (Fl r7), (Iv A_g.x), (Iv A_g.y), (Iv A_g.z), (.slice p11 A_g.vals.length q12)]), (Pt b15 0), (Iv 0), (Bo false), (Iv u2.2), (Iv (s.1 : Int)), (.slice p50 ((nb A_g (s.1 : Int)).length) q51), (Iv (u2.1 : Int)), (Bo (isGrid A_g)), (Bo (!(isGrid A_g))), (Iv (s.1 : Int)), (Pt b15 7), (.slice p11 A_g.vals.length q12), (Iv (A_g.vals.length : Int)), (Bo (icmp .lss (s.1 : Int) (A_g.vals.length : Int))), (u34 15), (u34 16), (Iv (s.1 : Int)), (.slice p50 ((nb A_g (s.1 : Int)).length) q51), (Iv (u2.1 : Int)), (.slice p50 ((nb A_g (s.1 : Int)).length) q51), (Iv (((nb A_g (s.1 : Int)).length) : Int)), (Bo (icmp .lss (u2.1 : Int) (((nb A_g (s.1 : Int)).length) : Int))), (u53 23), (u53 24), (u53 25), (u53 26), (u53 27), (u53 28), (u53 29), (u53 30), (u53 31), (u53 32), (u53 33), (u53 34), (u53 35), (u53 36), (u53 37), (u53 38), (u53 39), (u53 40), (u53 41), (u53 42), (u53 43), (u53 44), (u53 45), (u53 46), (u53 47), (u53 48), (u53 49), (u53 50), Ud]) rfl rfl (does_icmp (p := (u2.1 : Int)) (q := (((nb A_g (s.1 : Int)).length) : Int)) (.inr (.inr (.inl rfl))) (ev rfl) (ev rfl)) rfl ?_
        refine wpList_nil (hK59 _ _ ?_)
        refine wp_cond_split (t := icmp .lss (u2.1 : Int) (((nb A_g (s.1 : Int)).length) : Int)) (ev rfl) (fun c60 => ?_) (fun c60 => ?_)
        · have c60' := c60
          (try simp only [icmp, Bool.and_eq_true, Bool.or_eq_true, Bool.and_eq_false_iff, Bool.or_eq_false_iff, Bool.not_eq_true', Bool.not_eq_false', decide_eq_true_eq, decide_eq_false_iff_not, beq_iff_eq, bne_iff_ne, beq_eq_false_iff_ne, bne_eq_false_iff_eq] at c60')
          refine wp_skip (hK58 _ _ ?_)
          refine wp_seq_k fun K61 hK61 => ?_
          refine wp_block ?_
          refine wp_seq_k fun K62 hK62 => ?_
          obtain ⟨el1, hel1⟩ : ∃ e, (nb A_g (s.1 : Int))[u2.1]? = some e := ⟨_, List.getElem?_eq_getElem (by omega)⟩
          obtain ⟨β1, hβ1⟩ : ∃ b : Bool, b = (icmp .gtr el1 (s.1 : Int)) := ⟨_, rfl⟩
          have hnm := nb_mem (g := A_g) (by assumption) (i := (s.1 : Int)) (by omega) (List.mem_of_getElem? hel1)
          obtain ⟨el2, hel2⟩ : ∃ e, A_g.vals[s.1]? = some e := ⟨_, List.getElem?_eq_getElem (by omega)⟩
          obtain ⟨β2, hβ2⟩ : ∃ b : Bool, b = (fcmp .lss (ford .f32 el2 (cf .f32 0))) := ⟨_, rfl⟩
          obtain ⟨el3, hel3⟩ : ∃ e, A_g.vals[el1.toNat]? = some e := ⟨_, List.getElem?_eq_getElem (by omega)⟩
          obtain ⟨β3, hβ3⟩ : ∃ b : Bool, b = (fcmp .lss (ford .f32 el3 (cf .f32 0))) := ⟨_, rfl⟩
          refine region_draw (
            [Fact.pure [] (fun v => v = (.slice p50 ((nb A_g (s.1 : Int)).length) q51)),
    Fact.pure [] (fun v => v = (Iv (u2.1 : Int))),
    Fact.mem [25, 26] (fun v w' => PtrR RI w' v el1) (by intro v w1 w2 hx h; exact h.ext RI.mono hx),
    Fact.pure [27] (fun v => v = (Iv el1)),
    Fact.pure [] (fun v => v = (Iv (s.1 : Int))),
    Fact.pure [28, 29] (fun v => v = (Bo β1)),
    Fact.pure [30] (fun v => v = (Bo β1)),
    Fact.pure [31] (fun v => β1 = true → v = (Pt b15 7)),
    Fact.pure [32, 31] (fun v => β1 = true → v = (.slice p11 A_g.vals.length q12)),
    Fact.pure [31] (fun v => β1 = true → v = (Iv (s.1 : Int))),
    Fact.mem [33, 34, 31] (fun v w' => β1 = true → PtrR RF w' v el2) (by intro v w1 w2 hx h; exact fun hg1 => (h hg1).ext RF.mono hx),
    Fact.pure [35, 31] (fun v => β1 = true → ∃ r_1 : Nat, v = (Fl r_1) ∧ cf .f32 r_1 = el2),
    Fact.pure [36, 31] (fun v => β1 = true → v = (Bo β2)),
    Fact.pure [31] (fun v => β1 = true → v = (Pt b15 7)),
    Fact.pure [38, 31] (fun v => β1 = true → v = (.slice p11 A_g.vals.length q12)),
    Fact.pure [31] (fun v => β1 = true → v = (.slice p50 ((nb A_g (s.1 : Int)).length) q51)),
    Fact.pure [31] (fun v => β1 = true → v = (Iv (u2.1 : Int))),
    Fact.mem [40, 41, 31] (fun v w' => β1 = true → PtrR RI w' v el1) (by intro v w1 w2 hx h; exact fun hg1 => (h hg1).ext RI.mono hx),
    Fact.pure [42, 31] (fun v => β1 = true → v = (Iv el1)),
    Fact.mem [39, 43, 31] (fun v w' => β1 = true → PtrR RF w' v el3) (by intro v w1 w2 hx h; exact fun hg1 => (h hg1).ext RF.mono hx),
    Fact.pure [44, 31] (fun v => β1 = true → ∃ r_1 : Nat, v = (Fl r_1) ∧ cf .f32 r_1 = el3),
    Fact.pure [45, 31] (fun v => β1 = true → v = (Bo β3)),
    Fact.pure [37, 46, 31] (fun v => β1 = true → v = (Bo (β2 != β3))),
    Fact.pure [31, 47] (fun v => v = (Bo (β1 && (β2 != β3))))]) mixed (by kernel_rfl) (by intro _ _ d _ _ h; cases d <;> exact h) ?_
          obtain ⟨w63, hw65⟩ : ∃ w', w' = World.drew w54 := ⟨_, rfl⟩; rw [← hw65]; have E64 : Ext w54 w63 := by rw [hw65]; exact Ext.draw _
          clear hw65
          have X66 := Ext.gr X57 E64
          refine RW_d (fun v67 => [(.agg #[(Fl r1), (Fl r3), (Fl r5), (Fl r7), (Iv A_g.x), (Iv A_g.y), (Iv A_g.z), (.slice p11 A_g.vals.length q12)]), (Pt b15 0), (Iv 0), (Bo false), (Iv u2.2), (Iv (s.1 : Int)), (.slice p50 ((nb A_g (s.1 : Int)).length) q51), (Iv (u2.1 : Int)), (Bo (isGrid A_g)), (Bo (!(isGrid A_g))), (Iv (s.1 : Int)), (Pt b15 7), (.slice p11 A_g.vals.length q12), (Iv (A_g.vals.length : Int)), (Bo (icmp .lss (s.1 : Int) (A_g.vals.length : Int))), (u34 15), (u34 16), (Iv (s.1 : Int)), (.slice p50 ((nb A_g (s.1 : Int)).length) q51), (Iv (u2.1 : Int)), (.slice p50 ((nb A_g (s.1 : Int)).length) q51), (Iv (((nb A_g (s.1 : Int)).length) : Int)), (Bo (icmp .lss (u2.1 : Int) (((nb A_g (s.1 : Int)).length) : Int))), (u53 23), (u53 24), v67, (u53 26), (u53 27), (u53 28), (u53 29), (u53 30), (u53 31), (u53 32), (u53 33), (u53 34), (u53 35), (u53 36), (u53 37), (u53 38), (u53 39), (u53 40), (u53 41), (u53 42), (u53 43), (u53 44), (u53 45), (u53 46), (u53 47), (u53 48), (u53 49), (u53 50), Ud]) rfl (fun _ => rfl) (fun u hu hF => ?_) (fun v67 => ?_)
          · clear hF
            refine doesG_un rfl ?_
            refine (does_move (u := (.slice p50 ((nb A_g (s.1 : Int)).length) q51)) (ev rfl)).mono ?_; rintro _ _ ⟨rfl, rfl⟩
            exact ⟨rfl, Ext.refl _⟩
          refine RW_d (fun v68 => [(.agg #[(Fl r1), (Fl r3), (Fl r5), (Fl r7), (Iv A_g.x), (Iv A_g.y), (Iv A_g.z), (.slice p11 A_g.vals.length q12)]), (Pt b15 0), (Iv 0), (Bo false), (Iv u2.2), (Iv (s.1 : Int)), (.slice p50 ((nb A_g (s.1 : Int)).length) q51), (Iv (u2.1 : Int)), (Bo (isGrid A_g)), (Bo (!(isGrid A_g))), (Iv (s.1 : Int)), (Pt b15 7), (.slice p11 A_g.vals.length q12), (Iv (A_g.vals.length : Int)), (Bo (icmp .lss (s.1 : Int) (A_g.vals.length : Int))), (u34 15), (u34 16), (Iv (s.1 : Int)), (.slice p50 ((nb A_g (s.1 : Int)).length) q51), (Iv (u2.1 : Int)), (.slice p50 ((nb A_g (s.1 : Int)).length) q51), (Iv (((nb A_g (s.1 : Int)).length) : Int)), (Bo (icmp .lss (u2.1 : Int) (((nb A_g (s.1 : Int)).length) : Int))), (u53 23), (u53 24), v67, v68, (u53 27), (u53 28), (u53 29), (u53 30), (u53 31), (u53 32), (u53 33), (u53 34), (u53 35), (u53 36), (u53 37), (u53 38), (u53 39), (u53 40), (u53 41), (u53 42), (u53 43), (u53 44), (u53 45), (u53 46), (u53 47), (u53 48), (u53 49), (u53 50), Ud]) rfl (fun _ => rfl) (fun u hu hF => ?_) (fun v68 => ?_)
          · clear hF
            refine doesG_un rfl ?_
            refine (does_move (u := (Iv (u2.1 : Int))) (ev rfl)).mono ?_; rintro _ _ ⟨rfl, rfl⟩
            exact ⟨rfl, Ext.refl _⟩
          refine RW_d (fun v69 => [(.agg #[(Fl r1), (Fl r3), (Fl r5), (Fl r7), (Iv A_g.x), (Iv A_g.y), (Iv A_g.z), (.slice p11 A_g.vals.length q12)]), (Pt b15 0), (Iv 0), (Bo false), (Iv u2.2), (Iv (s.1 : Int)), (.slice p50 ((nb A_g (s.1 : Int)).length) q51), (Iv (u2.1 : Int)), (Bo (isGrid A_g)), (Bo (!(isGrid A_g))), (Iv (s.1 : Int)), (Pt b15 7), (.slice p11 A_g.vals.length q12), (Iv (A_g.vals.length : Int)), (Bo (icmp .lss (s.1 : Int) (A_g.vals.length : Int))), (u34 15), (u34 16), (Iv (s.1 : Int)), (.slice p50 ((nb A_g (s.1 : Int)).length) q51), (Iv (u2.1 : Int)), (.slice p50 ((nb A_g (s.1 : Int)).length) q51), (Iv (((nb A_g (s.1 : Int)).length) : Int)), (Bo (icmp .lss (u2.1 : Int) (((nb A_g (s.1 : Int)).length) : Int))), (u53 23), (u53 24), v67, v68, v69, (u53 28), (u53 29), (u53 30), (u53 31), (u53 32), (u53 33), (u53 34), (u53 35), (u53 36), (u53 37), (u53 38), (u53 39), (u53 40), (u53 41), (u53 42), (u53 43), (u53 44), (u53 45), (u53 46), (u53 47), (u53 48), (u53 49), (u53 50), Ud]) rfl (fun _ => rfl) (fun u hu hF => ?_) (fun v69 => ?_)
          · have h25_ : v67 = (.slice p50 ((nb A_g (s.1 : Int)).length) q51) := hF.1
            have h26_ : v68 = (Iv (u2.1 : Int)) := hF.2.1
            clear hF
            refine doesG_un rfl ?_
            obtain rfl := h25_
            obtain rfl := h26_
            refine (does_indexSl (R := RI) (i := (u2.1 : Int)) (xs := (nb A_g (s.1 : Int))) (e := el1) Try.underlying50 Try.sizeOf2 (ev rfl) (ev rfl) (Sl.ext (hh46 _ (((Same.refl _ _).ext E55).ext E64)) RI.mono hu) (by omega) hel1).mono ?_; rintro v u' ⟨b, of, cs, hv, hc, hR, hu'⟩; subst hu'
            exact ⟨⟨b, of, cs, hv, hc, hR⟩, Ext.refl _⟩
          refine RW_d (fun v70 => [(.agg #[(Fl r1), (Fl r3), (Fl r5), (Fl r7), (Iv A_g.x), (Iv A_g.y), (Iv A_g.z), (.slice p11 A_g.vals.length q12)]), (Pt b15 0), (Iv 0), (Bo false), (Iv u2.2), (Iv (s.1 : Int)), (.slice p50 ((nb A_g (s.1 : Int)).length) q51), (Iv (u2.1 : Int)), (Bo (isGrid A_g)), (Bo (!(isGrid A_g))), (Iv (s.1 : Int)), (Pt b15 7), (.slice p11 A_g.vals.length q12), (Iv (A_g.vals.length : Int)), (Bo (icmp .lss (s.1 : Int) (A_g.vals.length : Int))), (u34 15), (u34 16), (Iv (s.1 : Int)), (.slice p50 ((nb A_g (s.1 : Int)).length) q51), (Iv (u2.1 : Int)), (.slice p50 ((nb A_g (s.1 : Int)).length) q51), (Iv (((nb A_g (s.1 : Int)).length) : Int)), (Bo (icmp .lss (u2.1 : Int) (((nb A_g (s.1 : Int)).length) : Int))), (u53 23), (u53 24), v67, v68, v69, v70, (u53 29), (u53 30), (u53 31), (u53 32), (u53 33), (u53 34), (u53 35), (u53 36), (u53 37), (u53 38), (u53 39), (u53 40), (u53 41), (u53 42), (u53 43), (u53 44), (u53 45), (u53 46), (u53 47), (u53 48), (u53 49), (u53 50), Ud]) rfl (fun _ => rfl) (fun u hu hF => ?_) (fun v70 => ?_)
          · have h27_ : PtrR RI u v69 el1 := hF.1
            clear hF
            refine doesG_un rfl ?_
            obtain ⟨b27_, o27_, _, rfl, hc27_, rfl⟩ := h27_
            refine (does_load (u := (Iv el1)) (ev rfl) Try.isAgg2 (Cells.at hc27_ 0 rfl)).mono ?_; rintro _ _ ⟨rfl, rfl⟩
            exact ⟨rfl, Ext.refl _⟩
          refine RW_d (fun v71 => [(.agg #[(Fl r1), (Fl r3), (Fl r5), (Fl r7), (Iv A_g.x), (Iv A_g.y), (Iv A_g.z), (.slice p11 A_g.vals.length q12)]), (Pt b15 0), (Iv 0), (Bo false), (Iv u2.2), (Iv (s.1 : Int)), (.slice p50 ((nb A_g (s.1 : Int)).length) q51), (Iv (u2.1 : Int)), (Bo (isGrid A_g)), (Bo (!(isGrid A_g))), (Iv (s.1 : Int)), (Pt b15 7), (.slice p11 A_g.vals.length q12), (Iv (A_g.vals.length : Int)), (Bo (icmp .lss (s.1 : Int) (A_g.vals.length : Int))), (u34 15), (u34 16), (Iv (s.1 : Int)), (.slice p50 ((nb A_g (s.1 : Int)).length) q51), (Iv (u2.1 : Int)), (.slice p50 ((nb A_g (s.1 : Int)).length) q51), (Iv (((nb A_g (s.1 : Int)).length) : Int)), (Bo (icmp .lss (u2.1 : Int) (((nb A_g (s.1 : Int)).length) : Int))), (u53 23), (u53 24), v67, v68, v69, v70, v71, (u53 30), (u53 31), (u53 32), (u53 33), (u53 34), (u53 35), (u53 36), (u53 37), (u53 38), (u53 39), (u53 40), (u53 41), (u53 42), (u53 43), (u53 44), (u53 45), (u53 46), (u53 47), (u53 48), (u53 49), (u53 50), Ud]) rfl (fun _ => rfl) (fun u hu hF => ?_) (fun v71 => ?_)
          · clear hF
            refine doesG_un rfl ?_
            refine (does_move (u := (Iv (s.1 : Int))) (ev rfl)).mono ?_; rintro _ _ ⟨rfl, rfl⟩
            exact ⟨rfl, Ext.refl _⟩
          refine RW_d (fun v72 => [(.agg #[(Fl r1), (Fl r3), (Fl r5), (Fl r7), (Iv A_g.x), (Iv A_g.y), (Iv A_g.z), (.slice p11 A_g.vals.length q12)]), (Pt b15 0), (Iv 0), (Bo false), (Iv u2.2), (Iv (s.1 : Int)), (.slice p50 ((nb A_g (s.1 : Int)).length) q51), (Iv (u2.1 : Int)), (Bo (isGrid A_g)), (Bo (!(isGrid A_g))), (Iv (s.1 : Int)), (Pt b15 7), (.slice p11 A_g.vals.length q12), (Iv (A_g.vals.length : Int)), (Bo (icmp .lss (s.1 : Int) (A_g.vals.length : Int))), (u34 15), (u34 16), (Iv (s.1 : Int)), (.slice p50 ((nb A_g (s.1 : Int)).length) q51), (Iv (u2.1 : Int)), (.slice p50 ((nb A_g (s.1 : Int)).length) q51), (Iv (((nb A_g (s.1 : Int)).length) : Int)), (Bo (icmp .lss (u2.1 : Int) (((nb A_g (s.1 : Int)).length) : Int))), (u53 23), (u53 24), v67, v68, v69, v70, v71, v72, (u53 31), (u53 32), (u53 33), (u53 34), (u53 35), (u53 36), (u53 37), (u53 38), (u53 39), (u53 40), (u53 41), (u53 42), (u53 43), (u53 44), (u53 45), (u53 46), (u53 47), (u53 48), (u53 49), (u53 50), Ud]) rfl (fun _ => rfl) (fun u hu hF => ?_) (fun v72 => ?_)
          · have h28_ : v70 = (Iv el1) := hF.1
            have h29_ : v71 = (Iv (s.1 : Int)) := hF.2.1
            clear hF
            refine doesG_un rfl ?_
            obtain rfl := h28_
            obtain rfl := h29_
            refine (does_icmp (p := el1) (q := (s.1 : Int)) (.inr (.inr (.inr (.inr (.inl rfl))))) (ev rfl) (ev rfl)).mono ?_; rintro _ _ ⟨rfl, rfl⟩
            exact ⟨(by first | rfl | (show _ = _; simp only [hβ1])), Ext.refl _⟩
          refine RW_d (fun v73 => [(.agg #[(Fl r1), (Fl r3), (Fl r5), (Fl r7), (Iv A_g.x), (Iv A_g.y), (Iv A_g.z), (.slice p11 A_g.vals.length q12)]), (Pt b15 0), (Iv 0), (Bo false), (Iv u2.2), (Iv (s.1 : Int)), (.slice p50 ((nb A_g (s.1 : Int)).length) q51), (Iv (u2.1 : Int)), (Bo (isGrid A_g)), (Bo (!(isGrid A_g))), (Iv (s.1 : Int)), (Pt b15 7), (.slice p11 A_g.vals.length q12), (Iv (A_g.vals.length : Int)), (Bo (icmp .lss (s.1 : Int) (A_g.vals.length : Int))), (u34 15), (u34 16), (Iv (s.1 : Int)), (.slice p50 ((nb A_g (s.1 : Int)).length) q51), (Iv (u2.1 : Int)), (.slice p50 ((nb A_g (s.1 : Int)).length) q51), (Iv (((nb A_g (s.1 : Int)).length) : Int)), (Bo (icmp .lss (u2.1 : Int) (((nb A_g (s.1 : Int)).length) : Int))), (u53 23), (u53 24), v67, v68, v69, v70, v71, v72, v73, (u53 32), (u53 33), (u53 34), (u53 35), (u53 36), (u53 37), (u53 38), (u53 39), (u53 40), (u53 41), (u53 42), (u53 43), (u53 44), (u53 45), (u53 46), (u53 47), (u53 48), (u53 49), (u53 50), Ud]) rfl (fun _ => rfl) (fun u hu hF => ?_) (fun v73 => ?_)
          · have h30_ : v72 = (Bo β1) := hF.1
            clear hF
            refine doesG_un rfl ?_
            obtain rfl := h30_
            refine (does_move (u := (Bo β1)) (ev rfl)).mono ?_; rintro _ _ ⟨rfl, rfl⟩
            exact ⟨rfl, Ext.refl _⟩
          refine RW_d (fun v74 => [(.agg #[(Fl r1), (Fl r3), (Fl r5), (Fl r7), (Iv A_g.x), (Iv A_g.y), (Iv A_g.z), (.slice p11 A_g.vals.length q12)]), (Pt b15 0), (Iv 0), (Bo false), (Iv u2.2), (Iv (s.1 : Int)), (.slice p50 ((nb A_g (s.1 : Int)).length) q51), (Iv (u2.1 : Int)), (Bo (isGrid A_g)), (Bo (!(isGrid A_g))), (Iv (s.1 : Int)), (Pt b15 7), (.slice p11 A_g.vals.length q12), (Iv (A_g.vals.length : Int)), (Bo (icmp .lss (s.1 : Int) (A_g.vals.length : Int))), (u34 15), (u34 16), (Iv (s.1 : Int)), (.slice p50 ((nb A_g (s.1 : Int)).length) q51), (Iv (u2.1 : Int)), (.slice p50 ((nb A_g (s.1 : Int)).length) q51), (Iv (((nb A_g (s.1 : Int)).length) : Int)), (Bo (icmp .lss (u2.1 : Int) (((nb A_g (s.1 : Int)).length) : Int))), (u53 23), (u53 24), v67, v68, v69, v70, v71, v72, v73, v74, (u53 33), (u53 34), (u53 35), (u53 36), (u53 37), (u53 38), (u53 39), (u53 40), (u53 41), (u53 42), (u53 43), (u53 44), (u53 45), (u53 46), (u53 47), (u53 48), (u53 49), (u53 50), Ud]) rfl (fun _ => rfl) (fun u hu hF => ?_) (fun v74 => ?_)
          · have h31_ : v73 = (Bo β1) := hF.1
            clear hF
            obtain rfl := h31_
            refine doesG_g (b := β1) rfl (yld rfl rfl) (fun hg1 => ?_) (fun hc => ⟨fun hg1 => absurd hg1 hc, Ext.refl _⟩)
            refine (does_fieldAddr (ev rfl) fa32_5).mono ?_; rintro _ _ ⟨rfl, rfl⟩
            exact ⟨fun _ => rfl, Ext.refl _⟩
          refine RW_d (fun v75 => [(.agg #[(Fl r1), (Fl r3), (Fl r5), (Fl r7), (Iv A_g.x), (Iv A_g.y), (Iv A_g.z), (.slice p11 A_g.vals.length q12)]), (Pt b15 0), (Iv 0), (Bo false), (Iv u2.2), (Iv (s.1 : Int)), (.slice p50 ((nb A_g (s.1 : Int)).length) q51), (Iv (u2.1 : Int)), (Bo (isGrid A_g)), (Bo (!(isGrid A_g))), (Iv (s.1 : Int)), (Pt b15 7), (.slice p11 A_g.vals.length q12), (Iv (A_g.vals.length : Int)), (Bo (icmp .lss (s.1 : Int) (A_g.vals.length : Int))), (u34 15), (u34 16), (Iv (s.1 : Int)), (.slice p50 ((nb A_g (s.1 : Int)).length) q51), (Iv (u2.1 : Int)), (.slice p50 ((nb A_g (s.1 : Int)).length) q51), (Iv (((nb A_g (s.1 : Int)).length) : Int)), (Bo (icmp .lss (u2.1 : Int) (((nb A_g (s.1 : Int)).length) : Int))), (u53 23), (u53 24), v67, v68, v69, v70, v71, v72, v73, v74, v75, (u53 34), (u53 35), (u53 36), (u53 37), (u53 38), (u53 39), (u53 40), (u53 41), (u53 42), (u53 43), (u53 44), (u53 45), (u53 46), (u53 47), (u53 48), (u53 49), (u53 50), Ud]) rfl (fun _ => rfl) (fun u hu hF => ?_) (fun v75 => ?_)
          · have h32_ : β1 = true → v74 = (Pt b15 7) := hF.1
            have h31_ : v73 = (Bo β1) := hF.2.1
            clear hF
            obtain rfl := h31_
            refine doesG_g (b := β1) rfl (yld rfl rfl) (fun hg1 => ?_) (fun hc => ⟨fun hg1 => absurd hg1 hc, Ext.refl _⟩)
            obtain rfl := h32_ hg1
            refine (does_load (u := (.slice p11 A_g.vals.length q12)) (ev rfl) Try.isAgg25 (Cells.at (Blk.cells ((((((hB17.ext E24).ext E36).ext E44).ext E55).ext E64).ext hu)) 7 rfl)).mono ?_; rintro _ _ ⟨rfl, rfl⟩
            exact ⟨fun _ => rfl, Ext.refl _⟩
          refine RW_d (fun v76 => [(.agg #[(Fl r1), (Fl r3), (Fl r5), (Fl r7), (Iv A_g.x), (Iv A_g.y), (Iv A_g.z), (.slice p11 A_g.vals.length q12)]), (Pt b15 0), (Iv 0), (Bo false), (Iv u2.2), (Iv (s.1 : Int)), (.slice p50 ((nb A_g (s.1 : Int)).length) q51), (Iv (u2.1 : Int)), (Bo (isGrid A_g)), (Bo (!(isGrid A_g))), (Iv (s.1 : Int)), (Pt b15 7), (.slice p11 A_g.vals.length q12), (Iv (A_g.vals.length : Int)), (Bo (icmp .lss (s.1 : Int) (A_g.vals.length : Int))), (u34 15), (u34 16), (Iv (s.1 : Int)), (.slice p50 ((nb A_g (s.1 : Int)).length) q51), (Iv (u2.1 : Int)), (.slice p50 ((nb A_g (s.1 : Int)).length) q51), (Iv (((nb A_g (s.1 : Int)).length) : Int)), (Bo (icmp .lss (u2.1 : Int) (((nb A_g (s.1 : Int)).length) : Int))), (u53 23), (u53 24), v67, v68, v69, v70, v71, v72, v73, v74, v75, v76, (u53 35), (u53 36), (u53 37), (u53 38), (u53 39), (u53 40), (u53 41), (u53 42), (u53 43), (u53 44), (u53 45), (u53 46), (u53 47), (u53 48), (u53 49), (u53 50), Ud]) rfl (fun _ => rfl) (fun u hu hF => ?_) (fun v76 => ?_)
          · have h31_ : v73 = (Bo β1) := hF.1
            clear hF
            obtain rfl := h31_
            refine doesG_g (b := β1) rfl (yld rfl rfl) (fun hg1 => ?_) (fun hc => ⟨fun hg1 => absurd hg1 hc, Ext.refl _⟩)
            refine (does_move (u := (Iv (s.1 : Int))) (ev rfl)).mono ?_; rintro _ _ ⟨rfl, rfl⟩
            exact ⟨fun _ => rfl, Ext.refl _⟩
          refine RW_d (fun v77 => [(.agg #[(Fl r1), (Fl r3), (Fl r5), (Fl r7), (Iv A_g.x), (Iv A_g.y), (Iv A_g.z), (.slice p11 A_g.vals.length q12)]), (Pt b15 0), (Iv 0), (Bo false), (Iv u2.2), (Iv (s.1 : Int)), (.slice p50 ((nb A_g (s.1 : Int)).length) q51), (Iv (u2.1 : Int)), (Bo (isGrid A_g)), (Bo (!(isGrid A_g))), (Iv (s.1 : Int)), (Pt b15 7), (.slice p11 A_g.vals.length q12), (Iv (A_g.vals.length : Int)), (Bo (icmp .lss (s.1 : Int) (A_g.vals.length : Int))), (u34 15), (u34 16), (Iv (s.1 : Int)), (.slice p50 ((nb A_g (s.1 : Int)).length) q51), (Iv (u2.1 : Int)), (.slice p50 ((nb A_g (s.1 : Int)).length) q51), (Iv (((nb A_g (s.1 : Int)).length) : Int)), (Bo (icmp .lss (u2.1 : Int) (((nb A_g (s.1 : Int)).length) : Int))), (u53 23), (u53 24), v67, v68, v69, v70, v71, v72, v73, v74, v75, v76, v77, (u53 36), (u53 37), (u53 38), (u53 39), (u53 40), (u53 41), (u53 42), (u53 43), (u53 44), (u53 45), (u53 46), (u53 47), (u53 48), (u53 49), (u53 50), Ud]) rfl (fun _ => rfl) (fun u hu hF => ?_) (fun v77 => ?_)
          · have h33_ : β1 = true → v75 = (.slice p11 A_g.vals.length q12) := hF.1
            have h34_ : β1 = true → v76 = (Iv (s.1 : Int)) := hF.2.1
            have h31_ : v73 = (Bo β1) := hF.2.2.1
            clear hF
            obtain rfl := h31_
            refine doesG_g (b := β1) rfl (yld rfl rfl) (fun hg1 => ?_) (fun hc => ⟨fun hg1 => absurd hg1 hc, Ext.refl _⟩)
            obtain rfl := h33_ hg1
            obtain rfl := h34_ hg1
            refine (does_indexSl (R := RF) (i := (s.1 : Int)) (xs := A_g.vals) (e := el2) Try.underlying25 Try.sizeOf22 (ev rfl) (ev rfl) (Sl.ext (Sl.ext hs13 RF.mono (Ext.gr X57 E64)) RF.mono hu) (by omega) hel2).mono ?_; rintro v u' ⟨b, of, cs, hv, hc, hR, hu'⟩; subst hu'
            exact ⟨fun _ => ⟨b, of, cs, hv, hc, hR⟩, Ext.refl _⟩
          refine RW_d (fun v78 => [(.agg #[(Fl r1), (Fl r3), (Fl r5), (Fl r7), (Iv A_g.x), (Iv A_g.y), (Iv A_g.z), (.slice p11 A_g.vals.length q12)]), (Pt b15 0), (Iv 0), (Bo false), (Iv u2.2), (Iv (s.1 : Int)), (.slice p50 ((nb A_g (s.1 : Int)).length) q51), (Iv (u2.1 : Int)), (Bo (isGrid A_g)), (Bo (!(isGrid A_g))), (Iv (s.1 : Int)), (Pt b15 7), (.slice p11 A_g.vals.length q12), (Iv (A_g.vals.length : Int)), (Bo (icmp .lss (s.1 : Int) (A_g.vals.length : Int))), (u34 15), (u34 16), (Iv (s.1 : Int)), (.slice p50 ((nb A_g (s.1 : Int)).length) q51), (Iv (u2.1 : Int)), (.slice p50 ((nb A_g (s.1 : Int)).length) q51), (Iv (((nb A_g (s.1 : Int)).length) : Int)), (Bo (icmp .lss (u2.1 : Int) (((nb A_g (s.1 : Int)).length) : Int))), (u53 23), (u53 24), v67, v68, v69, v70, v71, v72, v73, v74, v75, v76, v77, v78, (u53 37), (u53 38), (u53 39), (u53 40), (u53 41), (u53 42), (u53 43), (u53 44), (u53 45), (u53 46), (u53 47), (u53 48), (u53 49), (u53 50), Ud]) rfl (fun _ => rfl) (fun u hu hF => ?_) (fun v78 => ?_)
          · have h35_ : β1 = true → PtrR RF u v77 el2 := hF.1
            have h31_ : v73 = (Bo β1) := hF.2.1
            clear hF
            obtain rfl := h31_
            refine doesG_g (b := β1) rfl (yld rfl rfl) (fun hg1 => ?_) (fun hc => ⟨fun hg1 => absurd hg1 hc, Ext.refl _⟩)
            obtain ⟨b35_, o35_, _, rfl, hc35_, ⟨r35_1, rfl, h35_2⟩⟩ := h35_ hg1
            refine (does_load (u := (Fl r35_1)) (ev rfl) Try.isAgg22 (Cells.at hc35_ 0 rfl)).mono ?_; rintro _ _ ⟨rfl, rfl⟩
            exact ⟨fun _ => ⟨r35_1, rfl, (by simp only [h35_2])⟩, Ext.refl _⟩
          refine RW_d (fun v79 => [(.agg #[(Fl r1), (Fl r3), (Fl r5), (Fl r7), (Iv A_g.x), (Iv A_g.y), (Iv A_g.z), (.slice p11 A_g.vals.length q12)]), (Pt b15 0), (Iv 0), (Bo false), (Iv u2.2), (Iv (s.1 : Int)), (.slice p50 ((nb A_g (s.1 : Int)).length) q51), (Iv (u2.1 : Int)), (Bo (isGrid A_g)), (Bo (!(isGrid A_g))), (Iv (s.1 : Int)), (Pt b15 7), (.slice p11 A_g.vals.length q12), (Iv (A_g.vals.length : Int)), (Bo (icmp .lss (s.1 : Int) (A_g.vals.length : Int))), (u34 15), (u34 16), (Iv (s.1 : Int)), (.slice p50 ((nb A_g (s.1 : Int)).length) q51), (Iv (u2.1 : Int)), (.slice p50 ((nb A_g (s.1 : Int)).length) q51), (Iv (((nb A_g (s.1 : Int)).length) : Int)), (Bo (icmp .lss (u2.1 : Int) (((nb A_g (s.1 : Int)).length) : Int))), (u53 23), (u53 24), v67, v68, v69, v70, v71, v72, v73, v74, v75, v76, v77, v78, v79, (u53 38), (u53 39), (u53 40), (u53 41), (u53 42), (u53 43), (u53 44), (u53 45), (u53 46), (u53 47), (u53 48), (u53 49), (u53 50), Ud]) rfl (fun _ => rfl) (fun u hu hF => ?_) (fun v79 => ?_)
          · have h36_ : β1 = true → ∃ r_1 : Nat, v78 = (Fl r_1) ∧ cf .f32 r_1 = el2 := hF.1
            have h31_ : v73 = (Bo β1) := hF.2.1
            clear hF
            obtain rfl := h31_
            refine doesG_g (b := β1) rfl (yld rfl rfl) (fun hg1 => ?_) (fun hc => ⟨fun hg1 => absurd hg1 hc, Ext.refl _⟩)
            obtain ⟨r36_1, rfl, h36_2⟩ := h36_ hg1
            refine (does_fcmp (.inr (.inr (.inl rfl))) (ev rfl) (ev rfl)).mono ?_; rintro _ _ ⟨rfl, rfl⟩
            exact ⟨fun _ => (by first | rfl | (show _ = _; simp only [hβ2, h36_2])), Ext.refl _⟩
          refine RW_d (fun v80 => [(.agg #[(Fl r1), (Fl r3), (Fl r5), (Fl r7), (Iv A_g.x), (Iv A_g.y), (Iv A_g.z), (.slice p11 A_g.vals.length q12)]), (Pt b15 0), (Iv 0), (Bo false), (Iv u2.2), (Iv (s.1 : Int)), (.slice p50 ((nb A_g (s.1 : Int)).length) q51), (Iv (u2.1 : Int)), (Bo (isGrid A_g)), (Bo (!(isGrid A_g))), (Iv (s.1 : Int)), (Pt b15 7), (.slice p11 A_g.vals.length q12), (Iv (A_g.vals.length : Int)), (Bo (icmp .lss (s.1 : Int) (A_g.vals.length : Int))), (u34 15), (u34 16), (Iv (s.1 : Int)), (.slice p50 ((nb A_g (s.1 : Int)).length) q51), (Iv (u2.1 : Int)), (.slice p50 ((nb A_g (s.1 : Int)).length) q51), (Iv (((nb A_g (s.1 : Int)).length) : Int)), (Bo (icmp .lss (u2.1 : Int) (((nb A_g (s.1 : Int)).length) : Int))), (u53 23), (u53 24), v67, v68, v69, v70, v71, v72, v73, v74, v75, v76, v77, v78, v79, v80, (u53 39), (u53 40), (u53 41), (u53 42), (u53 43), (u53 44), (u53 45), (u53 46), (u53 47), (u53 48), (u53 49), (u53 50), Ud]) rfl (fun _ => rfl) (fun u hu hF => ?_) (fun v80 => ?_)
          · have h31_ : v73 = (Bo β1) := hF.1
            clear hF
            obtain rfl := h31_
            refine doesG_g (b := β1) rfl (yld rfl rfl) (fun hg1 => ?_) (fun hc => ⟨fun hg1 => absurd hg1 hc, Ext.refl _⟩)
            refine (does_fieldAddr (ev rfl) fa32_5).mono ?_; rintro _ _ ⟨rfl, rfl⟩
            exact ⟨fun _ => rfl, Ext.refl _⟩
          refine RW_d (fun v81 => [(.agg #[(Fl r1), (Fl r3), (Fl r5), (Fl r7), (Iv A_g.x), (Iv A_g.y), (Iv A_g.z), (.slice p11 A_g.vals.length q12)]), (Pt b15 0), (Iv 0), (Bo false), (Iv u2.2), (Iv (s.1 : Int)), (.slice p50 ((nb A_g (s.1 : Int)).length) q51), (Iv (u2.1 : Int)), (Bo (isGrid A_g)), (Bo (!(isGrid A_g))), (Iv (s.1 : Int)), (Pt b15 7), (.slice p11 A_g.vals.length q12), (Iv (A_g.vals.length : Int)), (Bo (icmp .lss (s.1 : Int) (A_g.vals.length : Int))), (u34 15), (u34 16), (Iv (s.1 : Int)), (.slice p50 ((nb A_g (s.1 : Int)).length) q51), (Iv (u2.1 : Int)), (.slice p50 ((nb A_g (s.1 : Int)).length) q51), (Iv (((nb A_g (s.1 : Int)).length) : Int)), (Bo (icmp .lss (u2.1 : Int) (((nb A_g (s.1 : Int)).length) : Int))), (u53 23), (u53 24), v67, v68, v69, v70, v71, v72, v73, v74, v75, v76, v77, v78, v79, v80, v81, (u53 40), (u53 41), (u53 42), (u53 43), (u53 44), (u53 45), (u53 46), (u53 47), (u53 48), (u53 49), (u53 50), Ud]) rfl (fun _ => rfl) (fun u hu hF => ?_) (fun v81 => ?_)
          · have h38_ : β1 = true → v80 = (Pt b15 7) := hF.1
            have h31_ : v73 = (Bo β1) := hF.2.1
            clear hF
            obtain rfl := h31_
            refine doesG_g (b := β1) rfl (yld rfl rfl) (fun hg1 => ?_) (fun hc => ⟨fun hg1 => absurd hg1 hc, Ext.refl _⟩)
            obtain rfl := h38_ hg1
            refine (does_load (u := (.slice p11 A_g.vals.length q12)) (ev rfl) Try.isAgg25 (Cells.at (Blk.cells ((((((hB17.ext E24).ext E36).ext E44).ext E55).ext E64).ext hu)) 7 rfl)).mono ?_; rintro _ _ ⟨rfl, rfl⟩
            exact ⟨fun _ => rfl, Ext.refl _⟩
          refine RW_d (fun v82 => [(.agg #[(Fl r1), (Fl r3), (Fl r5), (Fl r7), (Iv A_g.x), (Iv A_g.y), (Iv A_g.z), (.slice p11 A_g.vals.length q12)]), (Pt b15 0), (Iv 0), (Bo false), (Iv u2.2), (Iv (s.1 : Int)), (.slice p50 ((nb A_g (s.1 : Int)).length) q51), (Iv (u2.1 : Int)), (Bo (isGrid A_g)), (Bo (!(isGrid A_g))), (Iv (s.1 : Int)), (Pt b15 7), (.slice p11 A_g.vals.length q12), (Iv (A_g.vals.length : Int)), (Bo (icmp .lss (s.1 : Int) (A_g.vals.length : Int))), (u34 15), (u34 16), (Iv (s.1 : Int)), (.slice p50 ((nb A_g (s.1 : Int)).length) q51), (Iv (u2.1 : Int)), (.slice p50 ((nb A_g (s.1 : Int)).length) q51), (Iv (((nb A_g (s.1 : Int)).length) : Int)), (Bo (icmp .lss (u2.1 : Int) (((nb A_g (s.1 : Int)).length) : Int))), (u53 23), (u53 24), v67, v68, v69, v70, v71, v72, v73, v74, v75, v76, v77, v78, v79, v80, v81, v82, (u53 41), (u53 42), (u53 43), (u53 44), (u53 45), (u53 46), (u53 47), (u53 48), (u53 49), (u53 50), Ud]) rfl (fun _ => rfl) (fun u hu hF => ?_) (fun v82 => ?_)
          · have h31_ : v73 = (Bo β1) := hF.1
            clear hF
            obtain rfl := h31_
            refine doesG_g (b := β1) rfl (yld rfl rfl) (fun hg1 => ?_) (fun hc => ⟨fun hg1 => absurd hg1 hc, Ext.refl _⟩)
            refine (does_move (u := (.slice p50 ((nb A_g (s.1 : Int)).length) q51)) (ev rfl)).mono ?_; rintro _ _ ⟨rfl, rfl⟩
            exact ⟨fun _ => rfl, Ext.refl _⟩
          refine RW_d (fun v83 => [(.agg #[(Fl r1), (Fl r3), (Fl r5), (Fl r7), (Iv A_g.x), (Iv A_g.y), (Iv A_g.z), (.slice p11 A_g.vals.length q12)]), (Pt b15 0), (Iv 0), (Bo false), (Iv u2.2), (Iv (s.1 : Int)), (.slice p50 ((nb A_g (s.1 : Int)).length) q51), (Iv (u2.1 : Int)), (Bo (isGrid A_g)), (Bo (!(isGrid A_g))), (Iv (s.1 : Int)), (Pt b15 7), (.slice p11 A_g.vals.length q12), (Iv (A_g.vals.length : Int)), (Bo (icmp .lss (s.1 : Int) (A_g.vals.length : Int))), (u34 15), (u34 16), (Iv (s.1 : Int)), (.slice p50 ((nb A_g (s.1 : Int)).length) q51), (Iv (u2.1 : Int)), (.slice p50 ((nb A_g (s.1 : Int)).length) q51), (Iv (((nb A_g (s.1 : Int)).length) : Int)), (Bo (icmp .lss (u2.1 : Int) (((nb A_g (s.1 : Int)).length) : Int))), (u53 23), (u53 24), v67, v68, v69, v70, v71, v72, v73, v74, v75, v76, v77, v78, v79, v80, v81, v82, v83, (u53 42), (u53 43), (u53 44), (u53 45), (u53 46), (u53 47), (u53 48), (u53 49), (u53 50), Ud]) rfl (fun _ => rfl) (fun u hu hF => ?_) (fun v83 => ?_)
          · have h31_ : v73 = (Bo β1) := hF.1
            clear hF
            obtain rfl := h31_
            refine doesG_g (b := β1) rfl (yld rfl rfl) (fun hg1 => ?_) (fun hc => ⟨fun hg1 => absurd hg1 hc, Ext.refl _⟩)
            refine (does_move (u := (Iv (u2.1 : Int))) (ev rfl)).mono ?_; rintro _ _ ⟨rfl, rfl⟩
            exact ⟨fun _ => rfl, Ext.refl _⟩
          refine RW_d (fun v84 => [(.agg #[(Fl r1), (Fl r3), (Fl r5), (Fl r7), (Iv A_g.x), (Iv A_g.y), (Iv A_g.z), (.slice p11 A_g.vals.length q12)]), (Pt b15 0), (Iv 0), (Bo false), (Iv u2.2), (Iv (s.1 : Int)), (.slice p50 ((nb A_g (s.1 : Int)).length) q51), (Iv (u2.1 : Int)), (Bo (isGrid A_g)), (Bo (!(isGrid A_g))), (Iv (s.1 : Int)), (Pt b15 7), (.slice p11 A_g.vals.length q12), (Iv (A_g.vals.length : Int)), (Bo (icmp .lss (s.1 : Int) (A_g.vals.length : Int))), (u34 15), (u34 16), (Iv (s.1 : Int)), (.slice p50 ((nb A_g (s.1 : Int)).length) q51), (Iv (u2.1 : Int)), (.slice p50 ((nb A_g (s.1 : Int)).length) q51), (Iv (((nb A_g (s.1 : Int)).length) : Int)), (Bo (icmp .lss (u2.1 : Int) (((nb A_g (s.1 : Int)).length) : Int))), (u53 23), (u53 24), v67, v68, v69, v70, v71, v72, v73, v74, v75, v76, v77, v78, v79, v80, v81, v82, v83, v84, (u53 43), (u53 44), (u53 45), (u53 46), (u53 47), (u53 48), (u53 49), (u53 50), Ud]) rfl (fun _ => rfl) (fun u hu hF => ?_) (fun v84 => ?_)
          · have h40_ : β1 = true → v82 = (.slice p50 ((nb A_g (s.1 : Int)).length) q51) := hF.1
            have h41_ : β1 = true → v83 = (Iv (u2.1 : Int)) := hF.2.1
            have h31_ : v73 = (Bo β1) := hF.2.2.1
            clear hF
            obtain rfl := h31_
            refine doesG_g (b := β1) rfl (yld rfl rfl) (fun hg1 => ?_) (fun hc => ⟨fun hg1 => absurd hg1 hc, Ext.refl _⟩)
            obtain rfl := h40_ hg1
            obtain rfl := h41_ hg1
            refine (does_indexSl (R := RI) (i := (u2.1 : Int)) (xs := (nb A_g (s.1 : Int))) (e := el1) Try.underlying50 Try.sizeOf2 (ev rfl) (ev rfl) (Sl.ext (hh46 _ (((Same.refl _ _).ext E55).ext E64)) RI.mono hu) (by omega) hel1).mono ?_; rintro v u' ⟨b, of, cs, hv, hc, hR, hu'⟩; subst hu'
            exact ⟨fun _ => ⟨b, of, cs, hv, hc, hR⟩, Ext.refl _⟩
          refine RW_d (fun v85 => [(.agg #[(Fl r1), (Fl r3), (Fl r5), (Fl r7), (Iv A_g.x), (Iv A_g.y), (Iv A_g.z), (.slice p11 A_g.vals.length q12)]), (Pt b15 0), (Iv 0), (Bo false), (Iv u2.2), (Iv (s.1 : Int)), (.slice p50 ((nb A_g (s.1 : Int)).length) q51), (Iv (u2.1 : Int)), (Bo (isGrid A_g)), (Bo (!(isGrid A_g))), (Iv (s.1 : Int)), (Pt b15 7), (.slice p11 A_g.vals.length q12), (Iv (A_g.vals.length : Int)), (Bo (icmp .lss (s.1 : Int) (A_g.vals.length : Int))), (u34 15), (u34 16), (Iv (s.1 : Int)), (.slice p50 ((nb A_g (s.1 : Int)).length) q51), (Iv (u2.1 : Int)), (.slice p50 ((nb A_g (s.1 : Int)).length) q51), (Iv (((nb A_g (s.1 : Int)).length) : Int)), (Bo (icmp .lss (u2.1 : Int) (((nb A_g (s.1 : Int)).length) : Int))), (u53 23), (u53 24), v67, v68, v69, v70, v71, v72, v73, v74, v75, v76, v77, v78, v79, v80, v81, v82, v83, v84, v85, (u53 44), (u53 45), (u53 46), (u53 47), (u53 48), (u53 49), (u53 50), Ud]) rfl (fun _ => rfl) (fun u hu hF => ?_) (fun v85 => ?_)
          · have h42_ : β1 = true → PtrR RI u v84 el1 := hF.1
            have h31_ : v73 = (Bo β1) := hF.2.1
            clear hF
            obtain rfl := h31_
            refine doesG_g (b := β1) rfl (yld rfl rfl) (fun hg1 => ?_) (fun hc => ⟨fun hg1 => absurd hg1 hc, Ext.refl _⟩)
            obtain ⟨b42_, o42_, _, rfl, hc42_, rfl⟩ := h42_ hg1
            refine (does_load (u := (Iv el1)) (ev rfl) Try.isAgg2 (Cells.at hc42_ 0 rfl)).mono ?_; rintro _ _ ⟨rfl, rfl⟩
            exact ⟨fun _ => rfl, Ext.refl _⟩
          refine RW_d (fun v86 => [(.agg #[(Fl r1), (Fl r3), (Fl r5), (Fl r7), (Iv A_g.x), (Iv A_g.y), (Iv A_g.z), (.slice p11 A_g.vals.length q12)]), (Pt b15 0), (Iv 0), (Bo false), (Iv u2.2), (Iv (s.1 : Int)), (.slice p50 ((nb A_g (s.1 : Int)).length) q51), (Iv (u2.1 : Int)), (Bo (isGrid A_g)), (Bo (!(isGrid A_g))), (Iv (s.1 : Int)), (Pt b15 7), (.slice p11 A_g.vals.length q12), (Iv (A_g.vals.length : Int)), (Bo (icmp .lss (s.1 : Int) (A_g.vals.length : Int))), (u34 15), (u34 16), (Iv (s.1 : Int)), (.slice p50 ((nb A_g (s.1 : Int)).length) q51), (Iv (u2.1 : Int)), (.slice p50 ((nb A_g (s.1 : Int)).length) q51), (Iv (((nb A_g (s.1 : Int)).length) : Int)), (Bo (icmp .lss (u2.1 : Int) (((nb A_g (s.1 : Int)).length) : Int))), (u53 23), (u53 24), v67, v68, v69, v70, v71, v72, v73, v74, v75, v76, v77, v78, v79, v80, v81, v82, v83, v84, v85, v86, (u53 45), (u53 46), (u53 47), (u53 48), (u53 49), (u53 50), Ud]) rfl (fun _ => rfl) (fun u hu hF => ?_) (fun v86 => ?_)
          · have h39_ : β1 = true → v81 = (.slice p11 A_g.vals.length q12) := hF.1
            have h43_ : β1 = true → v85 = (Iv el1) := hF.2.1
            have h31_ : v73 = (Bo β1) := hF.2.2.1
            clear hF
            obtain rfl := h31_
            refine doesG_g (b := β1) rfl (yld rfl rfl) (fun hg1 => ?_) (fun hc => ⟨fun hg1 => absurd hg1 hc, Ext.refl _⟩)
            obtain rfl := h39_ hg1
            obtain rfl := h43_ hg1
            refine (does_indexSl (R := RF) (i := el1) (xs := A_g.vals) (e := el3) Try.underlying25 Try.sizeOf22 (ev rfl) (ev rfl) (Sl.ext (Sl.ext hs13 RF.mono (Ext.gr X57 E64)) RF.mono hu) (by omega) hel3).mono ?_; rintro v u' ⟨b, of, cs, hv, hc, hR, hu'⟩; subst hu'
            exact ⟨fun _ => ⟨b, of, cs, hv, hc, hR⟩, Ext.refl _⟩
          refine RW_d (fun v87 => [(.agg #[(Fl r1), (Fl r3), (Fl r5), (Fl r7), (Iv A_g.x), (Iv A_g.y), (Iv A_g.z), (.slice p11 A_g.vals.length q12)]), (Pt b15 0), (Iv 0), (Bo false), (Iv u2.2), (Iv (s.1 : Int)), (.slice p50 ((nb A_g (s.1 : Int)).length) q51), (Iv (u2.1 : Int)), (Bo (isGrid A_g)), (Bo (!(isGrid A_g))), (Iv (s.1 : Int)), (Pt b15 7), (.slice p11 A_g.vals.length q12), (Iv (A_g.vals.length : Int)), (Bo (icmp .lss (s.1 : Int) (A_g.vals.length : Int))), (u34 15), (u34 16), (Iv (s.1 : Int)), (.slice p50 ((nb A_g (s.1 : Int)).length) q51), (Iv (u2.1 : Int)), (.slice p50 ((nb A_g (s.1 : Int)).length) q51), (Iv (((nb A_g (s.1 : Int)).length) : Int)), (Bo (icmp .lss (u2.1 : Int) (((nb A_g (s.1 : Int)).length) : Int))), (u53 23), (u53 24), v67, v68, v69, v70, v71, v72, v73, v74, v75, v76, v77, v78, v79, v80, v81, v82, v83, v84, v85, v86, v87, (u53 46), (u53 47), (u53 48), (u53 49), (u53 50), Ud]) rfl (fun _ => rfl) (fun u hu hF => ?_) (fun v87 => ?_)
          · have h44_ : β1 = true → PtrR RF u v86 el3 := hF.1
            have h31_ : v73 = (Bo β1) := hF.2.1
            clear hF
            obtain rfl := h31_
            refine doesG_g (b := β1) rfl (yld rfl rfl) (fun hg1 => ?_) (fun hc => ⟨fun hg1 => absurd hg1 hc, Ext.refl _⟩)
            obtain ⟨b44_, o44_, _, rfl, hc44_, ⟨r44_1, rfl, h44_2⟩⟩ := h44_ hg1
            refine (does_load (u := (Fl r44_1)) (ev rfl) Try.isAgg22 (Cells.at hc44_ 0 rfl)).mono ?_; rintro _ _ ⟨rfl, rfl⟩
            exact ⟨fun _ => ⟨r44_1, rfl, (by simp only [h44_2])⟩, Ext.refl _⟩
          refine RW_d (fun v88 => [(.agg #[(Fl r1), (Fl r3), (Fl r5), (Fl r7), (Iv A_g.x), (Iv A_g.y), (Iv A_g.z), (.slice p11 A_g.vals.length q12)]), (Pt b15 0), (Iv 0), (Bo false), (Iv u2.2), (Iv (s.1 : Int)), (.slice p50 ((nb A_g (s.1 : Int)).length) q51), (Iv (u2.1 : Int)), (Bo (isGrid A_g)), (Bo (!(isGrid A_g))), (Iv (s.1 : Int)), (Pt b15 7), (.slice p11 A_g.vals.length q12), (Iv (A_g.vals.length : Int)), (Bo (icmp .lss (s.1 : Int) (A_g.vals.length : Int))), (u34 15), (u34 16), (Iv (s.1 : Int)), (.slice p50 ((nb A_g (s.1 : Int)).length) q51), (Iv (u2.1 : Int)), (.slice p50 ((nb A_g (s.1 : Int)).length) q51), (Iv (((nb A_g (s.1 : Int)).length) : Int)), (Bo (icmp .lss (u2.1 : Int) (((nb A_g (s.1 : Int)).length) : Int))), (u53 23), (u53 24), v67, v68, v69, v70, v71, v72, v73, v74, v75, v76, v77, v78, v79, v80, v81, v82, v83, v84, v85, v86, v87, v88, (u53 47), (u53 48), (u53 49), (u53 50), Ud]) rfl (fun _ => rfl) (fun u hu hF => ?_) (fun v88 => ?_)
          · have h45_ : β1 = true → ∃ r_1 : Nat, v87 = (Fl r_1) ∧ cf .f32 r_1 = el3 := hF.1
            have h31_ : v73 = (Bo β1) := hF.2.1
            clear hF
            obtain rfl := h31_
            refine doesG_g (b := β1) rfl (yld rfl rfl) (fun hg1 => ?_) (fun hc => ⟨fun hg1 => absurd hg1 hc, Ext.refl _⟩)
            obtain ⟨r45_1, rfl, h45_2⟩ := h45_ hg1
            refine (does_fcmp (.inr (.inr (.inl rfl))) (ev rfl) (ev rfl)).mono ?_; rintro _ _ ⟨rfl, rfl⟩
            exact ⟨fun _ => (by first | rfl | (show _ = _; simp only [hβ3, h45_2])), Ext.refl _⟩
          refine RW_d (fun v89 => [(.agg #[(Fl r1), (Fl r3), (Fl r5), (Fl r7), (Iv A_g.x), (Iv A_g.y), (Iv A_g.z), (.slice p11 A_g.vals.length q12)]), (Pt b15 0), (Iv 0), (Bo false), (Iv u2.2), (Iv (s.1 : Int)), (.slice p50 ((nb A_g (s.1 : Int)).length) q51), (Iv (u2.1 : Int)), (Bo (isGrid A_g)), (Bo (!(isGrid A_g))), (Iv (s.1 : Int)), (Pt b15 7), (.slice p11 A_g.vals.length q12), (Iv (A_g.vals.length : Int)), (Bo (icmp .lss (s.1 : Int) (A_g.vals.length : Int))), (u34 15), (u34 16), (Iv (s.1 : Int)), (.slice p50 ((nb A_g (s.1 : Int)).length) q51), (Iv (u2.1 : Int)), (.slice p50 ((nb A_g (s.1 : Int)).length) q51), (Iv (((nb A_g (s.1 : Int)).length) : Int)), (Bo (icmp .lss (u2.1 : Int) (((nb A_g (s.1 : Int)).length) : Int))), (u53 23), (u53 24), v67, v68, v69, v70, v71, v72, v73, v74, v75, v76, v77, v78, v79, v80, v81, v82, v83, v84, v85, v86, v87, v88, v89, (u53 48), (u53 49), (u53 50), Ud]) rfl (fun _ => rfl) (fun u hu hF => ?_) (fun v89 => ?_)
          · have h37_ : β1 = true → v79 = (Bo β2) := hF.1
            have h46_ : β1 = true → v88 = (Bo β3) := hF.2.1
            have h31_ : v73 = (Bo β1) := hF.2.2.1
            clear hF
            obtain rfl := h31_
            refine doesG_g (b := β1) rfl (yld rfl rfl) (fun hg1 => ?_) (fun hc => ⟨fun hg1 => absurd hg1 hc, Ext.refl _⟩)
            obtain rfl := h37_ hg1
            obtain rfl := h46_ hg1
            refine (does_bne (p := β2) (q := β3) Try.underlying4 (ev rfl) (ev rfl)).mono ?_; rintro _ _ ⟨rfl, rfl⟩
            exact ⟨fun _ => rfl, Ext.refl _⟩
          refine RW_d (fun v90 => [(.agg #[(Fl r1), (Fl r3), (Fl r5), (Fl r7), (Iv A_g.x), (Iv A_g.y), (Iv A_g.z), (.slice p11 A_g.vals.length q12)]), (Pt b15 0), (Iv 0), (Bo false), (Iv u2.2), (Iv (s.1 : Int)), (.slice p50 ((nb A_g (s.1 : Int)).length) q51), (Iv (u2.1 : Int)), (Bo (isGrid A_g)), (Bo (!(isGrid A_g))), (Iv (s.1 : Int)), (Pt b15 7), (.slice p11 A_g.vals.length q12), (Iv (A_g.vals.length : Int)), (Bo (icmp .lss (s.1 : Int) (A_g.vals.length : Int))), (u34 15), (u34 16), (Iv (s.1 : Int)), (.slice p50 ((nb A_g (s.1 : Int)).length) q51), (Iv (u2.1 : Int)), (.slice p50 ((nb A_g (s.1 : Int)).length) q51), (Iv (((nb A_g (s.1 : Int)).length) : Int)), (Bo (icmp .lss (u2.1 : Int) (((nb A_g (s.1 : Int)).length) : Int))), (u53 23), (u53 24), v67, v68, v69, v70, v71, v72, v73, v74, v75, v76, v77, v78, v79, v80, v81, v82, v83, v84, v85, v86, v87, v88, v89, v90, (u53 49), (u53 50), Ud]) rfl (fun _ => rfl) (fun u hu hF => ?_) (fun v90 => ?_)
          · have h31_ : v73 = (Bo β1) := hF.1
            have h47_ : β1 = true → v89 = (Bo (β2 != β3)) := hF.2.1
            clear hF
            refine doesG_un rfl ?_
            skip
            obtain rfl := h31_
            refine (does_pick (b := β1) (ev rfl) (ev rfl) (ev rfl)).mono ?_; rintro _ _ ⟨rfl, rfl⟩; refine ⟨?_, Ext.refl _⟩; skip
            cases hbb : β1 <;> simp [hbb] at h47_ ⊢
            all_goals (first | rfl | (subst h47_; rfl) | simp_all)
          refine RW_fin ?_; intro w91 E92 hP93
          obtain ⟨⟨⟨⟨⟨⟨⟨⟨⟨⟨⟨⟨⟨⟨⟨⟨⟨⟨⟨⟨⟨⟨⟨⟨-, -⟩, -⟩, -⟩, -⟩, -⟩, -⟩, -⟩, -⟩, -⟩, -⟩, -⟩, -⟩, -⟩, -⟩, -⟩, -⟩, -⟩, -⟩, -⟩, -⟩, -⟩, -⟩, -⟩, q94⟩ := hP93
          have X95 := Ext.gr X66 E92
          have q94 : v90 = (Bo (β1 && (β2 != β3))) := q94
          obtain rfl := q94
          show wpList _ _ _ _ (fr [(.agg #[(Fl r1), (Fl r3), (Fl r5), (Fl r7), (Iv A_g.x), (Iv A_g.y), (Iv A_g.z), (.slice p11 A_g.vals.length q12)]), (Pt b15 0), (Iv 0), (Bo false), (Iv u2.2), (Iv (s.1 : Int)), (.slice p50 ((nb A_g (s.1 : Int)).length) q51), (Iv (u2.1 : Int)), (Bo (isGrid A_g)), (Bo (!(isGrid A_g))), (Iv (s.1 : Int)), (Pt b15 7), (.slice p11 A_g.vals.length q12), (Iv (A_g.vals.length : Int)), (Bo (icmp .lss (s.1 : Int) (A_g.vals.length : Int))), (u34 15), (u34 16), (Iv (s.1 : Int)), (.slice p50 ((nb A_g (s.1 : Int)).length) q51), (Iv (u2.1 : Int)), (.slice p50 ((nb A_g (s.1 : Int)).length) q51), (Iv (((nb A_g (s.1 : Int)).length) : Int)), (Bo (icmp .lss (u2.1 : Int) (((nb A_g (s.1 : Int)).length) : Int))), (u53 23), (u53 24), v67, v68, v69, v70, v71, v72, v73, v74, v75, v76, v77, v78, v79, v80, v81, v82, v83, v84, v85, v86, v87, v88, v89, (Bo (β1 && (β2 != β3))), (u53 49), (u53 50), Ud]) _
          refine wpList_nil (hK62 _ _ ?_)
          refine wp_cond_split (t := β1 && (β2 != β3)) (ev rfl) (fun c96 => ?_) (fun c96 => ?_)
          · have c96' := c96
            (try simp only [hβ1, hβ2, hβ3] at c96')
            (try simp only [icmp, Bool.and_eq_true, Bool.or_eq_true, Bool.and_eq_false_iff, Bool.or_eq_false_iff, Bool.not_eq_true', Bool.not_eq_false', decide_eq_true_eq, decide_eq_false_iff_not, beq_iff_eq, bne_iff_ne, beq_eq_false_iff_ne, bne_eq_false_iff_eq] at c96')
            refine wp_region_lit ?_
            refine q_is (l' := [(.agg #[(Fl r1), (Fl r3), (Fl r5), (Fl r7), (Iv A_g.x), (Iv A_g.y), (Iv A_g.z), (.slice p11 A_g.vals.length q12)]), (Pt b15 0), (Iv 0), (Bo false), (Iv u2.2), (Iv (s.1 : Int)), (.slice p50 ((nb A_g (s.1 : Int)).length) q51), (Iv (u2.1 : Int)), (Bo (isGrid A_g)), (Bo (!(isGrid A_g))), (Iv (s.1 : Int)), (Pt b15 7), (.slice p11 A_g.vals.length q12), (Iv (A_g.vals.length : Int)), (Bo (icmp .lss (s.1 : Int) (A_g.vals.length : Int))), (u34 15), (u34 16), (Iv (s.1 : Int)), (.slice p50 ((nb A_g (s.1 : Int)).length) q51), (Iv (u2.1 : Int)), (.slice p50 ((nb A_g (s.1 : Int)).length) q51), (Iv (((nb A_g (s.1 : Int)).length) : Int)), (Bo (icmp .lss (u2.1 : Int) (((nb A_g (s.1 : Int)).length) : Int))), (u53 23), (u53 24), v67, v68, v69, v70, v71, v72, v73, v74, v75, v76, v77, v78, v79, v80, v81, v82, v83, v84, v85, v86, v87, v88, v89, (Bo (β1 && (β2 != β3))), (Iv u2.2), (u53 50), Ud]) rfl rfl (does_move (u := (Iv u2.2)) (ev rfl)) rfl ?_
            refine q_is (l' := [(.agg #[(Fl r1), (Fl r3), (Fl r5), (Fl r7), (Iv A_g.x), (Iv A_g.y), (Iv A_g.z), (.slice p11 A_g.vals.length q12)]), (Pt b15 0), (Iv 0), (Bo false), (Iv u2.2), (Iv (s.1 : Int)), (.slice p50 ((nb A_g (s.1 : Int)).length) q51), (Iv (u2.1 : Int)), (Bo (isGrid A_g)), (Bo (!(isGrid A_g))), (Iv (s.1 : Int)), (Pt b15 7), (.slice p11 A_g.vals.length q12), (Iv (A_g.vals.length : Int)), (Bo (icmp .lss (s.1 : Int) (A_g.vals.length : Int))), (u34 15), (u34 16), (Iv (s.1 : Int)), (.slice p50 ((nb A_g (s.1 : Int)).length) q51), (Iv (u2.1 : Int)), (.slice p50 ((nb A_g (s.1 : Int)).length) q51), (Iv (((nb A_g (s.1 : Int)).length) : Int)), (Bo (icmp .lss (u2.1 : Int) (((nb A_g (s.1 : Int)).length) : Int))), (u53 23), (u53 24), v67, v68, v69, v70, v71, v72, v73, v74, v75, v76, v77, v78, v79, v80, v81, v82, v83, v84, v85, v86, v87, v88, v89, (Bo (β1 && (β2 != β3))), (Iv u2.2), (Iv (u2.2 + 1)), Ud]) rfl rfl (does_iarith (p := u2.2) (q := 1) (r := u2.2 + 1) (ev rfl) (ev rfl) (.inl ⟨rfl, (in_i64 (by omega) (by omega)).symm⟩)) rfl ?_
            refine q_is (l' := [(.agg #[(Fl r1), (Fl r3), (Fl r5), (Fl r7), (Iv A_g.x), (Iv A_g.y), (Iv A_g.z), (.slice p11 A_g.vals.length q12)]), (Pt b15 0), (Iv 0), (Bo false), (Iv (u2.2 + 1)), (Iv (s.1 : Int)), (.slice p50 ((nb A_g (s.1 : Int)).length) q51), (Iv (u2.1 : Int)), (Bo (isGrid A_g)), (Bo (!(isGrid A_g))), (Iv (s.1 : Int)), (Pt b15 7), (.slice p11 A_g.vals.length q12), (Iv (A_g.vals.length : Int)), (Bo (icmp .lss (s.1 : Int) (A_g.vals.length : Int))), (u34 15), (u34 16), (Iv (s.1 : Int)), (.slice p50 ((nb A_g (s.1 : Int)).length) q51), (Iv (u2.1 : Int)), (.slice p50 ((nb A_g (s.1 : Int)).length) q51), (Iv (((nb A_g (s.1 : Int)).length) : Int)), (Bo (icmp .lss (u2.1 : Int) (((nb A_g (s.1 : Int)).length) : Int))), (u53 23), (u53 24), v67, v68, v69, v70, v71, v72, v73, v74, v75, v76, v77, v78, v79, v80, v81, v82, v83, v84, v85, v86, v87, v88, v89, (Bo (β1 && (β2 != β3))), (Iv u2.2), (Iv (u2.2 + 1)), Ud]) rfl rfl (does_assign (u := (Iv (u2.2 + 1))) (ev rfl)) rfl ?_
            refine wpList_nil (hK61 _ _ ?_)
            refine wp_region_lit ?_
            refine q_is (l' := [(.agg #[(Fl r1), (Fl r3), (Fl r5), (Fl r7), (Iv A_g.x), (Iv A_g.y), (Iv A_g.z), (.slice p11 A_g.vals.length q12)]), (Pt b15 0), (Iv 0), (Bo false), (Iv (u2.2 + 1)), (Iv (s.1 : Int)), (.slice p50 ((nb A_g (s.1 : Int)).length) q51), (Iv (u2.1 : Int)), (Bo (isGrid A_g)), (Bo (!(isGrid A_g))), (Iv (s.1 : Int)), (Pt b15 7), (.slice p11 A_g.vals.length q12), (Iv (A_g.vals.length : Int)), (Bo (icmp .lss (s.1 : Int) (A_g.vals.length : Int))), (u34 15), (u34 16), (Iv (s.1 : Int)), (.slice p50 ((nb A_g (s.1 : Int)).length) q51), (Iv (u2.1 : Int)), (.slice p50 ((nb A_g (s.1 : Int)).length) q51), (Iv (((nb A_g (s.1 : Int)).length) : Int)), (Bo (icmp .lss (u2.1 : Int) (((nb A_g (s.1 : Int)).length) : Int))), (Iv (u2.1 : Int)), (u53 24), v67, v68, v69, v70, v71, v72, v73, v74, v75, v76, v77, v78, v79, v80, v81, v82, v83, v84, v85, v86, v87, v88, v89, (Bo (β1 && (β2 != β3))), (Iv u2.2), (Iv (u2.2 + 1)), Ud]) rfl rfl (does_move (u := (Iv (u2.1 : Int))) (ev rfl)) rfl ?_
            refine q_is (l' := [(.agg #[(Fl r1), (Fl r3), (Fl r5), (Fl r7), (Iv A_g.x), (Iv A_g.y), (Iv A_g.z), (.slice p11 A_g.vals.length q12)]), (Pt b15 0), (Iv 0), (Bo false), (Iv (u2.2 + 1)), (Iv (s.1 : Int)), (.slice p50 ((nb A_g (s.1 : Int)).length) q51), (Iv (u2.1 : Int)), (Bo (isGrid A_g)), (Bo (!(isGrid A_g))), (Iv (s.1 : Int)), (Pt b15 7), (.slice p11 A_g.vals.length q12), (Iv (A_g.vals.length : Int)), (Bo (icmp .lss (s.1 : Int) (A_g.vals.length : Int))), (u34 15), (u34 16), (Iv (s.1 : Int)), (.slice p50 ((nb A_g (s.1 : Int)).length) q51), (Iv (u2.1 : Int)), (.slice p50 ((nb A_g (s.1 : Int)).length) q51), (Iv (((nb A_g (s.1 : Int)).length) : Int)), (Bo (icmp .lss (u2.1 : Int) (((nb A_g (s.1 : Int)).length) : Int))), (Iv (u2.1 : Int)), (Iv ((u2.1 : Int) + 1)), v67, v68, v69, v70, v71, v72, v73, v74, v75, v76, v77, v78, v79, v80, v81, v82, v83, v84, v85, v86, v87, v88, v89, (Bo (β1 && (β2 != β3))), (Iv u2.2), (Iv (u2.2 + 1)), Ud]) rfl rfl (does_iarith (p := (u2.1 : Int)) (q := 1) (r := (u2.1 : Int) + 1) (ev rfl) (ev rfl) (.inl ⟨rfl, (in_i64 (by omega) (by omega)).symm⟩)) rfl ?_
            refine q_is (l' := [(.agg #[(Fl r1), (Fl r3), (Fl r5), (Fl r7), (Iv A_g.x), (Iv A_g.y), (Iv A_g.z), (.slice p11 A_g.vals.length q12)]), (Pt b15 0), (Iv 0), (Bo false), (Iv (u2.2 + 1)), (Iv (s.1 : Int)), (.slice p50 ((nb A_g (s.1 : Int)).length) q51), (Iv ((u2.1 : Int) + 1)), (Bo (isGrid A_g)), (Bo (!(isGrid A_g))), (Iv (s.1 : Int)), (Pt b15 7), (.slice p11 A_g.vals.length q12), (Iv (A_g.vals.length : Int)), (Bo (icmp .lss (s.1 : Int) (A_g.vals.length : Int))), (u34 15), (u34 16), (Iv (s.1 : Int)), (.slice p50 ((nb A_g (s.1 : Int)).length) q51), (Iv (u2.1 : Int)), (.slice p50 ((nb A_g (s.1 : Int)).length) q51), (Iv (((nb A_g (s.1 : Int)).length) : Int)), (Bo (icmp .lss (u2.1 : Int) (((nb A_g (s.1 : Int)).length) : Int))), (Iv (u2.1 : Int)), (Iv ((u2.1 : Int) + 1)), v67, v68, v69, v70, v71, v72, v73, v74, v75, v76, v77, v78, v79, v80, v81, v82, v83, v84, v85, v86, v87, v88, v89, (Bo (β1 && (β2 != β3))), (Iv u2.2), (Iv (u2.2 + 1)), Ud]) rfl rfl (does_assign (u := (Iv ((u2.1 : Int) + 1))) (ev rfl)) rfl ?_
            refine wpList_nil ?_
            refine ⟨(u2.1 + 1, u2.2 + 1), ⟨fun t => (([(.agg #[(Fl r1), (Fl r3), (Fl r5), (Fl r7), (Iv A_g.x), (Iv A_g.y), (Iv A_g.z), (.slice p11 A_g.vals.length q12)]), (Pt b15 0), (Iv 0), (Bo false), (Iv (u2.2 + 1)), (Iv (s.1 : Int)), (.slice p50 ((nb A_g (s.1 : Int)).length) q51), (Iv ((u2.1 : Int) + 1)), (Bo (isGrid A_g)), (Bo (!(isGrid A_g))), (Iv (s.1 : Int)), (Pt b15 7), (.slice p11 A_g.vals.length q12), (Iv (A_g.vals.length : Int)), (Bo (icmp .lss (s.1 : Int) (A_g.vals.length : Int))), (u34 15), (u34 16), (Iv (s.1 : Int)), (.slice p50 ((nb A_g (s.1 : Int)).length) q51), (Iv (u2.1 : Int)), (.slice p50 ((nb A_g (s.1 : Int)).length) q51), (Iv (((nb A_g (s.1 : Int)).length) : Int)), (Bo (icmp .lss (u2.1 : Int) (((nb A_g (s.1 : Int)).length) : Int))), (Iv (u2.1 : Int)), (Iv ((u2.1 : Int) + 1)), v67, v68, v69, v70, v71, v72, v73, v74, v75, v76, v77, v78, v79, v80, v81, v82, v83, v84, v85, v86, v87, v88, v89, (Bo (β1 && (β2 != β3))), (Iv u2.2), (Iv (u2.2 + 1)), Ud] : List Value)[t]?).getD undef, ?_, (Ext.gr (Ext.gr E55 E64) E92), ?_⟩, ?_⟩
            · first | rfl | (simp only [Nat.cast_add, Nat.cast_one, Int.natCast_add, Int.natCast_one]; rfl)
            · (try dsimp only); refine ⟨by omega, ?_⟩; (try dsimp only); rw [take_count (by assumption)]; first | (rw [if_pos (by simp_all [negAt, negF, icmp]), hn2]; omega) | (rw [if_neg (by simp_all [negAt, negF, icmp]), hn2]; omega)
            · (try dsimp only); omega
          have c96' := c96
          (try simp only [hβ1, hβ2, hβ3] at c96')
          (try simp only [icmp, Bool.and_eq_true, Bool.or_eq_true, Bool.and_eq_false_iff, Bool.or_eq_false_iff, Bool.not_eq_true', Bool.not_eq_false', decide_eq_true_eq, decide_eq_false_iff_not, beq_iff_eq, bne_iff_ne, beq_eq_false_iff_ne, bne_eq_false_iff_eq] at c96')
          refine wp_skip (hK61 _ _ ?_)
          refine wp_region_lit ?_
          refine q_is (l' := [(.agg #[(Fl r1), (Fl r3), (Fl r5), (Fl r7), (Iv A_g.x), (Iv A_g.y), (Iv A_g.z), (.slice p11 A_g.vals.length q12)]), (Pt b15 0), (Iv 0), (Bo false), (Iv u2.2), (Iv (s.1 : Int)), (.slice p50 ((nb A_g (s.1 : Int)).length) q51), (Iv (u2.1 : Int)), (Bo (isGrid A_g)), (Bo (!(isGrid A_g))), (Iv (s.1 : Int)), (Pt b15 7), (.slice p11 A_g.vals.length q12), (Iv (A_g.vals.length : Int)), (Bo (icmp .lss (s.1 : Int) (A_g.vals.length : Int))), (u34 15), (u34 16), (Iv (s.1 : Int)), (.slice p50 ((nb A_g (s.1 : Int)).length) q51), (Iv (u2.1 : Int)), (.slice p50 ((nb A_g (s.1 : Int)).length) q51), (Iv (((nb A_g (s.1 : Int)).length) : Int)), (Bo (icmp .lss (u2.1 : Int) (((nb A_g (s.1 : Int)).length) : Int))), (Iv (u2.1 : Int)), (u53 24), v67, v68, v69, v70, v71, v72, v73, v74, v75, v76, v77, v78, v79, v80, v81, v82, v83, v84, v85, v86, v87, v88, v89, (Bo (β1 && (β2 != β3))), (u53 49), (u53 50), Ud]) rfl rfl (does_move (u := (Iv (u2.1 : Int))) (ev rfl)) rfl ?_
          refine q_is (l' := [(.agg #[(Fl r1), (Fl r3), (Fl r5), (Fl r7), (Iv A_g.x), (Iv A_g.y), (Iv A_g.z), (.slice p11 A_g.vals.length q12)]), (Pt b15 0), (Iv 0), (Bo false), (Iv u2.2), (Iv (s.1 : Int)), (.slice p50 ((nb A_g (s.1 : Int)).length) q51), (Iv (u2.1 : Int)), (Bo (isGrid A_g)), (Bo (!(isGrid A_g))), (Iv (s.1 : Int)), (Pt b15 7), (.slice p11 A_g.vals.length q12), (Iv (A_g.vals.length : Int)), (Bo (icmp .lss (s.1 : Int) (A_g.vals.length : Int))), (u34 15), (u34 16), (Iv (s.1 : Int)), (.slice p50 ((nb A_g (s.1 : Int)).length) q51), (Iv (u2.1 : Int)), (.slice p50 ((nb A_g (s.1 : Int)).length) q51), (Iv (((nb A_g (s.1 : Int)).length) : Int)), (Bo (icmp .lss (u2.1 : Int) (((nb A_g (s.1 : Int)).length) : Int))), (Iv (u2.1 : Int)), (Iv ((u2.1 : Int) + 1)), v67, v68, v69, v70, v71, v72, v73, v74, v75, v76, v77, v78, v79, v80, v81, v82, v83, v84, v85, v86, v87, v88, v89, (Bo (β1 && (β2 != β3))), (u53 49), (u53 50), Ud]) rfl rfl (does_iarith (p := (u2.1 : Int)) (q := 1) (r := (u2.1 : Int) + 1) (ev rfl) (ev rfl) (.inl ⟨rfl, (in_i64 (by omega) (by omega)).symm⟩)) rfl ?_
          refine q_is (l' := [(.agg #[(Fl r1), (Fl r3), (Fl r5), (Fl r7), (Iv A_g.x), (Iv A_g.y), (Iv A_g.z), (.slice p11 A_g.vals.length q12)]), (Pt b15 0), (Iv 0), (Bo false), (Iv u2.2), (Iv (s.1 : Int)), (.slice p50 ((nb A_g (s.1 : Int)).length) q51), (Iv ((u2.1 : Int) + 1)), (Bo (isGrid A_g)), (Bo (!(isGrid A_g))), (Iv (s.1 : Int)), (Pt b15 7), (.slice p11 A_g.vals.length q12), (Iv (A_g.vals.length : Int)), (Bo (icmp .lss (s.1 : Int) (A_g.vals.length : Int))), (u34 15), (u34 16), (Iv (s.1 : Int)), (.slice p50 ((nb A_g (s.1 : Int)).length) q51), (Iv (u2.1 : Int)), (.slice p50 ((nb A_g (s.1 : Int)).length) q51), (Iv (((nb A_g (s.1 : Int)).length) : Int)), (Bo (icmp .lss (u2.1 : Int) (((nb A_g (s.1 : Int)).length) : Int))), (Iv (u2.1 : Int)), (Iv ((u2.1 : Int) + 1)), v67, v68, v69, v70, v71, v72, v73, v74, v75, v76, v77, v78, v79, v80, v81, v82, v83, v84, v85, v86, v87, v88, v89, (Bo (β1 && (β2 != β3))), (u53 49), (u53 50), Ud]) rfl rfl (does_assign (u := (Iv ((u2.1 : Int) + 1))) (ev rfl)) rfl ?_
          refine wpList_nil ?_
          refine ⟨(u2.1 + 1, u2.2), ⟨fun t => (([(.agg #[(Fl r1), (Fl r3), (Fl r5), (Fl r7), (Iv A_g.x), (Iv A_g.y), (Iv A_g.z), (.slice p11 A_g.vals.length q12)]), (Pt b15 0), (Iv 0), (Bo false), (Iv u2.2), (Iv (s.1 : Int)), (.slice p50 ((nb A_g (s.1 : Int)).length) q51), (Iv ((u2.1 : Int) + 1)), (Bo (isGrid A_g)), (Bo (!(isGrid A_g))), (Iv (s.1 : Int)), (Pt b15 7), (.slice p11 A_g.vals.length q12), (Iv (A_g.vals.length : Int)), (Bo (icmp .lss (s.1 : Int) (A_g.vals.length : Int))), (u34 15), (u34 16), (Iv (s.1 : Int)), (.slice p50 ((nb A_g (s.1 : Int)).length) q51), (Iv (u2.1 : Int)), (.slice p50 ((nb A_g (s.1 : Int)).length) q51), (Iv (((nb A_g (s.1 : Int)).length) : Int)), (Bo (icmp .lss (u2.1 : Int) (((nb A_g (s.1 : Int)).length) : Int))), (Iv (u2.1 : Int)), (Iv ((u2.1 : Int) + 1)), v67, v68, v69, v70, v71, v72, v73, v74, v75, v76, v77, v78, v79, v80, v81, v82, v83, v84, v85, v86, v87, v88, v89, (Bo (β1 && (β2 != β3))), (u53 49), (u53 50), Ud] : List Value)[t]?).getD undef, ?_, (Ext.gr (Ext.gr E55 E64) E92), ?_⟩, ?_⟩
          · first | rfl | (simp only [Nat.cast_add, Nat.cast_one, Int.natCast_add, Int.natCast_one]; rfl)
          · (try dsimp only); refine ⟨by omega, ?_⟩; (try dsimp only); rw [take_count (by assumption)]; first | (rw [if_pos (by simp_all [negAt, negF, icmp]), hn2]; omega) | (rw [if_neg (by simp_all [negAt, negF, icmp]), hn2]; omega)
          · (try dsimp only); omega
        have c60' := c60
        (try simp only [icmp, Bool.and_eq_true, Bool.or_eq_true, Bool.and_eq_false_iff, Bool.or_eq_false_iff, Bool.not_eq_true', Bool.not_eq_false', decide_eq_true_eq, decide_eq_false_iff_not, beq_iff_eq, bne_iff_ne, beq_eq_false_iff_ne, bne_eq_false_iff_eq] at c60')
        refine wp_exit ?_
        refine hK42 _ _ ?_
        refine wp_region_lit ?_
        refine q_is (l' := [(.agg #[(Fl r1), (Fl r3), (Fl r5), (Fl r7), (Iv A_g.x), (Iv A_g.y), (Iv A_g.z), (.slice p11 A_g.vals.length q12)]), (Pt b15 0), (Iv 0), (Bo false), (Iv u2.2), (Iv (s.1 : Int)), (.slice p50 ((nb A_g (s.1 : Int)).length) q51), (Iv (u2.1 : Int)), (Bo (isGrid A_g)), (Bo (!(isGrid A_g))), (Iv (s.1 : Int)), (Pt b15 7), (.slice p11 A_g.vals.length q12), (Iv (A_g.vals.length : Int)), (Bo (icmp .lss (s.1 : Int) (A_g.vals.length : Int))), (Iv (s.1 : Int)), (u34 16), (Iv (s.1 : Int)), (.slice p50 ((nb A_g (s.1 : Int)).length) q51), (Iv (u2.1 : Int)), (.slice p50 ((nb A_g (s.1 : Int)).length) q51), (Iv (((nb A_g (s.1 : Int)).length) : Int)), (Bo (icmp .lss (u2.1 : Int) (((nb A_g (s.1 : Int)).length) : Int))), (u53 23), (u53 24), (u53 25), (u53 26), (u53 27), (u53 28), (u53 29), (u53 30), (u53 31), (u53 32), (u53 33), (u53 34), (u53 35), (u53 36), (u53 37), (u53 38), (u53 39), (u53 40), (u53 41), (u53 42), (u53 43), (u53 44), (u53 45), (u53 46), (u53 47), (u53 48), (u53 49), (u53 50), Ud]) rfl rfl (does_move (u := (Iv (s.1 : Int))) (ev rfl)) rfl ?_
        refine q_is (l' := [(.agg #[(Fl r1), (Fl r3), (Fl r5), (Fl r7), (Iv A_g.x), (Iv A_g.y), (Iv A_g.z), (.slice p11 A_g.vals.length q12)]), (Pt b15 0), (Iv 0), (Bo false), (Iv u2.2), (Iv (s.1 : Int)), (.slice p50 ((nb A_g (s.1 : Int)).length) q51), (Iv (u2.1 : Int)), (Bo (isGrid A_g)), (Bo (!(isGrid A_g))), (Iv (s.1 : Int)), (Pt b15 7), (.slice p11 A_g.vals.length q12), (Iv (A_g.vals.length : Int)), (Bo (icmp .lss (s.1 : Int) (A_g.vals.length : Int))), (Iv (s.1 : Int)), (Iv ((s.1 : Int) + 1)), (Iv (s.1 : Int)), (.slice p50 ((nb A_g (s.1 : Int)).length) q51), (Iv (u2.1 : Int)), (.slice p50 ((nb A_g (s.1 : Int)).length) q51), (Iv (((nb A_g (s.1 : Int)).length) : Int)), (Bo (icmp .lss (u2.1 : Int) (((nb A_g (s.1 : Int)).length) : Int))), (u53 23), (u53 24), (u53 25), (u53 26), (u53 27), (u53 28), (u53 29), (u53 30), (u53 31), (u53 32), (u53 33), (u53 34), (u53 35), (u53 36), (u53 37), (u53 38), (u53 39), (u53 40), (u53 41), (u53 42), (u53 43), (u53 44), (u53 45), (u53 46), (u53 47), (u53 48), (u53 49), (u53 50), Ud]) rfl rfl (does_iarith (p := (s.1 : Int)) (q := 1) (r := (s.1 : Int) + 1) (ev rfl) (ev rfl) (.inl ⟨rfl, (in_i64 (by omega) (by omega)).symm⟩)) rfl ?_
        refine q_is (l' := [(.agg #[(Fl r1), (Fl r3), (Fl r5), (Fl r7), (Iv A_g.x), (Iv A_g.y), (Iv A_g.z), (.slice p11 A_g.vals.length q12)]), (Pt b15 0), (Iv 0), (Bo false), (Iv u2.2), (Iv ((s.1 : Int) + 1)), (.slice p50 ((nb A_g (s.1 : Int)).length) q51), (Iv (u2.1 : Int)), (Bo (isGrid A_g)), (Bo (!(isGrid A_g))), (Iv (s.1 : Int)), (Pt b15 7), (.slice p11 A_g.vals.length q12), (Iv (A_g.vals.length : Int)), (Bo (icmp .lss (s.1 : Int) (A_g.vals.length : Int))), (Iv (s.1 : Int)), (Iv ((s.1 : Int) + 1)), (Iv (s.1 : Int)), (.slice p50 ((nb A_g (s.1 : Int)).length) q51), (Iv (u2.1 : Int)), (.slice p50 ((nb A_g (s.1 : Int)).length) q51), (Iv (((nb A_g (s.1 : Int)).length) : Int)), (Bo (icmp .lss (u2.1 : Int) (((nb A_g (s.1 : Int)).length) : Int))), (u53 23), (u53 24), (u53 25), (u53 26), (u53 27), (u53 28), (u53 29), (u53 30), (u53 31), (u53 32), (u53 33), (u53 34), (u53 35), (u53 36), (u53 37), (u53 38), (u53 39), (u53 40), (u53 41), (u53 42), (u53 43), (u53 44), (u53 45), (u53 46), (u53 47), (u53 48), (u53 49), (u53 50), Ud]) rfl rfl (does_assign (u := (Iv ((s.1 : Int) + 1))) (ev rfl)) rfl ?_
        refine wpList_nil ?_
        refine ⟨(s.1 + 1, u2.2), ⟨fun t => (([(.agg #[(Fl r1), (Fl r3), (Fl r5), (Fl r7), (Iv A_g.x), (Iv A_g.y), (Iv A_g.z), (.slice p11 A_g.vals.length q12)]), (Pt b15 0), (Iv 0), (Bo false), (Iv u2.2), (Iv ((s.1 : Int) + 1)), (.slice p50 ((nb A_g (s.1 : Int)).length) q51), (Iv (u2.1 : Int)), (Bo (isGrid A_g)), (Bo (!(isGrid A_g))), (Iv (s.1 : Int)), (Pt b15 7), (.slice p11 A_g.vals.length q12), (Iv (A_g.vals.length : Int)), (Bo (icmp .lss (s.1 : Int) (A_g.vals.length : Int))), (Iv (s.1 : Int)), (Iv ((s.1 : Int) + 1)), (Iv (s.1 : Int)), (.slice p50 ((nb A_g (s.1 : Int)).length) q51), (Iv (u2.1 : Int)), (.slice p50 ((nb A_g (s.1 : Int)).length) q51), (Iv (((nb A_g (s.1 : Int)).length) : Int)), (Bo (icmp .lss (u2.1 : Int) (((nb A_g (s.1 : Int)).length) : Int))), (u53 23), (u53 24), (u53 25), (u53 26), (u53 27), (u53 28), (u53 29), (u53 30), (u53 31), (u53 32), (u53 33), (u53 34), (u53 35), (u53 36), (u53 37), (u53 38), (u53 39), (u53 40), (u53 41), (u53 42), (u53 43), (u53 44), (u53 45), (u53 46), (u53 47), (u53 48), (u53 49), (u53 50), Ud] : List Value)[t]?).getD undef, ?_, (Ext.gr (Ext.gr E36 E44) E55), ?_⟩, ?_⟩
        · first | rfl | (simp only [Nat.cast_add, Nat.cast_one, Int.natCast_add, Int.natCast_one]; rfl)
        · (try dsimp only); exact ⟨by omega, by rw [hn2, List.take_of_length_le (by omega)]; rfl⟩
        · (try dsimp only); omega
    have c41' := c41
    (try simp only [icmp, Bool.and_eq_true, Bool.or_eq_true, Bool.and_eq_false_iff, Bool.or_eq_false_iff, Bool.not_eq_true', Bool.not_eq_false', decide_eq_true_eq, decide_eq_false_iff_not, beq_iff_eq, bne_iff_ne, beq_eq_false_iff_ne, bne_eq_false_iff_eq] at c41')
    refine wp_exit ?_
    refine hK32 _ _ ?_
    refine wp_seq_k fun K97 hK97 => ?_
    refine wp_region_lit ?_
    refine q_is (l' := [(.agg #[(Fl r1), (Fl r3), (Fl r5), (Fl r7), (Iv A_g.x), (Iv A_g.y), (Iv A_g.z), (.slice p11 A_g.vals.length q12)]), (Pt b15 0), (Iv 0), (Bo false), (Iv s.2), (Iv (s.1 : Int)), (u34 6), (u34 7), (Bo (isGrid A_g)), (Bo (!(isGrid A_g))), (Iv (s.1 : Int)), (Pt b15 7), (.slice p11 A_g.vals.length q12), (Iv (A_g.vals.length : Int)), (Bo (icmp .lss (s.1 : Int) (A_g.vals.length : Int))), (u34 15), (u34 16), (u34 17), (u34 18), (u34 19), (u34 20), (u34 21), (u34 22), (u34 23), (u34 24), (u34 25), (u34 26), (u34 27), (u34 28), (u34 29), (u34 30), (u34 31), (u34 32), (u34 33), (u34 34), (u34 35), (u34 36), (u34 37), (u34 38), (u34 39), (u34 40), (u34 41), (u34 42), (u34 43), (u34 44), (u34 45), (u34 46), (u34 47), (u34 48), (u34 49), (u34 50), (Iv s.2)]) rfl rfl (does_move (u := (Iv s.2)) (ev rfl)) rfl ?_
    refine q_is (l' := [(.agg #[(Fl r1), (Fl r3), (Fl r5), (Fl r7), (Iv A_g.x), (Iv A_g.y), (Iv A_g.z), (.slice p11 A_g.vals.length q12)]), (Pt b15 0), (Iv s.2), (Bo false), (Iv s.2), (Iv (s.1 : Int)), (u34 6), (u34 7), (Bo (isGrid A_g)), (Bo (!(isGrid A_g))), (Iv (s.1 : Int)), (Pt b15 7), (.slice p11 A_g.vals.length q12), (Iv (A_g.vals.length : Int)), (Bo (icmp .lss (s.1 : Int) (A_g.vals.length : Int))), (u34 15), (u34 16), (u34 17), (u34 18), (u34 19), (u34 20), (u34 21), (u34 22), (u34 23), (u34 24), (u34 25), (u34 26), (u34 27), (u34 28), (u34 29), (u34 30), (u34 31), (u34 32), (u34 33), (u34 34), (u34 35), (u34 36), (u34 37), (u34 38), (u34 39), (u34 40), (u34 41), (u34 42), (u34 43), (u34 44), (u34 45), (u34 46), (u34 47), (u34 48), (u34 49), (u34 50), (Iv s.2)]) rfl rfl (does_assign (u := (Iv s.2)) (ev rfl)) rfl ?_
    refine q_is (l' := [(.agg #[(Fl r1), (Fl r3), (Fl r5), (Fl r7), (Iv A_g.x), (Iv A_g.y), (Iv A_g.z), (.slice p11 A_g.vals.length q12)]), (Pt b15 0), (Iv s.2), (Bo true), (Iv s.2), (Iv (s.1 : Int)), (u34 6), (u34 7), (Bo (isGrid A_g)), (Bo (!(isGrid A_g))), (Iv (s.1 : Int)), (Pt b15 7), (.slice p11 A_g.vals.length q12), (Iv (A_g.vals.length : Int)), (Bo (icmp .lss (s.1 : Int) (A_g.vals.length : Int))), (u34 15), (u34 16), (u34 17), (u34 18), (u34 19), (u34 20), (u34 21), (u34 22), (u34 23), (u34 24), (u34 25), (u34 26), (u34 27), (u34 28), (u34 29), (u34 30), (u34 31), (u34 32), (u34 33), (u34 34), (u34 35), (u34 36), (u34 37), (u34 38), (u34 39), (u34 40), (u34 41), (u34 42), (u34 43), (u34 44), (u34 45), (u34 46), (u34 47), (u34 48), (u34 49), (u34 50), (Iv s.2)]) rfl rfl (does_assign (u := (Bo true)) (ev rfl)) rfl ?_
    refine wpList_nil (hK97 _ _ ?_)
    refine wp_ret ?_
    refine ret_val (v := (.tuple #[(Iv s.2), (Bo true)])) (res_TT rfl (slot rfl) (slot rfl)) X38 ?_
    try simp only [h2, h4, h6, h8] at c27 c41
    have x98 : (gvI (isGrid A_g) (edgesG A_g) : Int) = s.2 := by first | rfl | assumption | (rw [‹isGrid A_g = false›]; rfl) | (rw [‹isGrid A_g = true›, gvI_t, edgesG, hn, show s.1 = A_g.vals.length by omega])
    have x99 : (isGrid A_g) = true := by first | rfl | assumption | (rw [‹isGrid A_g = false›]; rfl) | (rw [‹isGrid A_g = true›, gvI_t, edgesG, hn, show s.1 = A_g.vals.length by omega])
    exact (by first | rfl | rw [x98, x99])

/- slices.IndexFunc[[]float32,float32] -/
theorem c_slices_IndexFunc_float32_float32 (xs : Value) (L_xs : List Nat) (f : Value) (pr_f : Nat → Bool) (w : World) (hv_xs : Sl RF 1 w xs L_xs) (hv_f : TellsF Try.prog f w pr_f) : Gives Try.prog 142 #[xs, f] w (fun v w' => v = (Iv (findI pr_f L_xs))) := by
  have hlen_xs := Sl.len hv_xs; obtain ⟨p_xs, q_xs, rfl⟩ := Sl.shape hv_xs
  obtain ⟨f_f, s_f, c_f, rfl, hcal_f, hg_f⟩ := hv_f
  refine enter [(.slice p_xs L_xs.length q_xs), (.func (.func f_f) s_f c_f), Ud, Ud, Ud, Ud, Ud, Ud, Ud, Ud, Ud, Ud, Ud, Ud, Ud, Ud, Ud, Ud, Ud] Try.func142 rfl Try.ntmps142 rfl ?_
  refine wp_seq_k fun K1 hK1 => ?_
  refine wp_region_lit ?_
  refine q_is (l' := [(.slice p_xs L_xs.length q_xs), (.func (.func f_f) s_f c_f), Ud, Ud, (Iv 0), Ud, Ud, Ud, Ud, Ud, Ud, Ud, Ud, Ud, Ud, Ud, Ud, Ud, Ud]) rfl rfl (does_assign (u := (Iv 0)) (ev rfl)) rfl ?_
  refine wpList_nil (hK1 _ _ ?_)
  refine wp_seq_k fun K2 hK2 => ?_
  refine wp_seq_k fun K3 hK3 => ?_
  refine wp_region_lit ?_
  refine q_is (l' := [(.slice p_xs L_xs.length q_xs), (.func (.func f_f) s_f c_f), Ud, Ud, (Iv 0), Ud, (.slice p_xs L_xs.length q_xs), Ud, Ud, Ud, Ud, Ud, Ud, Ud, Ud, Ud, Ud, Ud, Ud]) rfl rfl (does_move (u := (.slice p_xs L_xs.length q_xs)) (ev rfl)) rfl ?_
  refine q_is (l' := [(.slice p_xs L_xs.length q_xs), (.func (.func f_f) s_f c_f), Ud, Ud, (Iv 0), Ud, (.slice p_xs L_xs.length q_xs), (Iv (L_xs.length : Int)), Ud, Ud, Ud, Ud, Ud, Ud, Ud, Ud, Ud, Ud, Ud]) rfl rfl (does_len_slice Try.underlying25 (ev rfl)) rfl ?_
  refine q_is (l' := [(.slice p_xs L_xs.length q_xs), (.func (.func f_f) s_f c_f), Ud, Ud, (Iv 0), Ud, (.slice p_xs L_xs.length q_xs), (Iv (L_xs.length : Int)), (Iv 0), Ud, Ud, Ud, Ud, Ud, Ud, Ud, Ud, Ud, Ud]) rfl rfl (does_move (u := (Iv 0)) (ev rfl)) rfl ?_
  refine wpList_nil (hK3 _ _ ?_)
  refine wp_block ?_
  refine loop_ghost (σ := Nat) (fun k a w' => ∃ u4 : Nat → Value, a = fr [(.slice p_xs L_xs.length q_xs), (.func (.func f_f) s_f c_f), Ud, Ud, (u4 4), (u4 5), (.slice p_xs L_xs.length q_xs), (Iv (L_xs.length : Int)), (Iv (k : Int)), (u4 9), (u4 10), (u4 11), (u4 12), (u4 13), (u4 14), (u4 15), (u4 16), (u4 17), (u4 18)] ∧ Ext w w' ∧ (k ≤ L_xs.length ∧ NoneTo pr_f L_xs k)) (fun k => L_xs.length - k) 0 ?_ ?_
  · refine ⟨fun t => (([(.slice p_xs L_xs.length q_xs), (.func (.func f_f) s_f c_f), Ud, Ud, (Iv 0), Ud, (.slice p_xs L_xs.length q_xs), (Iv (L_xs.length : Int)), (Iv 0), Ud, Ud, Ud, Ud, Ud, Ud, Ud, Ud, Ud, Ud] : List Value)[t]?).getD undef, rfl, Ext.refl _, ?_⟩
    exact ⟨Nat.zero_le _, NoneTo.zero⟩
  · rintro k a w5 ⟨u4, rfl, E6, ⟨hk, hno⟩⟩
    have X8 := Ext.gr (Ext.refl w) E6
    refine wp_seq_k fun K9 hK9 => ?_
    refine wp_region_lit ?_
    refine q_is (l' := [(.slice p_xs L_xs.length q_xs), (.func (.func f_f) s_f c_f), Ud, Ud, (u4 4), (u4 5), (.slice p_xs L_xs.length q_xs), (Iv (L_xs.length : Int)), (Iv (k : Int)), (Bo (icmp .lss (k : Int) (L_xs.length : Int))), (u4 10), (u4 11), (u4 12), (u4 13), (u4 14), (u4 15), (u4 16), (u4 17), (u4 18)]) rfl rfl (does_icmp (p := (k : Int)) (q := (L_xs.length : Int)) (.inr (.inr (.inl rfl))) (ev rfl) (ev rfl)) rfl ?_
    refine wpList_nil (hK9 _ _ ?_)
    refine wp_seq_k fun K10 hK10 => ?_
    refine wp_cond_split (t := icmp .lss (k : Int) (L_xs.length : Int)) (ev rfl) (fun c11 => ?_) (fun c11 => ?_)
    · have c11' := c11
      (try simp only [icmp, Bool.and_eq_true, Bool.or_eq_true, Bool.and_eq_false_iff, Bool.or_eq_false_iff, Bool.not_eq_true', Bool.not_eq_false', decide_eq_true_eq, decide_eq_false_iff_not, beq_iff_eq, bne_iff_ne, beq_eq_false_iff_ne, bne_eq_false_iff_eq] at c11')
      refine wp_skip (hK10 _ _ ?_)
      refine wp_seq_k fun K12 hK12 => ?_
      refine wp_block ?_
      refine wp_seq_k fun K13 hK13 => ?_
      refine wp_region_lit ?_
      refine q_is (l' := [(.slice p_xs L_xs.length q_xs), (.func (.func f_f) s_f c_f), Ud, Ud, (u4 4), (u4 5), (.slice p_xs L_xs.length q_xs), (Iv (L_xs.length : Int)), (Iv (k : Int)), (Bo (icmp .lss (k : Int) (L_xs.length : Int))), (Iv (k : Int)), (u4 11), (u4 12), (u4 13), (u4 14), (u4 15), (u4 16), (u4 17), (u4 18)]) rfl rfl (does_move (u := (Iv (k : Int))) (ev rfl)) rfl ?_
      refine q_is (l' := [(.slice p_xs L_xs.length q_xs), (.func (.func f_f) s_f c_f), Ud, Ud, (u4 4), (Iv (k : Int)), (.slice p_xs L_xs.length q_xs), (Iv (L_xs.length : Int)), (Iv (k : Int)), (Bo (icmp .lss (k : Int) (L_xs.length : Int))), (Iv (k : Int)), (u4 11), (u4 12), (u4 13), (u4 14), (u4 15), (u4 16), (u4 17), (u4 18)]) rfl rfl (does_assign (u := (Iv (k : Int))) (ev rfl)) rfl ?_
      refine wpList_nil (hK13 _ _ ?_)
      refine wp_seq_k fun K14 hK14 => ?_
      refine wp_region_lit ?_
      refine q_is (l' := [(.slice p_xs L_xs.length q_xs), (.func (.func f_f) s_f c_f), Ud, Ud, (u4 4), (Iv (k : Int)), (.slice p_xs L_xs.length q_xs), (Iv (L_xs.length : Int)), (Iv (k : Int)), (Bo (icmp .lss (k : Int) (L_xs.length : Int))), (Iv (k : Int)), (.func (.func f_f) s_f c_f), (u4 12), (u4 13), (u4 14), (u4 15), (u4 16), (u4 17), (u4 18)]) rfl rfl (does_move (u := (.func (.func f_f) s_f c_f)) (ev rfl)) rfl ?_
      refine q_is (l' := [(.slice p_xs L_xs.length q_xs), (.func (.func f_f) s_f c_f), Ud, Ud, (u4 4), (Iv (k : Int)), (.slice p_xs L_xs.length q_xs), (Iv (L_xs.length : Int)), (Iv (k : Int)), (Bo (icmp .lss (k : Int) (L_xs.length : Int))), (Iv (k : Int)), (.func (.func f_f) s_f c_f), (.slice p_xs L_xs.length q_xs), (u4 13), (u4 14), (u4 15), (u4 16), (u4 17), (u4 18)]) rfl rfl (does_move (u := (.slice p_xs L_xs.length q_xs)) (ev rfl)) rfl ?_
      refine q_is (l' := [(.slice p_xs L_xs.length q_xs), (.func (.func f_f) s_f c_f), Ud, Ud, (u4 4), (Iv (k : Int)), (.slice p_xs L_xs.length q_xs), (Iv (L_xs.length : Int)), (Iv (k : Int)), (Bo (icmp .lss (k : Int) (L_xs.length : Int))), (Iv (k : Int)), (.func (.func f_f) s_f c_f), (.slice p_xs L_xs.length q_xs), (Iv (k : Int)), (u4 14), (u4 15), (u4 16), (u4 17), (u4 18)]) rfl rfl (does_move (u := (Iv (k : Int))) (ev rfl)) rfl ?_
      obtain ⟨el1, hel1⟩ : ∃ e, L_xs[k]? = some e := ⟨_, List.getElem?_eq_getElem (by omega)⟩
      refine seqd rfl rfl (does_indexSl (R := RF) (i := (k : Int)) (xs := L_xs) (e := el1) Try.underlying25 Try.sizeOf22 (ev rfl) (ev rfl) (Sl.ext hv_xs RF.mono X8) (by omega) hel1) ?_; rintro _ w5 ⟨b15, o16, _, rfl, hc18, ⟨r19, rfl, h20⟩, rfl⟩
      show wpList _ _ _ _ (fr [(.slice p_xs L_xs.length q_xs), (.func (.func f_f) s_f c_f), Ud, Ud, (u4 4), (Iv (k : Int)), (.slice p_xs L_xs.length q_xs), (Iv (L_xs.length : Int)), (Iv (k : Int)), (Bo (icmp .lss (k : Int) (L_xs.length : Int))), (Iv (k : Int)), (.func (.func f_f) s_f c_f), (.slice p_xs L_xs.length q_xs), (Iv (k : Int)), (Pt b15 o16), (u4 15), (u4 16), (u4 17), (u4 18)]) _
      refine q_is (l' := [(.slice p_xs L_xs.length q_xs), (.func (.func f_f) s_f c_f), Ud, Ud, (u4 4), (Iv (k : Int)), (.slice p_xs L_xs.length q_xs), (Iv (L_xs.length : Int)), (Iv (k : Int)), (Bo (icmp .lss (k : Int) (L_xs.length : Int))), (Iv (k : Int)), (.func (.func f_f) s_f c_f), (.slice p_xs L_xs.length q_xs), (Iv (k : Int)), (Pt b15 o16), (Fl r19), (u4 16), (u4 17), (u4 18)]) rfl rfl (does_load (u := (Fl r19)) (ev rfl) Try.isAgg22 (Cells.at hc18 0 rfl)) rfl ?_
      refine seqd rfl rfl (does_callf (args := #[(Fl r19)]) (ev rfl) hcal_f (evs rfl) (hg_f r19 _ X8)) ?_; rintro _ w22 ⟨E21, rfl⟩
      have X23 := Ext.gr X8 E21
      show wpList _ _ _ _ (fr [(.slice p_xs L_xs.length q_xs), (.func (.func f_f) s_f c_f), Ud, Ud, (u4 4), (Iv (k : Int)), (.slice p_xs L_xs.length q_xs), (Iv (L_xs.length : Int)), (Iv (k : Int)), (Bo (icmp .lss (k : Int) (L_xs.length : Int))), (Iv (k : Int)), (.func (.func f_f) s_f c_f), (.slice p_xs L_xs.length q_xs), (Iv (k : Int)), (Pt b15 o16), (Fl r19), (Bo (pr_f (cf .f32 r19))), (u4 17), (u4 18)]) _
      refine wpList_nil (hK14 _ _ ?_)
      refine wp_cond_split (t := pr_f (cf .f32 r19)) (ev rfl) (fun c24 => ?_) (fun c24 => ?_)
      · have c24' := c24
        refine wp_seq_k fun K25 hK25 => ?_
        refine wp_region_lit ?_
        refine q_is (l' := [(.slice p_xs L_xs.length q_xs), (.func (.func f_f) s_f c_f), Ud, Ud, (u4 4), (Iv (k : Int)), (.slice p_xs L_xs.length q_xs), (Iv (L_xs.length : Int)), (Iv (k : Int)), (Bo (icmp .lss (k : Int) (L_xs.length : Int))), (Iv (k : Int)), (.func (.func f_f) s_f c_f), (.slice p_xs L_xs.length q_xs), (Iv (k : Int)), (Pt b15 o16), (Fl r19), (Bo (pr_f (cf .f32 r19))), (Iv (k : Int)), (u4 18)]) rfl rfl (does_move (u := (Iv (k : Int))) (ev rfl)) rfl ?_
        refine q_is (l' := [(.slice p_xs L_xs.length q_xs), (.func (.func f_f) s_f c_f), Ud, Ud, (Iv (k : Int)), (Iv (k : Int)), (.slice p_xs L_xs.length q_xs), (Iv (L_xs.length : Int)), (Iv (k : Int)), (Bo (icmp .lss (k : Int) (L_xs.length : Int))), (Iv (k : Int)), (.func (.func f_f) s_f c_f), (.slice p_xs L_xs.length q_xs), (Iv (k : Int)), (Pt b15 o16), (Fl r19), (Bo (pr_f (cf .f32 r19))), (Iv (k : Int)), (u4 18)]) rfl rfl (does_assign (u := (Iv (k : Int))) (ev rfl)) rfl ?_
        refine wpList_nil (hK25 _ _ ?_)
        refine wp_ret ?_
        dsimp only [Exit.then, Exit.inBlock]
        refine ret_val (v := (Iv (k : Int))) (res_T rfl (slot rfl)) X23 ?_
        try simp only [hel1, h20] at c11 c24
        have x26 : (findI pr_f L_xs : Int) = (k : Int) := by first | exact findI_at hno (by assumption) (by simp_all) | exact findI_none hno (by omega)
        exact (by first | rfl | rw [x26])
      have c24' := c24
      refine wp_skip (hK12 _ _ ?_)
      refine wp_region_lit ?_
      refine q_is (l' := [(.slice p_xs L_xs.length q_xs), (.func (.func f_f) s_f c_f), Ud, Ud, (u4 4), (Iv (k : Int)), (.slice p_xs L_xs.length q_xs), (Iv (L_xs.length : Int)), (Iv (k : Int)), (Bo (icmp .lss (k : Int) (L_xs.length : Int))), (Iv (k : Int)), (.func (.func f_f) s_f c_f), (.slice p_xs L_xs.length q_xs), (Iv (k : Int)), (Pt b15 o16), (Fl r19), (Bo (pr_f (cf .f32 r19))), (u4 17), (Iv ((k : Int) + 1))]) rfl rfl (does_iarith (p := (k : Int)) (q := 1) (r := (k : Int) + 1) (ev rfl) (ev rfl) (.inl ⟨rfl, (in_i64 (by omega) (by omega)).symm⟩)) rfl ?_
      refine q_is (l' := [(.slice p_xs L_xs.length q_xs), (.func (.func f_f) s_f c_f), Ud, Ud, (u4 4), (Iv (k : Int)), (.slice p_xs L_xs.length q_xs), (Iv (L_xs.length : Int)), (Iv ((k : Int) + 1)), (Bo (icmp .lss (k : Int) (L_xs.length : Int))), (Iv (k : Int)), (.func (.func f_f) s_f c_f), (.slice p_xs L_xs.length q_xs), (Iv (k : Int)), (Pt b15 o16), (Fl r19), (Bo (pr_f (cf .f32 r19))), (u4 17), (Iv ((k : Int) + 1))]) rfl rfl (does_move (u := (Iv ((k : Int) + 1))) (ev rfl)) rfl ?_
      refine wpList_nil ?_
      refine ⟨k + 1, ⟨fun t => (([(.slice p_xs L_xs.length q_xs), (.func (.func f_f) s_f c_f), Ud, Ud, (u4 4), (Iv (k : Int)), (.slice p_xs L_xs.length q_xs), (Iv (L_xs.length : Int)), (Iv ((k : Int) + 1)), (Bo (icmp .lss (k : Int) (L_xs.length : Int))), (Iv (k : Int)), (.func (.func f_f) s_f c_f), (.slice p_xs L_xs.length q_xs), (Iv (k : Int)), (Pt b15 o16), (Fl r19), (Bo (pr_f (cf .f32 r19))), (u4 17), (Iv ((k : Int) + 1))] : List Value)[t]?).getD undef, ?_, (Ext.gr E6 E21), ?_⟩, ?_⟩
      · first | rfl | (simp only [Nat.cast_add, Nat.cast_one, Int.natCast_add, Int.natCast_one]; rfl)
      · exact ⟨by omega, NoneTo.step hno (by assumption) (by simp_all)⟩
      · omega
    have c11' := c11
    (try simp only [icmp, Bool.and_eq_true, Bool.or_eq_true, Bool.and_eq_false_iff, Bool.or_eq_false_iff, Bool.not_eq_true', Bool.not_eq_false', decide_eq_true_eq, decide_eq_false_iff_not, beq_iff_eq, bne_iff_ne, beq_eq_false_iff_ne, bne_eq_false_iff_eq] at c11')
    refine wp_exit ?_
    refine hK2 _ _ ?_
    refine wp_seq_k fun K27 hK27 => ?_
    refine wp_region_lit ?_
    refine q_is (l' := [(.slice p_xs L_xs.length q_xs), (.func (.func f_f) s_f c_f), Ud, Ud, (Iv (-1)), (u4 5), (.slice p_xs L_xs.length q_xs), (Iv (L_xs.length : Int)), (Iv (k : Int)), (Bo (icmp .lss (k : Int) (L_xs.length : Int))), (u4 10), (u4 11), (u4 12), (u4 13), (u4 14), (u4 15), (u4 16), (u4 17), (u4 18)]) rfl rfl (does_assign (u := (Iv (-1))) (ev rfl)) rfl ?_
    refine wpList_nil (hK27 _ _ ?_)
    refine wp_ret ?_
    refine ret_val (v := (Iv (-1))) (res_T rfl (slot rfl)) X8 ?_
    have x28 : (findI pr_f L_xs : Int) = (-1) := by first | exact findI_at hno (by assumption) (by simp_all) | exact findI_none hno (by omega)
    exact (by first | rfl | rw [x28])

/- slices.ContainsFunc[[]float32,float32] -/
theorem c_slices_ContainsFunc_float32_float32 (xs : Value) (L_xs : List Nat) (f : Value) (pr_f : Nat → Bool) (w : World) (hv_xs : Sl RF 1 w xs L_xs) (hv_f : TellsF Try.prog f w pr_f) : Gives Try.prog 126 #[xs, f] w (fun v w' => v = (Bo (L_xs.any pr_f))) := by
  have hlen_xs := Sl.len hv_xs; obtain ⟨p_xs, q_xs, rfl⟩ := Sl.shape hv_xs
  obtain ⟨f_f, s_f, c_f, rfl, hcal_f, hg_f⟩ := hv_f
  refine enter [(.slice p_xs L_xs.length q_xs), (.func (.func f_f) s_f c_f), Ud, Ud, Ud, Ud, Ud, Ud, Ud] Try.func126 rfl Try.ntmps126 rfl ?_
  refine wp_seq_k fun K1 hK1 => ?_
  refine wp_region_lit ?_
  refine q_is (l' := [(.slice p_xs L_xs.length q_xs), (.func (.func f_f) s_f c_f), Ud, Ud, (Bo false), Ud, Ud, Ud, Ud]) rfl rfl (does_assign (u := (Bo false)) (ev rfl)) rfl ?_
  refine wpList_nil (hK1 _ _ ?_)
  refine wp_seq_k fun K2 hK2 => ?_
  refine wp_region_lit ?_
  refine q_is (l' := [(.slice p_xs L_xs.length q_xs), (.func (.func f_f) s_f c_f), Ud, Ud, (Bo false), (.slice p_xs L_xs.length q_xs), Ud, Ud, Ud]) rfl rfl (does_move (u := (.slice p_xs L_xs.length q_xs)) (ev rfl)) rfl ?_
  refine q_is (l' := [(.slice p_xs L_xs.length q_xs), (.func (.func f_f) s_f c_f), Ud, Ud, (Bo false), (.slice p_xs L_xs.length q_xs), (.func (.func f_f) s_f c_f), Ud, Ud]) rfl rfl (does_move (u := (.func (.func f_f) s_f c_f)) (ev rfl)) rfl ?_
  refine seqd rfl rfl (does_call (args := #[(.slice p_xs L_xs.length q_xs), (.func (.func f_f) s_f c_f)]) cal142 (evs rfl) (c_slices_IndexFunc_float32_float32 (.slice p_xs L_xs.length q_xs) L_xs (.func (.func f_f) s_f c_f) pr_f _ hv_xs ⟨_, _, _, rfl, hcal_f, fun r u hu' => hg_f r u (Ext.gr (Ext.refl w) hu')⟩)) ?_; rintro _ w4 ⟨E3, rfl⟩
  have X5 := Ext.gr (Ext.refl w) E3
  show wpList _ _ _ _ (fr [(.slice p_xs L_xs.length q_xs), (.func (.func f_f) s_f c_f), Ud, Ud, (Bo false), (.slice p_xs L_xs.length q_xs), (.func (.func f_f) s_f c_f), (Iv (findI pr_f L_xs)), Ud]) _
  refine q_is (l' := [(.slice p_xs L_xs.length q_xs), (.func (.func f_f) s_f c_f), Ud, Ud, (Bo false), (.slice p_xs L_xs.length q_xs), (.func (.func f_f) s_f c_f), (Iv (findI pr_f L_xs)), (Bo (icmp .geq (findI pr_f L_xs) 0))]) rfl rfl (does_icmp (p := findI pr_f L_xs) (q := 0) (.inr (.inr (.inr (.inr (.inr rfl))))) (ev rfl) (ev rfl)) rfl ?_
  refine q_is (l' := [(.slice p_xs L_xs.length q_xs), (.func (.func f_f) s_f c_f), Ud, Ud, (Bo (icmp .geq (findI pr_f L_xs) 0)), (.slice p_xs L_xs.length q_xs), (.func (.func f_f) s_f c_f), (Iv (findI pr_f L_xs)), (Bo (icmp .geq (findI pr_f L_xs) 0))]) rfl rfl (does_assign (u := (Bo (icmp .geq (findI pr_f L_xs) 0))) (ev rfl)) rfl ?_
  refine wpList_nil (hK2 _ _ ?_)
  refine wp_ret ?_
  refine ret_val (v := (Bo (icmp .geq (findI pr_f L_xs) 0))) (res_T rfl (slot rfl)) X5 ?_
  have x6 : (L_xs.any pr_f) = (icmp .geq (findI pr_f L_xs) 0) := by first | with_reducible rfl | (simp only [findI_any]; done) | (simp [findI_any]; done) | rfl
  exact (by first | rfl | rw [x6])

/- impl.IsFinite -/
theorem c_impl_IsFinite (x : Nat) (w : World) : Gives Try.prog 108 #[(Fl x)] w (fun v w' => v = (Bo (finF (cf .f32 x)))) := by
  refine enter [(Fl x), Ud, Ud, Ud, Ud, Ud, Ud] Try.func108 rfl Try.ntmps108 rfl ?_
  refine wp_seq_k fun K1 hK1 => ?_
  refine wp_region_lit ?_
  refine q_is (l' := [(Fl x), Ud, (Bo false), Ud, Ud, Ud, Ud]) rfl rfl (does_assign (u := (Bo false)) (ev rfl)) rfl ?_
  refine wpList_nil (hK1 _ _ ?_)
  refine wp_seq_k fun K2 hK2 => ?_
  refine wp_region_lit ?_
  refine q_is (l' := [(Fl x), Ud, (Bo false), (Fl x), Ud, Ud, Ud]) rfl rfl (does_move (u := (Fl x)) (ev rfl)) rfl ?_
  refine q_is (l' := [(Fl x), Ud, (Bo false), (Fl x), (Fl x), Ud, Ud]) rfl rfl (does_move (u := (Fl x)) (ev rfl)) rfl ?_
  refine seqd rfl rfl (does_float (.inr (.inl rfl)) (ev rfl) (ev rfl)) ?_; rintro _ w6 ⟨r3, rfl, h4, E5⟩
  have X7 := Ext.gr (Ext.refl w) E5
  show wpList _ _ _ _ (fr [(Fl x), Ud, (Bo false), (Fl x), (Fl x), (Fl r3), Ud]) _
  refine q_is (l' := [(Fl x), Ud, (Bo false), (Fl x), (Fl x), (Fl r3), (Bo (fcmp .eql (ford .f32 (cf .f32 r3) (cf .f32 0))))]) rfl rfl (does_fcmp (.inl rfl) (ev rfl) (ev rfl)) rfl ?_
  refine q_is (l' := [(Fl x), Ud, (Bo (fcmp .eql (ford .f32 (cf .f32 r3) (cf .f32 0)))), (Fl x), (Fl x), (Fl r3), (Bo (fcmp .eql (ford .f32 (cf .f32 r3) (cf .f32 0))))]) rfl rfl (does_assign (u := (Bo (fcmp .eql (ford .f32 (cf .f32 r3) (cf .f32 0))))) (ev rfl)) rfl ?_
  refine wpList_nil (hK2 _ _ ?_)
  refine wp_ret ?_
  refine ret_val (v := (Bo (fcmp .eql (ford .f32 (cf .f32 r3) (cf .f32 0))))) (res_T rfl (slot rfl)) X7 ?_
  have x8 : (finF (cf .f32 x)) = (fcmp .eql (ford .f32 (cf .f32 r3) (cf .f32 0))) := by first | with_reducible rfl | (simp only [finF, h4]; done) | (simp [finF, h4]; done) | rfl
  exact (by first | rfl | rw [x8])

/- impl.finite$1 -/
theorem c_impl_finite_1 (x : Nat) (w : World) : Gives Try.prog 127 #[(Fl x)] w (fun v w' => v = (Bo (!finF (cf .f32 x)))) := by
  refine enter [(Fl x), Ud, Ud, Ud, Ud, Ud] Try.func127 rfl Try.ntmps127 rfl ?_
  refine wp_seq_k fun K1 hK1 => ?_
  refine wp_region_lit ?_
  refine q_is (l' := [(Fl x), Ud, (Bo false), Ud, Ud, Ud]) rfl rfl (does_assign (u := (Bo false)) (ev rfl)) rfl ?_
  refine wpList_nil (hK1 _ _ ?_)
  refine wp_seq_k fun K2 hK2 => ?_
  refine wp_region_lit ?_
  refine q_is (l' := [(Fl x), Ud, (Bo false), (Fl x), Ud, Ud]) rfl rfl (does_move (u := (Fl x)) (ev rfl)) rfl ?_
  refine seqd rfl rfl (does_call (args := #[(Fl x)]) cal108 (evs rfl) (c_impl_IsFinite x _)) ?_; rintro _ w4 ⟨E3, rfl⟩
  have X5 := Ext.gr (Ext.refl w) E3
  show wpList _ _ _ _ (fr [(Fl x), Ud, (Bo false), (Fl x), (Bo (finF (cf .f32 x))), Ud]) _
  refine q_is (l' := [(Fl x), Ud, (Bo false), (Fl x), (Bo (finF (cf .f32 x))), (Bo (!(finF (cf .f32 x))))]) rfl rfl (does_not (ev rfl)) rfl ?_
  refine q_is (l' := [(Fl x), Ud, (Bo (!(finF (cf .f32 x)))), (Fl x), (Bo (finF (cf .f32 x))), (Bo (!(finF (cf .f32 x))))]) rfl rfl (does_assign (u := (Bo (!(finF (cf .f32 x))))) (ev rfl)) rfl ?_
  refine wpList_nil (hK2 _ _ ?_)
  refine wp_ret ?_
  refine ret_val (v := (Bo (!(finF (cf .f32 x))))) (res_T rfl (slot rfl)) X5 ?_
  have x6 : (!finF (cf .f32 x)) = (!(finF (cf .f32 x))) := by first | with_reducible rfl | (simp only []; done) | (simp []; done) | rfl
  exact (by first | rfl | rw [x6])

/- impl.finite -/
theorem c_impl_finite (xs : Value) (L_xs : List Nat) (w : World) (hv_xs : Sl RF 1 w xs L_xs) : Gives Try.prog 107 #[xs] w (fun v w' => v = (Bo (!L_xs.any (fun x => !finF x)))) := by
  have hlen_xs := Sl.len hv_xs; obtain ⟨p_xs, q_xs, rfl⟩ := Sl.shape hv_xs
  refine enter [(.slice p_xs L_xs.length q_xs), Ud, Ud, Ud, Ud, Ud] Try.func107 rfl Try.ntmps107 rfl ?_
  refine wp_seq_k fun K1 hK1 => ?_
  refine wp_region_lit ?_
  refine q_is (l' := [(.slice p_xs L_xs.length q_xs), Ud, (Bo false), Ud, Ud, Ud]) rfl rfl (does_assign (u := (Bo false)) (ev rfl)) rfl ?_
  refine wpList_nil (hK1 _ _ ?_)
  refine wp_seq_k fun K2 hK2 => ?_
  refine wp_region_lit ?_
  refine q_is (l' := [(.slice p_xs L_xs.length q_xs), Ud, (Bo false), (.slice p_xs L_xs.length q_xs), Ud, Ud]) rfl rfl (does_move (u := (.slice p_xs L_xs.length q_xs)) (ev rfl)) rfl ?_
  refine seqd rfl rfl (does_call (args := #[(.slice p_xs L_xs.length q_xs), (.func (.func 127) #[] #[])]) cal126 (evs rfl) (c_slices_ContainsFunc_float32_float32 (.slice p_xs L_xs.length q_xs) L_xs (.func (.func 127) #[] #[]) (fun x => !finF x) _ hv_xs ⟨127, #[], #[], rfl, cal127, fun r u hu' => by simpa using (c_impl_finite_1 r u)⟩)) ?_; rintro _ w4 ⟨E3, rfl⟩
  have X5 := Ext.gr (Ext.refl w) E3
  show wpList _ _ _ _ (fr [(.slice p_xs L_xs.length q_xs), Ud, (Bo false), (.slice p_xs L_xs.length q_xs), (Bo (L_xs.any (fun x => !finF x))), Ud]) _
  refine q_is (l' := [(.slice p_xs L_xs.length q_xs), Ud, (Bo false), (.slice p_xs L_xs.length q_xs), (Bo (L_xs.any (fun x => !finF x))), (Bo (!(L_xs.any (fun x => !finF x))))]) rfl rfl (does_not (ev rfl)) rfl ?_
  refine q_is (l' := [(.slice p_xs L_xs.length q_xs), Ud, (Bo (!(L_xs.any (fun x => !finF x)))), (.slice p_xs L_xs.length q_xs), (Bo (L_xs.any (fun x => !finF x))), (Bo (!(L_xs.any (fun x => !finF x))))]) rfl rfl (does_assign (u := (Bo (!(L_xs.any (fun x => !finF x))))) (ev rfl)) rfl ?_
  refine wpList_nil (hK2 _ _ ?_)
  refine wp_ret ?_
  refine ret_val (v := (Bo (!(L_xs.any (fun x => !finF x))))) (res_T rfl (slot rfl)) X5 ?_
  have x6 : (!L_xs.any (fun x => !finF x)) = (!(L_xs.any (fun x => !finF x))) := by first | with_reducible rfl | (simp only []; done) | (simp []; done) | rfl
  exact (by first | rfl | rw [x6])

/- impl.finiteVector -/
theorem c_impl_finiteVector (v : List Value) (A_v : V3) (w : World) (hv_v : RV3 w A_v v) : Gives Try.prog 63 #[(.agg v.toArray)] w (fun v w' => v = (Bo (finV A_v))) := by
  obtain ⟨r1, r3, r5, rfl, h2, h4, h6⟩ := hv_v
  refine enter [(.agg #[(Fl r1), (Fl r3), (Fl r5)]), Ud, Ud, Ud, Ud, Ud, Ud, Ud, Ud, Ud, Ud] Try.func63 rfl Try.ntmps63 rfl ?_
  refine wp_seq_k fun K7 hK7 => ?_
  refine wp_region_lit ?_
  refine seqd rfl rfl (does_box (u := (.agg #[(Fl r1), (Fl r3), (Fl r5)])) (ev rfl)) ?_; rintro _ w12 ⟨b8, rfl, hb9, hB10, E11⟩
  have g13 : w.heap.size ≤ b8 := Nat.le_trans (Below.size (Ext.refl w)) hb9
  change Blk _ _ [(Fl r1), (Fl r3), (Fl r5)] at hB10
  have X14 := Ext.gr (Ext.refl w) E11
  show wpList _ _ _ _ (fr [(.agg #[(Fl r1), (Fl r3), (Fl r5)]), (Pt b8 0), Ud, Ud, Ud, Ud, Ud, Ud, Ud, Ud, Ud]) _
  refine q_is (l' := [(.agg #[(Fl r1), (Fl r3), (Fl r5)]), (Pt b8 0), (Bo false), Ud, Ud, Ud, Ud, Ud, Ud, Ud, Ud]) rfl rfl (does_assign (u := (Bo false)) (ev rfl)) rfl ?_
  refine wpList_nil (hK7 _ _ ?_)
  refine wp_seq_k fun K15 hK15 => ?_
  refine wp_region_lit ?_
  refine q_is (l' := [(.agg #[(Fl r1), (Fl r3), (Fl r5)]), (Pt b8 0), (Bo false), (Pt b8 0), Ud, Ud, Ud, Ud, Ud, Ud, Ud]) rfl rfl (does_fieldAddr (ev rfl) fa30_0) rfl ?_
  refine q_is (l' := [(.agg #[(Fl r1), (Fl r3), (Fl r5)]), (Pt b8 0), (Bo false), (Pt b8 0), (Fl r1), Ud, Ud, Ud, Ud, Ud, Ud]) rfl rfl (does_load (u := (Fl r1)) (ev rfl) Try.isAgg22 (Cells.at (Blk.cells hB10) 0 rfl)) rfl ?_
  refine q_is (l' := [(.agg #[(Fl r1), (Fl r3), (Fl r5)]), (Pt b8 0), (Bo false), (Pt b8 0), (Fl r1), (Pt b8 1), Ud, Ud, Ud, Ud, Ud]) rfl rfl (does_fieldAddr (ev rfl) fa30_1) rfl ?_
  refine q_is (l' := [(.agg #[(Fl r1), (Fl r3), (Fl r5)]), (Pt b8 0), (Bo false), (Pt b8 0), (Fl r1), (Pt b8 1), (Fl r3), Ud, Ud, Ud, Ud]) rfl rfl (does_load (u := (Fl r3)) (ev rfl) Try.isAgg22 (Cells.at (Blk.cells hB10) 1 rfl)) rfl ?_
  refine q_is (l' := [(.agg #[(Fl r1), (Fl r3), (Fl r5)]), (Pt b8 0), (Bo false), (Pt b8 0), (Fl r1), (Pt b8 1), (Fl r3), (Pt b8 2), Ud, Ud, Ud]) rfl rfl (does_fieldAddr (ev rfl) fa30_2) rfl ?_
  refine q_is (l' := [(.agg #[(Fl r1), (Fl r3), (Fl r5)]), (Pt b8 0), (Bo false), (Pt b8 0), (Fl r1), (Pt b8 1), (Fl r3), (Pt b8 2), (Fl r5), Ud, Ud]) rfl rfl (does_load (u := (Fl r5)) (ev rfl) Try.isAgg22 (Cells.at (Blk.cells hB10) 2 rfl)) rfl ?_
  refine seqd rfl rfl (does_buildSlice (e := 22) (parts' := [(0, (Fl r1)), (1, (Fl r3)), (2, (Fl r5))]) (cells := [(Fl r1), (Fl r3), (Fl r5)]) (evp rfl) (fun _ => by kernel_rfl)) ?_; rintro _ w20 ⟨b16, rfl, hb17, hB18, E19⟩
  have n21 : b8 < b16 := Nat.lt_of_lt_of_le (Blk.lt hB10) hb17
  have g22 : w.heap.size ≤ b16 := Nat.le_trans (Below.size X14) hb17
  have X23 := Ext.gr X14 E19
  show wpList _ _ _ _ (fr [(.agg #[(Fl r1), (Fl r3), (Fl r5)]), (Pt b8 0), (Bo false), (Pt b8 0), (Fl r1), (Pt b8 1), (Fl r3), (Pt b8 2), (Fl r5), (.slice (some ⟨b16, 0, none⟩) 3 3), Ud]) _
  refine seqd rfl rfl (does_call (args := #[(.slice (some ⟨b16, 0, none⟩) 3 3)]) cal107 (evs rfl) (c_impl_finite (.slice (some ⟨b16, 0, none⟩) 3 3) [(cf .f32 r1), (cf .f32 r3), (cf .f32 r5)] _ (Sl_lit3 hB18 ⟨_, rfl, rfl⟩ ⟨_, rfl, rfl⟩ ⟨_, rfl, rfl⟩))) ?_; rintro _ w25 ⟨E24, rfl⟩
  have X26 := Ext.gr X23 E24
  show wpList _ _ _ _ (fr [(.agg #[(Fl r1), (Fl r3), (Fl r5)]), (Pt b8 0), (Bo false), (Pt b8 0), (Fl r1), (Pt b8 1), (Fl r3), (Pt b8 2), (Fl r5), (.slice (some ⟨b16, 0, none⟩) 3 3), (Bo (!([(cf .f32 r1), (cf .f32 r3), (cf .f32 r5)]).any (fun x => !finF x)))]) _
  refine q_is (l' := [(.agg #[(Fl r1), (Fl r3), (Fl r5)]), (Pt b8 0), (Bo (!([(cf .f32 r1), (cf .f32 r3), (cf .f32 r5)]).any (fun x => !finF x))), (Pt b8 0), (Fl r1), (Pt b8 1), (Fl r3), (Pt b8 2), (Fl r5), (.slice (some ⟨b16, 0, none⟩) 3 3), (Bo (!([(cf .f32 r1), (cf .f32 r3), (cf .f32 r5)]).any (fun x => !finF x)))]) rfl rfl (does_assign (u := (Bo (!([(cf .f32 r1), (cf .f32 r3), (cf .f32 r5)]).any (fun x => !finF x)))) (ev rfl)) rfl ?_
  refine wpList_nil (hK15 _ _ ?_)
  refine wp_ret ?_
  refine ret_val (v := (Bo (!([(cf .f32 r1), (cf .f32 r3), (cf .f32 r5)]).any (fun x => !finF x)))) (res_T rfl (slot rfl)) X26 ?_
  have x27 : (finV A_v) = (!([(cf .f32 r1), (cf .f32 r3), (cf .f32 r5)]).any (fun x => !finF x)) := by first | with_reducible rfl | (simp only [finV, any3_finF, h2, h4, h6]; done) | (simp [finV, any3_finF, h2, h4, h6]; done) | rfl
  exact (by first | rfl | rw [x27])

/- impl.stepOk -/
theorem c_impl_stepOk (x : Nat) (w : World) : Gives Try.prog 64 #[(Fl x)] w (fun v w' => v = (Bo (finF (cf .f32 x) && posF (cf .f32 x)))) := by
  refine enter [(Fl x), Ud, Ud, Ud, Ud, Ud, Ud, Ud, Ud] Try.func64 rfl Try.ntmps64 rfl ?_
  refine wp_seq_k fun K1 hK1 => ?_
  refine wp_region_lit ?_
  refine q_is (l' := [(Fl x), Ud, (Bo false), Ud, Ud, Ud, Ud, Ud, Ud]) rfl rfl (does_assign (u := (Bo false)) (ev rfl)) rfl ?_
  refine wpList_nil (hK1 _ _ ?_)
  refine wp_seq_k fun K2 hK2 => ?_
  obtain ⟨β1, hβ1⟩ : ∃ b : Bool, b = (fcmp .gtr (ford .f32 (cf .f32 x) (cf .f32 0))) := ⟨_, rfl⟩
  refine region_text (
    [Fact.pure [] (fun v => v = (Fl x)),
    Fact.pure [3] (fun v => v = (Bo (finF (cf .f32 x)))),
    Fact.pure [4] (fun v => v = (Bo (finF (cf .f32 x)))),
    Fact.pure [5] (fun v => (finF (cf .f32 x)) = true → v = (Fl x)),
    Fact.pure [6, 5] (fun v => (finF (cf .f32 x)) = true → v = (Bo β1)),
    Fact.pure [5, 7] (fun v => v = (Bo ((finF (cf .f32 x)) && β1)))]) (by simp [Fact.pure, Fact.mem]) ?_
  refine RW_d (fun v3 => [(Fl x), Ud, (Bo false), v3, Ud, Ud, Ud, Ud, Ud]) rfl (fun _ => rfl) (fun u hu hF => ?_) (fun v3 => ?_)
  · clear hF
    refine doesG_un rfl ?_
    refine (does_move (u := (Fl x)) (ev rfl)).mono ?_; rintro _ _ ⟨rfl, rfl⟩
    exact ⟨rfl, Ext.refl _⟩
  refine RW_d (fun v4 => [(Fl x), Ud, (Bo false), v3, v4, Ud, Ud, Ud, Ud]) rfl (fun _ => rfl) (fun u hu hF => ?_) (fun v4 => ?_)
  · have h3_ : v3 = (Fl x) := hF.1
    clear hF
    refine doesG_un rfl ?_
    obtain rfl := h3_
    refine (does_call (args := #[(Fl x)]) cal108 (evs rfl) (c_impl_IsFinite x _)).mono ?_; rintro v u' ⟨hx, hv⟩
    exact ⟨hv, hx⟩
  refine RW_d (fun v5 => [(Fl x), Ud, (Bo false), v3, v4, v5, Ud, Ud, Ud]) rfl (fun _ => rfl) (fun u hu hF => ?_) (fun v5 => ?_)
  · have h4_ : v4 = (Bo (finF (cf .f32 x))) := hF.1
    clear hF
    refine doesG_un rfl ?_
    obtain rfl := h4_
    refine (does_move (u := (Bo (finF (cf .f32 x)))) (ev rfl)).mono ?_; rintro _ _ ⟨rfl, rfl⟩
    exact ⟨rfl, Ext.refl _⟩
  refine RW_d (fun v6 => [(Fl x), Ud, (Bo false), v3, v4, v5, v6, Ud, Ud]) rfl (fun _ => rfl) (fun u hu hF => ?_) (fun v6 => ?_)
  · have h5_ : v5 = (Bo (finF (cf .f32 x))) := hF.1
    clear hF
    obtain rfl := h5_
    refine doesG_g (b := (finF (cf .f32 x))) rfl (yld rfl rfl) (fun hg1 => ?_) (fun hc => ⟨fun hg1 => absurd hg1 hc, Ext.refl _⟩)
    refine (does_move (u := (Fl x)) (ev rfl)).mono ?_; rintro _ _ ⟨rfl, rfl⟩
    exact ⟨fun _ => rfl, Ext.refl _⟩
  refine RW_d (fun v7 => [(Fl x), Ud, (Bo false), v3, v4, v5, v6, v7, Ud]) rfl (fun _ => rfl) (fun u hu hF => ?_) (fun v7 => ?_)
  · have h6_ : (finF (cf .f32 x)) = true → v6 = (Fl x) := hF.1
    have h5_ : v5 = (Bo (finF (cf .f32 x))) := hF.2.1
    clear hF
    obtain rfl := h5_
    refine doesG_g (b := (finF (cf .f32 x))) rfl (yld rfl rfl) (fun hg1 => ?_) (fun hc => ⟨fun hg1 => absurd hg1 hc, Ext.refl _⟩)
    obtain rfl := h6_ hg1
    refine (does_fcmp (.inr (.inr (.inr (.inr (.inl rfl))))) (ev rfl) (ev rfl)).mono ?_; rintro _ _ ⟨rfl, rfl⟩
    exact ⟨fun _ => (by first | rfl | (show _ = _; simp only [hβ1])), Ext.refl _⟩
  refine RW_d (fun v8 => [(Fl x), Ud, (Bo false), v3, v4, v5, v6, v7, v8]) rfl (fun _ => rfl) (fun u hu hF => ?_) (fun v8 => ?_)
  · have h5_ : v5 = (Bo (finF (cf .f32 x))) := hF.1
    have h7_ : (finF (cf .f32 x)) = true → v7 = (Bo β1) := hF.2.1
    clear hF
    refine doesG_un rfl ?_
    skip
    obtain rfl := h5_
    refine (does_pick (b := (finF (cf .f32 x))) (ev rfl) (ev rfl) (ev rfl)).mono ?_; rintro _ _ ⟨rfl, rfl⟩; refine ⟨?_, Ext.refl _⟩; skip
    cases hbb : (finF (cf .f32 x)) <;> simp [hbb] at h7_ ⊢
    all_goals (first | rfl | (subst h7_; rfl) | simp_all)
  refine RW_fin ?_; intro w9 E10 hP11
  obtain ⟨⟨⟨⟨⟨⟨-, -⟩, -⟩, -⟩, -⟩, -⟩, q12⟩ := hP11
  have X13 := Ext.gr (Ext.refl w) E10
  have q12 : v8 = (Bo ((finF (cf .f32 x)) && β1)) := q12
  obtain rfl := q12
  show wpList _ _ _ _ (fr [(Fl x), Ud, (Bo false), v3, v4, v5, v6, v7, (Bo ((finF (cf .f32 x)) && β1))]) _
  refine q_is (l' := [(Fl x), Ud, (Bo ((finF (cf .f32 x)) && β1)), v3, v4, v5, v6, v7, (Bo ((finF (cf .f32 x)) && β1))]) rfl rfl (does_assign (u := (Bo ((finF (cf .f32 x)) && β1))) (ev rfl)) rfl ?_
  refine wpList_nil (hK2 _ _ ?_)
  refine wp_ret ?_
  refine ret_val (v := (Bo ((finF (cf .f32 x)) && β1))) (res_T rfl (slot rfl)) X13 ?_
  have x14 : (finF (cf .f32 x) && posF (cf .f32 x)) = ((finF (cf .f32 x)) && β1) := by first | with_reducible rfl | (simp only [posF, hβ1]; done) | (simp [posF, hβ1]; done) | rfl
  exact (by first | rfl | rw [x14])

/- (*impl.Grid).counts -/
theorem c_impl_Grid_counts (g_b : Nat) (g_o : Nat) (g : List Value) (A_g : GridT) (w : World) (hc_g : Cells w g_b g_o g) (hv_g : RGridT w A_g g) : Gives Try.prog 65 #[(Pt g_b g_o)] w (fun v w' => v = (.agg #[(Iv A_g.x), (Iv A_g.y), (Iv A_g.z)])) := by
  obtain ⟨r1, r3, r5, r7, y9, rfl, h2, h4, h6, h8, h10⟩ := hv_g
  have hs13 := h10; have hs13l := Sl.len h10; obtain ⟨p11, q12, rfl⟩ := Sl.shape h10
  refine enter [(Pt g_b g_o), Ud, Ud, Ud, Ud, Ud, Ud, Ud, Ud, Ud, Ud, Ud, Ud, Ud, Ud, Ud] Try.func65 rfl Try.ntmps65 rfl ?_
  refine wp_seq_k fun K14 hK14 => ?_
  refine wp_region_lit ?_
  refine seqd rfl rfl (does_alloc z80) ?_; rintro _ w19 ⟨b15, rfl, hb16, hB17, E18⟩
  have n20 : g_b < b15 := Nat.lt_of_lt_of_le (cell_lt (Cells.at hc_g 0 rfl)) hb16
  have g21 : w.heap.size ≤ b15 := Nat.le_trans (Below.size (Ext.refl w)) hb16
  change Blk _ _ [(Iv 0), (Iv 0), (Iv 0)] at hB17
  have X22 := Ext.gr (Ext.refl w) E18
  show wpList _ _ _ _ (fr [(Pt g_b g_o), Ud, (Pt b15 0), Ud, Ud, Ud, Ud, Ud, Ud, Ud, Ud, Ud, Ud, Ud, Ud, Ud]) _
  refine wpList_nil (hK14 _ _ ?_)
  refine wp_seq_k fun K23 hK23 => ?_
  refine region_draw (
    [Fact.pure [] (fun v => v = (Pt g_b g_o)),
    Fact.pure [3] (fun v => v = (Pt g_b g_o)),
    Fact.pure [4] (fun v => v = (Pt g_b (g_o + 4))),
    Fact.pure [5] (fun v => v = (Iv A_g.x)),
    Fact.pure [] (fun v => v = (Pt g_b g_o)),
    Fact.pure [7] (fun v => v = (Pt g_b g_o)),
    Fact.pure [8] (fun v => v = (Pt g_b (g_o + 5))),
    Fact.pure [9] (fun v => v = (Iv A_g.y)),
    Fact.pure [] (fun v => v = (Pt g_b g_o)),
    Fact.pure [11] (fun v => v = (Pt g_b g_o)),
    Fact.pure [12] (fun v => v = (Pt g_b (g_o + 6))),
    Fact.pure [13] (fun v => v = (Iv A_g.z)),
    Fact.pure [6, 10, 14] (fun v => v = (.agg #[(Iv A_g.x), (Iv A_g.y), (Iv A_g.z)]))]) mixed (by kernel_rfl) (by intro _ _ d _ _ h; cases d <;> exact h) ?_
  obtain ⟨w24, hw26⟩ : ∃ w', w' = World.drew w19 := ⟨_, rfl⟩; rw [← hw26]; have E25 : Ext w19 w24 := by rw [hw26]; exact Ext.draw _
  clear hw26
  have X27 := Ext.gr X22 E25
  refine RW_d (fun v28 => [(Pt g_b g_o), Ud, (Pt b15 0), v28, Ud, Ud, Ud, Ud, Ud, Ud, Ud, Ud, Ud, Ud, Ud, Ud]) rfl (fun _ => rfl) (fun u hu hF => ?_) (fun v28 => ?_)
  · clear hF
    refine doesG_un rfl ?_
    refine (does_move (u := (Pt g_b g_o)) (ev rfl)).mono ?_; rintro _ _ ⟨rfl, rfl⟩
    exact ⟨rfl, Ext.refl _⟩
  refine RW_d (fun v29 => [(Pt g_b g_o), Ud, (Pt b15 0), v28, v29, Ud, Ud, Ud, Ud, Ud, Ud, Ud, Ud, Ud, Ud, Ud]) rfl (fun _ => rfl) (fun u hu hF => ?_) (fun v29 => ?_)
  · have h3_ : v28 = (Pt g_b g_o) := hF.1
    clear hF
    refine doesG_un rfl ?_
    obtain rfl := h3_
    refine (does_nilCheck (ev rfl)).mono ?_; rintro _ _ ⟨rfl, rfl⟩
    exact ⟨rfl, Ext.refl _⟩
  refine RW_d (fun v30 => [(Pt g_b g_o), Ud, (Pt b15 0), v28, v29, v30, Ud, Ud, Ud, Ud, Ud, Ud, Ud, Ud, Ud, Ud]) rfl (fun _ => rfl) (fun u hu hF => ?_) (fun v30 => ?_)
  · have h4_ : v29 = (Pt g_b g_o) := hF.1
    clear hF
    refine doesG_un rfl ?_
    obtain rfl := h4_
    refine (does_fieldAddr (ev rfl) fa32_2).mono ?_; rintro _ _ ⟨rfl, rfl⟩
    exact ⟨rfl, Ext.refl _⟩
  refine RW_d (fun v31 => [(Pt g_b g_o), Ud, (Pt b15 0), v28, v29, v30, v31, Ud, Ud, Ud, Ud, Ud, Ud, Ud, Ud, Ud]) rfl (fun _ => rfl) (fun u hu hF => ?_) (fun v31 => ?_)
  · have h5_ : v30 = (Pt g_b (g_o + 4)) := hF.1
    clear hF
    refine doesG_un rfl ?_
    obtain rfl := h5_
    refine (does_load (u := (Iv A_g.x)) (ev rfl) Try.isAgg2 (Cells.at ((hc_g.ext (Ext.gr X22 E25)).ext hu) 4 rfl)).mono ?_; rintro _ _ ⟨rfl, rfl⟩
    exact ⟨rfl, Ext.refl _⟩
  refine RW_d (fun v32 => [(Pt g_b g_o), Ud, (Pt b15 0), v28, v29, v30, v31, v32, Ud, Ud, Ud, Ud, Ud, Ud, Ud, Ud]) rfl (fun _ => rfl) (fun u hu hF => ?_) (fun v32 => ?_)
  · clear hF
    refine doesG_un rfl ?_
    refine (does_move (u := (Pt g_b g_o)) (ev rfl)).mono ?_; rintro _ _ ⟨rfl, rfl⟩
    exact ⟨rfl, Ext.refl _⟩
  refine RW_d (fun v33 => [(Pt g_b g_o), Ud, (Pt b15 0), v28, v29, v30, v31, v32, v33, Ud, Ud, Ud, Ud, Ud, Ud, Ud]) rfl (fun _ => rfl) (fun u hu hF => ?_) (fun v33 => ?_)
  · have h7_ : v32 = (Pt g_b g_o) := hF.1
    clear hF
    refine doesG_un rfl ?_
    obtain rfl := h7_
    refine (does_nilCheck (ev rfl)).mono ?_; rintro _ _ ⟨rfl, rfl⟩
    exact ⟨rfl, Ext.refl _⟩
  refine RW_d (fun v34 => [(Pt g_b g_o), Ud, (Pt b15 0), v28, v29, v30, v31, v32, v33, v34, Ud, Ud, Ud, Ud, Ud, Ud]) rfl (fun _ => rfl) (fun u hu hF => ?_) (fun v34 => ?_)
  · have h8_ : v33 = (Pt g_b g_o) := hF.1
    clear hF
    refine doesG_un rfl ?_
    obtain rfl := h8_
    refine (does_fieldAddr (ev rfl) fa32_3).mono ?_; rintro _ _ ⟨rfl, rfl⟩
    exact ⟨rfl, Ext.refl _⟩
  refine RW_d (fun v35 => [(Pt g_b g_o), Ud, (Pt b15 0), v28, v29, v30, v31, v32, v33, v34, v35, Ud, Ud, Ud, Ud, Ud]) rfl (fun _ => rfl) (fun u hu hF => ?_) (fun v35 => ?_)
  · have h9_ : v34 = (Pt g_b (g_o + 5)) := hF.1
    clear hF
    refine doesG_un rfl ?_
    obtain rfl := h9_
    refine (does_load (u := (Iv A_g.y)) (ev rfl) Try.isAgg2 (Cells.at ((hc_g.ext (Ext.gr X22 E25)).ext hu) 5 rfl)).mono ?_; rintro _ _ ⟨rfl, rfl⟩
    exact ⟨rfl, Ext.refl _⟩
  refine RW_d (fun v36 => [(Pt g_b g_o), Ud, (Pt b15 0), v28, v29, v30, v31, v32, v33, v34, v35, v36, Ud, Ud, Ud, Ud]) rfl (fun _ => rfl) (fun u hu hF => ?_) (fun v36 => ?_)
  · clear hF
    refine doesG_un rfl ?_
    refine (does_move (u := (Pt g_b g_o)) (ev rfl)).mono ?_; rintro _ _ ⟨rfl, rfl⟩
    exact ⟨rfl, Ext.refl _⟩
  refine RW_d (fun v37 => [(Pt g_b g_o), Ud, (Pt b15 0), v28, v29, v30, v31, v32, v33, v34, v35, v36, v37, Ud, Ud, Ud]) rfl (fun _ => rfl) (fun u hu hF => ?_) (fun v37 => ?_)
  · have h11_ : v36 = (Pt g_b g_o) := hF.1
    clear hF
    refine doesG_un rfl ?_
    obtain rfl := h11_
    refine (does_nilCheck (ev rfl)).mono ?_; rintro _ _ ⟨rfl, rfl⟩
    exact ⟨rfl, Ext.refl _⟩
  refine RW_d (fun v38 => [(Pt g_b g_o), Ud, (Pt b15 0), v28, v29, v30, v31, v32, v33, v34, v35, v36, v37, v38, Ud, Ud]) rfl (fun _ => rfl) (fun u hu hF => ?_) (fun v38 => ?_)
  · have h12_ : v37 = (Pt g_b g_o) := hF.1
    clear hF
    refine doesG_un rfl ?_
    obtain rfl := h12_
    refine (does_fieldAddr (ev rfl) fa32_4).mono ?_; rintro _ _ ⟨rfl, rfl⟩
    exact ⟨rfl, Ext.refl _⟩
  refine RW_d (fun v39 => [(Pt g_b g_o), Ud, (Pt b15 0), v28, v29, v30, v31, v32, v33, v34, v35, v36, v37, v38, v39, Ud]) rfl (fun _ => rfl) (fun u hu hF => ?_) (fun v39 => ?_)
  · have h13_ : v38 = (Pt g_b (g_o + 6)) := hF.1
    clear hF
    refine doesG_un rfl ?_
    obtain rfl := h13_
    refine (does_load (u := (Iv A_g.z)) (ev rfl) Try.isAgg2 (Cells.at ((hc_g.ext (Ext.gr X22 E25)).ext hu) 6 rfl)).mono ?_; rintro _ _ ⟨rfl, rfl⟩
    exact ⟨rfl, Ext.refl _⟩
  refine RW_d (fun v40 => [(Pt g_b g_o), Ud, (Pt b15 0), v28, v29, v30, v31, v32, v33, v34, v35, v36, v37, v38, v39, v40]) rfl (fun _ => rfl) (fun u hu hF => ?_) (fun v40 => ?_)
  · have h6_ : v31 = (Iv A_g.x) := hF.1
    have h10_ : v35 = (Iv A_g.y) := hF.2.1
    have h14_ : v39 = (Iv A_g.z) := hF.2.2.1
    clear hF
    refine doesG_un rfl ?_
    obtain rfl := h6_
    obtain rfl := h10_
    obtain rfl := h14_
    refine (does_build (parts' := [(0, (Iv A_g.x)), (1, (Iv A_g.y)), (2, (Iv A_g.z))]) (cells := #[(Iv A_g.x), (Iv A_g.y), (Iv A_g.z)]) (evp rfl) (by kernel_rfl)).mono ?_; rintro _ _ ⟨rfl, rfl⟩
    exact ⟨rfl, Ext.refl _⟩
  refine RW_fin ?_; intro w41 E42 hP43
  obtain ⟨⟨⟨⟨⟨⟨⟨⟨⟨⟨⟨⟨⟨-, -⟩, -⟩, -⟩, -⟩, -⟩, -⟩, -⟩, -⟩, -⟩, -⟩, -⟩, -⟩, q44⟩ := hP43
  have X45 := Ext.gr X27 E42
  have q44 : v40 = (.agg #[(Iv A_g.x), (Iv A_g.y), (Iv A_g.z)]) := q44
  obtain rfl := q44
  show wpList _ _ _ _ (fr [(Pt g_b g_o), Ud, (Pt b15 0), v28, v29, v30, v31, v32, v33, v34, v35, v36, v37, v38, v39, (.agg #[(Iv A_g.x), (Iv A_g.y), (Iv A_g.z)])]) _
  refine seqn rfl rfl (does_store (n := 3) (cs := [(Iv 0), (Iv 0), (Iv 0)]) (u := (.agg #[(Iv A_g.x), (Iv A_g.y), (Iv A_g.z)])) (ev rfl) (ev rfl) Try.sizeOf80 rfl ((hB17.ext E25).ext E42) (Nat.le_of_ble_eq_true rfl) rfl) ?_; rintro _ w48 ⟨rfl, W46, hB47⟩
  change Blk _ _ [(Iv A_g.x), (Iv A_g.y), (Iv A_g.z)] at hB47
  have X49 := Below.wr X45 W46 g21
  refine wpList_nil (hK23 _ _ ?_)
  refine wp_ret ?_
  refine ret_val (v := (.agg #[(Iv A_g.x), (Iv A_g.y), (Iv A_g.z)])) (res_C rfl (slot rfl) (run_loadAgg (cs := [(Iv A_g.x), (Iv A_g.y), (Iv A_g.z)]) Try.isAgg80 Try.sizeOf80 (Blk.cells hB47) rfl)) X49 ?_
  have x50 : (A_g.x : Int) = A_g.x := by first | with_reducible rfl | (simp only [h2, h4, h6, h8]; done) | (simp [h2, h4, h6, h8]; done) | rfl
  have x51 : (A_g.y : Int) = A_g.y := by first | with_reducible rfl | (simp only [h2, h4, h6, h8]; done) | (simp [h2, h4, h6, h8]; done) | rfl
  have x52 : (A_g.z : Int) = A_g.z := by first | with_reducible rfl | (simp only [h2, h4, h6, h8]; done) | (simp [h2, h4, h6, h8]; done) | rfl
  exact (by first | rfl | rw [x50, x51, x52])

/- impl.in -/
theorem c_impl_in (n : Int) (low : Int) (high : Int) (w : World) : Gives Try.prog 66 #[(Iv n), (Iv low), (Iv high)] w (fun v w' => v = (Bo (inI n low high))) := by
  refine enter [(Iv n), (Iv low), (Iv high), Ud, Ud, Ud, Ud, Ud, Ud, Ud, Ud, Ud, Ud, Ud, Ud] Try.func66 rfl Try.ntmps66 rfl ?_
  refine wp_seq_k fun K1 hK1 => ?_
  refine wp_region_lit ?_
  refine q_is (l' := [(Iv n), (Iv low), (Iv high), Ud, Ud, Ud, (Bo false), Ud, Ud, Ud, Ud, Ud, Ud, Ud, Ud]) rfl rfl (does_assign (u := (Bo false)) (ev rfl)) rfl ?_
  refine wpList_nil (hK1 _ _ ?_)
  refine wp_seq_k fun K2 hK2 => ?_
  obtain ⟨β1, hβ1⟩ : ∃ b : Bool, b = ((icmp .geq n low) && (icmp .leq n high)) := ⟨_, rfl⟩
  refine region_text (
    [Fact.pure [] (fun v => v = (Iv n)),
    Fact.pure [] (fun v => v = (Iv low)),
    Fact.pure [7, 8] (fun v => v = (Bo (icmp .geq n low))),
    Fact.pure [9] (fun v => v = (Bo (icmp .geq n low))),
    Fact.pure [10] (fun v => (icmp .geq n low) = true → v = (Iv n)),
    Fact.pure [10] (fun v => (icmp .geq n low) = true → v = (Iv high)),
    Fact.pure [11, 12, 10] (fun v => (icmp .geq n low) = true → v = (Bo (icmp .leq n high))),
    Fact.pure [10, 13] (fun v => v = (Bo β1))]) (by simp [Fact.pure, Fact.mem]) ?_
  refine RW_d (fun v3 => [(Iv n), (Iv low), (Iv high), Ud, Ud, Ud, (Bo false), v3, Ud, Ud, Ud, Ud, Ud, Ud, Ud]) rfl (fun _ => rfl) (fun u hu hF => ?_) (fun v3 => ?_)
  · clear hF
    refine doesG_un rfl ?_
    refine (does_move (u := (Iv n)) (ev rfl)).mono ?_; rintro _ _ ⟨rfl, rfl⟩
    exact ⟨rfl, Ext.refl _⟩
  refine RW_d (fun v4 => [(Iv n), (Iv low), (Iv high), Ud, Ud, Ud, (Bo false), v3, v4, Ud, Ud, Ud, Ud, Ud, Ud]) rfl (fun _ => rfl) (fun u hu hF => ?_) (fun v4 => ?_)
  · clear hF
    refine doesG_un rfl ?_
    refine (does_move (u := (Iv low)) (ev rfl)).mono ?_; rintro _ _ ⟨rfl, rfl⟩
    exact ⟨rfl, Ext.refl _⟩
  refine RW_d (fun v5 => [(Iv n), (Iv low), (Iv high), Ud, Ud, Ud, (Bo false), v3, v4, v5, Ud, Ud, Ud, Ud, Ud]) rfl (fun _ => rfl) (fun u hu hF => ?_) (fun v5 => ?_)
  · have h7_ : v3 = (Iv n) := hF.1
    have h8_ : v4 = (Iv low) := hF.2.1
    clear hF
    refine doesG_un rfl ?_
    obtain rfl := h7_
    obtain rfl := h8_
    refine (does_icmp (p := n) (q := low) (.inr (.inr (.inr (.inr (.inr rfl))))) (ev rfl) (ev rfl)).mono ?_; rintro _ _ ⟨rfl, rfl⟩
    exact ⟨rfl, Ext.refl _⟩
  refine RW_d (fun v6 => [(Iv n), (Iv low), (Iv high), Ud, Ud, Ud, (Bo false), v3, v4, v5, v6, Ud, Ud, Ud, Ud]) rfl (fun _ => rfl) (fun u hu hF => ?_) (fun v6 => ?_)
  · have h9_ : v5 = (Bo (icmp .geq n low)) := hF.1
    clear hF
    refine doesG_un rfl ?_
    obtain rfl := h9_
    refine (does_move (u := (Bo (icmp .geq n low))) (ev rfl)).mono ?_; rintro _ _ ⟨rfl, rfl⟩
    exact ⟨rfl, Ext.refl _⟩
  refine RW_d (fun v7 => [(Iv n), (Iv low), (Iv high), Ud, Ud, Ud, (Bo false), v3, v4, v5, v6, v7, Ud, Ud, Ud]) rfl (fun _ => rfl) (fun u hu hF => ?_) (fun v7 => ?_)
  · have h10_ : v6 = (Bo (icmp .geq n low)) := hF.1
    clear hF
    obtain rfl := h10_
    refine doesG_g (b := (icmp .geq n low)) rfl (yld rfl rfl) (fun hg1 => ?_) (fun hc => ⟨fun hg1 => absurd hg1 hc, Ext.refl _⟩)
    refine (does_move (u := (Iv n)) (ev rfl)).mono ?_; rintro _ _ ⟨rfl, rfl⟩
    exact ⟨fun _ => rfl, Ext.refl _⟩
  refine RW_d (fun v8 => [(Iv n), (Iv low), (Iv high), Ud, Ud, Ud, (Bo false), v3, v4, v5, v6, v7, v8, Ud, Ud]) rfl (fun _ => rfl) (fun u hu hF => ?_) (fun v8 => ?_)
  · have h10_ : v6 = (Bo (icmp .geq n low)) := hF.1
    clear hF
    obtain rfl := h10_
    refine doesG_g (b := (icmp .geq n low)) rfl (yld rfl rfl) (fun hg1 => ?_) (fun hc => ⟨fun hg1 => absurd hg1 hc, Ext.refl _⟩)
    refine (does_move (u := (Iv high)) (ev rfl)).mono ?_; rintro _ _ ⟨rfl, rfl⟩
    exact ⟨fun _ => rfl, Ext.refl _⟩
  refine RW_d (fun v9 => [(Iv n), (Iv low), (Iv high), Ud, Ud, Ud, (Bo false), v3, v4, v5, v6, v7, v8, v9, Ud]) rfl (fun _ => rfl) (fun u hu hF => ?_) (fun v9 => ?_)
  · have h11_ : (icmp .geq n low) = true → v7 = (Iv n) := hF.1
    have h12_ : (icmp .geq n low) = true → v8 = (Iv high) := hF.2.1
    have h10_ : v6 = (Bo (icmp .geq n low)) := hF.2.2.1
    clear hF
    obtain rfl := h10_
    refine doesG_g (b := (icmp .geq n low)) rfl (yld rfl rfl) (fun hg1 => ?_) (fun hc => ⟨fun hg1 => absurd hg1 hc, Ext.refl _⟩)
    obtain rfl := h11_ hg1
    obtain rfl := h12_ hg1
    refine (does_icmp (p := n) (q := high) (.inr (.inr (.inr (.inl rfl)))) (ev rfl) (ev rfl)).mono ?_; rintro _ _ ⟨rfl, rfl⟩
    exact ⟨fun _ => rfl, Ext.refl _⟩
  refine RW_d (fun v10 => [(Iv n), (Iv low), (Iv high), Ud, Ud, Ud, (Bo false), v3, v4, v5, v6, v7, v8, v9, v10]) rfl (fun _ => rfl) (fun u hu hF => ?_) (fun v10 => ?_)
  · have h10_ : v6 = (Bo (icmp .geq n low)) := hF.1
    have h13_ : (icmp .geq n low) = true → v9 = (Bo (icmp .leq n high)) := hF.2.1
    clear hF
    refine doesG_un rfl ?_
    skip
    obtain rfl := h10_
    refine (does_pick (b := (icmp .geq n low)) (ev rfl) (ev rfl) (ev rfl)).mono ?_; rintro _ _ ⟨rfl, rfl⟩; refine ⟨?_, Ext.refl _⟩; rw [hβ1]; skip
    cases hbb : (icmp .geq n low) <;> simp [hbb] at h13_ ⊢
    all_goals (first | rfl | (subst h13_; rfl) | simp_all)
  refine RW_fin ?_; intro w11 E12 hP13
  obtain ⟨⟨⟨⟨⟨⟨⟨⟨-, -⟩, -⟩, -⟩, -⟩, -⟩, -⟩, -⟩, q14⟩ := hP13
  have X15 := Ext.gr (Ext.refl w) E12
  have q14 : v10 = (Bo β1) := q14
  obtain rfl := q14
  show wpList _ _ _ _ (fr [(Iv n), (Iv low), (Iv high), Ud, Ud, Ud, (Bo false), v3, v4, v5, v6, v7, v8, v9, (Bo β1)]) _
  refine q_is (l' := [(Iv n), (Iv low), (Iv high), Ud, Ud, Ud, (Bo β1), v3, v4, v5, v6, v7, v8, v9, (Bo β1)]) rfl rfl (does_assign (u := (Bo β1)) (ev rfl)) rfl ?_
  refine wpList_nil (hK2 _ _ ?_)
  refine wp_ret ?_
  refine ret_val (v := (Bo β1)) (res_T rfl (slot rfl)) X15 ?_
  have x16 : (inI n low high) = β1 := by first | with_reducible rfl | (simp only [inI, hβ1]; done) | (simp [inI, hβ1]; done) | rfl
  exact (by first | rfl | rw [x16])

/- impl.ValidGrid -/
theorem c_impl_ValidGrid (g : List Value) (A_g : GridT) (w : World) (hv_g : RGridT w A_g g) : Gives Try.prog 20 #[(.agg g.toArray)] w (fun v w' => v = (Bo (isGrid A_g))) := by
  obtain ⟨r1, r3, r5, r7, y9, rfl, h2, h4, h6, h8, h10⟩ := hv_g
  have hs13 := h10; have hs13l := Sl.len h10; obtain ⟨p11, q12, rfl⟩ := Sl.shape h10
  refine enter [(.agg #[(Fl r1), (Fl r3), (Fl r5), (Fl r7), (Iv A_g.x), (Iv A_g.y), (Iv A_g.z), (.slice p11 A_g.vals.length q12)]), Ud, Ud, Ud, Ud, Ud, Ud, Ud, Ud, Ud, Ud, Ud, Ud, Ud, Ud, Ud, Ud, Ud, Ud, Ud, Ud, Ud, Ud, Ud, Ud, Ud, Ud, Ud, Ud, Ud, Ud, Ud, Ud, Ud, Ud, Ud, Ud, Ud, Ud, Ud, Ud] Try.func20 rfl Try.ntmps20 rfl ?_
  refine wp_seq_k fun K14 hK14 => ?_
  refine wp_region_lit ?_
  refine seqd rfl rfl (does_box (u := (.agg #[(Fl r1), (Fl r3), (Fl r5), (Fl r7), (Iv A_g.x), (Iv A_g.y), (Iv A_g.z), (.slice p11 A_g.vals.length q12)])) (ev rfl)) ?_; rintro _ w19 ⟨b15, rfl, hb16, hB17, E18⟩
  have g20 : w.heap.size ≤ b15 := Nat.le_trans (Below.size (Ext.refl w)) hb16
  change Blk _ _ [(Fl r1), (Fl r3), (Fl r5), (Fl r7), (Iv A_g.x), (Iv A_g.y), (Iv A_g.z), (.slice p11 A_g.vals.length q12)] at hB17
  have X21 := Ext.gr (Ext.refl w) E18
  show wpList _ _ _ _ (fr [(.agg #[(Fl r1), (Fl r3), (Fl r5), (Fl r7), (Iv A_g.x), (Iv A_g.y), (Iv A_g.z), (.slice p11 A_g.vals.length q12)]), (Pt b15 0), Ud, Ud, Ud, Ud, Ud, Ud, Ud, Ud, Ud, Ud, Ud, Ud, Ud, Ud, Ud, Ud, Ud, Ud, Ud, Ud, Ud, Ud, Ud, Ud, Ud, Ud, Ud, Ud, Ud, Ud, Ud, Ud, Ud, Ud, Ud, Ud, Ud, Ud, Ud]) _
  refine q_is (l' := [(.agg #[(Fl r1), (Fl r3), (Fl r5), (Fl r7), (Iv A_g.x), (Iv A_g.y), (Iv A_g.z), (.slice p11 A_g.vals.length q12)]), (Pt b15 0), (Bo false), Ud, Ud, Ud, Ud, Ud, Ud, Ud, Ud, Ud, Ud, Ud, Ud, Ud, Ud, Ud, Ud, Ud, Ud, Ud, Ud, Ud, Ud, Ud, Ud, Ud, Ud, Ud, Ud, Ud, Ud, Ud, Ud, Ud, Ud, Ud, Ud, Ud, Ud]) rfl rfl (does_assign (u := (Bo false)) (ev rfl)) rfl ?_
  refine wpList_nil (hK14 _ _ ?_)
  refine wp_seq_k fun K22 hK22 => ?_
  refine wp_seq_k fun K23 hK23 => ?_
  obtain ⟨β1, hβ1⟩ : ∃ b : Bool, b = (finF (cf .f32 r7) && posF (cf .f32 r7)) := ⟨_, rfl⟩
  obtain ⟨β2, hβ2⟩ : ∃ b : Bool, b = ((!(finV A_g.low)) || (!β1)) := ⟨_, rfl⟩
  refine region_text (
    [Fact.pure [] (fun v => v = (Pt b15 0)),
    Fact.pure [6] (fun v => v = (.agg #[(Fl r1), (Fl r3), (Fl r5)])),
    Fact.pure [7] (fun v => v = (Bo (finV A_g.low))),
    Fact.pure [8] (fun v => v = (Bo (!(finV A_g.low)))),
    Fact.pure [9] (fun v => v = (Bo (!(finV A_g.low)))),
    Fact.pure [10] (fun v => (!(finV A_g.low)) = false → v = (Pt b15 3)),
    Fact.pure [11, 10] (fun v => (!(finV A_g.low)) = false → v = (Fl r7)),
    Fact.pure [12, 10] (fun v => (!(finV A_g.low)) = false → v = (Bo β1)),
    Fact.pure [13, 10] (fun v => (!(finV A_g.low)) = false → v = (Bo (!β1))),
    Fact.pure [10, 14] (fun v => v = (Bo β2))]) (by simp [Fact.pure, Fact.mem]) ?_
  refine RW_d (fun v24 => [(.agg #[(Fl r1), (Fl r3), (Fl r5), (Fl r7), (Iv A_g.x), (Iv A_g.y), (Iv A_g.z), (.slice p11 A_g.vals.length q12)]), (Pt b15 0), (Bo false), Ud, Ud, Ud, v24, Ud, Ud, Ud, Ud, Ud, Ud, Ud, Ud, Ud, Ud, Ud, Ud, Ud, Ud, Ud, Ud, Ud, Ud, Ud, Ud, Ud, Ud, Ud, Ud, Ud, Ud, Ud, Ud, Ud, Ud, Ud, Ud, Ud, Ud]) rfl (fun _ => rfl) (fun u hu hF => ?_) (fun v24 => ?_)
  · clear hF
    refine doesG_un rfl ?_
    refine (does_fieldAddr (ev rfl) fa32_0).mono ?_; rintro _ _ ⟨rfl, rfl⟩
    exact ⟨rfl, Ext.refl _⟩
  refine RW_d (fun v25 => [(.agg #[(Fl r1), (Fl r3), (Fl r5), (Fl r7), (Iv A_g.x), (Iv A_g.y), (Iv A_g.z), (.slice p11 A_g.vals.length q12)]), (Pt b15 0), (Bo false), Ud, Ud, Ud, v24, v25, Ud, Ud, Ud, Ud, Ud, Ud, Ud, Ud, Ud, Ud, Ud, Ud, Ud, Ud, Ud, Ud, Ud, Ud, Ud, Ud, Ud, Ud, Ud, Ud, Ud, Ud, Ud, Ud, Ud, Ud, Ud, Ud, Ud]) rfl (fun _ => rfl) (fun u hu hF => ?_) (fun v25 => ?_)
  · have h6_ : v24 = (Pt b15 0) := hF.1
    clear hF
    refine doesG_un rfl ?_
    obtain rfl := h6_
    refine (does_loadAgg (cs := [(Fl r1), (Fl r3), (Fl r5)]) (ev rfl) Try.isAgg30 Try.sizeOf30 (Cells.sub (Blk.cells (hB17.ext hu)) 0 3) rfl).mono ?_; rintro _ _ ⟨rfl, rfl⟩
    exact ⟨rfl, Ext.refl _⟩
  refine RW_d (fun v26 => [(.agg #[(Fl r1), (Fl r3), (Fl r5), (Fl r7), (Iv A_g.x), (Iv A_g.y), (Iv A_g.z), (.slice p11 A_g.vals.length q12)]), (Pt b15 0), (Bo false), Ud, Ud, Ud, v24, v25, v26, Ud, Ud, Ud, Ud, Ud, Ud, Ud, Ud, Ud, Ud, Ud, Ud, Ud, Ud, Ud, Ud, Ud, Ud, Ud, Ud, Ud, Ud, Ud, Ud, Ud, Ud, Ud, Ud, Ud, Ud, Ud, Ud]) rfl (fun _ => rfl) (fun u hu hF => ?_) (fun v26 => ?_)
  · have h7_ : v25 = (.agg #[(Fl r1), (Fl r3), (Fl r5)]) := hF.1
    clear hF
    refine doesG_un rfl ?_
    obtain rfl := h7_
    refine (does_call (args := #[(.agg #[(Fl r1), (Fl r3), (Fl r5)])]) cal63 (evs rfl) (c_impl_finiteVector [(Fl r1), (Fl r3), (Fl r5)] A_g.low _ ⟨r1, r3, r5, rfl, h2, h4, h6⟩)).mono ?_; rintro v u' ⟨hx, hv⟩
    exact ⟨hv, hx⟩
  refine RW_d (fun v27 => [(.agg #[(Fl r1), (Fl r3), (Fl r5), (Fl r7), (Iv A_g.x), (Iv A_g.y), (Iv A_g.z), (.slice p11 A_g.vals.length q12)]), (Pt b15 0), (Bo false), Ud, Ud, Ud, v24, v25, v26, v27, Ud, Ud, Ud, Ud, Ud, Ud, Ud, Ud, Ud, Ud, Ud, Ud, Ud, Ud, Ud, Ud, Ud, Ud, Ud, Ud, Ud, Ud, Ud, Ud, Ud, Ud, Ud, Ud, Ud, Ud, Ud]) rfl (fun _ => rfl) (fun u hu hF => ?_) (fun v27 => ?_)
  · have h8_ : v26 = (Bo (finV A_g.low)) := hF.1
    clear hF
    refine doesG_un rfl ?_
    obtain rfl := h8_
    refine (does_not (ev rfl)).mono ?_; rintro _ _ ⟨rfl, rfl⟩
    exact ⟨rfl, Ext.refl _⟩
  refine RW_d (fun v28 => [(.agg #[(Fl r1), (Fl r3), (Fl r5), (Fl r7), (Iv A_g.x), (Iv A_g.y), (Iv A_g.z), (.slice p11 A_g.vals.length q12)]), (Pt b15 0), (Bo false), Ud, Ud, Ud, v24, v25, v26, v27, v28, Ud, Ud, Ud, Ud, Ud, Ud, Ud, Ud, Ud, Ud, Ud, Ud, Ud, Ud, Ud, Ud, Ud, Ud, Ud, Ud, Ud, Ud, Ud, Ud, Ud, Ud, Ud, Ud, Ud, Ud]) rfl (fun _ => rfl) (fun u hu hF => ?_) (fun v28 => ?_)
  · have h9_ : v27 = (Bo (!(finV A_g.low))) := hF.1
    clear hF
    refine doesG_un rfl ?_
    obtain rfl := h9_
    refine (does_move (u := (Bo (!(finV A_g.low)))) (ev rfl)).mono ?_; rintro _ _ ⟨rfl, rfl⟩
    exact ⟨rfl, Ext.refl _⟩
  refine RW_d (fun v29 => [(.agg #[(Fl r1), (Fl r3), (Fl r5), (Fl r7), (Iv A_g.x), (Iv A_g.y), (Iv A_g.z), (.slice p11 A_g.vals.length q12)]), (Pt b15 0), (Bo false), Ud, Ud, Ud, v24, v25, v26, v27, v28, v29, Ud, Ud, Ud, Ud, Ud, Ud, Ud, Ud, Ud, Ud, Ud, Ud, Ud, Ud, Ud, Ud, Ud, Ud, Ud, Ud, Ud, Ud, Ud, Ud, Ud, Ud, Ud, Ud, Ud]) rfl (fun _ => rfl) (fun u hu hF => ?_) (fun v29 => ?_)
  · have h10_ : v28 = (Bo (!(finV A_g.low))) := hF.1
    clear hF
    obtain rfl := h10_
    refine doesG_g (b := (!(finV A_g.low))) rfl (yld rfl rfl) (fun hg1 => ?_) (fun hc => ⟨fun hg1 => absurd hg1 hc, Ext.refl _⟩)
    refine (does_fieldAddr (ev rfl) fa32_1).mono ?_; rintro _ _ ⟨rfl, rfl⟩
    exact ⟨fun _ => rfl, Ext.refl _⟩
  refine RW_d (fun v30 => [(.agg #[(Fl r1), (Fl r3), (Fl r5), (Fl r7), (Iv A_g.x), (Iv A_g.y), (Iv A_g.z), (.slice p11 A_g.vals.length q12)]), (Pt b15 0), (Bo false), Ud, Ud, Ud, v24, v25, v26, v27, v28, v29, v30, Ud, Ud, Ud, Ud, Ud, Ud, Ud, Ud, Ud, Ud, Ud, Ud, Ud, Ud, Ud, Ud, Ud, Ud, Ud, Ud, Ud, Ud, Ud, Ud, Ud, Ud, Ud, Ud]) rfl (fun _ => rfl) (fun u hu hF => ?_) (fun v30 => ?_)
  · have h11_ : (!(finV A_g.low)) = false → v29 = (Pt b15 3) := hF.1
    have h10_ : v28 = (Bo (!(finV A_g.low))) := hF.2.1
    clear hF
    obtain rfl := h10_
    refine doesG_g (b := (!(finV A_g.low))) rfl (yld rfl rfl) (fun hg1 => ?_) (fun hc => ⟨fun hg1 => absurd hg1 hc, Ext.refl _⟩)
    obtain rfl := h11_ hg1
    refine (does_load (u := (Fl r7)) (ev rfl) Try.isAgg22 (Cells.at (Blk.cells (hB17.ext hu)) 3 rfl)).mono ?_; rintro _ _ ⟨rfl, rfl⟩
    exact ⟨fun _ => rfl, Ext.refl _⟩
  refine RW_d (fun v31 => [(.agg #[(Fl r1), (Fl r3), (Fl r5), (Fl r7), (Iv A_g.x), (Iv A_g.y), (Iv A_g.z), (.slice p11 A_g.vals.length q12)]), (Pt b15 0), (Bo false), Ud, Ud, Ud, v24, v25, v26, v27, v28, v29, v30, v31, Ud, Ud, Ud, Ud, Ud, Ud, Ud, Ud, Ud, Ud, Ud, Ud, Ud, Ud, Ud, Ud, Ud, Ud, Ud, Ud, Ud, Ud, Ud, Ud, Ud, Ud, Ud]) rfl (fun _ => rfl) (fun u hu hF => ?_) (fun v31 => ?_)
  · have h12_ : (!(finV A_g.low)) = false → v30 = (Fl r7) := hF.1
    have h10_ : v28 = (Bo (!(finV A_g.low))) := hF.2.1
    clear hF
    obtain rfl := h10_
    refine doesG_g (b := (!(finV A_g.low))) rfl (yld rfl rfl) (fun hg1 => ?_) (fun hc => ⟨fun hg1 => absurd hg1 hc, Ext.refl _⟩)
    obtain rfl := h12_ hg1
    refine (does_call (args := #[(Fl r7)]) cal64 (evs rfl) (c_impl_stepOk r7 _)).mono ?_; rintro v u' ⟨hx, hv⟩
    exact ⟨fun _ => hv.trans (by simp only [hβ1]), hx⟩
  refine RW_d (fun v32 => [(.agg #[(Fl r1), (Fl r3), (Fl r5), (Fl r7), (Iv A_g.x), (Iv A_g.y), (Iv A_g.z), (.slice p11 A_g.vals.length q12)]), (Pt b15 0), (Bo false), Ud, Ud, Ud, v24, v25, v26, v27, v28, v29, v30, v31, v32, Ud, Ud, Ud, Ud, Ud, Ud, Ud, Ud, Ud, Ud, Ud, Ud, Ud, Ud, Ud, Ud, Ud, Ud, Ud, Ud, Ud, Ud, Ud, Ud, Ud, Ud]) rfl (fun _ => rfl) (fun u hu hF => ?_) (fun v32 => ?_)
  · have h13_ : (!(finV A_g.low)) = false → v31 = (Bo β1) := hF.1
    have h10_ : v28 = (Bo (!(finV A_g.low))) := hF.2.1
    clear hF
    obtain rfl := h10_
    refine doesG_g (b := (!(finV A_g.low))) rfl (yld rfl rfl) (fun hg1 => ?_) (fun hc => ⟨fun hg1 => absurd hg1 hc, Ext.refl _⟩)
    obtain rfl := h13_ hg1
    refine (does_not (ev rfl)).mono ?_; rintro _ _ ⟨rfl, rfl⟩
    exact ⟨fun _ => rfl, Ext.refl _⟩
  refine RW_d (fun v33 => [(.agg #[(Fl r1), (Fl r3), (Fl r5), (Fl r7), (Iv A_g.x), (Iv A_g.y), (Iv A_g.z), (.slice p11 A_g.vals.length q12)]), (Pt b15 0), (Bo false), Ud, Ud, Ud, v24, v25, v26, v27, v28, v29, v30, v31, v32, v33, Ud, Ud, Ud, Ud, Ud, Ud, Ud, Ud, Ud, Ud, Ud, Ud, Ud, Ud, Ud, Ud, Ud, Ud, Ud, Ud, Ud, Ud, Ud, Ud, Ud]) rfl (fun _ => rfl) (fun u hu hF => ?_) (fun v33 => ?_)
  · have h10_ : v28 = (Bo (!(finV A_g.low))) := hF.1
    have h14_ : (!(finV A_g.low)) = false → v32 = (Bo (!β1)) := hF.2.1
    clear hF
    refine doesG_un rfl ?_
    skip
    obtain rfl := h10_
    refine (does_pick (b := (!(finV A_g.low))) (ev rfl) (ev rfl) (ev rfl)).mono ?_; rintro _ _ ⟨rfl, rfl⟩; refine ⟨?_, Ext.refl _⟩; rw [hβ2]; skip
    cases hbb : (!(finV A_g.low)) <;> simp [hbb] at h14_ ⊢
    all_goals (first | rfl | (subst h14_; rfl) | simp_all)
  refine RW_fin ?_; intro w34 E35 hP36
  obtain ⟨⟨⟨⟨⟨⟨⟨⟨⟨⟨-, -⟩, -⟩, -⟩, -⟩, -⟩, -⟩, -⟩, -⟩, -⟩, q37⟩ := hP36
  have X38 := Ext.gr X21 E35
  have q37 : v33 = (Bo β2) := q37
  obtain rfl := q37
  show wpList _ _ _ _ (fr [(.agg #[(Fl r1), (Fl r3), (Fl r5), (Fl r7), (Iv A_g.x), (Iv A_g.y), (Iv A_g.z), (.slice p11 A_g.vals.length q12)]), (Pt b15 0), (Bo false), Ud, Ud, Ud, v24, v25, v26, v27, v28, v29, v30, v31, v32, (Bo β2), Ud, Ud, Ud, Ud, Ud, Ud, Ud, Ud, Ud, Ud, Ud, Ud, Ud, Ud, Ud, Ud, Ud, Ud, Ud, Ud, Ud, Ud, Ud, Ud, Ud]) _
  refine wpList_nil (hK23 _ _ ?_)
  refine wp_cond_split (t := β2) (ev rfl) (fun c39 => ?_) (fun c39 => ?_)
  · have c39' := c39
    (try simp only [hβ1, hβ2] at c39')
    (try simp only [icmp, Bool.and_eq_true, Bool.or_eq_true, Bool.and_eq_false_iff, Bool.or_eq_false_iff, Bool.not_eq_true', Bool.not_eq_false', decide_eq_true_eq, decide_eq_false_iff_not, beq_iff_eq, bne_iff_ne, beq_eq_false_iff_ne, bne_eq_false_iff_eq] at c39')
    refine wp_seq_k fun K40 hK40 => ?_
    refine wp_region_lit ?_
    refine q_is (l' := [(.agg #[(Fl r1), (Fl r3), (Fl r5), (Fl r7), (Iv A_g.x), (Iv A_g.y), (Iv A_g.z), (.slice p11 A_g.vals.length q12)]), (Pt b15 0), (Bo false), Ud, Ud, Ud, v24, v25, v26, v27, v28, v29, v30, v31, v32, (Bo β2), Ud, Ud, Ud, Ud, Ud, Ud, Ud, Ud, Ud, Ud, Ud, Ud, Ud, Ud, Ud, Ud, Ud, Ud, Ud, Ud, Ud, Ud, Ud, Ud, Ud]) rfl rfl (does_assign (u := (Bo false)) (ev rfl)) rfl ?_
    refine wpList_nil (hK40 _ _ ?_)
    refine wp_ret ?_
    dsimp only [Exit.then, Exit.inBlock]
    refine ret_val (v := (Bo false)) (res_T rfl (slot rfl)) X38 ?_
    try simp only [h2, h4, h6, h8, hβ1, hβ2] at c39
    have x41 : (isGrid A_g) = false := by first | with_reducible rfl | (simp only [isGrid, cntOk, prod3, h2, h4, h6, h8, hβ1, hβ2, c39]; done) | (simp [isGrid, cntOk, prod3, h2, h4, h6, h8, hβ1, hβ2, c39]; done) | (revert c39; simp +contextual [isGrid, cntOk, prod3, h2, h4, h6, h8, hβ1, hβ2]; done) | (rcases c39' with hh | hh <;> simp only [hh, isGrid, cntOk, prod3, h2, h4, h6, h8, hβ1, hβ2, c39]; done) | (rcases c39' with hh | hh <;> simp_all [isGrid, cntOk, prod3]; done) | (rcases c39' with hh | hh | hh <;> simp_all [isGrid, cntOk, prod3]; done) | (rcases c39' with hh | hh | hh | hh <;> simp_all [isGrid, cntOk, prod3]; done) | (simp_all [isGrid, cntOk, prod3]; done) | rfl
    exact (by first | rfl | rw [x41])
  have c39' := c39
  (try simp only [hβ1, hβ2] at c39')
  (try simp only [icmp, Bool.and_eq_true, Bool.or_eq_true, Bool.and_eq_false_iff, Bool.or_eq_false_iff, Bool.not_eq_true', Bool.not_eq_false', decide_eq_true_eq, decide_eq_false_iff_not, beq_iff_eq, bne_iff_ne, beq_eq_false_iff_ne, bne_eq_false_iff_eq] at c39')
  refine wp_skip (hK22 _ _ ?_)
  refine wp_seq_k fun K42 hK42 => ?_
  refine wp_seq_k fun K43 hK43 => ?_
  refine wp_region_lit ?_
  refine seqd rfl rfl (does_call (args := #[(Pt b15 0)]) cal65 (evs rfl) (c_impl_Grid_counts b15 0 [(Fl r1), (Fl r3), (Fl r5), (Fl r7), (Iv A_g.x), (Iv A_g.y), (Iv A_g.z), (.slice p11 A_g.vals.length q12)] A_g _ (Blk.cells (hB17.ext E35)) ⟨r1, r3, r5, r7, (.slice p11 A_g.vals.length q12), rfl, h2, h4, h6, h8, (Sl.ext hs13 RF.mono X38)⟩)) ?_; rintro _ w45 ⟨E44, rfl⟩
  have X46 := Ext.gr X38 E44
  show wpList _ _ _ _ (fr [(.agg #[(Fl r1), (Fl r3), (Fl r5), (Fl r7), (Iv A_g.x), (Iv A_g.y), (Iv A_g.z), (.slice p11 A_g.vals.length q12)]), (Pt b15 0), (Bo false), Ud, Ud, Ud, v24, v25, v26, v27, v28, v29, v30, v31, v32, (Bo β2), (.agg #[(Iv A_g.x), (Iv A_g.y), (Iv A_g.z)]), Ud, Ud, Ud, Ud, Ud, Ud, Ud, Ud, Ud, Ud, Ud, Ud, Ud, Ud, Ud, Ud, Ud, Ud, Ud, Ud, Ud, Ud, Ud, Ud]) _
  refine q_is (l' := [(.agg #[(Fl r1), (Fl r3), (Fl r5), (Fl r7), (Iv A_g.x), (Iv A_g.y), (Iv A_g.z), (.slice p11 A_g.vals.length q12)]), (Pt b15 0), (Bo false), Ud, Ud, Ud, v24, v25, v26, v27, v28, v29, v30, v31, v32, (Bo β2), (.agg #[(Iv A_g.x), (Iv A_g.y), (Iv A_g.z)]), (Iv 0), Ud, Ud, Ud, Ud, Ud, Ud, Ud, Ud, Ud, Ud, Ud, Ud, Ud, Ud, Ud, Ud, Ud, Ud, Ud, Ud, Ud, Ud, Ud]) rfl rfl (does_move (u := (Iv 0)) (ev rfl)) rfl ?_
  refine wpList_nil (hK43 _ _ ?_)
  refine wp_block ?_
  refine loop_unroll 4 ?_
  refine un_step ?_
  refine wp_seq_k fun K47 hK47 => ?_
  refine wp_region_lit ?_
  refine q_is (l' := [(.agg #[(Fl r1), (Fl r3), (Fl r5), (Fl r7), (Iv A_g.x), (Iv A_g.y), (Iv A_g.z), (.slice p11 A_g.vals.length q12)]), (Pt b15 0), (Bo false), Ud, Ud, Ud, v24, v25, v26, v27, v28, v29, v30, v31, v32, (Bo β2), (.agg #[(Iv A_g.x), (Iv A_g.y), (Iv A_g.z)]), (Iv 0), (Bo true), Ud, Ud, Ud, Ud, Ud, Ud, Ud, Ud, Ud, Ud, Ud, Ud, Ud, Ud, Ud, Ud, Ud, Ud, Ud, Ud, Ud, Ud]) rfl rfl (does_icmp (p := 0) (q := 3) (.inr (.inr (.inl rfl))) (ev rfl) (ev rfl)) rfl ?_
  refine wpList_nil (hK47 _ _ ?_)
  refine wp_seq_k fun K48 hK48 => ?_
  refine wp_cond_true (ev rfl) ?_
  refine wp_skip (hK48 _ _ ?_)
  refine wp_seq_k fun K49 hK49 => ?_
  refine wp_block ?_
  refine wp_seq_k fun K50 hK50 => ?_
  refine wp_region_lit ?_
  refine q_is (l' := [(.agg #[(Fl r1), (Fl r3), (Fl r5), (Fl r7), (Iv A_g.x), (Iv A_g.y), (Iv A_g.z), (.slice p11 A_g.vals.length q12)]), (Pt b15 0), (Bo false), Ud, Ud, Ud, v24, v25, v26, v27, v28, v29, v30, v31, v32, (Bo β2), (.agg #[(Iv A_g.x), (Iv A_g.y), (Iv A_g.z)]), (Iv 0), (Bo true), (Iv A_g.x), Ud, Ud, Ud, Ud, Ud, Ud, Ud, Ud, Ud, Ud, Ud, Ud, Ud, Ud, Ud, Ud, Ud, Ud, Ud, Ud, Ud]) rfl rfl (does_index_run (r := (Iv A_g.x)) (ev rfl) (ev rfl) (fun w => ix80_0 _ _ _ w)) rfl ?_
  refine q_is (l' := [(.agg #[(Fl r1), (Fl r3), (Fl r5), (Fl r7), (Iv A_g.x), (Iv A_g.y), (Iv A_g.z), (.slice p11 A_g.vals.length q12)]), (Pt b15 0), (Bo false), Ud, (Iv A_g.x), Ud, v24, v25, v26, v27, v28, v29, v30, v31, v32, (Bo β2), (.agg #[(Iv A_g.x), (Iv A_g.y), (Iv A_g.z)]), (Iv 0), (Bo true), (Iv A_g.x), Ud, Ud, Ud, Ud, Ud, Ud, Ud, Ud, Ud, Ud, Ud, Ud, Ud, Ud, Ud, Ud, Ud, Ud, Ud, Ud, Ud]) rfl rfl (does_assign (u := (Iv A_g.x)) (ev rfl)) rfl ?_
  refine wpList_nil (hK50 _ _ ?_)
  refine wp_seq_k fun K51 hK51 => ?_
  refine wp_region_lit ?_
  refine q_is (l' := [(.agg #[(Fl r1), (Fl r3), (Fl r5), (Fl r7), (Iv A_g.x), (Iv A_g.y), (Iv A_g.z), (.slice p11 A_g.vals.length q12)]), (Pt b15 0), (Bo false), Ud, (Iv A_g.x), Ud, v24, v25, v26, v27, v28, v29, v30, v31, v32, (Bo β2), (.agg #[(Iv A_g.x), (Iv A_g.y), (Iv A_g.z)]), (Iv 0), (Bo true), (Iv A_g.x), (Iv A_g.x), Ud, Ud, Ud, Ud, Ud, Ud, Ud, Ud, Ud, Ud, Ud, Ud, Ud, Ud, Ud, Ud, Ud, Ud, Ud, Ud]) rfl rfl (does_move (u := (Iv A_g.x)) (ev rfl)) rfl ?_
  refine seqd rfl rfl (does_call (args := #[(Iv A_g.x), (Iv 1), (Iv 16)]) cal66 (evs rfl) (c_impl_in A_g.x 1 16 _)) ?_; rintro _ w53 ⟨E52, rfl⟩
  have X54 := Ext.gr X46 E52
  show wpList _ _ _ _ (fr [(.agg #[(Fl r1), (Fl r3), (Fl r5), (Fl r7), (Iv A_g.x), (Iv A_g.y), (Iv A_g.z), (.slice p11 A_g.vals.length q12)]), (Pt b15 0), (Bo false), Ud, (Iv A_g.x), Ud, v24, v25, v26, v27, v28, v29, v30, v31, v32, (Bo β2), (.agg #[(Iv A_g.x), (Iv A_g.y), (Iv A_g.z)]), (Iv 0), (Bo true), (Iv A_g.x), (Iv A_g.x), (Bo (inI A_g.x 1 16)), Ud, Ud, Ud, Ud, Ud, Ud, Ud, Ud, Ud, Ud, Ud, Ud, Ud, Ud, Ud, Ud, Ud, Ud, Ud]) _
  refine q_is (l' := [(.agg #[(Fl r1), (Fl r3), (Fl r5), (Fl r7), (Iv A_g.x), (Iv A_g.y), (Iv A_g.z), (.slice p11 A_g.vals.length q12)]), (Pt b15 0), (Bo false), Ud, (Iv A_g.x), Ud, v24, v25, v26, v27, v28, v29, v30, v31, v32, (Bo β2), (.agg #[(Iv A_g.x), (Iv A_g.y), (Iv A_g.z)]), (Iv 0), (Bo true), (Iv A_g.x), (Iv A_g.x), (Bo (inI A_g.x 1 16)), (Bo (!(inI A_g.x 1 16))), Ud, Ud, Ud, Ud, Ud, Ud, Ud, Ud, Ud, Ud, Ud, Ud, Ud, Ud, Ud, Ud, Ud, Ud]) rfl rfl (does_not (ev rfl)) rfl ?_
  refine wpList_nil (hK51 _ _ ?_)
  refine wp_cond_split (t := !(inI A_g.x 1 16)) (ev rfl) (fun c55 => ?_) (fun c55 => ?_)
  · rw [Bool.not_eq_true'] at c55
    have c55' := c55
    (try simp only [hβ1, hβ2] at c55')
    (try simp only [icmp, Bool.and_eq_true, Bool.or_eq_true, Bool.and_eq_false_iff, Bool.or_eq_false_iff, Bool.not_eq_true', Bool.not_eq_false', decide_eq_true_eq, decide_eq_false_iff_not, beq_iff_eq, bne_iff_ne, beq_eq_false_iff_ne, bne_eq_false_iff_eq] at c55')
    refine wp_seq_k fun K56 hK56 => ?_
    refine wp_region_lit ?_
    refine q_is (l' := [(.agg #[(Fl r1), (Fl r3), (Fl r5), (Fl r7), (Iv A_g.x), (Iv A_g.y), (Iv A_g.z), (.slice p11 A_g.vals.length q12)]), (Pt b15 0), (Bo false), Ud, (Iv A_g.x), Ud, v24, v25, v26, v27, v28, v29, v30, v31, v32, (Bo β2), (.agg #[(Iv A_g.x), (Iv A_g.y), (Iv A_g.z)]), (Iv 0), (Bo true), (Iv A_g.x), (Iv A_g.x), (Bo (inI A_g.x 1 16)), (Bo (!(inI A_g.x 1 16))), Ud, Ud, Ud, Ud, Ud, Ud, Ud, Ud, Ud, Ud, Ud, Ud, Ud, Ud, Ud, Ud, Ud, Ud]) rfl rfl (does_assign (u := (Bo false)) (ev rfl)) rfl ?_
    refine wpList_nil (hK56 _ _ ?_)
    refine wp_ret ?_
    dsimp only [Exit.then, Exit.inBlock]
    refine ret_val (v := (Bo false)) (res_T rfl (slot rfl)) X54 ?_
    try simp only [h2, h4, h6, h8, hβ1, hβ2] at c39 c55
    have x57 : (isGrid A_g) = false := by first | with_reducible rfl | (simp only [isGrid, cntOk, prod3, h2, h4, h6, h8, hβ1, hβ2, c39, c55]; done) | (simp [isGrid, cntOk, prod3, h2, h4, h6, h8, hβ1, hβ2, c39, c55]; done) | (revert c39 c55; simp +contextual [isGrid, cntOk, prod3, h2, h4, h6, h8, hβ1, hβ2]; done) | (rcases c39' with hh | hh <;> simp only [hh, isGrid, cntOk, prod3, h2, h4, h6, h8, hβ1, hβ2, c39, c55]; done) | (rcases c55' with hh | hh <;> simp only [hh, isGrid, cntOk, prod3, h2, h4, h6, h8, hβ1, hβ2, c39, c55]; done) | (rcases c55' with hh | hh <;> simp_all [isGrid, cntOk, prod3]; done) | (rcases c55' with hh | hh | hh <;> simp_all [isGrid, cntOk, prod3]; done) | (rcases c55' with hh | hh | hh | hh <;> simp_all [isGrid, cntOk, prod3]; done) | (simp_all [isGrid, cntOk, prod3]; done) | rfl
    exact (by first | rfl | rw [x57])
  rw [Bool.not_eq_false'] at c55
  have c55' := c55
  (try simp only [hβ1, hβ2] at c55')
  (try simp only [icmp, Bool.and_eq_true, Bool.or_eq_true, Bool.and_eq_false_iff, Bool.or_eq_false_iff, Bool.not_eq_true', Bool.not_eq_false', decide_eq_true_eq, decide_eq_false_iff_not, beq_iff_eq, bne_iff_ne, beq_eq_false_iff_ne, bne_eq_false_iff_eq] at c55')
  refine wp_skip (hK49 _ _ ?_)
  refine wp_region_lit ?_
  refine q_is (l' := [(.agg #[(Fl r1), (Fl r3), (Fl r5), (Fl r7), (Iv A_g.x), (Iv A_g.y), (Iv A_g.z), (.slice p11 A_g.vals.length q12)]), (Pt b15 0), (Bo false), Ud, (Iv A_g.x), Ud, v24, v25, v26, v27, v28, v29, v30, v31, v32, (Bo β2), (.agg #[(Iv A_g.x), (Iv A_g.y), (Iv A_g.z)]), (Iv 0), (Bo true), (Iv A_g.x), (Iv A_g.x), (Bo (inI A_g.x 1 16)), (Bo (!(inI A_g.x 1 16))), (Iv 1), Ud, Ud, Ud, Ud, Ud, Ud, Ud, Ud, Ud, Ud, Ud, Ud, Ud, Ud, Ud, Ud, Ud]) rfl rfl (does_iarith (p := 0) (q := 1) (r := (1)) (ev rfl) (ev rfl) (.inl ⟨rfl, rfl⟩)) rfl ?_
  refine q_is (l' := [(.agg #[(Fl r1), (Fl r3), (Fl r5), (Fl r7), (Iv A_g.x), (Iv A_g.y), (Iv A_g.z), (.slice p11 A_g.vals.length q12)]), (Pt b15 0), (Bo false), Ud, (Iv A_g.x), Ud, v24, v25, v26, v27, v28, v29, v30, v31, v32, (Bo β2), (.agg #[(Iv A_g.x), (Iv A_g.y), (Iv A_g.z)]), (Iv 1), (Bo true), (Iv A_g.x), (Iv A_g.x), (Bo (inI A_g.x 1 16)), (Bo (!(inI A_g.x 1 16))), (Iv 1), Ud, Ud, Ud, Ud, Ud, Ud, Ud, Ud, Ud, Ud, Ud, Ud, Ud, Ud, Ud, Ud, Ud]) rfl rfl (does_move (u := (Iv 1)) (ev rfl)) rfl ?_
  refine wpList_nil ?_
  refine un_step ?_
  refine wp_seq_k fun K58 hK58 => ?_
  refine wp_region_lit ?_
  refine q_is (l' := [(.agg #[(Fl r1), (Fl r3), (Fl r5), (Fl r7), (Iv A_g.x), (Iv A_g.y), (Iv A_g.z), (.slice p11 A_g.vals.length q12)]), (Pt b15 0), (Bo false), Ud, (Iv A_g.x), Ud, v24, v25, v26, v27, v28, v29, v30, v31, v32, (Bo β2), (.agg #[(Iv A_g.x), (Iv A_g.y), (Iv A_g.z)]), (Iv 1), (Bo true), (Iv A_g.x), (Iv A_g.x), (Bo (inI A_g.x 1 16)), (Bo (!(inI A_g.x 1 16))), (Iv 1), Ud, Ud, Ud, Ud, Ud, Ud, Ud, Ud, Ud, Ud, Ud, Ud, Ud, Ud, Ud, Ud, Ud]) rfl rfl (does_icmp (p := 1) (q := 3) (.inr (.inr (.inl rfl))) (ev rfl) (ev rfl)) rfl ?_
  refine wpList_nil (hK58 _ _ ?_)
  refine wp_seq_k fun K59 hK59 => ?_
  refine wp_cond_true (ev rfl) ?_
  refine wp_skip (hK59 _ _ ?_)
  refine wp_seq_k fun K60 hK60 => ?_
  refine wp_block ?_
  refine wp_seq_k fun K61 hK61 => ?_
  refine wp_region_lit ?_
  refine q_is (l' := [(.agg #[(Fl r1), (Fl r3), (Fl r5), (Fl r7), (Iv A_g.x), (Iv A_g.y), (Iv A_g.z), (.slice p11 A_g.vals.length q12)]), (Pt b15 0), (Bo false), Ud, (Iv A_g.x), Ud, v24, v25, v26, v27, v28, v29, v30, v31, v32, (Bo β2), (.agg #[(Iv A_g.x), (Iv A_g.y), (Iv A_g.z)]), (Iv 1), (Bo true), (Iv A_g.y), (Iv A_g.x), (Bo (inI A_g.x 1 16)), (Bo (!(inI A_g.x 1 16))), (Iv 1), Ud, Ud, Ud, Ud, Ud, Ud, Ud, Ud, Ud, Ud, Ud, Ud, Ud, Ud, Ud, Ud, Ud]) rfl rfl (does_index_run (r := (Iv A_g.y)) (ev rfl) (ev rfl) (fun w => ix80_1 _ _ _ w)) rfl ?_
  refine q_is (l' := [(.agg #[(Fl r1), (Fl r3), (Fl r5), (Fl r7), (Iv A_g.x), (Iv A_g.y), (Iv A_g.z), (.slice p11 A_g.vals.length q12)]), (Pt b15 0), (Bo false), Ud, (Iv A_g.y), Ud, v24, v25, v26, v27, v28, v29, v30, v31, v32, (Bo β2), (.agg #[(Iv A_g.x), (Iv A_g.y), (Iv A_g.z)]), (Iv 1), (Bo true), (Iv A_g.y), (Iv A_g.x), (Bo (inI A_g.x 1 16)), (Bo (!(inI A_g.x 1 16))), (Iv 1), Ud, Ud, Ud, Ud, Ud, Ud, Ud, Ud, Ud, Ud, Ud, Ud, Ud, Ud, Ud, Ud, Ud]) rfl rfl (does_assign (u := (Iv A_g.y)) (ev rfl)) rfl ?_
  refine wpList_nil (hK61 _ _ ?_)
  refine wp_seq_k fun K62 hK62 => ?_
  refine wp_region_lit ?_
  refine q_is (l' := [(.agg #[(Fl r1), (Fl r3), (Fl r5), (Fl r7), (Iv A_g.x), (Iv A_g.y), (Iv A_g.z), (.slice p11 A_g.vals.length q12)]), (Pt b15 0), (Bo false), Ud, (Iv A_g.y), Ud, v24, v25, v26, v27, v28, v29, v30, v31, v32, (Bo β2), (.agg #[(Iv A_g.x), (Iv A_g.y), (Iv A_g.z)]), (Iv 1), (Bo true), (Iv A_g.y), (Iv A_g.y), (Bo (inI A_g.x 1 16)), (Bo (!(inI A_g.x 1 16))), (Iv 1), Ud, Ud, Ud, Ud, Ud, Ud, Ud, Ud, Ud, Ud, Ud, Ud, Ud, Ud, Ud, Ud, Ud]) rfl rfl (does_move (u := (Iv A_g.y)) (ev rfl)) rfl ?_
  refine seqd rfl rfl (does_call (args := #[(Iv A_g.y), (Iv 1), (Iv 16)]) cal66 (evs rfl) (c_impl_in A_g.y 1 16 _)) ?_; rintro _ w64 ⟨E63, rfl⟩
  have X65 := Ext.gr X54 E63
  show wpList _ _ _ _ (fr [(.agg #[(Fl r1), (Fl r3), (Fl r5), (Fl r7), (Iv A_g.x), (Iv A_g.y), (Iv A_g.z), (.slice p11 A_g.vals.length q12)]), (Pt b15 0), (Bo false), Ud, (Iv A_g.y), Ud, v24, v25, v26, v27, v28, v29, v30, v31, v32, (Bo β2), (.agg #[(Iv A_g.x), (Iv A_g.y), (Iv A_g.z)]), (Iv 1), (Bo true), (Iv A_g.y), (Iv A_g.y), (Bo (inI A_g.y 1 16)), (Bo (!(inI A_g.x 1 16))), (Iv 1), Ud, Ud, Ud, Ud, Ud, Ud, Ud, Ud, Ud, Ud, Ud, Ud, Ud, Ud, Ud, Ud, Ud]) _
  refine q_is (l' := [(.agg #[(Fl r1), (Fl r3), (Fl r5), (Fl r7), (Iv A_g.x), (Iv A_g.y), (Iv A_g.z), (.slice p11 A_g.vals.length q12)]), (Pt b15 0), (Bo false), Ud, (Iv A_g.y), Ud, v24, v25, v26, v27, v28, v29, v30, v31, v32, (Bo β2), (.agg #[(Iv A_g.x), (Iv A_g.y), (Iv A_g.z)]), (Iv 1), (Bo true), (Iv A_g.y), (Iv A_g.y), (Bo (inI A_g.y 1 16)), (Bo (!(inI A_g.y 1 16))), (Iv 1), Ud, Ud, Ud, Ud, Ud, Ud, Ud, Ud, Ud, Ud, Ud, Ud, Ud, Ud, Ud, Ud, Ud]) rfl rfl (does_not (ev rfl)) rfl ?_
  refine wpList_nil (hK62 _ _ ?_)
  refine wp_cond_split (t := !(inI A_g.y 1 16)) (ev rfl) (fun c66 => ?_) (fun c66 => ?_)
  · rw [Bool.not_eq_true'] at c66
    have c66' := c66
    (try simp only [hβ1, hβ2] at c66')
    (try simp only [icmp, Bool.and_eq_true, Bool.or_eq_true, Bool.and_eq_false_iff, Bool.or_eq_false_iff, Bool.not_eq_true', Bool.not_eq_false', decide_eq_true_eq, decide_eq_false_iff_not, beq_iff_eq, bne_iff_ne, beq_eq_false_iff_ne, bne_eq_false_iff_eq] at c66')
    refine wp_seq_k fun K67 hK67 => ?_
    refine wp_region_lit ?_
    refine q_is (l' := [(.agg #[(Fl r1), (Fl r3), (Fl r5), (Fl r7), (Iv A_g.x), (Iv A_g.y), (Iv A_g.z), (.slice p11 A_g.vals.length q12)]), (Pt b15 0), (Bo false), Ud, (Iv A_g.y), Ud, v24, v25, v26, v27, v28, v29, v30, v31, v32, (Bo β2), (.agg #[(Iv A_g.x), (Iv A_g.y), (Iv A_g.z)]), (Iv 1), (Bo true), (Iv A_g.y), (Iv A_g.y), (Bo (inI A_g.y 1 16)), (Bo (!(inI A_g.y 1 16))), (Iv 1), Ud, Ud, Ud, Ud, Ud, Ud, Ud, Ud, Ud, Ud, Ud, Ud, Ud, Ud, Ud, Ud, Ud]) rfl rfl (does_assign (u := (Bo false)) (ev rfl)) rfl ?_
    refine wpList_nil (hK67 _ _ ?_)
    refine wp_ret ?_
    dsimp only [Exit.then, Exit.inBlock]
    refine ret_val (v := (Bo false)) (res_T rfl (slot rfl)) X65 ?_
    try simp only [h2, h4, h6, h8, hβ1, hβ2] at c39 c55 c66
    have x68 : (isGrid A_g) = false := by first | with_reducible rfl | (simp only [isGrid, cntOk, prod3, h2, h4, h6, h8, hβ1, hβ2, c39, c55, c66]; done) | (simp [isGrid, cntOk, prod3, h2, h4, h6, h8, hβ1, hβ2, c39, c55, c66]; done) | (revert c39 c55 c66; simp +contextual [isGrid, cntOk, prod3, h2, h4, h6, h8, hβ1, hβ2]; done) | (rcases c39' with hh | hh <;> simp only [hh, isGrid, cntOk, prod3, h2, h4, h6, h8, hβ1, hβ2, c39, c55, c66]; done) | (rcases c55' with hh | hh <;> simp only [hh, isGrid, cntOk, prod3, h2, h4, h6, h8, hβ1, hβ2, c39, c55, c66]; done) | (rcases c66' with hh | hh <;> simp only [hh, isGrid, cntOk, prod3, h2, h4, h6, h8, hβ1, hβ2, c39, c55, c66]; done) | (rcases c66' with hh | hh <;> simp_all [isGrid, cntOk, prod3]; done) | (rcases c66' with hh | hh | hh <;> simp_all [isGrid, cntOk, prod3]; done) | (rcases c66' with hh | hh | hh | hh <;> simp_all [isGrid, cntOk, prod3]; done) | (simp_all [isGrid, cntOk, prod3]; done) | rfl
    exact (by first | rfl | rw [x68])
  rw [Bool.not_eq_false'] at c66
  have c66' := c66
  (try simp only [hβ1, hβ2] at c66')
  (try simp only [icmp, Bool.and_eq_true, Bool.or_eq_true, Bool.and_eq_false_iff, Bool.or_eq_false_iff, Bool.not_eq_true', Bool.not_eq_false', decide_eq_true_eq, decide_eq_false_iff_not, beq_iff_eq, bne_iff_ne, beq_eq_false_iff_ne, bne_eq_false_iff_eq] at c66')
  refine wp_skip (hK60 _ _ ?_)
  refine wp_region_lit ?_
  refine q_is (l' := [(.agg #[(Fl r1), (Fl r3), (Fl r5), (Fl r7), (Iv A_g.x), (Iv A_g.y), (Iv A_g.z), (.slice p11 A_g.vals.length q12)]), (Pt b15 0), (Bo false), Ud, (Iv A_g.y), Ud, v24, v25, v26, v27, v28, v29, v30, v31, v32, (Bo β2), (.agg #[(Iv A_g.x), (Iv A_g.y), (Iv A_g.z)]), (Iv 1), (Bo true), (Iv A_g.y), (Iv A_g.y), (Bo (inI A_g.y 1 16)), (Bo (!(inI A_g.y 1 16))), (Iv 2), Ud, Ud, Ud, Ud, Ud, Ud, Ud, Ud, Ud, Ud, Ud, Ud, Ud, Ud, Ud, Ud, Ud]) rfl rfl (does_iarith (p := 1) (q := 1) (r := (2)) (ev rfl) (ev rfl) (.inl ⟨rfl, rfl⟩)) rfl ?_
  refine q_is (l' := [(.agg #[(Fl r1), (Fl r3), (Fl r5), (Fl r7), (Iv A_g.x), (Iv A_g.y), (Iv A_g.z), (.slice p11 A_g.vals.length q12)]), (Pt b15 0), (Bo false), Ud, (Iv A_g.y), Ud, v24, v25, v26, v27, v28, v29, v30, v31, v32, (Bo β2), (.agg #[(Iv A_g.x), (Iv A_g.y), (Iv A_g.z)]), (Iv 2), (Bo true), (Iv A_g.y), (Iv A_g.y), (Bo (inI A_g.y 1 16)), (Bo (!(inI A_g.y 1 16))), (Iv 2), Ud, Ud, Ud, Ud, Ud, Ud, Ud, Ud, Ud, Ud, Ud, Ud, Ud, Ud, Ud, Ud, Ud]) rfl rfl (does_move (u := (Iv 2)) (ev rfl)) rfl ?_
  refine wpList_nil ?_
  refine un_step ?_
  refine wp_seq_k fun K69 hK69 => ?_
  refine wp_region_lit ?_
  refine q_is (l' := [(.agg #[(Fl r1), (Fl r3), (Fl r5), (Fl r7), (Iv A_g.x), (Iv A_g.y), (Iv A_g.z), (.slice p11 A_g.vals.length q12)]), (Pt b15 0), (Bo false), Ud, (Iv A_g.y), Ud, v24, v25, v26, v27, v28, v29, v30, v31, v32, (Bo β2), (.agg #[(Iv A_g.x), (Iv A_g.y), (Iv A_g.z)]), (Iv 2), (Bo true), (Iv A_g.y), (Iv A_g.y), (Bo (inI A_g.y 1 16)), (Bo (!(inI A_g.y 1 16))), (Iv 2), Ud, Ud, Ud, Ud, Ud, Ud, Ud, Ud, Ud, Ud, Ud, Ud, Ud, Ud, Ud, Ud, Ud]) rfl rfl (does_icmp (p := 2) (q := 3) (.inr (.inr (.inl rfl))) (ev rfl) (ev rfl)) rfl ?_
  refine wpList_nil (hK69 _ _ ?_)
  refine wp_seq_k fun K70 hK70 => ?_
  refine wp_cond_true (ev rfl) ?_
  refine wp_skip (hK70 _ _ ?_)
  refine wp_seq_k fun K71 hK71 => ?_
  refine wp_block ?_
  refine wp_seq_k fun K72 hK72 => ?_
  refine wp_region_lit ?_
  refine q_is (l' := [(.agg #[(Fl r1), (Fl r3), (Fl r5), (Fl r7), (Iv A_g.x), (Iv A_g.y), (Iv A_g.z), (.slice p11 A_g.vals.length q12)]), (Pt b15 0), (Bo false), Ud, (Iv A_g.y), Ud, v24, v25, v26, v27, v28, v29, v30, v31, v32, (Bo β2), (.agg #[(Iv A_g.x), (Iv A_g.y), (Iv A_g.z)]), (Iv 2), (Bo true), (Iv A_g.z), (Iv A_g.y), (Bo (inI A_g.y 1 16)), (Bo (!(inI A_g.y 1 16))), (Iv 2), Ud, Ud, Ud, Ud, Ud, Ud, Ud, Ud, Ud, Ud, Ud, Ud, Ud, Ud, Ud, Ud, Ud]) rfl rfl (does_index_run (r := (Iv A_g.z)) (ev rfl) (ev rfl) (fun w => ix80_2 _ _ _ w)) rfl ?_
  refine q_is (l' := [(.agg #[(Fl r1), (Fl r3), (Fl r5), (Fl r7), (Iv A_g.x), (Iv A_g.y), (Iv A_g.z), (.slice p11 A_g.vals.length q12)]), (Pt b15 0), (Bo false), Ud, (Iv A_g.z), Ud, v24, v25, v26, v27, v28, v29, v30, v31, v32, (Bo β2), (.agg #[(Iv A_g.x), (Iv A_g.y), (Iv A_g.z)]), (Iv 2), (Bo true), (Iv A_g.z), (Iv A_g.y), (Bo (inI A_g.y 1 16)), (Bo (!(inI A_g.y 1 16))), (Iv 2), Ud, Ud, Ud, Ud, Ud, Ud, Ud, Ud, Ud, Ud, Ud, Ud, Ud, Ud, Ud, Ud, Ud]) rfl rfl (does_assign (u := (Iv A_g.z)) (ev rfl)) rfl ?_
  refine wpList_nil (hK72 _ _ ?_)
  refine wp_seq_k fun K73 hK73 => ?_
  refine wp_region_lit ?_
  refine q_is (l' := [(.agg #[(Fl r1), (Fl r3), (Fl r5), (Fl r7), (Iv A_g.x), (Iv A_g.y), (Iv A_g.z), (.slice p11 A_g.vals.length q12)]), (Pt b15 0), (Bo false), Ud, (Iv A_g.z), Ud, v24, v25, v26, v27, v28, v29, v30, v31, v32, (Bo β2), (.agg #[(Iv A_g.x), (Iv A_g.y), (Iv A_g.z)]), (Iv 2), (Bo true), (Iv A_g.z), (Iv A_g.z), (Bo (inI A_g.y 1 16)), (Bo (!(inI A_g.y 1 16))), (Iv 2), Ud, Ud, Ud, Ud, Ud, Ud, Ud, Ud, Ud, Ud, Ud, Ud, Ud, Ud, Ud, Ud, Ud]) rfl rfl (does_move (u := (Iv A_g.z)) (ev rfl)) rfl ?_
  refine seqd rfl rfl (does_call (args := #[(Iv A_g.z), (Iv 1), (Iv 16)]) cal66 (evs rfl) (c_impl_in A_g.z 1 16 _)) ?_; rintro _ w75 ⟨E74, rfl⟩
  have X76 := Ext.gr X65 E74
  show wpList _ _ _ _ (fr [(.agg #[(Fl r1), (Fl r3), (Fl r5), (Fl r7), (Iv A_g.x), (Iv A_g.y), (Iv A_g.z), (.slice p11 A_g.vals.length q12)]), (Pt b15 0), (Bo false), Ud, (Iv A_g.z), Ud, v24, v25, v26, v27, v28, v29, v30, v31, v32, (Bo β2), (.agg #[(Iv A_g.x), (Iv A_g.y), (Iv A_g.z)]), (Iv 2), (Bo true), (Iv A_g.z), (Iv A_g.z), (Bo (inI A_g.z 1 16)), (Bo (!(inI A_g.y 1 16))), (Iv 2), Ud, Ud, Ud, Ud, Ud, Ud, Ud, Ud, Ud, Ud, Ud, Ud, Ud, Ud, Ud, Ud, Ud]) _
  refine q_is (l' := [(.agg #[(Fl r1), (Fl r3), (Fl r5), (Fl r7), (Iv A_g.x), (Iv A_g.y), (Iv A_g.z), (.slice p11 A_g.vals.length q12)]), (Pt b15 0), (Bo false), Ud, (Iv A_g.z), Ud, v24, v25, v26, v27, v28, v29, v30, v31, v32, (Bo β2), (.agg #[(Iv A_g.x), (Iv A_g.y), (Iv A_g.z)]), (Iv 2), (Bo true), (Iv A_g.z), (Iv A_g.z), (Bo (inI A_g.z 1 16)), (Bo (!(inI A_g.z 1 16))), (Iv 2), Ud, Ud, Ud, Ud, Ud, Ud, Ud, Ud, Ud, Ud, Ud, Ud, Ud, Ud, Ud, Ud, Ud]) rfl rfl (does_not (ev rfl)) rfl ?_
  refine wpList_nil (hK73 _ _ ?_)
  refine wp_cond_split (t := !(inI A_g.z 1 16)) (ev rfl) (fun c77 => ?_) (fun c77 => ?_)
  · rw [Bool.not_eq_true'] at c77
    have c77' := c77
    (try simp only [hβ1, hβ2] at c77')
    (try simp only [icmp, Bool.and_eq_true, Bool.or_eq_true, Bool.and_eq_false_iff, Bool.or_eq_false_iff, Bool.not_eq_true', Bool.not_eq_false', decide_eq_true_eq, decide_eq_false_iff_not, beq_iff_eq, bne_iff_ne, beq_eq_false_iff_ne, bne_eq_false_iff_eq] at c77')
    refine wp_seq_k fun K78 hK78 => ?_
    refine wp_region_lit ?_
    refine q_is (l' := [(.agg #[(Fl r1), (Fl r3), (Fl r5), (Fl r7), (Iv A_g.x), (Iv A_g.y), (Iv A_g.z), (.slice p11 A_g.vals.length q12)]), (Pt b15 0), (Bo false), Ud, (Iv A_g.z), Ud, v24, v25, v26, v27, v28, v29, v30, v31, v32, (Bo β2), (.agg #[(Iv A_g.x), (Iv A_g.y), (Iv A_g.z)]), (Iv 2), (Bo true), (Iv A_g.z), (Iv A_g.z), (Bo (inI A_g.z 1 16)), (Bo (!(inI A_g.z 1 16))), (Iv 2), Ud, Ud, Ud, Ud, Ud, Ud, Ud, Ud, Ud, Ud, Ud, Ud, Ud, Ud, Ud, Ud, Ud]) rfl rfl (does_assign (u := (Bo false)) (ev rfl)) rfl ?_
    refine wpList_nil (hK78 _ _ ?_)
    refine wp_ret ?_
    dsimp only [Exit.then, Exit.inBlock]
    refine ret_val (v := (Bo false)) (res_T rfl (slot rfl)) X76 ?_
    try simp only [h2, h4, h6, h8, hβ1, hβ2] at c39 c55 c66 c77
    have x79 : (isGrid A_g) = false := by first | with_reducible rfl | (simp only [isGrid, cntOk, prod3, h2, h4, h6, h8, hβ1, hβ2, c39, c55, c66, c77]; done) | (simp [isGrid, cntOk, prod3, h2, h4, h6, h8, hβ1, hβ2, c39, c55, c66, c77]; done) | (revert c39 c55 c66 c77; simp +contextual [isGrid, cntOk, prod3, h2, h4, h6, h8, hβ1, hβ2]; done) | (rcases c39' with hh | hh <;> simp only [hh, isGrid, cntOk, prod3, h2, h4, h6, h8, hβ1, hβ2, c39, c55, c66, c77]; done) | (rcases c55' with hh | hh <;> simp only [hh, isGrid, cntOk, prod3, h2, h4, h6, h8, hβ1, hβ2, c39, c55, c66, c77]; done) | (rcases c66' with hh | hh <;> simp only [hh, isGrid, cntOk, prod3, h2, h4, h6, h8, hβ1, hβ2, c39, c55, c66, c77]; done) | (rcases c77' with hh | hh <;> simp only [hh, isGrid, cntOk, prod3, h2, h4, h6, h8, hβ1, hβ2, c39, c55, c66, c77]; done) | (rcases c77' with hh | hh <;> simp_all [isGrid, cntOk, prod3]; done) | (rcases c77' with hh | hh | hh <;> simp_all [isGrid, cntOk, prod3]; done) | (rcases c77' with hh | hh | hh | hh <;> simp_all [isGrid, cntOk, prod3]; done) | (simp_all [isGrid, cntOk, prod3]; done) | rfl
    exact (by first | rfl | rw [x79])
  rw [Bool.not_eq_false'] at c77
  have c77' := c77
  (try simp only [hβ1, hβ2] at c77')
  (try simp only [icmp, Bool.and_eq_true, Bool.or_eq_true, Bool.and_eq_false_iff, Bool.or_eq_false_iff, Bool.not_eq_true', Bool.not_eq_false', decide_eq_true_eq, decide_eq_false_iff_not, beq_iff_eq, bne_iff_ne, beq_eq_false_iff_ne, bne_eq_false_iff_eq] at c77')
  refine wp_skip (hK71 _ _ ?_)
  refine wp_region_lit ?_
  refine q_is (l' := [(.agg #[(Fl r1), (Fl r3), (Fl r5), (Fl r7), (Iv A_g.x), (Iv A_g.y), (Iv A_g.z), (.slice p11 A_g.vals.length q12)]), (Pt b15 0), (Bo false), Ud, (Iv A_g.z), Ud, v24, v25, v26, v27, v28, v29, v30, v31, v32, (Bo β2), (.agg #[(Iv A_g.x), (Iv A_g.y), (Iv A_g.z)]), (Iv 2), (Bo true), (Iv A_g.z), (Iv A_g.z), (Bo (inI A_g.z 1 16)), (Bo (!(inI A_g.z 1 16))), (Iv 3), Ud, Ud, Ud, Ud, Ud, Ud, Ud, Ud, Ud, Ud, Ud, Ud, Ud, Ud, Ud, Ud, Ud]) rfl rfl (does_iarith (p := 2) (q := 1) (r := (3)) (ev rfl) (ev rfl) (.inl ⟨rfl, rfl⟩)) rfl ?_
  refine q_is (l' := [(.agg #[(Fl r1), (Fl r3), (Fl r5), (Fl r7), (Iv A_g.x), (Iv A_g.y), (Iv A_g.z), (.slice p11 A_g.vals.length q12)]), (Pt b15 0), (Bo false), Ud, (Iv A_g.z), Ud, v24, v25, v26, v27, v28, v29, v30, v31, v32, (Bo β2), (.agg #[(Iv A_g.x), (Iv A_g.y), (Iv A_g.z)]), (Iv 3), (Bo true), (Iv A_g.z), (Iv A_g.z), (Bo (inI A_g.z 1 16)), (Bo (!(inI A_g.z 1 16))), (Iv 3), Ud, Ud, Ud, Ud, Ud, Ud, Ud, Ud, Ud, Ud, Ud, Ud, Ud, Ud, Ud, Ud, Ud]) rfl rfl (does_move (u := (Iv 3)) (ev rfl)) rfl ?_
  refine wpList_nil ?_
  refine un_step ?_
  refine wp_seq_k fun K80 hK80 => ?_
  refine wp_region_lit ?_
  refine q_is (l' := [(.agg #[(Fl r1), (Fl r3), (Fl r5), (Fl r7), (Iv A_g.x), (Iv A_g.y), (Iv A_g.z), (.slice p11 A_g.vals.length q12)]), (Pt b15 0), (Bo false), Ud, (Iv A_g.z), Ud, v24, v25, v26, v27, v28, v29, v30, v31, v32, (Bo β2), (.agg #[(Iv A_g.x), (Iv A_g.y), (Iv A_g.z)]), (Iv 3), (Bo false), (Iv A_g.z), (Iv A_g.z), (Bo (inI A_g.z 1 16)), (Bo (!(inI A_g.z 1 16))), (Iv 3), Ud, Ud, Ud, Ud, Ud, Ud, Ud, Ud, Ud, Ud, Ud, Ud, Ud, Ud, Ud, Ud, Ud]) rfl rfl (does_icmp (p := 3) (q := 3) (.inr (.inr (.inl rfl))) (ev rfl) (ev rfl)) rfl ?_
  refine wpList_nil (hK80 _ _ ?_)
  refine wp_seq_k fun K81 hK81 => ?_
  refine wp_cond_false (ev rfl) ?_
  refine wp_exit ?_
  refine hK42 _ _ ?_
  refine wp_seq_k fun K82 hK82 => ?_
  refine wp_region_lit ?_
  refine q_is (l' := [(.agg #[(Fl r1), (Fl r3), (Fl r5), (Fl r7), (Iv A_g.x), (Iv A_g.y), (Iv A_g.z), (.slice p11 A_g.vals.length q12)]), (Pt b15 0), (Bo false), Ud, (Iv A_g.z), Ud, v24, v25, v26, v27, v28, v29, v30, v31, v32, (Bo β2), (.agg #[(Iv A_g.x), (Iv A_g.y), (Iv A_g.z)]), (Iv 3), (Bo false), (Iv A_g.z), (Iv A_g.z), (Bo (inI A_g.z 1 16)), (Bo (!(inI A_g.z 1 16))), (Iv 3), (Pt b15 4), Ud, Ud, Ud, Ud, Ud, Ud, Ud, Ud, Ud, Ud, Ud, Ud, Ud, Ud, Ud, Ud]) rfl rfl (does_fieldAddr (ev rfl) fa32_2) rfl ?_
  refine q_is (l' := [(.agg #[(Fl r1), (Fl r3), (Fl r5), (Fl r7), (Iv A_g.x), (Iv A_g.y), (Iv A_g.z), (.slice p11 A_g.vals.length q12)]), (Pt b15 0), (Bo false), Ud, (Iv A_g.z), Ud, v24, v25, v26, v27, v28, v29, v30, v31, v32, (Bo β2), (.agg #[(Iv A_g.x), (Iv A_g.y), (Iv A_g.z)]), (Iv 3), (Bo false), (Iv A_g.z), (Iv A_g.z), (Bo (inI A_g.z 1 16)), (Bo (!(inI A_g.z 1 16))), (Iv 3), (Pt b15 4), (Iv A_g.x), Ud, Ud, Ud, Ud, Ud, Ud, Ud, Ud, Ud, Ud, Ud, Ud, Ud, Ud, Ud]) rfl rfl (does_load (u := (Iv A_g.x)) (ev rfl) Try.isAgg2 (Cells.at (Blk.cells (((((hB17.ext E35).ext E44).ext E52).ext E63).ext E74)) 4 rfl)) rfl ?_
  refine q_is (l' := [(.agg #[(Fl r1), (Fl r3), (Fl r5), (Fl r7), (Iv A_g.x), (Iv A_g.y), (Iv A_g.z), (.slice p11 A_g.vals.length q12)]), (Pt b15 0), (Bo false), Ud, (Iv A_g.z), Ud, v24, v25, v26, v27, v28, v29, v30, v31, v32, (Bo β2), (.agg #[(Iv A_g.x), (Iv A_g.y), (Iv A_g.z)]), (Iv 3), (Bo false), (Iv A_g.z), (Iv A_g.z), (Bo (inI A_g.z 1 16)), (Bo (!(inI A_g.z 1 16))), (Iv 3), (Pt b15 4), (Iv A_g.x), (Pt b15 5), Ud, Ud, Ud, Ud, Ud, Ud, Ud, Ud, Ud, Ud, Ud, Ud, Ud, Ud]) rfl rfl (does_fieldAddr (ev rfl) fa32_3) rfl ?_
  refine q_is (l' := [(.agg #[(Fl r1), (Fl r3), (Fl r5), (Fl r7), (Iv A_g.x), (Iv A_g.y), (Iv A_g.z), (.slice p11 A_g.vals.length q12)]), (Pt b15 0), (Bo false), Ud, (Iv A_g.z), Ud, v24, v25, v26, v27, v28, v29, v30, v31, v32, (Bo β2), (.agg #[(Iv A_g.x), (Iv A_g.y), (Iv A_g.z)]), (Iv 3), (Bo false), (Iv A_g.z), (Iv A_g.z), (Bo (inI A_g.z 1 16)), (Bo (!(inI A_g.z 1 16))), (Iv 3), (Pt b15 4), (Iv A_g.x), (Pt b15 5), (Iv A_g.y), Ud, Ud, Ud, Ud, Ud, Ud, Ud, Ud, Ud, Ud, Ud, Ud, Ud]) rfl rfl (does_load (u := (Iv A_g.y)) (ev rfl) Try.isAgg2 (Cells.at (Blk.cells (((((hB17.ext E35).ext E44).ext E52).ext E63).ext E74)) 5 rfl)) rfl ?_
  refine q_is (l' := [(.agg #[(Fl r1), (Fl r3), (Fl r5), (Fl r7), (Iv A_g.x), (Iv A_g.y), (Iv A_g.z), (.slice p11 A_g.vals.length q12)]), (Pt b15 0), (Bo false), Ud, (Iv A_g.z), Ud, v24, v25, v26, v27, v28, v29, v30, v31, v32, (Bo β2), (.agg #[(Iv A_g.x), (Iv A_g.y), (Iv A_g.z)]), (Iv 3), (Bo false), (Iv A_g.z), (Iv A_g.z), (Bo (inI A_g.z 1 16)), (Bo (!(inI A_g.z 1 16))), (Iv 3), (Pt b15 4), (Iv A_g.x), (Pt b15 5), (Iv A_g.y), (Iv (IntKind.i64.wrap (A_g.x * A_g.y))), Ud, Ud, Ud, Ud, Ud, Ud, Ud, Ud, Ud, Ud, Ud, Ud]) rfl rfl (does_iarith (p := A_g.x) (q := A_g.y) (r := IntKind.i64.wrap (A_g.x * A_g.y)) (ev rfl) (ev rfl) (.inr (.inr ⟨rfl, rfl⟩))) rfl ?_
  refine q_is (l' := [(.agg #[(Fl r1), (Fl r3), (Fl r5), (Fl r7), (Iv A_g.x), (Iv A_g.y), (Iv A_g.z), (.slice p11 A_g.vals.length q12)]), (Pt b15 0), (Bo false), Ud, (Iv A_g.z), Ud, v24, v25, v26, v27, v28, v29, v30, v31, v32, (Bo β2), (.agg #[(Iv A_g.x), (Iv A_g.y), (Iv A_g.z)]), (Iv 3), (Bo false), (Iv A_g.z), (Iv A_g.z), (Bo (inI A_g.z 1 16)), (Bo (!(inI A_g.z 1 16))), (Iv 3), (Pt b15 4), (Iv A_g.x), (Pt b15 5), (Iv A_g.y), (Iv (IntKind.i64.wrap (A_g.x * A_g.y))), (Pt b15 6), Ud, Ud, Ud, Ud, Ud, Ud, Ud, Ud, Ud, Ud, Ud]) rfl rfl (does_fieldAddr (ev rfl) fa32_4) rfl ?_
  refine q_is (l' := [(.agg #[(Fl r1), (Fl r3), (Fl r5), (Fl r7), (Iv A_g.x), (Iv A_g.y), (Iv A_g.z), (.slice p11 A_g.vals.length q12)]), (Pt b15 0), (Bo false), Ud, (Iv A_g.z), Ud, v24, v25, v26, v27, v28, v29, v30, v31, v32, (Bo β2), (.agg #[(Iv A_g.x), (Iv A_g.y), (Iv A_g.z)]), (Iv 3), (Bo false), (Iv A_g.z), (Iv A_g.z), (Bo (inI A_g.z 1 16)), (Bo (!(inI A_g.z 1 16))), (Iv 3), (Pt b15 4), (Iv A_g.x), (Pt b15 5), (Iv A_g.y), (Iv (IntKind.i64.wrap (A_g.x * A_g.y))), (Pt b15 6), (Iv A_g.z), Ud, Ud, Ud, Ud, Ud, Ud, Ud, Ud, Ud, Ud]) rfl rfl (does_load (u := (Iv A_g.z)) (ev rfl) Try.isAgg2 (Cells.at (Blk.cells (((((hB17.ext E35).ext E44).ext E52).ext E63).ext E74)) 6 rfl)) rfl ?_
  refine q_is (l' := [(.agg #[(Fl r1), (Fl r3), (Fl r5), (Fl r7), (Iv A_g.x), (Iv A_g.y), (Iv A_g.z), (.slice p11 A_g.vals.length q12)]), (Pt b15 0), (Bo false), Ud, (Iv A_g.z), Ud, v24, v25, v26, v27, v28, v29, v30, v31, v32, (Bo β2), (.agg #[(Iv A_g.x), (Iv A_g.y), (Iv A_g.z)]), (Iv 3), (Bo false), (Iv A_g.z), (Iv A_g.z), (Bo (inI A_g.z 1 16)), (Bo (!(inI A_g.z 1 16))), (Iv 3), (Pt b15 4), (Iv A_g.x), (Pt b15 5), (Iv A_g.y), (Iv (IntKind.i64.wrap (A_g.x * A_g.y))), (Pt b15 6), (Iv A_g.z), (Iv (IntKind.i64.wrap ((IntKind.i64.wrap (A_g.x * A_g.y)) * A_g.z))), Ud, Ud, Ud, Ud, Ud, Ud, Ud, Ud, Ud]) rfl rfl (does_iarith (p := IntKind.i64.wrap (A_g.x * A_g.y)) (q := A_g.z) (r := IntKind.i64.wrap ((IntKind.i64.wrap (A_g.x * A_g.y)) * A_g.z)) (ev rfl) (ev rfl) (.inr (.inr ⟨rfl, rfl⟩))) rfl ?_
  refine q_is (l' := [(.agg #[(Fl r1), (Fl r3), (Fl r5), (Fl r7), (Iv A_g.x), (Iv A_g.y), (Iv A_g.z), (.slice p11 A_g.vals.length q12)]), (Pt b15 0), (Bo false), Ud, (Iv A_g.z), (Iv (IntKind.i64.wrap ((IntKind.i64.wrap (A_g.x * A_g.y)) * A_g.z))), v24, v25, v26, v27, v28, v29, v30, v31, v32, (Bo β2), (.agg #[(Iv A_g.x), (Iv A_g.y), (Iv A_g.z)]), (Iv 3), (Bo false), (Iv A_g.z), (Iv A_g.z), (Bo (inI A_g.z 1 16)), (Bo (!(inI A_g.z 1 16))), (Iv 3), (Pt b15 4), (Iv A_g.x), (Pt b15 5), (Iv A_g.y), (Iv (IntKind.i64.wrap (A_g.x * A_g.y))), (Pt b15 6), (Iv A_g.z), (Iv (IntKind.i64.wrap ((IntKind.i64.wrap (A_g.x * A_g.y)) * A_g.z))), Ud, Ud, Ud, Ud, Ud, Ud, Ud, Ud, Ud]) rfl rfl (does_assign (u := (Iv (IntKind.i64.wrap ((IntKind.i64.wrap (A_g.x * A_g.y)) * A_g.z)))) (ev rfl)) rfl ?_
  refine wpList_nil (hK82 _ _ ?_)
  refine wp_seq_k fun K83 hK83 => ?_
  obtain ⟨β3, hβ3⟩ : ∃ b : Bool, b = (icmp .leq (IntKind.i64.wrap ((IntKind.i64.wrap (A_g.x * A_g.y)) * A_g.z)) 1024) := ⟨_, rfl⟩
  obtain ⟨β4, hβ4⟩ : ∃ b : Bool, b = (icmp .eql (A_g.vals.length : Int) (IntKind.i64.wrap ((IntKind.i64.wrap (A_g.x * A_g.y)) * A_g.z))) := ⟨_, rfl⟩
  refine region_text (
    [Fact.pure [] (fun v => v = (Iv (IntKind.i64.wrap ((IntKind.i64.wrap (A_g.x * A_g.y)) * A_g.z)))),
    Fact.pure [32] (fun v => v = (Bo β3)),
    Fact.pure [33] (fun v => v = (Bo β3)),
    Fact.pure [34] (fun v => β3 = true → v = (Pt b15 7)),
    Fact.pure [35, 34] (fun v => β3 = true → v = (.slice p11 A_g.vals.length q12)),
    Fact.pure [36, 34] (fun v => β3 = true → v = (Iv (A_g.vals.length : Int))),
    Fact.pure [34] (fun v => β3 = true → v = (Iv (IntKind.i64.wrap ((IntKind.i64.wrap (A_g.x * A_g.y)) * A_g.z)))),
    Fact.pure [37, 38, 34] (fun v => β3 = true → v = (Bo β4)),
    Fact.pure [34, 39] (fun v => v = (Bo (β3 && β4)))]) (by simp [Fact.pure, Fact.mem]) ?_
  refine RW_d (fun v84 => [(.agg #[(Fl r1), (Fl r3), (Fl r5), (Fl r7), (Iv A_g.x), (Iv A_g.y), (Iv A_g.z), (.slice p11 A_g.vals.length q12)]), (Pt b15 0), (Bo false), Ud, (Iv A_g.z), (Iv (IntKind.i64.wrap ((IntKind.i64.wrap (A_g.x * A_g.y)) * A_g.z))), v24, v25, v26, v27, v28, v29, v30, v31, v32, (Bo β2), (.agg #[(Iv A_g.x), (Iv A_g.y), (Iv A_g.z)]), (Iv 3), (Bo false), (Iv A_g.z), (Iv A_g.z), (Bo (inI A_g.z 1 16)), (Bo (!(inI A_g.z 1 16))), (Iv 3), (Pt b15 4), (Iv A_g.x), (Pt b15 5), (Iv A_g.y), (Iv (IntKind.i64.wrap (A_g.x * A_g.y))), (Pt b15 6), (Iv A_g.z), (Iv (IntKind.i64.wrap ((IntKind.i64.wrap (A_g.x * A_g.y)) * A_g.z))), v84, Ud, Ud, Ud, Ud, Ud, Ud, Ud, Ud]) rfl (fun _ => rfl) (fun u hu hF => ?_) (fun v84 => ?_)
  · clear hF
    refine doesG_un rfl ?_
    refine (does_move (u := (Iv (IntKind.i64.wrap ((IntKind.i64.wrap (A_g.x * A_g.y)) * A_g.z)))) (ev rfl)).mono ?_; rintro _ _ ⟨rfl, rfl⟩
    exact ⟨rfl, Ext.refl _⟩
  refine RW_d (fun v85 => [(.agg #[(Fl r1), (Fl r3), (Fl r5), (Fl r7), (Iv A_g.x), (Iv A_g.y), (Iv A_g.z), (.slice p11 A_g.vals.length q12)]), (Pt b15 0), (Bo false), Ud, (Iv A_g.z), (Iv (IntKind.i64.wrap ((IntKind.i64.wrap (A_g.x * A_g.y)) * A_g.z))), v24, v25, v26, v27, v28, v29, v30, v31, v32, (Bo β2), (.agg #[(Iv A_g.x), (Iv A_g.y), (Iv A_g.z)]), (Iv 3), (Bo false), (Iv A_g.z), (Iv A_g.z), (Bo (inI A_g.z 1 16)), (Bo (!(inI A_g.z 1 16))), (Iv 3), (Pt b15 4), (Iv A_g.x), (Pt b15 5), (Iv A_g.y), (Iv (IntKind.i64.wrap (A_g.x * A_g.y))), (Pt b15 6), (Iv A_g.z), (Iv (IntKind.i64.wrap ((IntKind.i64.wrap (A_g.x * A_g.y)) * A_g.z))), v84, v85, Ud, Ud, Ud, Ud, Ud, Ud, Ud]) rfl (fun _ => rfl) (fun u hu hF => ?_) (fun v85 => ?_)
  · have h32_ : v84 = (Iv (IntKind.i64.wrap ((IntKind.i64.wrap (A_g.x * A_g.y)) * A_g.z))) := hF.1
    clear hF
    refine doesG_un rfl ?_
    obtain rfl := h32_
    refine (does_icmp (p := IntKind.i64.wrap ((IntKind.i64.wrap (A_g.x * A_g.y)) * A_g.z)) (q := 1024) (.inr (.inr (.inr (.inl rfl)))) (ev rfl) (ev rfl)).mono ?_; rintro _ _ ⟨rfl, rfl⟩
    exact ⟨(by first | rfl | (show _ = _; simp only [hβ3])), Ext.refl _⟩
  refine RW_d (fun v86 => [(.agg #[(Fl r1), (Fl r3), (Fl r5), (Fl r7), (Iv A_g.x), (Iv A_g.y), (Iv A_g.z), (.slice p11 A_g.vals.length q12)]), (Pt b15 0), (Bo false), Ud, (Iv A_g.z), (Iv (IntKind.i64.wrap ((IntKind.i64.wrap (A_g.x * A_g.y)) * A_g.z))), v24, v25, v26, v27, v28, v29, v30, v31, v32, (Bo β2), (.agg #[(Iv A_g.x), (Iv A_g.y), (Iv A_g.z)]), (Iv 3), (Bo false), (Iv A_g.z), (Iv A_g.z), (Bo (inI A_g.z 1 16)), (Bo (!(inI A_g.z 1 16))), (Iv 3), (Pt b15 4), (Iv A_g.x), (Pt b15 5), (Iv A_g.y), (Iv (IntKind.i64.wrap (A_g.x * A_g.y))), (Pt b15 6), (Iv A_g.z), (Iv (IntKind.i64.wrap ((IntKind.i64.wrap (A_g.x * A_g.y)) * A_g.z))), v84, v85, v86, Ud, Ud, Ud, Ud, Ud, Ud]) rfl (fun _ => rfl) (fun u hu hF => ?_) (fun v86 => ?_)
  · have h33_ : v85 = (Bo β3) := hF.1
    clear hF
    refine doesG_un rfl ?_
    obtain rfl := h33_
    refine (does_move (u := (Bo β3)) (ev rfl)).mono ?_; rintro _ _ ⟨rfl, rfl⟩
    exact ⟨rfl, Ext.refl _⟩
  refine RW_d (fun v87 => [(.agg #[(Fl r1), (Fl r3), (Fl r5), (Fl r7), (Iv A_g.x), (Iv A_g.y), (Iv A_g.z), (.slice p11 A_g.vals.length q12)]), (Pt b15 0), (Bo false), Ud, (Iv A_g.z), (Iv (IntKind.i64.wrap ((IntKind.i64.wrap (A_g.x * A_g.y)) * A_g.z))), v24, v25, v26, v27, v28, v29, v30, v31, v32, (Bo β2), (.agg #[(Iv A_g.x), (Iv A_g.y), (Iv A_g.z)]), (Iv 3), (Bo false), (Iv A_g.z), (Iv A_g.z), (Bo (inI A_g.z 1 16)), (Bo (!(inI A_g.z 1 16))), (Iv 3), (Pt b15 4), (Iv A_g.x), (Pt b15 5), (Iv A_g.y), (Iv (IntKind.i64.wrap (A_g.x * A_g.y))), (Pt b15 6), (Iv A_g.z), (Iv (IntKind.i64.wrap ((IntKind.i64.wrap (A_g.x * A_g.y)) * A_g.z))), v84, v85, v86, v87, Ud, Ud, Ud, Ud, Ud]) rfl (fun _ => rfl) (fun u hu hF => ?_) (fun v87 => ?_)
  · have h34_ : v86 = (Bo β3) := hF.1
    clear hF
    obtain rfl := h34_
    refine doesG_g (b := β3) rfl (yld rfl rfl) (fun hg1 => ?_) (fun hc => ⟨fun hg1 => absurd hg1 hc, Ext.refl _⟩)
    refine (does_fieldAddr (ev rfl) fa32_5).mono ?_; rintro _ _ ⟨rfl, rfl⟩
    exact ⟨fun _ => rfl, Ext.refl _⟩
  refine RW_d (fun v88 => [(.agg #[(Fl r1), (Fl r3), (Fl r5), (Fl r7), (Iv A_g.x), (Iv A_g.y), (Iv A_g.z), (.slice p11 A_g.vals.length q12)]), (Pt b15 0), (Bo false), Ud, (Iv A_g.z), (Iv (IntKind.i64.wrap ((IntKind.i64.wrap (A_g.x * A_g.y)) * A_g.z))), v24, v25, v26, v27, v28, v29, v30, v31, v32, (Bo β2), (.agg #[(Iv A_g.x), (Iv A_g.y), (Iv A_g.z)]), (Iv 3), (Bo false), (Iv A_g.z), (Iv A_g.z), (Bo (inI A_g.z 1 16)), (Bo (!(inI A_g.z 1 16))), (Iv 3), (Pt b15 4), (Iv A_g.x), (Pt b15 5), (Iv A_g.y), (Iv (IntKind.i64.wrap (A_g.x * A_g.y))), (Pt b15 6), (Iv A_g.z), (Iv (IntKind.i64.wrap ((IntKind.i64.wrap (A_g.x * A_g.y)) * A_g.z))), v84, v85, v86, v87, v88, Ud, Ud, Ud, Ud]) rfl (fun _ => rfl) (fun u hu hF => ?_) (fun v88 => ?_)
  · have h35_ : β3 = true → v87 = (Pt b15 7) := hF.1
    have h34_ : v86 = (Bo β3) := hF.2.1
    clear hF
    obtain rfl := h34_
    refine doesG_g (b := β3) rfl (yld rfl rfl) (fun hg1 => ?_) (fun hc => ⟨fun hg1 => absurd hg1 hc, Ext.refl _⟩)
    obtain rfl := h35_ hg1
    refine (does_load (u := (.slice p11 A_g.vals.length q12)) (ev rfl) Try.isAgg25 (Cells.at (Blk.cells ((((((hB17.ext E35).ext E44).ext E52).ext E63).ext E74).ext hu)) 7 rfl)).mono ?_; rintro _ _ ⟨rfl, rfl⟩
    exact ⟨fun _ => rfl, Ext.refl _⟩
  refine RW_d (fun v89 => [(.agg #[(Fl r1), (Fl r3), (Fl r5), (Fl r7), (Iv A_g.x), (Iv A_g.y), (Iv A_g.z), (.slice p11 A_g.vals.length q12)]), (Pt b15 0), (Bo false), Ud, (Iv A_g.z), (Iv (IntKind.i64.wrap ((IntKind.i64.wrap (A_g.x * A_g.y)) * A_g.z))), v24, v25, v26, v27, v28, v29, v30, v31, v32, (Bo β2), (.agg #[(Iv A_g.x), (Iv A_g.y), (Iv A_g.z)]), (Iv 3), (Bo false), (Iv A_g.z), (Iv A_g.z), (Bo (inI A_g.z 1 16)), (Bo (!(inI A_g.z 1 16))), (Iv 3), (Pt b15 4), (Iv A_g.x), (Pt b15 5), (Iv A_g.y), (Iv (IntKind.i64.wrap (A_g.x * A_g.y))), (Pt b15 6), (Iv A_g.z), (Iv (IntKind.i64.wrap ((IntKind.i64.wrap (A_g.x * A_g.y)) * A_g.z))), v84, v85, v86, v87, v88, v89, Ud, Ud, Ud]) rfl (fun _ => rfl) (fun u hu hF => ?_) (fun v89 => ?_)
  · have h36_ : β3 = true → v88 = (.slice p11 A_g.vals.length q12) := hF.1
    have h34_ : v86 = (Bo β3) := hF.2.1
    clear hF
    obtain rfl := h34_
    refine doesG_g (b := β3) rfl (yld rfl rfl) (fun hg1 => ?_) (fun hc => ⟨fun hg1 => absurd hg1 hc, Ext.refl _⟩)
    obtain rfl := h36_ hg1
    refine (does_len_slice Try.underlying25 (ev rfl)).mono ?_; rintro _ _ ⟨rfl, rfl⟩
    exact ⟨fun _ => rfl, Ext.refl _⟩
  refine RW_d (fun v90 => [(.agg #[(Fl r1), (Fl r3), (Fl r5), (Fl r7), (Iv A_g.x), (Iv A_g.y), (Iv A_g.z), (.slice p11 A_g.vals.length q12)]), (Pt b15 0), (Bo false), Ud, (Iv A_g.z), (Iv (IntKind.i64.wrap ((IntKind.i64.wrap (A_g.x * A_g.y)) * A_g.z))), v24, v25, v26, v27, v28, v29, v30, v31, v32, (Bo β2), (.agg #[(Iv A_g.x), (Iv A_g.y), (Iv A_g.z)]), (Iv 3), (Bo false), (Iv A_g.z), (Iv A_g.z), (Bo (inI A_g.z 1 16)), (Bo (!(inI A_g.z 1 16))), (Iv 3), (Pt b15 4), (Iv A_g.x), (Pt b15 5), (Iv A_g.y), (Iv (IntKind.i64.wrap (A_g.x * A_g.y))), (Pt b15 6), (Iv A_g.z), (Iv (IntKind.i64.wrap ((IntKind.i64.wrap (A_g.x * A_g.y)) * A_g.z))), v84, v85, v86, v87, v88, v89, v90, Ud, Ud]) rfl (fun _ => rfl) (fun u hu hF => ?_) (fun v90 => ?_)
  · have h34_ : v86 = (Bo β3) := hF.1
    clear hF
    obtain rfl := h34_
    refine doesG_g (b := β3) rfl (yld rfl rfl) (fun hg1 => ?_) (fun hc => ⟨fun hg1 => absurd hg1 hc, Ext.refl _⟩)
    refine (does_move (u := (Iv (IntKind.i64.wrap ((IntKind.i64.wrap (A_g.x * A_g.y)) * A_g.z)))) (ev rfl)).mono ?_; rintro _ _ ⟨rfl, rfl⟩
    exact ⟨fun _ => rfl, Ext.refl _⟩
  refine RW_d (fun v91 => [(.agg #[(Fl r1), (Fl r3), (Fl r5), (Fl r7), (Iv A_g.x), (Iv A_g.y), (Iv A_g.z), (.slice p11 A_g.vals.length q12)]), (Pt b15 0), (Bo false), Ud, (Iv A_g.z), (Iv (IntKind.i64.wrap ((IntKind.i64.wrap (A_g.x * A_g.y)) * A_g.z))), v24, v25, v26, v27, v28, v29, v30, v31, v32, (Bo β2), (.agg #[(Iv A_g.x), (Iv A_g.y), (Iv A_g.z)]), (Iv 3), (Bo false), (Iv A_g.z), (Iv A_g.z), (Bo (inI A_g.z 1 16)), (Bo (!(inI A_g.z 1 16))), (Iv 3), (Pt b15 4), (Iv A_g.x), (Pt b15 5), (Iv A_g.y), (Iv (IntKind.i64.wrap (A_g.x * A_g.y))), (Pt b15 6), (Iv A_g.z), (Iv (IntKind.i64.wrap ((IntKind.i64.wrap (A_g.x * A_g.y)) * A_g.z))), v84, v85, v86, v87, v88, v89, v90, v91, Ud]) rfl (fun _ => rfl) (fun u hu hF => ?_) (fun v91 => ?_)
  · have h37_ : β3 = true → v89 = (Iv (A_g.vals.length : Int)) := hF.1
    have h38_ : β3 = true → v90 = (Iv (IntKind.i64.wrap ((IntKind.i64.wrap (A_g.x * A_g.y)) * A_g.z))) := hF.2.1
    have h34_ : v86 = (Bo β3) := hF.2.2.1
    clear hF
    obtain rfl := h34_
    refine doesG_g (b := β3) rfl (yld rfl rfl) (fun hg1 => ?_) (fun hc => ⟨fun hg1 => absurd hg1 hc, Ext.refl _⟩)
    obtain rfl := h37_ hg1
    obtain rfl := h38_ hg1
    refine (does_icmp (p := (A_g.vals.length : Int)) (q := IntKind.i64.wrap ((IntKind.i64.wrap (A_g.x * A_g.y)) * A_g.z)) (.inl rfl) (ev rfl) (ev rfl)).mono ?_; rintro _ _ ⟨rfl, rfl⟩
    exact ⟨fun _ => (by first | rfl | (show _ = _; simp only [hβ4])), Ext.refl _⟩
  refine RW_d (fun v92 => [(.agg #[(Fl r1), (Fl r3), (Fl r5), (Fl r7), (Iv A_g.x), (Iv A_g.y), (Iv A_g.z), (.slice p11 A_g.vals.length q12)]), (Pt b15 0), (Bo false), Ud, (Iv A_g.z), (Iv (IntKind.i64.wrap ((IntKind.i64.wrap (A_g.x * A_g.y)) * A_g.z))), v24, v25, v26, v27, v28, v29, v30, v31, v32, (Bo β2), (.agg #[(Iv A_g.x), (Iv A_g.y), (Iv A_g.z)]), (Iv 3), (Bo false), (Iv A_g.z), (Iv A_g.z), (Bo (inI A_g.z 1 16)), (Bo (!(inI A_g.z 1 16))), (Iv 3), (Pt b15 4), (Iv A_g.x), (Pt b15 5), (Iv A_g.y), (Iv (IntKind.i64.wrap (A_g.x * A_g.y))), (Pt b15 6), (Iv A_g.z), (Iv (IntKind.i64.wrap ((IntKind.i64.wrap (A_g.x * A_g.y)) * A_g.z))), v84, v85, v86, v87, v88, v89, v90, v91, v92]) rfl (fun _ => rfl) (fun u hu hF => ?_) (fun v92 => ?_)
  · have h34_ : v86 = (Bo β3) := hF.1
    have h39_ : β3 = true → v91 = (Bo β4) := hF.2.1
    clear hF
    refine doesG_un rfl ?_
    skip
    obtain rfl := h34_
    refine (does_pick (b := β3) (ev rfl) (ev rfl) (ev rfl)).mono ?_; rintro _ _ ⟨rfl, rfl⟩; refine ⟨?_, Ext.refl _⟩; skip
    cases hbb : β3 <;> simp [hbb] at h39_ ⊢
    all_goals (first | rfl | (subst h39_; rfl) | simp_all)
  refine RW_fin ?_; intro w93 E94 hP95
  obtain ⟨⟨⟨⟨⟨⟨⟨⟨⟨-, -⟩, -⟩, -⟩, -⟩, -⟩, -⟩, -⟩, -⟩, q96⟩ := hP95
  have X97 := Ext.gr X76 E94
  have q96 : v92 = (Bo (β3 && β4)) := q96
  obtain rfl := q96
  show wpList _ _ _ _ (fr [(.agg #[(Fl r1), (Fl r3), (Fl r5), (Fl r7), (Iv A_g.x), (Iv A_g.y), (Iv A_g.z), (.slice p11 A_g.vals.length q12)]), (Pt b15 0), (Bo false), Ud, (Iv A_g.z), (Iv (IntKind.i64.wrap ((IntKind.i64.wrap (A_g.x * A_g.y)) * A_g.z))), v24, v25, v26, v27, v28, v29, v30, v31, v32, (Bo β2), (.agg #[(Iv A_g.x), (Iv A_g.y), (Iv A_g.z)]), (Iv 3), (Bo false), (Iv A_g.z), (Iv A_g.z), (Bo (inI A_g.z 1 16)), (Bo (!(inI A_g.z 1 16))), (Iv 3), (Pt b15 4), (Iv A_g.x), (Pt b15 5), (Iv A_g.y), (Iv (IntKind.i64.wrap (A_g.x * A_g.y))), (Pt b15 6), (Iv A_g.z), (Iv (IntKind.i64.wrap ((IntKind.i64.wrap (A_g.x * A_g.y)) * A_g.z))), v84, v85, v86, v87, v88, v89, v90, v91, (Bo (β3 && β4))]) _
  refine q_is (l' := [(.agg #[(Fl r1), (Fl r3), (Fl r5), (Fl r7), (Iv A_g.x), (Iv A_g.y), (Iv A_g.z), (.slice p11 A_g.vals.length q12)]), (Pt b15 0), (Bo (β3 && β4)), Ud, (Iv A_g.z), (Iv (IntKind.i64.wrap ((IntKind.i64.wrap (A_g.x * A_g.y)) * A_g.z))), v24, v25, v26, v27, v28, v29, v30, v31, v32, (Bo β2), (.agg #[(Iv A_g.x), (Iv A_g.y), (Iv A_g.z)]), (Iv 3), (Bo false), (Iv A_g.z), (Iv A_g.z), (Bo (inI A_g.z 1 16)), (Bo (!(inI A_g.z 1 16))), (Iv 3), (Pt b15 4), (Iv A_g.x), (Pt b15 5), (Iv A_g.y), (Iv (IntKind.i64.wrap (A_g.x * A_g.y))), (Pt b15 6), (Iv A_g.z), (Iv (IntKind.i64.wrap ((IntKind.i64.wrap (A_g.x * A_g.y)) * A_g.z))), v84, v85, v86, v87, v88, v89, v90, v91, (Bo (β3 && β4))]) rfl rfl (does_assign (u := (Bo (β3 && β4))) (ev rfl)) rfl ?_
  refine wpList_nil (hK83 _ _ ?_)
  refine wp_ret ?_
  refine ret_val (v := (Bo (β3 && β4))) (res_T rfl (slot rfl)) X97 ?_
  try simp only [h2, h4, h6, h8, hβ1, hβ2, hβ3, hβ4] at c39 c55 c66 c77
  have x98 : (isGrid A_g) = (β3 && β4) := by first | with_reducible rfl | (simp only [isGrid, cntOk, prod3, h2, h4, h6, h8, hβ1, hβ2, hβ3, hβ4, c39, c55, c66, c77]; done) | (simp [isGrid, cntOk, prod3, h2, h4, h6, h8, hβ1, hβ2, hβ3, hβ4, c39, c55, c66, c77]; done) | (revert c39 c55 c66 c77; simp +contextual [isGrid, cntOk, prod3, h2, h4, h6, h8, hβ1, hβ2, hβ3, hβ4]; done) | (rcases c39' with hh | hh <;> simp only [hh, isGrid, cntOk, prod3, h2, h4, h6, h8, hβ1, hβ2, hβ3, hβ4, c39, c55, c66, c77]; done) | (rcases c55' with hh | hh <;> simp only [hh, isGrid, cntOk, prod3, h2, h4, h6, h8, hβ1, hβ2, hβ3, hβ4, c39, c55, c66, c77]; done) | (rcases c66' with hh | hh <;> simp only [hh, isGrid, cntOk, prod3, h2, h4, h6, h8, hβ1, hβ2, hβ3, hβ4, c39, c55, c66, c77]; done) | (rcases c77' with hh | hh <;> simp only [hh, isGrid, cntOk, prod3, h2, h4, h6, h8, hβ1, hβ2, hβ3, hβ4, c39, c55, c66, c77]; done) | (rcases c77' with hh | hh <;> simp_all [isGrid, cntOk, prod3]; done) | (rcases c77' with hh | hh | hh <;> simp_all [isGrid, cntOk, prod3]; done) | (rcases c77' with hh | hh | hh | hh <;> simp_all [isGrid, cntOk, prod3]; done) | (simp_all [isGrid, cntOk, prod3]; done) | rfl
  exact (by first | rfl | rw [x98])

/- (*impl.Grid).place -/
theorem c_impl_Grid_place (g_b : Nat) (g_o : Nat) (g : List Value) (A_g : GridT) (ix : Int) (w : World) (hc_g : Cells w g_b g_o g) (hv_g : RGridT w A_g g) (hgr : isGrid A_g = true) (hix : 0 ≤ ix ∧ ix < A_g.vals.length) : Gives Try.prog 111 #[(Pt g_b g_o), (Iv ix)] w (fun v w' => v = (.agg #[(Iv (ix % A_g.x)), (Iv (ix / A_g.x % A_g.y)), (Iv (ix / A_g.x / A_g.y))])) := by
  obtain ⟨r1, r3, r5, r7, y9, rfl, h2, h4, h6, h8, h10⟩ := hv_g
  have hs13 := h10; have hs13l := Sl.len h10; obtain ⟨p11, q12, rfl⟩ := Sl.shape h10
  obtain ⟨hnx, hny, hnz, hnxy, hni, hn1, hn2, hn3, hn4⟩ := nb_pre hgr hix
  refine enter [(Pt g_b g_o), (Iv ix), Ud, Ud, Ud, Ud, Ud, Ud, Ud, Ud, Ud, Ud, Ud, Ud, Ud, Ud, Ud, Ud, Ud, Ud, Ud, Ud, Ud, Ud, Ud, Ud, Ud, Ud, Ud, Ud, Ud, Ud, Ud, Ud] Try.func111 rfl Try.ntmps111 rfl ?_
  refine wp_seq_k fun K14 hK14 => ?_
  refine wp_region_lit ?_
  refine seqd rfl rfl (does_alloc z80) ?_; rintro _ w19 ⟨b15, rfl, hb16, hB17, E18⟩
  have n20 : g_b < b15 := Nat.lt_of_lt_of_le (cell_lt (Cells.at hc_g 0 rfl)) hb16
  have g21 : w.heap.size ≤ b15 := Nat.le_trans (Below.size (Ext.refl w)) hb16
  change Blk _ _ [(Iv 0), (Iv 0), (Iv 0)] at hB17
  have X22 := Ext.gr (Ext.refl w) E18
  show wpList _ _ _ _ (fr [(Pt g_b g_o), (Iv ix), Ud, Ud, (Pt b15 0), Ud, Ud, Ud, Ud, Ud, Ud, Ud, Ud, Ud, Ud, Ud, Ud, Ud, Ud, Ud, Ud, Ud, Ud, Ud, Ud, Ud, Ud, Ud, Ud, Ud, Ud, Ud, Ud, Ud]) _
  refine wpList_nil (hK14 _ _ ?_)
  refine wp_seq_k fun K23 hK23 => ?_
  refine region_draw (
    [Fact.pure [] (fun v => v = (Iv ix)),
    Fact.pure [] (fun v => v = (Pt g_b g_o)),
    Fact.pure [6] (fun v => v = (Pt g_b g_o)),
    Fact.pure [7] (fun v => v = (Pt g_b (g_o + 4))),
    Fact.pure [8] (fun v => v = (Iv A_g.x)),
    Fact.pure [5, 9] (fun v => v = (Iv (ix % A_g.x))),
    Fact.pure [] (fun v => v = (Iv ix)),
    Fact.pure [] (fun v => v = (Pt g_b g_o)),
    Fact.pure [12] (fun v => v = (Pt g_b g_o)),
    Fact.pure [13] (fun v => v = (Pt g_b (g_o + 4))),
    Fact.pure [14] (fun v => v = (Iv A_g.x)),
    Fact.pure [11, 15] (fun v => v = (Iv (ix / A_g.x))),
    Fact.pure [] (fun v => v = (Pt g_b g_o)),
    Fact.pure [17] (fun v => v = (Pt g_b g_o)),
    Fact.pure [18] (fun v => v = (Pt g_b (g_o + 5))),
    Fact.pure [19] (fun v => v = (Iv A_g.y)),
    Fact.pure [16, 20] (fun v => v = (Iv ((ix / A_g.x) % A_g.y))),
    Fact.pure [] (fun v => v = (Iv ix)),
    Fact.pure [] (fun v => v = (Pt g_b g_o)),
    Fact.pure [23] (fun v => v = (Pt g_b g_o)),
    Fact.pure [24] (fun v => v = (Pt g_b (g_o + 4))),
    Fact.pure [25] (fun v => v = (Iv A_g.x)),
    Fact.pure [22, 26] (fun v => v = (Iv (ix / A_g.x))),
    Fact.pure [] (fun v => v = (Pt g_b g_o)),
    Fact.pure [28] (fun v => v = (Pt g_b g_o)),
    Fact.pure [29] (fun v => v = (Pt g_b (g_o + 5))),
    Fact.pure [30] (fun v => v = (Iv A_g.y)),
    Fact.pure [27, 31] (fun v => v = (Iv ((ix / A_g.x) / A_g.y))),
    Fact.pure [10, 21, 32] (fun v => v = (.agg #[(Iv (ix % A_g.x)), (Iv ((ix / A_g.x) % A_g.y)), (Iv ((ix / A_g.x) / A_g.y))]))]) mixed (by kernel_rfl) (by intro _ _ d _ _ h; cases d <;> exact h) ?_
  obtain ⟨w24, hw26⟩ : ∃ w', w' = World.drew w19 := ⟨_, rfl⟩; rw [← hw26]; have E25 : Ext w19 w24 := by rw [hw26]; exact Ext.draw _
  clear hw26
  have X27 := Ext.gr X22 E25
  refine RW_d (fun v28 => [(Pt g_b g_o), (Iv ix), Ud, Ud, (Pt b15 0), v28, Ud, Ud, Ud, Ud, Ud, Ud, Ud, Ud, Ud, Ud, Ud, Ud, Ud, Ud, Ud, Ud, Ud, Ud, Ud, Ud, Ud, Ud, Ud, Ud, Ud, Ud, Ud, Ud]) rfl (fun _ => rfl) (fun u hu hF => ?_) (fun v28 => ?_)
  · clear hF
    refine doesG_un rfl ?_
    refine (does_move (u := (Iv ix)) (ev rfl)).mono ?_; rintro _ _ ⟨rfl, rfl⟩
    exact ⟨rfl, Ext.refl _⟩
  refine RW_d (fun v29 => [(Pt g_b g_o), (Iv ix), Ud, Ud, (Pt b15 0), v28, v29, Ud, Ud, Ud, Ud, Ud, Ud, Ud, Ud, Ud, Ud, Ud, Ud, Ud, Ud, Ud, Ud, Ud, Ud, Ud, Ud, Ud, Ud, Ud, Ud, Ud, Ud, Ud]) rfl (fun _ => rfl) (fun u hu hF => ?_) (fun v29 => ?_)
  · clear hF
    refine doesG_un rfl ?_
    refine (does_move (u := (Pt g_b g_o)) (ev rfl)).mono ?_; rintro _ _ ⟨rfl, rfl⟩
    exact ⟨rfl, Ext.refl _⟩
  refine RW_d (fun v30 => [(Pt g_b g_o), (Iv ix), Ud, Ud, (Pt b15 0), v28, v29, v30, Ud, Ud, Ud, Ud, Ud, Ud, Ud, Ud, Ud, Ud, Ud, Ud, Ud, Ud, Ud, Ud, Ud, Ud, Ud, Ud, Ud, Ud, Ud, Ud, Ud, Ud]) rfl (fun _ => rfl) (fun u hu hF => ?_) (fun v30 => ?_)
  · have h6_ : v29 = (Pt g_b g_o) := hF.1
    clear hF
    refine doesG_un rfl ?_
    obtain rfl := h6_
    refine (does_nilCheck (ev rfl)).mono ?_; rintro _ _ ⟨rfl, rfl⟩
    exact ⟨rfl, Ext.refl _⟩
  refine RW_d (fun v31 => [(Pt g_b g_o), (Iv ix), Ud, Ud, (Pt b15 0), v28, v29, v30, v31, Ud, Ud, Ud, Ud, Ud, Ud, Ud, Ud, Ud, Ud, Ud, Ud, Ud, Ud, Ud, Ud, Ud, Ud, Ud, Ud, Ud, Ud, Ud, Ud, Ud]) rfl (fun _ => rfl) (fun u hu hF => ?_) (fun v31 => ?_)
  · have h7_ : v30 = (Pt g_b g_o) := hF.1
    clear hF
    refine doesG_un rfl ?_
    obtain rfl := h7_
    refine (does_fieldAddr (ev rfl) fa32_2).mono ?_; rintro _ _ ⟨rfl, rfl⟩
    exact ⟨rfl, Ext.refl _⟩
  refine RW_d (fun v32 => [(Pt g_b g_o), (Iv ix), Ud, Ud, (Pt b15 0), v28, v29, v30, v31, v32, Ud, Ud, Ud, Ud, Ud, Ud, Ud, Ud, Ud, Ud, Ud, Ud, Ud, Ud, Ud, Ud, Ud, Ud, Ud, Ud, Ud, Ud, Ud, Ud]) rfl (fun _ => rfl) (fun u hu hF => ?_) (fun v32 => ?_)
  · have h8_ : v31 = (Pt g_b (g_o + 4)) := hF.1
    clear hF
    refine doesG_un rfl ?_
    obtain rfl := h8_
    refine (does_load (u := (Iv A_g.x)) (ev rfl) Try.isAgg2 (Cells.at ((hc_g.ext (Ext.gr X22 E25)).ext hu) 4 rfl)).mono ?_; rintro _ _ ⟨rfl, rfl⟩
    exact ⟨rfl, Ext.refl _⟩
  refine RW_d (fun v33 => [(Pt g_b g_o), (Iv ix), Ud, Ud, (Pt b15 0), v28, v29, v30, v31, v32, v33, Ud, Ud, Ud, Ud, Ud, Ud, Ud, Ud, Ud, Ud, Ud, Ud, Ud, Ud, Ud, Ud, Ud, Ud, Ud, Ud, Ud, Ud, Ud]) rfl (fun _ => rfl) (fun u hu hF => ?_) (fun v33 => ?_)
  · have h5_ : v28 = (Iv ix) := hF.1
    have h9_ : v32 = (Iv A_g.x) := hF.2.1
    clear hF
    refine doesG_un rfl ?_
    obtain rfl := h5_
    obtain rfl := h9_
    refine (does_irem (p := ix) (q := A_g.x) (ev rfl) (ev rfl) (by first | omega | assumption) (by first | omega | assumption) (by first | omega | assumption)).mono ?_; rintro _ _ ⟨rfl, rfl⟩
    exact ⟨rfl, Ext.refl _⟩
  refine RW_d (fun v34 => [(Pt g_b g_o), (Iv ix), Ud, Ud, (Pt b15 0), v28, v29, v30, v31, v32, v33, v34, Ud, Ud, Ud, Ud, Ud, Ud, Ud, Ud, Ud, Ud, Ud, Ud, Ud, Ud, Ud, Ud, Ud, Ud, Ud, Ud, Ud, Ud]) rfl (fun _ => rfl) (fun u hu hF => ?_) (fun v34 => ?_)
  · clear hF
    refine doesG_un rfl ?_
    refine (does_move (u := (Iv ix)) (ev rfl)).mono ?_; rintro _ _ ⟨rfl, rfl⟩
    exact ⟨rfl, Ext.refl _⟩
  refine RW_d (fun v35 => [(Pt g_b g_o), (Iv ix), Ud, Ud, (Pt b15 0), v28, v29, v30, v31, v32, v33, v34, v35, Ud, Ud, Ud, Ud, Ud, Ud, Ud, Ud, Ud, Ud, Ud, Ud, Ud, Ud, Ud, Ud, Ud, Ud, Ud, Ud, Ud]) rfl (fun _ => rfl) (fun u hu hF => ?_) (fun v35 => ?_)
  · clear hF
    refine doesG_un rfl ?_
    refine (does_move (u := (Pt g_b g_o)) (ev rfl)).mono ?_; rintro _ _ ⟨rfl, rfl⟩
    exact ⟨rfl, Ext.refl _⟩
  refine RW_d (fun v36 => [(Pt g_b g_o), (Iv ix), Ud, Ud, (Pt b15 0), v28, v29, v30, v31, v32, v33, v34, v35, v36, Ud, Ud, Ud, Ud, Ud, Ud, Ud, Ud, Ud, Ud, Ud, Ud, Ud, Ud, Ud, Ud, Ud, Ud, Ud, Ud]) rfl (fun _ => rfl) (fun u hu hF => ?_) (fun v36 => ?_)
  · have h12_ : v35 = (Pt g_b g_o) := hF.1
    clear hF
    refine doesG_un rfl ?_
    obtain rfl := h12_
    refine (does_nilCheck (ev rfl)).mono ?_; rintro _ _ ⟨rfl, rfl⟩
    exact ⟨rfl, Ext.refl _⟩
  refine RW_d (fun v37 => [(Pt g_b g_o), (Iv ix), Ud, Ud, (Pt b15 0), v28, v29, v30, v31, v32, v33, v34, v35, v36, v37, Ud, Ud, Ud, Ud, Ud, Ud, Ud, Ud, Ud, Ud, Ud, Ud, Ud, Ud, Ud, Ud, Ud, Ud, Ud]) rfl (fun _ => rfl) (fun u hu hF => ?_) (fun v37 => ?_)
  · have h13_ : v36 = (Pt g_b g_o) := hF.1
    clear hF
    refine doesG_un rfl ?_
    obtain rfl := h13_
    refine (does_fieldAddr (ev rfl) fa32_2).mono ?_; rintro _ _ ⟨rfl, rfl⟩
    exact ⟨rfl, Ext.refl _⟩
  refine RW_d (fun v38 => [(Pt g_b g_o), (Iv ix), Ud, Ud, (Pt b15 0), v28, v29, v30, v31, v32, v33, v34, v35, v36, v37, v38, Ud, Ud, Ud, Ud, Ud, Ud, Ud, Ud, Ud, Ud, Ud, Ud, Ud, Ud, Ud, Ud, Ud, Ud]) rfl (fun _ => rfl) (fun u hu hF => ?_) (fun v38 => ?_)
  · have h14_ : v37 = (Pt g_b (g_o + 4)) := hF.1
    clear hF
    refine doesG_un rfl ?_
    obtain rfl := h14_
    refine (does_load (u := (Iv A_g.x)) (ev rfl) Try.isAgg2 (Cells.at ((hc_g.ext (Ext.gr X22 E25)).ext hu) 4 rfl)).mono ?_; rintro _ _ ⟨rfl, rfl⟩
    exact ⟨rfl, Ext.refl _⟩
  refine RW_d (fun v39 => [(Pt g_b g_o), (Iv ix), Ud, Ud, (Pt b15 0), v28, v29, v30, v31, v32, v33, v34, v35, v36, v37, v38, v39, Ud, Ud, Ud, Ud, Ud, Ud, Ud, Ud, Ud, Ud, Ud, Ud, Ud, Ud, Ud, Ud, Ud]) rfl (fun _ => rfl) (fun u hu hF => ?_) (fun v39 => ?_)
  · have h11_ : v34 = (Iv ix) := hF.1
    have h15_ : v38 = (Iv A_g.x) := hF.2.1
    clear hF
    refine doesG_un rfl ?_
    obtain rfl := h11_
    obtain rfl := h15_
    refine (does_iquo (p := ix) (q := A_g.x) (ev rfl) (ev rfl) (by first | omega | assumption) (by first | omega | assumption) (by first | omega | assumption)).mono ?_; rintro _ _ ⟨rfl, rfl⟩
    exact ⟨rfl, Ext.refl _⟩
  refine RW_d (fun v40 => [(Pt g_b g_o), (Iv ix), Ud, Ud, (Pt b15 0), v28, v29, v30, v31, v32, v33, v34, v35, v36, v37, v38, v39, v40, Ud, Ud, Ud, Ud, Ud, Ud, Ud, Ud, Ud, Ud, Ud, Ud, Ud, Ud, Ud, Ud]) rfl (fun _ => rfl) (fun u hu hF => ?_) (fun v40 => ?_)
  · clear hF
    refine doesG_un rfl ?_
    refine (does_move (u := (Pt g_b g_o)) (ev rfl)).mono ?_; rintro _ _ ⟨rfl, rfl⟩
    exact ⟨rfl, Ext.refl _⟩
  refine RW_d (fun v41 => [(Pt g_b g_o), (Iv ix), Ud, Ud, (Pt b15 0), v28, v29, v30, v31, v32, v33, v34, v35, v36, v37, v38, v39, v40, v41, Ud, Ud, Ud, Ud, Ud, Ud, Ud, Ud, Ud, Ud, Ud, Ud, Ud, Ud, Ud]) rfl (fun _ => rfl) (fun u hu hF => ?_) (fun v41 => ?_)
  · have h17_ : v40 = (Pt g_b g_o) := hF.1
    clear hF
    refine doesG_un rfl ?_
    obtain rfl := h17_
    refine (does_nilCheck (ev rfl)).mono ?_; rintro _ _ ⟨rfl, rfl⟩
    exact ⟨rfl, Ext.refl _⟩
  refine RW_d (fun v42 => [(Pt g_b g_o), (Iv ix), Ud, Ud, (Pt b15 0), v28, v29, v30, v31, v32, v33, v34, v35, v36, v37, v38, v39, v40, v41, v42, Ud, Ud, Ud, Ud, Ud, Ud, Ud, Ud, Ud, Ud, Ud, Ud, Ud, Ud]) rfl (fun _ => rfl) (fun u hu hF => ?_) (fun v42 => ?_)
  · have h18_ : v41 = (Pt g_b g_o) := hF.1
    clear hF
    refine doesG_un rfl ?_
    obtain rfl := h18_
    refine (does_fieldAddr (ev rfl) fa32_3).mono ?_; rintro _ _ ⟨rfl, rfl⟩
    exact ⟨rfl, Ext.refl _⟩
  refine RW_d (fun v43 => [(Pt g_b g_o), (Iv ix), Ud, Ud, (Pt b15 0), v28, v29, v30, v31, v32, v33, v34, v35, v36, v37, v38, v39, v40, v41, v42, v43, Ud, Ud, Ud, Ud, Ud, Ud, Ud, Ud, Ud, Ud, Ud, Ud, Ud]) rfl (fun _ => rfl) (fun u hu hF => ?_) (fun v43 => ?_)
  · have h19_ : v42 = (Pt g_b (g_o + 5)) := hF.1
    clear hF
    refine doesG_un rfl ?_
    obtain rfl := h19_
    refine (does_load (u := (Iv A_g.y)) (ev rfl) Try.isAgg2 (Cells.at ((hc_g.ext (Ext.gr X22 E25)).ext hu) 5 rfl)).mono ?_; rintro _ _ ⟨rfl, rfl⟩
    exact ⟨rfl, Ext.refl _⟩
  refine RW_d (fun v44 => [(Pt g_b g_o), (Iv ix), Ud, Ud, (Pt b15 0), v28, v29, v30, v31, v32, v33, v34, v35, v36, v37, v38, v39, v40, v41, v42, v43, v44, Ud, Ud, Ud, Ud, Ud, Ud, Ud, Ud, Ud, Ud, Ud, Ud]) rfl (fun _ => rfl) (fun u hu hF => ?_) (fun v44 => ?_)
  · have h16_ : v39 = (Iv (ix / A_g.x)) := hF.1
    have h20_ : v43 = (Iv A_g.y) := hF.2.1
    clear hF
    refine doesG_un rfl ?_
    obtain rfl := h16_
    obtain rfl := h20_
    refine (does_irem (p := ix / A_g.x) (q := A_g.y) (ev rfl) (ev rfl) (by first | omega | assumption) (by first | omega | assumption) (by first | omega | assumption)).mono ?_; rintro _ _ ⟨rfl, rfl⟩
    exact ⟨rfl, Ext.refl _⟩
  refine RW_d (fun v45 => [(Pt g_b g_o), (Iv ix), Ud, Ud, (Pt b15 0), v28, v29, v30, v31, v32, v33, v34, v35, v36, v37, v38, v39, v40, v41, v42, v43, v44, v45, Ud, Ud, Ud, Ud, Ud, Ud, Ud, Ud, Ud, Ud, Ud]) rfl (fun _ => rfl) (fun u hu hF => ?_) (fun v45 => ?_)
  · clear hF
    refine doesG_un rfl ?_
    refine (does_move (u := (Iv ix)) (ev rfl)).mono ?_; rintro _ _ ⟨rfl, rfl⟩
    exact ⟨rfl, Ext.refl _⟩
  refine RW_d (fun v46 => [(Pt g_b g_o), (Iv ix), Ud, Ud, (Pt b15 0), v28, v29, v30, v31, v32, v33, v34, v35, v36, v37, v38, v39, v40, v41, v42, v43, v44, v45, v46, Ud, Ud, Ud, Ud, Ud, Ud, Ud, Ud, Ud, Ud]) rfl (fun _ => rfl) (fun u hu hF => ?_) (fun v46 => ?_)
  · clear hF
    refine doesG_un rfl ?_
    refine (does_move (u := (Pt g_b g_o)) (ev rfl)).mono ?_; rintro _ _ ⟨rfl, rfl⟩
    exact ⟨rfl, Ext.refl _⟩
  refine RW_d (fun v47 => [(Pt g_b g_o), (Iv ix), Ud, Ud, (Pt b15 0), v28, v29, v30, v31, v32, v33, v34, v35, v36, v37, v38, v39, v40, v41, v42, v43, v44, v45, v46, v47, Ud, Ud, Ud, Ud, Ud, Ud, Ud, Ud, Ud]) rfl (fun _ => rfl) (fun u hu hF => ?_) (fun v47 => ?_)
  · have h23_ : v46 = (Pt g_b g_o) := hF.1
    clear hF
    refine doesG_un rfl ?_
    obtain rfl := h23_
    refine (does_nilCheck (ev rfl)).mono ?_; rintro _ _ ⟨rfl, rfl⟩
    exact ⟨rfl, Ext.refl _⟩
  refine RW_d (fun v48 => [(Pt g_b g_o), (Iv ix), Ud, Ud, (Pt b15 0), v28, v29, v30, v31, v32, v33, v34, v35, v36, v37, v38, v39, v40, v41, v42, v43, v44, v45, v46, v47, v48, Ud, Ud, Ud, Ud, Ud, Ud, Ud, Ud]) rfl (fun _ => rfl) (fun u hu hF => ?_) (fun v48 => ?_)
  · have h24_ : v47 = (Pt g_b g_o) := hF.1
    clear hF
    refine doesG_un rfl ?_
    obtain rfl := h24_
    refine (does_fieldAddr (ev rfl) fa32_2).mono ?_; rintro _ _ ⟨rfl, rfl⟩
    exact ⟨rfl, Ext.refl _⟩
  refine RW_d (fun v49 => [(Pt g_b g_o), (Iv ix), Ud, Ud, (Pt b15 0), v28, v29, v30, v31, v32, v33, v34, v35, v36, v37, v38, v39, v40, v41, v42, v43, v44, v45, v46, v47, v48, v49, Ud, Ud, Ud, Ud, Ud, Ud, Ud]) rfl (fun _ => rfl) (fun u hu hF => ?_) (fun v49 => ?_)
  · have h25_ : v48 = (Pt g_b (g_o + 4)) := hF.1
    clear hF
    refine doesG_un rfl ?_
    obtain rfl := h25_
    refine (does_load (u := (Iv A_g.x)) (ev rfl) Try.isAgg2 (Cells.at ((hc_g.ext (Ext.gr X22 E25)).ext hu) 4 rfl)).mono ?_; rintro _ _ ⟨rfl, rfl⟩
    exact ⟨rfl, Ext.refl _⟩
  refine RW_d (fun v50 => [(Pt g_b g_o), (Iv ix), Ud, Ud, (Pt b15 0), v28, v29, v30, v31, v32, v33, v34, v35, v36, v37, v38, v39, v40, v41, v42, v43, v44, v45, v46, v47, v48, v49, v50, Ud, Ud, Ud, Ud, Ud, Ud]) rfl (fun _ => rfl) (fun u hu hF => ?_) (fun v50 => ?_)
  · have h22_ : v45 = (Iv ix) := hF.1
    have h26_ : v49 = (Iv A_g.x) := hF.2.1
    clear hF
    refine doesG_un rfl ?_
    obtain rfl := h22_
    obtain rfl := h26_
    refine (does_iquo (p := ix) (q := A_g.x) (ev rfl) (ev rfl) (by first | omega | assumption) (by first | omega | assumption) (by first | omega | assumption)).mono ?_; rintro _ _ ⟨rfl, rfl⟩
    exact ⟨rfl, Ext.refl _⟩
  refine RW_d (fun v51 => [(Pt g_b g_o), (Iv ix), Ud, Ud, (Pt b15 0), v28, v29, v30, v31, v32, v33, v34, v35, v36, v37, v38, v39, v40, v41, v42, v43, v44, v45, v46, v47, v48, v49, v50, v51, Ud, Ud, Ud, Ud, Ud]) rfl (fun _ => rfl) (fun u hu hF => ?_) (fun v51 => ?_)
  · clear hF
    refine doesG_un rfl ?_
    refine (does_move (u := (Pt g_b g_o)) (ev rfl)).mono ?_; rintro _ _ ⟨rfl, rfl⟩
    exact ⟨rfl, Ext.refl _⟩
  refine RW_d (fun v52 => [(Pt g_b g_o), (Iv ix), Ud, Ud, (Pt b15 0), v28, v29, v30, v31, v32, v33, v34, v35, v36, v37, v38, v39, v40, v41, v42, v43, v44, v45, v46, v47, v48, v49, v50, v51, v52, Ud, Ud, Ud, Ud]) rfl (fun _ => rfl) (fun u hu hF => ?_) (fun v52 => ?_)
  · have h28_ : v51 = (Pt g_b g_o) := hF.1
    clear hF
    refine doesG_un rfl ?_
    obtain rfl := h28_
    refine (does_nilCheck (ev rfl)).mono ?_; rintro _ _ ⟨rfl, rfl⟩
    exact ⟨rfl, Ext.refl _⟩
  refine RW_d (fun v53 => [(Pt g_b g_o), (Iv ix), Ud, Ud, (Pt b15 0), v28, v29, v30, v31, v32, v33, v34, v35, v36, v37, v38, v39, v40, v41, v42, v43, v44, v45, v46, v47, v48, v49, v50, v51, v52, v53, Ud, Ud, Ud]) rfl (fun _ => rfl) (fun u hu hF => ?_) (fun v53 => ?_)
  · have h29_ : v52 = (Pt g_b g_o) := hF.1
    clear hF
    refine doesG_un rfl ?_
    obtain rfl := h29_
    refine (does_fieldAddr (ev rfl) fa32_3).mono ?_; rintro _ _ ⟨rfl, rfl⟩
    exact ⟨rfl, Ext.refl _⟩
  refine RW_d (fun v54 => [(Pt g_b g_o), (Iv ix), Ud, Ud, (Pt b15 0), v28, v29, v30, v31, v32, v33, v34, v35, v36, v37, v38, v39, v40, v41, v42, v43, v44, v45, v46, v47, v48, v49, v50, v51, v52, v53, v54, Ud, Ud]) rfl (fun _ => rfl) (fun u hu hF => ?_) (fun v54 => ?_)
  · have h30_ : v53 = (Pt g_b (g_o + 5)) := hF.1
    clear hF
    refine doesG_un rfl ?_
    obtain rfl := h30_
    refine (does_load (u := (Iv A_g.y)) (ev rfl) Try.isAgg2 (Cells.at ((hc_g.ext (Ext.gr X22 E25)).ext hu) 5 rfl)).mono ?_; rintro _ _ ⟨rfl, rfl⟩
    exact ⟨rfl, Ext.refl _⟩
  refine RW_d (fun v55 => [(Pt g_b g_o), (Iv ix), Ud, Ud, (Pt b15 0), v28, v29, v30, v31, v32, v33, v34, v35, v36, v37, v38, v39, v40, v41, v42, v43, v44, v45, v46, v47, v48, v49, v50, v51, v52, v53, v54, v55, Ud]) rfl (fun _ => rfl) (fun u hu hF => ?_) (fun v55 => ?_)
  · have h27_ : v50 = (Iv (ix / A_g.x)) := hF.1
    have h31_ : v54 = (Iv A_g.y) := hF.2.1
    clear hF
    refine doesG_un rfl ?_
    obtain rfl := h27_
    obtain rfl := h31_
    refine (does_iquo (p := ix / A_g.x) (q := A_g.y) (ev rfl) (ev rfl) (by first | omega | assumption) (by first | omega | assumption) (by first | omega | assumption)).mono ?_; rintro _ _ ⟨rfl, rfl⟩
    exact ⟨rfl, Ext.refl _⟩
  refine RW_d (fun v56 => [(Pt g_b g_o), (Iv ix), Ud, Ud, (Pt b15 0), v28, v29, v30, v31, v32, v33, v34, v35, v36, v37, v38, v39, v40, v41, v42, v43, v44, v45, v46, v47, v48, v49, v50, v51, v52, v53, v54, v55, v56]) rfl (fun _ => rfl) (fun u hu hF => ?_) (fun v56 => ?_)
  · have h10_ : v33 = (Iv (ix % A_g.x)) := hF.1
    have h21_ : v44 = (Iv ((ix / A_g.x) % A_g.y)) := hF.2.1
    have h32_ : v55 = (Iv ((ix / A_g.x) / A_g.y)) := hF.2.2.1
    clear hF
    refine doesG_un rfl ?_
    obtain rfl := h10_
    obtain rfl := h21_
    obtain rfl := h32_
    refine (does_build (parts' := [(0, (Iv (ix % A_g.x))), (1, (Iv ((ix / A_g.x) % A_g.y))), (2, (Iv ((ix / A_g.x) / A_g.y)))]) (cells := #[(Iv (ix % A_g.x)), (Iv ((ix / A_g.x) % A_g.y)), (Iv ((ix / A_g.x) / A_g.y))]) (evp rfl) (by kernel_rfl)).mono ?_; rintro _ _ ⟨rfl, rfl⟩
    exact ⟨rfl, Ext.refl _⟩
  refine RW_fin ?_; intro w57 E58 hP59
  obtain ⟨⟨⟨⟨⟨⟨⟨⟨⟨⟨⟨⟨⟨⟨⟨⟨⟨⟨⟨⟨⟨⟨⟨⟨⟨⟨⟨⟨⟨-, -⟩, -⟩, -⟩, -⟩, -⟩, -⟩, -⟩, -⟩, -⟩, -⟩, -⟩, -⟩, -⟩, -⟩, -⟩, -⟩, -⟩, -⟩, -⟩, -⟩, -⟩, -⟩, -⟩, -⟩, -⟩, -⟩, -⟩, -⟩, q60⟩ := hP59
  have X61 := Ext.gr X27 E58
  have q60 : v56 = (.agg #[(Iv (ix % A_g.x)), (Iv ((ix / A_g.x) % A_g.y)), (Iv ((ix / A_g.x) / A_g.y))]) := q60
  obtain rfl := q60
  show wpList _ _ _ _ (fr [(Pt g_b g_o), (Iv ix), Ud, Ud, (Pt b15 0), v28, v29, v30, v31, v32, v33, v34, v35, v36, v37, v38, v39, v40, v41, v42, v43, v44, v45, v46, v47, v48, v49, v50, v51, v52, v53, v54, v55, (.agg #[(Iv (ix % A_g.x)), (Iv ((ix / A_g.x) % A_g.y)), (Iv ((ix / A_g.x) / A_g.y))])]) _
  refine seqn rfl rfl (does_store (n := 3) (cs := [(Iv 0), (Iv 0), (Iv 0)]) (u := (.agg #[(Iv (ix % A_g.x)), (Iv ((ix / A_g.x) % A_g.y)), (Iv ((ix / A_g.x) / A_g.y))])) (ev rfl) (ev rfl) Try.sizeOf80 rfl ((hB17.ext E25).ext E58) (Nat.le_of_ble_eq_true rfl) rfl) ?_; rintro _ w64 ⟨rfl, W62, hB63⟩
  change Blk _ _ [(Iv (ix % A_g.x)), (Iv ((ix / A_g.x) % A_g.y)), (Iv ((ix / A_g.x) / A_g.y))] at hB63
  have X65 := Below.wr X61 W62 g21
  refine wpList_nil (hK23 _ _ ?_)
  refine wp_ret ?_
  refine ret_val (v := (.agg #[(Iv (ix % A_g.x)), (Iv ((ix / A_g.x) % A_g.y)), (Iv ((ix / A_g.x) / A_g.y))])) (res_C rfl (slot rfl) (run_loadAgg (cs := [(Iv (ix % A_g.x)), (Iv ((ix / A_g.x) % A_g.y)), (Iv ((ix / A_g.x) / A_g.y))]) Try.isAgg80 Try.sizeOf80 (Blk.cells hB63) rfl)) X65 ?_
  have x66 : (ix % A_g.x : Int) = (ix % A_g.x) := by first | with_reducible rfl | (simp only [h2, h4, h6, h8]; done) | (simp [h2, h4, h6, h8]; done) | rfl
  have x67 : (ix / A_g.x % A_g.y : Int) = ((ix / A_g.x) % A_g.y) := by first | with_reducible rfl | (simp only [h2, h4, h6, h8]; done) | (simp [h2, h4, h6, h8]; done) | rfl
  have x68 : (ix / A_g.x / A_g.y : Int) = ((ix / A_g.x) / A_g.y) := by first | with_reducible rfl | (simp only [h2, h4, h6, h8]; done) | (simp [h2, h4, h6, h8]; done) | rfl
  exact (by first | rfl | rw [x66, x67, x68])

end Go.Proofs.Ytibfpalicagadaa
