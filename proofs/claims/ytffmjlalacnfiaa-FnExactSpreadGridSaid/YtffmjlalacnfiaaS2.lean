/- contracts of functions, each walked once -/
import Derived.Test.YtffmjlalacnfiaaS
namespace Go.Proofs.Ytffmjlalacnfiaa
open Go Go.RowKit
set_option maxRecDepth 100000
set_option maxHeartbeats 3200000
set_option linter.unusedVariables false
set_option linter.unusedSimpArgs false

/- spec.SpreadGrid -/
theorem c_spec_SpreadGrid (g : List Value) (A_g : GridT) (w : World) (hv_g : RGridT w A_g g) : Gives Try.prog 21 #[(.agg g.toArray)] w (fun v w' => ∃ cs_1 : List Value, v = (.tuple #[(.agg cs_1.toArray), (Iv (sprI A_g)), (Bo (sprB A_g))]) ∧ Hang w.heap.size w' (fun u => RGridT u (sprG A_g) cs_1)) := by
  obtain ⟨r1, r3, r5, r7, y9, rfl, h2, h4, h6, h8, h10⟩ := hv_g
  have hs13 := h10; have hs13l := Sl.len h10; obtain ⟨p11, q12, rfl⟩ := Sl.shape h10
  refine enter [(.agg #[(Fl r1), (Fl r3), (Fl r5), (Fl r7), (Iv A_g.x), (Iv A_g.y), (Iv A_g.z), (.slice p11 A_g.vals.length q12)]), Ud, Ud, Ud, Ud, Ud, Ud, Ud, Ud, Ud, Ud, Ud, Ud, Ud, Ud, Ud, Ud, Ud, Ud, Ud, Ud, Ud, Ud] Try.func21 rfl Try.ntmps21 rfl ?_
  refine wp_seq_k fun K14 hK14 => ?_
  refine wp_region_lit ?_
  refine seqd rfl rfl (does_box (u := (.agg #[(Fl r1), (Fl r3), (Fl r5), (Fl r7), (Iv A_g.x), (Iv A_g.y), (Iv A_g.z), (.slice p11 A_g.vals.length q12)])) (ev rfl)) ?_; rintro _ w19 ⟨b15, rfl, hb16, hB17, E18⟩
  have g20 : w.heap.size ≤ b15 := Nat.le_trans (Below.size (Ext.refl w)) hb16
  change Blk _ _ [(Fl r1), (Fl r3), (Fl r5), (Fl r7), (Iv A_g.x), (Iv A_g.y), (Iv A_g.z), (.slice p11 A_g.vals.length q12)] at hB17
  have X21 := Ext.gr (Ext.refl w) E18
  show wpList _ _ _ _ (fr [(.agg #[(Fl r1), (Fl r3), (Fl r5), (Fl r7), (Iv A_g.x), (Iv A_g.y), (Iv A_g.z), (.slice p11 A_g.vals.length q12)]), (Pt b15 0), Ud, Ud, Ud, Ud, Ud, Ud, Ud, Ud, Ud, Ud, Ud, Ud, Ud, Ud, Ud, Ud, Ud, Ud, Ud, Ud, Ud]) _
  refine seqd rfl rfl (does_alloc z31) ?_; rintro _ w26 ⟨b22, rfl, hb23, hB24, E25⟩
  have n27 : b15 < b22 := Nat.lt_of_lt_of_le (Blk.lt hB17) hb23
  have g28 : w.heap.size ≤ b22 := Nat.le_trans (Below.size X21) hb23
  change Blk _ _ [(Fl 0), (Fl 0), (Fl 0), (Fl 0), (Iv 0), (Iv 0), (Iv 0), (.slice none 0 0)] at hB24
  have X29 := Ext.gr X21 E25
  show wpList _ _ _ _ (fr [(.agg #[(Fl r1), (Fl r3), (Fl r5), (Fl r7), (Iv A_g.x), (Iv A_g.y), (Iv A_g.z), (.slice p11 A_g.vals.length q12)]), (Pt b15 0), (Pt b22 0), Ud, Ud, Ud, Ud, Ud, Ud, Ud, Ud, Ud, Ud, Ud, Ud, Ud, Ud, Ud, Ud, Ud, Ud, Ud, Ud]) _
  refine q_is (l' := [(.agg #[(Fl r1), (Fl r3), (Fl r5), (Fl r7), (Iv A_g.x), (Iv A_g.y), (Iv A_g.z), (.slice p11 A_g.vals.length q12)]), (Pt b15 0), (Pt b22 0), (Iv 0), Ud, Ud, Ud, Ud, Ud, Ud, Ud, Ud, Ud, Ud, Ud, Ud, Ud, Ud, Ud, Ud, Ud, Ud, Ud]) rfl rfl (does_assign (u := (Iv 0)) (ev rfl)) rfl ?_
  refine q_is (l' := [(.agg #[(Fl r1), (Fl r3), (Fl r5), (Fl r7), (Iv A_g.x), (Iv A_g.y), (Iv A_g.z), (.slice p11 A_g.vals.length q12)]), (Pt b15 0), (Pt b22 0), (Iv 0), (Bo false), Ud, Ud, Ud, Ud, Ud, Ud, Ud, Ud, Ud, Ud, Ud, Ud, Ud, Ud, Ud, Ud, Ud, Ud]) rfl rfl (does_assign (u := (Bo false)) (ev rfl)) rfl ?_
  refine wpList_nil (hK14 _ _ ?_)
  refine wp_seq_k fun K30 hK30 => ?_
  refine wp_seq_k fun K31 hK31 => ?_
  refine wp_region_lit ?_
  refine seqd rfl rfl (does_call (args := #[(Pt b15 0)]) cal24 (evs rfl) (c_spec_l06Is b15 0 [(Fl r1), (Fl r3), (Fl r5), (Fl r7), (Iv A_g.x), (Iv A_g.y), (Iv A_g.z), (.slice p11 A_g.vals.length q12)] A_g _ (Blk.cells (hB17.ext E25)) ⟨r1, r3, r5, r7, (.slice p11 A_g.vals.length q12), rfl, h2, h4, h6, h8, (Sl.ext hs13 RF.mono X29)⟩)) ?_; rintro _ w33 ⟨E32, rfl⟩
  have X34 := Ext.gr X29 E32
  show wpList _ _ _ _ (fr [(.agg #[(Fl r1), (Fl r3), (Fl r5), (Fl r7), (Iv A_g.x), (Iv A_g.y), (Iv A_g.z), (.slice p11 A_g.vals.length q12)]), (Pt b15 0), (Pt b22 0), (Iv 0), (Bo false), Ud, Ud, (Bo (isGrid A_g)), Ud, Ud, Ud, Ud, Ud, Ud, Ud, Ud, Ud, Ud, Ud, Ud, Ud, Ud, Ud]) _
  refine q_is (l' := [(.agg #[(Fl r1), (Fl r3), (Fl r5), (Fl r7), (Iv A_g.x), (Iv A_g.y), (Iv A_g.z), (.slice p11 A_g.vals.length q12)]), (Pt b15 0), (Pt b22 0), (Iv 0), (Bo false), Ud, Ud, (Bo (isGrid A_g)), (Bo (!(isGrid A_g))), Ud, Ud, Ud, Ud, Ud, Ud, Ud, Ud, Ud, Ud, Ud, Ud, Ud, Ud]) rfl rfl (does_not (ev rfl)) rfl ?_
  refine wpList_nil (hK31 _ _ ?_)
  refine wp_cond_split (t := !(isGrid A_g)) (ev rfl) (fun c35 => ?_) (fun c35 => ?_)
  · rw [Bool.not_eq_true'] at c35
    have c35' := c35
    have hgf : isGrid A_g = false := c35
    refine wp_seq_k fun K36 hK36 => ?_
    refine wp_region_lit ?_
    refine q_is (l' := [(.agg #[(Fl r1), (Fl r3), (Fl r5), (Fl r7), (Iv A_g.x), (Iv A_g.y), (Iv A_g.z), (.slice p11 A_g.vals.length q12)]), (Pt b15 0), (Pt b22 0), (Iv 0), (Bo false), Ud, Ud, (Bo (isGrid A_g)), (Bo (!(isGrid A_g))), (.agg #[(Fl 0), (Fl 0), (Fl 0), (Fl 0), (Iv 0), (Iv 0), (Iv 0), (.slice none 0 0)]), Ud, Ud, Ud, Ud, Ud, Ud, Ud, Ud, Ud, Ud, Ud, Ud, Ud]) rfl rfl (does_build (parts' := []) (cells := #[(Fl 0), (Fl 0), (Fl 0), (Fl 0), (Iv 0), (Iv 0), (Iv 0), (.slice none 0 0)]) (evp rfl) (by kernel_rfl)) rfl ?_
    refine seqn rfl rfl (does_store (n := 8) (cs := [(Fl 0), (Fl 0), (Fl 0), (Fl 0), (Iv 0), (Iv 0), (Iv 0), (.slice none 0 0)]) (u := (.agg #[(Fl 0), (Fl 0), (Fl 0), (Fl 0), (Iv 0), (Iv 0), (Iv 0), (.slice none 0 0)])) (ev rfl) (ev rfl) Try.sizeOf31 rfl (hB24.ext E32) (Nat.le_of_ble_eq_true rfl) rfl) ?_; rintro _ w39 ⟨rfl, W37, hB38⟩
    change Blk _ _ [(Fl 0), (Fl 0), (Fl 0), (Fl 0), (Iv 0), (Iv 0), (Iv 0), (.slice none 0 0)] at hB38
    have X40 := Below.wr X34 W37 g28
    refine q_is (l' := [(.agg #[(Fl r1), (Fl r3), (Fl r5), (Fl r7), (Iv A_g.x), (Iv A_g.y), (Iv A_g.z), (.slice p11 A_g.vals.length q12)]), (Pt b15 0), (Pt b22 0), (Iv 0), (Bo false), Ud, Ud, (Bo (isGrid A_g)), (Bo (!(isGrid A_g))), (.agg #[(Fl 0), (Fl 0), (Fl 0), (Fl 0), (Iv 0), (Iv 0), (Iv 0), (.slice none 0 0)]), Ud, Ud, Ud, Ud, Ud, Ud, Ud, Ud, Ud, Ud, Ud, Ud, Ud]) rfl rfl (does_assign (u := (Iv 0)) (ev rfl)) rfl ?_
    refine q_is (l' := [(.agg #[(Fl r1), (Fl r3), (Fl r5), (Fl r7), (Iv A_g.x), (Iv A_g.y), (Iv A_g.z), (.slice p11 A_g.vals.length q12)]), (Pt b15 0), (Pt b22 0), (Iv 0), (Bo false), Ud, Ud, (Bo (isGrid A_g)), (Bo (!(isGrid A_g))), (.agg #[(Fl 0), (Fl 0), (Fl 0), (Fl 0), (Iv 0), (Iv 0), (Iv 0), (.slice none 0 0)]), Ud, Ud, Ud, Ud, Ud, Ud, Ud, Ud, Ud, Ud, Ud, Ud, Ud]) rfl rfl (does_assign (u := (Bo false)) (ev rfl)) rfl ?_
    refine wpList_nil (hK36 _ _ ?_)
    refine wp_ret ?_
    dsimp only [Exit.then, Exit.inBlock]
    refine ret_val (v := (.tuple #[(.agg #[(Fl 0), (Fl 0), (Fl 0), (Fl 0), (Iv 0), (Iv 0), (Iv 0), (.slice none 0 0)]), (Iv 0), (Bo false)])) (res_CTT rfl (slot rfl) (run_loadAgg (cs := [(Fl 0), (Fl 0), (Fl 0), (Fl 0), (Iv 0), (Iv 0), (Iv 0), (.slice none 0 0)]) Try.isAgg31 Try.sizeOf31 (Blk.cells hB38) rfl) (slot rfl) (slot rfl)) X40 ?_
    try simp only [h2, h4, h6, h8] at c35
    have x41 : (sprI A_g : Int) = 0 := by first | exact sprB_f hgf | exact sprI_f hgf | exact sprB_n hfn | exact sprI_n hgr hfn | exact sprB_s hgr hfd | exact sprI_s hgr hfd | (rw [sprG_f hgf] <;> rfl) | (rw [sprG_n hgr hfn] <;> rfl) | (rw [sprG_s hgr hfd] <;> first | rfl | assumption | (simp only [h2, h4, h6, h8, c35]; done))
    have x42 : (sprB A_g) = false := by first | exact sprB_f hgf | exact sprI_f hgf | exact sprB_n hfn | exact sprI_n hgr hfn | exact sprB_s hgr hfd | exact sprI_s hgr hfd | (rw [sprG_f hgf] <;> rfl) | (rw [sprG_n hgr hfn] <;> rfl) | (rw [sprG_s hgr hfd] <;> first | rfl | assumption | (simp only [h2, h4, h6, h8, c35]; done))
    have x43 : cf .f32 0 = (sprG A_g).low.x := by first | exact sprB_f hgf | exact sprI_f hgf | exact sprB_n hfn | exact sprI_n hgr hfn | exact sprB_s hgr hfd | exact sprI_s hgr hfd | (rw [sprG_f hgf] <;> rfl) | (rw [sprG_n hgr hfn] <;> rfl) | (rw [sprG_s hgr hfd] <;> first | rfl | assumption | (simp only [h2, h4, h6, h8, c35]; done))
    have x44 : cf .f32 0 = (sprG A_g).low.y := by first | exact sprB_f hgf | exact sprI_f hgf | exact sprB_n hfn | exact sprI_n hgr hfn | exact sprB_s hgr hfd | exact sprI_s hgr hfd | (rw [sprG_f hgf] <;> rfl) | (rw [sprG_n hgr hfn] <;> rfl) | (rw [sprG_s hgr hfd] <;> first | rfl | assumption | (simp only [h2, h4, h6, h8, c35]; done))
    have x45 : cf .f32 0 = (sprG A_g).low.z := by first | exact sprB_f hgf | exact sprI_f hgf | exact sprB_n hfn | exact sprI_n hgr hfn | exact sprB_s hgr hfd | exact sprI_s hgr hfd | (rw [sprG_f hgf] <;> rfl) | (rw [sprG_n hgr hfn] <;> rfl) | (rw [sprG_s hgr hfd] <;> first | rfl | assumption | (simp only [h2, h4, h6, h8, c35]; done))
    have x46 : cf .f32 0 = (sprG A_g).step := by first | exact sprB_f hgf | exact sprI_f hgf | exact sprB_n hfn | exact sprI_n hgr hfn | exact sprB_s hgr hfd | exact sprI_s hgr hfd | (rw [sprG_f hgf] <;> rfl) | (rw [sprG_n hgr hfn] <;> rfl) | (rw [sprG_s hgr hfd] <;> first | rfl | assumption | (simp only [h2, h4, h6, h8, c35]; done))
    have x47 : (sprG A_g).x = 0 := by first | exact sprB_f hgf | exact sprI_f hgf | exact sprB_n hfn | exact sprI_n hgr hfn | exact sprB_s hgr hfd | exact sprI_s hgr hfd | (rw [sprG_f hgf] <;> rfl) | (rw [sprG_n hgr hfn] <;> rfl) | (rw [sprG_s hgr hfd] <;> first | rfl | assumption | (simp only [h2, h4, h6, h8, c35]; done))
    have x48 : (sprG A_g).y = 0 := by first | exact sprB_f hgf | exact sprI_f hgf | exact sprB_n hfn | exact sprI_n hgr hfn | exact sprB_s hgr hfd | exact sprI_s hgr hfd | (rw [sprG_f hgf] <;> rfl) | (rw [sprG_n hgr hfn] <;> rfl) | (rw [sprG_s hgr hfd] <;> first | rfl | assumption | (simp only [h2, h4, h6, h8, c35]; done))
    have x49 : (sprG A_g).z = 0 := by first | exact sprB_f hgf | exact sprI_f hgf | exact sprB_n hfn | exact sprI_n hgr hfn | exact sprB_s hgr hfd | exact sprI_s hgr hfd | (rw [sprG_f hgf] <;> rfl) | (rw [sprG_n hgr hfn] <;> rfl) | (rw [sprG_s hgr hfd] <;> first | rfl | assumption | (simp only [h2, h4, h6, h8, c35]; done))
    have x50 : ([]) = ((sprG A_g).vals) := by first | exact sprB_f hgf | exact sprI_f hgf | exact sprB_n hfn | exact sprI_n hgr hfn | exact sprB_s hgr hfd | exact sprI_s hgr hfd | (rw [sprG_f hgf] <;> rfl) | (rw [sprG_n hgr hfn] <;> rfl) | (rw [sprG_s hgr hfd] <;> first | rfl | assumption | (simp only [h2, h4, h6, h8, c35]; done))
    exact ⟨[(Fl 0), (Fl 0), (Fl 0), (Fl 0), (Iv 0), (Iv 0), (Iv 0), (.slice none 0 0)], (by first | rfl | rw [x41, x42] | rw [x42, x41]), fun u hu => ⟨0, 0, 0, 0, (.slice none 0 0), (by first | with_reducible rfl | (show _ = _; simp only [x47, x48, x49]) | rfl), x43, x44, x45, x46, (Hang.castL (Sl.hang_nil _ _ _ _) x50) u hu⟩⟩
  rw [Bool.not_eq_false'] at c35
  have c35' := c35
  have hgr : isGrid A_g = true := c35
  have hgc := isGrid_cnt hgr
  have hv0 := vol_pos hgr
  refine wp_skip (hK30 _ _ ?_)
  refine wp_seq_k fun K51 hK51 => ?_
  refine wp_region_lit ?_
  refine seqd rfl rfl (does_call (args := #[(Pt b15 0)]) cal43 (evs rfl) (c_spec_l06Own b15 0 [(Fl r1), (Fl r3), (Fl r5), (Fl r7), (Iv A_g.x), (Iv A_g.y), (Iv A_g.z), (.slice p11 A_g.vals.length q12)] A_g _ (Blk.cells ((hB17.ext E25).ext E32)) ⟨r1, r3, r5, r7, (.slice p11 A_g.vals.length q12), rfl, h2, h4, h6, h8, (Sl.ext hs13 RF.mono X34)⟩ (by omega))) ?_; rintro _ w53 ⟨E52, ⟨cs55, Lw56, rfl, hh54, hw57⟩⟩
  have X58 := Ext.gr X34 E52
  have n59 : b15 < w33.heap.size := Blk.lt ((hB17.ext E25).ext E32)
  have n60 : b22 < w33.heap.size := Blk.lt (hB24.ext E32)
  obtain ⟨r61, r63, r65, r67, y69, rfl, h62, h64, h66, h68, h70⟩ := hh54.get
  have h70l := Sl.len h70; obtain ⟨p71, q72, rfl⟩ := Sl.shape h70
  have hh73 : Hang w33.heap.size w53 (fun u => Sl RF 1 u (.slice p71 A_g.vals.length q72) A_g.vals) := fun u hu => by obtain ⟨_, _, _, _, _, hq, _, _, _, _, _⟩ := hh54 u hu; cases hq; assumption
  have hw74 : WL 1 w33.heap.size w53 Lw56 (.slice p71 A_g.vals.length q72) A_g.vals.length := hw57
  show wpList _ _ _ _ (fr [(.agg #[(Fl r1), (Fl r3), (Fl r5), (Fl r7), (Iv A_g.x), (Iv A_g.y), (Iv A_g.z), (.slice p11 A_g.vals.length q12)]), (Pt b15 0), (Pt b22 0), (Iv 0), (Bo false), Ud, Ud, (Bo (isGrid A_g)), (Bo (!(isGrid A_g))), Ud, (.agg #[(Fl r61), (Fl r63), (Fl r65), (Fl r67), (Iv A_g.x), (Iv A_g.y), (Iv A_g.z), (.slice p71 A_g.vals.length q72)]), Ud, Ud, Ud, Ud, Ud, Ud, Ud, Ud, Ud, Ud, Ud, Ud]) _
  refine seqd rfl rfl (does_alloc z31) ?_; rintro _ w79 ⟨b75, rfl, hb76, hB77, E78⟩
  have n80 : b15 < b75 := Nat.lt_of_lt_of_le (Blk.lt (((hB17.ext E25).ext E32).ext E52)) hb76
  have n81 : b22 < b75 := Nat.lt_of_lt_of_le (Blk.lt ((hB24.ext E32).ext E52)) hb76
  have g82 : w.heap.size ≤ b75 := Nat.le_trans (Below.size X58) hb76
  change Blk _ _ [(Fl 0), (Fl 0), (Fl 0), (Fl 0), (Iv 0), (Iv 0), (Iv 0), (.slice none 0 0)] at hB77
  have X83 := Ext.gr X58 E78
  show wpList _ _ _ _ (fr [(.agg #[(Fl r1), (Fl r3), (Fl r5), (Fl r7), (Iv A_g.x), (Iv A_g.y), (Iv A_g.z), (.slice p11 A_g.vals.length q12)]), (Pt b15 0), (Pt b22 0), (Iv 0), (Bo false), (Pt b75 0), Ud, (Bo (isGrid A_g)), (Bo (!(isGrid A_g))), Ud, (.agg #[(Fl r61), (Fl r63), (Fl r65), (Fl r67), (Iv A_g.x), (Iv A_g.y), (Iv A_g.z), (.slice p71 A_g.vals.length q72)]), Ud, Ud, Ud, Ud, Ud, Ud, Ud, Ud, Ud, Ud, Ud, Ud]) _
  refine seqn rfl rfl (does_store (n := 8) (cs := [(Fl 0), (Fl 0), (Fl 0), (Fl 0), (Iv 0), (Iv 0), (Iv 0), (.slice none 0 0)]) (u := (.agg #[(Fl r61), (Fl r63), (Fl r65), (Fl r67), (Iv A_g.x), (Iv A_g.y), (Iv A_g.z), (.slice p71 A_g.vals.length q72)])) (ev rfl) (ev rfl) Try.sizeOf31 rfl hB77 (Nat.le_of_ble_eq_true rfl) rfl) ?_; rintro _ w86 ⟨rfl, W84, hB85⟩
  change Blk _ _ [(Fl r61), (Fl r63), (Fl r65), (Fl r67), (Iv A_g.x), (Iv A_g.y), (Iv A_g.z), (.slice p71 A_g.vals.length q72)] at hB85
  have X87 := Below.wr X83 W84 g82
  refine wpList_nil (hK51 _ _ ?_)
  refine wp_seq_k fun K88 hK88 => ?_
  refine wp_seq_k fun K89 hK89 => ?_
  refine wp_region_lit ?_
  refine q_is (l' := [(.agg #[(Fl r1), (Fl r3), (Fl r5), (Fl r7), (Iv A_g.x), (Iv A_g.y), (Iv A_g.z), (.slice p11 A_g.vals.length q12)]), (Pt b15 0), (Pt b22 0), (Iv 0), (Bo false), (Pt b75 0), (Iv 0), (Bo (isGrid A_g)), (Bo (!(isGrid A_g))), Ud, (.agg #[(Fl r61), (Fl r63), (Fl r65), (Fl r67), (Iv A_g.x), (Iv A_g.y), (Iv A_g.z), (.slice p71 A_g.vals.length q72)]), Ud, Ud, Ud, Ud, Ud, Ud, Ud, Ud, Ud, Ud, Ud, Ud]) rfl rfl (does_assign (u := (Iv 0)) (ev rfl)) rfl ?_
  refine wpList_nil (hK89 _ _ ?_)
  refine wp_block ?_
  obtain ⟨gr90, hp91, hL92, hR93, hcap94, hB95⟩ := WL.row (hw74.same (((Same.refl _ _).ext E78).wr W84 (.inr (Nat.le_trans (Nat.le_refl _) hb76)))) (hh73 _ (((Same.refl _ _).ext E78).wr W84 (.inr (Nat.le_trans (Nat.le_refl _) hb76)))) (by omega)
  have n96 : b15 ≠ gr90 := Nat.ne_of_lt (Nat.lt_of_lt_of_le n59 hB95)
  have n97 : b22 ≠ gr90 := Nat.ne_of_lt (Nat.lt_of_lt_of_le n60 hB95)
  have n98 : gr90 ≠ b75 := Nat.ne_of_lt (Nat.lt_of_lt_of_le (hw74.1 gr90 (by rw [hL92]; simp)).2 (Nat.le_trans (Nat.le_refl _) hb76))
  have g99 : w.heap.size ≤ gr90 := Nat.le_trans (Nat.le_trans (Nat.le_trans (Below.size E18) (Below.size E25)) (Below.size E32)) hB95
  subst hp91; subst hL92
  refine loop_ghost (σ := Nat) (fun k a w' => ∃ u100 : Nat → Value, a = fr [(.agg #[(Fl r1), (Fl r3), (Fl r5), (Fl r7), (Iv A_g.x), (Iv A_g.y), (Iv A_g.z), (.slice p11 A_g.vals.length q12)]), (Pt b15 0), (Pt b22 0), (u100 3), (u100 4), (Pt b75 0), (Iv (k : Int)), (Bo (isGrid A_g)), (Bo (!(isGrid A_g))), Ud, (.agg #[(Fl r61), (Fl r63), (Fl r65), (Fl r67), (Iv A_g.x), (Iv A_g.y), (Iv A_g.z), (.slice (some ⟨gr90, 0, none⟩) A_g.vals.length q72)]), (u100 11), (u100 12), (u100 13), (u100 14), (u100 15), (u100 16), (u100 17), (u100 18), (u100 19), (u100 20), (u100 21), Ud] ∧ KpL [gr90] w86 w' ∧ RowF w' gr90 (swN A_g k) ∧ (k ≤ 33 ∧ ∀ j, j < k → stChg A_g j = true)) (fun k => 33 - k) 0 ?_ ?_
  · refine ⟨fun t => (([(.agg #[(Fl r1), (Fl r3), (Fl r5), (Fl r7), (Iv A_g.x), (Iv A_g.y), (Iv A_g.z), (.slice p11 A_g.vals.length q12)]), (Pt b15 0), (Pt b22 0), (Iv 0), (Bo false), (Pt b75 0), (Iv 0), (Bo (isGrid A_g)), (Bo (!(isGrid A_g))), Ud, (.agg #[(Fl r61), (Fl r63), (Fl r65), (Fl r67), (Iv A_g.x), (Iv A_g.y), (Iv A_g.z), (.slice (some ⟨gr90, 0, none⟩) A_g.vals.length q72)]), Ud, Ud, Ud, Ud, Ud, Ud, Ud, Ud, Ud, Ud, Ud, Ud] : List Value)[t]?).getD undef, rfl, KpL.refl _ _, (RowF.cast hR93 (by rfl)), ?_⟩
    exact ⟨by omega, fun j hj => by omega⟩
  · rintro k a w101 ⟨u100, rfl, E102, hRw, ⟨hk, hch⟩⟩
    have X104 := Below.kl X87 E102 (allS g99 all0) (Nat.le_refl _)
    have hR105 := hRw; clear hRw
    have hsl := swN_len A_g k
    have hgv := isGrid_vals hgr hsl
    refine wp_seq_k fun K106 hK106 => ?_
    refine wp_seq_k fun K107 hK107 => ?_
    refine wp_region_lit ?_
    refine q_is (l' := [(.agg #[(Fl r1), (Fl r3), (Fl r5), (Fl r7), (Iv A_g.x), (Iv A_g.y), (Iv A_g.z), (.slice p11 A_g.vals.length q12)]), (Pt b15 0), (Pt b22 0), (u100 3), (u100 4), (Pt b75 0), (Iv (k : Int)), (Bo (isGrid A_g)), (Bo (!(isGrid A_g))), Ud, (.agg #[(Fl r61), (Fl r63), (Fl r65), (Fl r67), (Iv A_g.x), (Iv A_g.y), (Iv A_g.z), (.slice (some ⟨gr90, 0, none⟩) A_g.vals.length q72)]), (Iv (k : Int)), (u100 12), (u100 13), (u100 14), (u100 15), (u100 16), (u100 17), (u100 18), (u100 19), (u100 20), (u100 21), Ud]) rfl rfl (does_move (u := (Iv (k : Int))) (ev rfl)) rfl ?_
    refine q_is (l' := [(.agg #[(Fl r1), (Fl r3), (Fl r5), (Fl r7), (Iv A_g.x), (Iv A_g.y), (Iv A_g.z), (.slice p11 A_g.vals.length q12)]), (Pt b15 0), (Pt b22 0), (u100 3), (u100 4), (Pt b75 0), (Iv (k : Int)), (Bo (isGrid A_g)), (Bo (!(isGrid A_g))), Ud, (.agg #[(Fl r61), (Fl r63), (Fl r65), (Fl r67), (Iv A_g.x), (Iv A_g.y), (Iv A_g.z), (.slice (some ⟨gr90, 0, none⟩) A_g.vals.length q72)]), (Iv (k : Int)), (Bo (icmp .leq (k : Int) 32)), (u100 13), (u100 14), (u100 15), (u100 16), (u100 17), (u100 18), (u100 19), (u100 20), (u100 21), Ud]) rfl rfl (does_icmp (p := (k : Int)) (q := 32) (.inr (.inr (.inr (.inl rfl)))) (ev rfl) (ev rfl)) rfl ?_
    refine wpList_nil (hK107 _ _ ?_)
    refine wp_cond_split (t := icmp .leq (k : Int) 32) (ev rfl) (fun c108 => ?_) (fun c108 => ?_)
    · have c108' := c108
      (try simp only [icmp, Bool.and_eq_true, Bool.or_eq_true, Bool.and_eq_false_iff, Bool.or_eq_false_iff, Bool.not_eq_true', Bool.not_eq_false', decide_eq_true_eq, decide_eq_false_iff_not, beq_iff_eq, bne_iff_ne, beq_eq_false_iff_ne, bne_eq_false_iff_eq] at c108')
      refine wp_skip (hK106 _ _ ?_)
      refine wp_seq_k fun K109 hK109 => ?_
      refine wp_block ?_
      refine wp_seq_k fun K110 hK110 => ?_
      refine wp_region_lit ?_
      refine q_is (l' := [(.agg #[(Fl r1), (Fl r3), (Fl r5), (Fl r7), (Iv A_g.x), (Iv A_g.y), (Iv A_g.z), (.slice p11 A_g.vals.length q12)]), (Pt b15 0), (Pt b22 0), (u100 3), (u100 4), (Pt b75 0), (Iv (k : Int)), (Bo (isGrid A_g)), (Bo (!(isGrid A_g))), Ud, (.agg #[(Fl r61), (Fl r63), (Fl r65), (Fl r67), (Iv A_g.x), (Iv A_g.y), (Iv A_g.z), (.slice (some ⟨gr90, 0, none⟩) A_g.vals.length q72)]), (Iv (k : Int)), (Bo (icmp .leq (k : Int) 32)), (u100 13), (u100 14), (Iv (k : Int)), (u100 16), (u100 17), (u100 18), (u100 19), (u100 20), (u100 21), Ud]) rfl rfl (does_move (u := (Iv (k : Int))) (ev rfl)) rfl ?_
      refine q_is (l' := [(.agg #[(Fl r1), (Fl r3), (Fl r5), (Fl r7), (Iv A_g.x), (Iv A_g.y), (Iv A_g.z), (.slice p11 A_g.vals.length q12)]), (Pt b15 0), (Pt b22 0), (u100 3), (u100 4), (Pt b75 0), (Iv (k : Int)), (Bo (isGrid A_g)), (Bo (!(isGrid A_g))), Ud, (.agg #[(Fl r61), (Fl r63), (Fl r65), (Fl r67), (Iv A_g.x), (Iv A_g.y), (Iv A_g.z), (.slice (some ⟨gr90, 0, none⟩) A_g.vals.length q72)]), (Iv (k : Int)), (Bo (icmp .leq (k : Int) 32)), (u100 13), (u100 14), (Iv (k : Int)), (Iv ((k : Int) % 2)), (u100 17), (u100 18), (u100 19), (u100 20), (u100 21), Ud]) rfl rfl (does_irem (p := (k : Int)) (q := 2) (ev rfl) (ev rfl) (by first | omega | assumption) (by first | omega | assumption) (by first | omega | assumption)) rfl ?_
      refine q_is (l' := [(.agg #[(Fl r1), (Fl r3), (Fl r5), (Fl r7), (Iv A_g.x), (Iv A_g.y), (Iv A_g.z), (.slice p11 A_g.vals.length q12)]), (Pt b15 0), (Pt b22 0), (u100 3), (u100 4), (Pt b75 0), (Iv (k : Int)), (Bo (isGrid A_g)), (Bo (!(isGrid A_g))), Ud, (.agg #[(Fl r61), (Fl r63), (Fl r65), (Fl r67), (Iv A_g.x), (Iv A_g.y), (Iv A_g.z), (.slice (some ⟨gr90, 0, none⟩) A_g.vals.length q72)]), (Iv (k : Int)), (Bo (icmp .leq (k : Int) 32)), (u100 13), (u100 14), (Iv (k : Int)), (Iv ((k : Int) % 2)), (Bo (icmp .eql ((k : Int) % 2) 1)), (u100 18), (u100 19), (u100 20), (u100 21), Ud]) rfl rfl (does_icmp (p := (k : Int) % 2) (q := 1) (.inl rfl) (ev rfl) (ev rfl)) rfl ?_
      refine seqd rfl rfl (does_callK (args := #[(Pt b75 0), (Bo (icmp .eql ((k : Int) % 2) 1))]) cal44 (evs rfl) (c_spec_l06Sweep b75 0 gr90 q72 [(Fl r61), (Fl r63), (Fl r65), (Fl r67), (Iv A_g.x), (Iv A_g.y), (Iv A_g.z), (.slice (some ⟨gr90, 0, none⟩) A_g.vals.length q72)] (GridT.mk A_g.low A_g.step A_g.x A_g.y A_g.z (swN A_g k)) (icmp .eql ((k : Int) % 2) 1) _ (Blk.cells (hB85.kl E102 (ninS (Ne.symm n98) nin0))) ⟨r61, r63, r65, r67, (.slice (some ⟨gr90, 0, none⟩) A_g.vals.length q72), rfl, h62, h64, h66, h68, (RowF.sl hR105 (by first | assumption | (simp only [sweepG_len, sweepTo_len, rowS_len, swN_len, List.length_set]; done) | omega | (simp only [sweepG_len, sweepTo_len, rowS_len, swN_len, List.length_set]; omega) | rfl) hcap94 (by omega))⟩ (by have hl_ : (swN A_g k).length = A_g.vals.length := (by first | assumption | (simp only [sweepG_len, sweepTo_len, rowS_len, swN_len, List.length_set]; done) | omega | (simp only [sweepG_len, sweepTo_len, rowS_len, swN_len, List.length_set]; omega) | rfl); show _ = some (Value.slice _ (swN A_g k).length _); rw [hl_]; rfl) hR105 (by have hl_ : (swN A_g k).length = A_g.vals.length := (by first | assumption | (simp only [sweepG_len, sweepTo_len, rowS_len, swN_len, List.length_set]; done) | omega | (simp only [sweepG_len, sweepTo_len, rowS_len, swN_len, List.length_set]; omega) | rfl); show (swN A_g k).length ≤ _; rw [hl_]; exact hcap94) (Ne.symm n98) (by exact hgv))) ?_; rintro _ w111 ⟨K112, rfl, hR113⟩
      have X114 := Below.kl X104 K112 (allS g99 all0) (Nat.le_refl _)
      show wpList _ _ _ _ (fr [(.agg #[(Fl r1), (Fl r3), (Fl r5), (Fl r7), (Iv A_g.x), (Iv A_g.y), (Iv A_g.z), (.slice p11 A_g.vals.length q12)]), (Pt b15 0), (Pt b22 0), (u100 3), (u100 4), (Pt b75 0), (Iv (k : Int)), (Bo (isGrid A_g)), (Bo (!(isGrid A_g))), Ud, (.agg #[(Fl r61), (Fl r63), (Fl r65), (Fl r67), (Iv A_g.x), (Iv A_g.y), (Iv A_g.z), (.slice (some ⟨gr90, 0, none⟩) A_g.vals.length q72)]), (Iv (k : Int)), (Bo (icmp .leq (k : Int) 32)), (u100 13), (u100 14), (Iv (k : Int)), (Iv ((k : Int) % 2)), (Bo (icmp .eql ((k : Int) % 2) 1)), (Bo ((sweepG (GridT.mk A_g.low A_g.step A_g.x A_g.y A_g.z (swN A_g k)) (icmp .eql ((k : Int) % 2) 1)).2)), (u100 19), (u100 20), (u100 21), Ud]) _
      refine q_is (l' := [(.agg #[(Fl r1), (Fl r3), (Fl r5), (Fl r7), (Iv A_g.x), (Iv A_g.y), (Iv A_g.z), (.slice p11 A_g.vals.length q12)]), (Pt b15 0), (Pt b22 0), (u100 3), (u100 4), (Pt b75 0), (Iv (k : Int)), (Bo (isGrid A_g)), (Bo (!(isGrid A_g))), Ud, (.agg #[(Fl r61), (Fl r63), (Fl r65), (Fl r67), (Iv A_g.x), (Iv A_g.y), (Iv A_g.z), (.slice (some ⟨gr90, 0, none⟩) A_g.vals.length q72)]), (Iv (k : Int)), (Bo (icmp .leq (k : Int) 32)), (u100 13), (u100 14), (Iv (k : Int)), (Iv ((k : Int) % 2)), (Bo (icmp .eql ((k : Int) % 2) 1)), (Bo ((sweepG (GridT.mk A_g.low A_g.step A_g.x A_g.y A_g.z (swN A_g k)) (icmp .eql ((k : Int) % 2) 1)).2)), (Bo (!((sweepG (GridT.mk A_g.low A_g.step A_g.x A_g.y A_g.z (swN A_g k)) (icmp .eql ((k : Int) % 2) 1)).2))), (u100 20), (u100 21), Ud]) rfl rfl (does_not (ev rfl)) rfl ?_
      refine wpList_nil (hK110 _ _ ?_)
      refine wp_cond_split (t := !((sweepG (GridT.mk A_g.low A_g.step A_g.x A_g.y A_g.z (swN A_g k)) (icmp .eql ((k : Int) % 2) 1)).2)) (ev rfl) (fun c115 => ?_) (fun c115 => ?_)
      · rw [Bool.not_eq_true'] at c115
        have c115' := c115
        (try simp only [icmp, Bool.and_eq_true, Bool.or_eq_true, Bool.and_eq_false_iff, Bool.or_eq_false_iff, Bool.not_eq_true', Bool.not_eq_false', decide_eq_true_eq, decide_eq_false_iff_not, beq_iff_eq, bne_iff_ne, beq_eq_false_iff_ne, bne_eq_false_iff_eq] at c115')
        have hnc : stChg A_g k = false := c115
        have hfd := sprFind_some (by omega) hch hnc
        refine wp_seq_k fun K116 hK116 => ?_
        refine wp_region_lit ?_
        refine q_is (l' := [(.agg #[(Fl r1), (Fl r3), (Fl r5), (Fl r7), (Iv A_g.x), (Iv A_g.y), (Iv A_g.z), (.slice p11 A_g.vals.length q12)]), (Pt b15 0), (Pt b22 0), (u100 3), (u100 4), (Pt b75 0), (Iv (k : Int)), (Bo (isGrid A_g)), (Bo (!(isGrid A_g))), Ud, (.agg #[(Fl r61), (Fl r63), (Fl r65), (Fl r67), (Iv A_g.x), (Iv A_g.y), (Iv A_g.z), (.slice (some ⟨gr90, 0, none⟩) A_g.vals.length q72)]), (Iv (k : Int)), (Bo (icmp .leq (k : Int) 32)), (u100 13), (u100 14), (Iv (k : Int)), (Iv ((k : Int) % 2)), (Bo (icmp .eql ((k : Int) % 2) 1)), (Bo ((sweepG (GridT.mk A_g.low A_g.step A_g.x A_g.y A_g.z (swN A_g k)) (icmp .eql ((k : Int) % 2) 1)).2)), (Bo (!((sweepG (GridT.mk A_g.low A_g.step A_g.x A_g.y A_g.z (swN A_g k)) (icmp .eql ((k : Int) % 2) 1)).2))), (.agg #[(Fl r61), (Fl r63), (Fl r65), (Fl r67), (Iv A_g.x), (Iv A_g.y), (Iv A_g.z), (.slice (some ⟨gr90, 0, none⟩) A_g.vals.length q72)]), (u100 21), Ud]) rfl rfl (does_loadAgg (cs := [(Fl r61), (Fl r63), (Fl r65), (Fl r67), (Iv A_g.x), (Iv A_g.y), (Iv A_g.z), (.slice (some ⟨gr90, 0, none⟩) A_g.vals.length q72)]) (ev rfl) Try.isAgg31 Try.sizeOf31 (Blk.cells ((hB85.kl E102 (ninS (Ne.symm n98) nin0)).kl K112 (ninS (Ne.symm n98) nin0))) rfl) rfl ?_
        refine q_is (l' := [(.agg #[(Fl r1), (Fl r3), (Fl r5), (Fl r7), (Iv A_g.x), (Iv A_g.y), (Iv A_g.z), (.slice p11 A_g.vals.length q12)]), (Pt b15 0), (Pt b22 0), (u100 3), (u100 4), (Pt b75 0), (Iv (k : Int)), (Bo (isGrid A_g)), (Bo (!(isGrid A_g))), Ud, (.agg #[(Fl r61), (Fl r63), (Fl r65), (Fl r67), (Iv A_g.x), (Iv A_g.y), (Iv A_g.z), (.slice (some ⟨gr90, 0, none⟩) A_g.vals.length q72)]), (Iv (k : Int)), (Bo (icmp .leq (k : Int) 32)), (u100 13), (u100 14), (Iv (k : Int)), (Iv ((k : Int) % 2)), (Bo (icmp .eql ((k : Int) % 2) 1)), (Bo ((sweepG (GridT.mk A_g.low A_g.step A_g.x A_g.y A_g.z (swN A_g k)) (icmp .eql ((k : Int) % 2) 1)).2)), (Bo (!((sweepG (GridT.mk A_g.low A_g.step A_g.x A_g.y A_g.z (swN A_g k)) (icmp .eql ((k : Int) % 2) 1)).2))), (.agg #[(Fl r61), (Fl r63), (Fl r65), (Fl r67), (Iv A_g.x), (Iv A_g.y), (Iv A_g.z), (.slice (some ⟨gr90, 0, none⟩) A_g.vals.length q72)]), (Iv (k : Int)), Ud]) rfl rfl (does_move (u := (Iv (k : Int))) (ev rfl)) rfl ?_
        refine seqn rfl rfl (does_store (n := 8) (cs := [(Fl 0), (Fl 0), (Fl 0), (Fl 0), (Iv 0), (Iv 0), (Iv 0), (.slice none 0 0)]) (u := (.agg #[(Fl r61), (Fl r63), (Fl r65), (Fl r67), (Iv A_g.x), (Iv A_g.y), (Iv A_g.z), (.slice (some ⟨gr90, 0, none⟩) A_g.vals.length q72)])) (ev rfl) (ev rfl) Try.sizeOf31 rfl ((((((hB24.ext E32).ext E52).ext E78).wr W84 (Nat.ne_of_lt n81)).kl E102 (ninS n97 nin0)).kl K112 (ninS n97 nin0)) (Nat.le_of_ble_eq_true rfl) rfl) ?_; rintro _ w119 ⟨rfl, W117, hB118⟩
        change Blk _ _ [(Fl r61), (Fl r63), (Fl r65), (Fl r67), (Iv A_g.x), (Iv A_g.y), (Iv A_g.z), (.slice (some ⟨gr90, 0, none⟩) A_g.vals.length q72)] at hB118
        have X120 := Below.wr X114 W117 g28
        refine q_is (l' := [(.agg #[(Fl r1), (Fl r3), (Fl r5), (Fl r7), (Iv A_g.x), (Iv A_g.y), (Iv A_g.z), (.slice p11 A_g.vals.length q12)]), (Pt b15 0), (Pt b22 0), (Iv (k : Int)), (u100 4), (Pt b75 0), (Iv (k : Int)), (Bo (isGrid A_g)), (Bo (!(isGrid A_g))), Ud, (.agg #[(Fl r61), (Fl r63), (Fl r65), (Fl r67), (Iv A_g.x), (Iv A_g.y), (Iv A_g.z), (.slice (some ⟨gr90, 0, none⟩) A_g.vals.length q72)]), (Iv (k : Int)), (Bo (icmp .leq (k : Int) 32)), (u100 13), (u100 14), (Iv (k : Int)), (Iv ((k : Int) % 2)), (Bo (icmp .eql ((k : Int) % 2) 1)), (Bo ((sweepG (GridT.mk A_g.low A_g.step A_g.x A_g.y A_g.z (swN A_g k)) (icmp .eql ((k : Int) % 2) 1)).2)), (Bo (!((sweepG (GridT.mk A_g.low A_g.step A_g.x A_g.y A_g.z (swN A_g k)) (icmp .eql ((k : Int) % 2) 1)).2))), (.agg #[(Fl r61), (Fl r63), (Fl r65), (Fl r67), (Iv A_g.x), (Iv A_g.y), (Iv A_g.z), (.slice (some ⟨gr90, 0, none⟩) A_g.vals.length q72)]), (Iv (k : Int)), Ud]) rfl rfl (does_assign (u := (Iv (k : Int))) (ev rfl)) rfl ?_
        refine q_is (l' := [(.agg #[(Fl r1), (Fl r3), (Fl r5), (Fl r7), (Iv A_g.x), (Iv A_g.y), (Iv A_g.z), (.slice p11 A_g.vals.length q12)]), (Pt b15 0), (Pt b22 0), (Iv (k : Int)), (Bo true), (Pt b75 0), (Iv (k : Int)), (Bo (isGrid A_g)), (Bo (!(isGrid A_g))), Ud, (.agg #[(Fl r61), (Fl r63), (Fl r65), (Fl r67), (Iv A_g.x), (Iv A_g.y), (Iv A_g.z), (.slice (some ⟨gr90, 0, none⟩) A_g.vals.length q72)]), (Iv (k : Int)), (Bo (icmp .leq (k : Int) 32)), (u100 13), (u100 14), (Iv (k : Int)), (Iv ((k : Int) % 2)), (Bo (icmp .eql ((k : Int) % 2) 1)), (Bo ((sweepG (GridT.mk A_g.low A_g.step A_g.x A_g.y A_g.z (swN A_g k)) (icmp .eql ((k : Int) % 2) 1)).2)), (Bo (!((sweepG (GridT.mk A_g.low A_g.step A_g.x A_g.y A_g.z (swN A_g k)) (icmp .eql ((k : Int) % 2) 1)).2))), (.agg #[(Fl r61), (Fl r63), (Fl r65), (Fl r67), (Iv A_g.x), (Iv A_g.y), (Iv A_g.z), (.slice (some ⟨gr90, 0, none⟩) A_g.vals.length q72)]), (Iv (k : Int)), Ud]) rfl rfl (does_assign (u := (Bo true)) (ev rfl)) rfl ?_
        refine wpList_nil (hK116 _ _ ?_)
        refine wp_ret ?_
        dsimp only [Exit.then, Exit.inBlock]
        refine ret_val (v := (.tuple #[(.agg #[(Fl r61), (Fl r63), (Fl r65), (Fl r67), (Iv A_g.x), (Iv A_g.y), (Iv A_g.z), (.slice (some ⟨gr90, 0, none⟩) A_g.vals.length q72)]), (Iv (k : Int)), (Bo true)])) (res_CTT rfl (slot rfl) (run_loadAgg (cs := [(Fl r61), (Fl r63), (Fl r65), (Fl r67), (Iv A_g.x), (Iv A_g.y), (Iv A_g.z), (.slice (some ⟨gr90, 0, none⟩) A_g.vals.length q72)]) Try.isAgg31 Try.sizeOf31 (Blk.cells hB118) rfl) (slot rfl) (slot rfl)) X120 ?_
        try simp only [h2, h4, h6, h8, h62, h64, h66, h68] at c35 c108 c115
        have x121 : (sprI A_g : Int) = (k : Int) := by first | exact sprB_f hgf | exact sprI_f hgf | exact sprB_n hfn | exact sprI_n hgr hfn | exact sprB_s hgr hfd | exact sprI_s hgr hfd | (rw [sprG_f hgf] <;> rfl) | (rw [sprG_n hgr hfn] <;> rfl) | (rw [sprG_s hgr hfd] <;> first | rfl | assumption | (simp only [h2, h4, h6, h8, h62, h64, h66, h68, c35, c108, c115]; done))
        have x122 : (sprB A_g) = true := by first | exact sprB_f hgf | exact sprI_f hgf | exact sprB_n hfn | exact sprI_n hgr hfn | exact sprB_s hgr hfd | exact sprI_s hgr hfd | (rw [sprG_f hgf] <;> rfl) | (rw [sprG_n hgr hfn] <;> rfl) | (rw [sprG_s hgr hfd] <;> first | rfl | assumption | (simp only [h2, h4, h6, h8, h62, h64, h66, h68, c35, c108, c115]; done))
        have x123 : cf .f32 r61 = (sprG A_g).low.x := by first | exact sprB_f hgf | exact sprI_f hgf | exact sprB_n hfn | exact sprI_n hgr hfn | exact sprB_s hgr hfd | exact sprI_s hgr hfd | (rw [sprG_f hgf] <;> rfl) | (rw [sprG_n hgr hfn] <;> rfl) | (rw [sprG_s hgr hfd] <;> first | rfl | assumption | (simp only [h2, h4, h6, h8, h62, h64, h66, h68, c35, c108, c115]; done))
        have x124 : cf .f32 r63 = (sprG A_g).low.y := by first | exact sprB_f hgf | exact sprI_f hgf | exact sprB_n hfn | exact sprI_n hgr hfn | exact sprB_s hgr hfd | exact sprI_s hgr hfd | (rw [sprG_f hgf] <;> rfl) | (rw [sprG_n hgr hfn] <;> rfl) | (rw [sprG_s hgr hfd] <;> first | rfl | assumption | (simp only [h2, h4, h6, h8, h62, h64, h66, h68, c35, c108, c115]; done))
        have x125 : cf .f32 r65 = (sprG A_g).low.z := by first | exact sprB_f hgf | exact sprI_f hgf | exact sprB_n hfn | exact sprI_n hgr hfn | exact sprB_s hgr hfd | exact sprI_s hgr hfd | (rw [sprG_f hgf] <;> rfl) | (rw [sprG_n hgr hfn] <;> rfl) | (rw [sprG_s hgr hfd] <;> first | rfl | assumption | (simp only [h2, h4, h6, h8, h62, h64, h66, h68, c35, c108, c115]; done))
        have x126 : cf .f32 r67 = (sprG A_g).step := by first | exact sprB_f hgf | exact sprI_f hgf | exact sprB_n hfn | exact sprI_n hgr hfn | exact sprB_s hgr hfd | exact sprI_s hgr hfd | (rw [sprG_f hgf] <;> rfl) | (rw [sprG_n hgr hfn] <;> rfl) | (rw [sprG_s hgr hfd] <;> first | rfl | assumption | (simp only [h2, h4, h6, h8, h62, h64, h66, h68, c35, c108, c115]; done))
        have x127 : (sprG A_g).x = A_g.x := by first | exact sprB_f hgf | exact sprI_f hgf | exact sprB_n hfn | exact sprI_n hgr hfn | exact sprB_s hgr hfd | exact sprI_s hgr hfd | (rw [sprG_f hgf] <;> rfl) | (rw [sprG_n hgr hfn] <;> rfl) | (rw [sprG_s hgr hfd] <;> first | rfl | assumption | (simp only [h2, h4, h6, h8, h62, h64, h66, h68, c35, c108, c115]; done))
        have x128 : (sprG A_g).y = A_g.y := by first | exact sprB_f hgf | exact sprI_f hgf | exact sprB_n hfn | exact sprI_n hgr hfn | exact sprB_s hgr hfd | exact sprI_s hgr hfd | (rw [sprG_f hgf] <;> rfl) | (rw [sprG_n hgr hfn] <;> rfl) | (rw [sprG_s hgr hfd] <;> first | rfl | assumption | (simp only [h2, h4, h6, h8, h62, h64, h66, h68, c35, c108, c115]; done))
        have x129 : (sprG A_g).z = A_g.z := by first | exact sprB_f hgf | exact sprI_f hgf | exact sprB_n hfn | exact sprI_n hgr hfn | exact sprB_s hgr hfd | exact sprI_s hgr hfd | (rw [sprG_f hgf] <;> rfl) | (rw [sprG_n hgr hfn] <;> rfl) | (rw [sprG_s hgr hfd] <;> first | rfl | assumption | (simp only [h2, h4, h6, h8, h62, h64, h66, h68, c35, c108, c115]; done))
        have x130 : ((sweepG (GridT.mk A_g.low A_g.step A_g.x A_g.y A_g.z (swN A_g k)) (icmp .eql ((k : Int) % 2) 1)).1) = ((sprG A_g).vals) := by first | exact sprB_f hgf | exact sprI_f hgf | exact sprB_n hfn | exact sprI_n hgr hfn | exact sprB_s hgr hfd | exact sprI_s hgr hfd | (rw [sprG_f hgf] <;> rfl) | (rw [sprG_n hgr hfn] <;> rfl) | (rw [sprG_s hgr hfd] <;> first | rfl | assumption | (simp only [h2, h4, h6, h8, h62, h64, h66, h68, c35, c108, c115]; done))
        exact ⟨[(Fl r61), (Fl r63), (Fl r65), (Fl r67), (Iv A_g.x), (Iv A_g.y), (Iv A_g.z), (.slice (some ⟨gr90, 0, none⟩) A_g.vals.length q72)], (by first | rfl | rw [x121, x122] | rw [x122, x121]), fun u hu => ⟨r61, r63, r65, r67, (.slice (some ⟨gr90, 0, none⟩) A_g.vals.length q72), (by first | with_reducible rfl | (show _ = _; simp only [x127, x128, x129]) | rfl), x123, x124, x125, x126, (Hang.castL (RowF.hang (hR113.wr W117 (Ne.symm n97)) (by first | assumption | (simp only [sweepG_len, sweepTo_len, rowS_len, swN_len, List.length_set]; done) | omega | (simp only [sweepG_len, sweepTo_len, rowS_len, swN_len, List.length_set]; omega) | rfl) g99 hcap94 (by omega)) x130) u hu⟩⟩
      rw [Bool.not_eq_false'] at c115
      have c115' := c115
      (try simp only [icmp, Bool.and_eq_true, Bool.or_eq_true, Bool.and_eq_false_iff, Bool.or_eq_false_iff, Bool.not_eq_true', Bool.not_eq_false', decide_eq_true_eq, decide_eq_false_iff_not, beq_iff_eq, bne_iff_ne, beq_eq_false_iff_ne, bne_eq_false_iff_eq] at c115')
      have hcc : stChg A_g k = true := c115
      refine wp_skip (hK109 _ _ ?_)
      refine wp_region_lit ?_
      refine q_is (l' := [(.agg #[(Fl r1), (Fl r3), (Fl r5), (Fl r7), (Iv A_g.x), (Iv A_g.y), (Iv A_g.z), (.slice p11 A_g.vals.length q12)]), (Pt b15 0), (Pt b22 0), (u100 3), (u100 4), (Pt b75 0), (Iv (k : Int)), (Bo (isGrid A_g)), (Bo (!(isGrid A_g))), Ud, (.agg #[(Fl r61), (Fl r63), (Fl r65), (Fl r67), (Iv A_g.x), (Iv A_g.y), (Iv A_g.z), (.slice (some ⟨gr90, 0, none⟩) A_g.vals.length q72)]), (Iv (k : Int)), (Bo (icmp .leq (k : Int) 32)), (Iv (k : Int)), (u100 14), (Iv (k : Int)), (Iv ((k : Int) % 2)), (Bo (icmp .eql ((k : Int) % 2) 1)), (Bo ((sweepG (GridT.mk A_g.low A_g.step A_g.x A_g.y A_g.z (swN A_g k)) (icmp .eql ((k : Int) % 2) 1)).2)), (Bo (!((sweepG (GridT.mk A_g.low A_g.step A_g.x A_g.y A_g.z (swN A_g k)) (icmp .eql ((k : Int) % 2) 1)).2))), (u100 20), (u100 21), Ud]) rfl rfl (does_move (u := (Iv (k : Int))) (ev rfl)) rfl ?_
      refine q_is (l' := [(.agg #[(Fl r1), (Fl r3), (Fl r5), (Fl r7), (Iv A_g.x), (Iv A_g.y), (Iv A_g.z), (.slice p11 A_g.vals.length q12)]), (Pt b15 0), (Pt b22 0), (u100 3), (u100 4), (Pt b75 0), (Iv (k : Int)), (Bo (isGrid A_g)), (Bo (!(isGrid A_g))), Ud, (.agg #[(Fl r61), (Fl r63), (Fl r65), (Fl r67), (Iv A_g.x), (Iv A_g.y), (Iv A_g.z), (.slice (some ⟨gr90, 0, none⟩) A_g.vals.length q72)]), (Iv (k : Int)), (Bo (icmp .leq (k : Int) 32)), (Iv (k : Int)), (Iv ((k : Int) + 1)), (Iv (k : Int)), (Iv ((k : Int) % 2)), (Bo (icmp .eql ((k : Int) % 2) 1)), (Bo ((sweepG (GridT.mk A_g.low A_g.step A_g.x A_g.y A_g.z (swN A_g k)) (icmp .eql ((k : Int) % 2) 1)).2)), (Bo (!((sweepG (GridT.mk A_g.low A_g.step A_g.x A_g.y A_g.z (swN A_g k)) (icmp .eql ((k : Int) % 2) 1)).2))), (u100 20), (u100 21), Ud]) rfl rfl (does_iarith (p := (k : Int)) (q := 1) (r := (k : Int) + 1) (ev rfl) (ev rfl) (.inl ⟨rfl, (in_i64 (by omega) (by omega)).symm⟩)) rfl ?_
      refine q_is (l' := [(.agg #[(Fl r1), (Fl r3), (Fl r5), (Fl r7), (Iv A_g.x), (Iv A_g.y), (Iv A_g.z), (.slice p11 A_g.vals.length q12)]), (Pt b15 0), (Pt b22 0), (u100 3), (u100 4), (Pt b75 0), (Iv ((k : Int) + 1)), (Bo (isGrid A_g)), (Bo (!(isGrid A_g))), Ud, (.agg #[(Fl r61), (Fl r63), (Fl r65), (Fl r67), (Iv A_g.x), (Iv A_g.y), (Iv A_g.z), (.slice (some ⟨gr90, 0, none⟩) A_g.vals.length q72)]), (Iv (k : Int)), (Bo (icmp .leq (k : Int) 32)), (Iv (k : Int)), (Iv ((k : Int) + 1)), (Iv (k : Int)), (Iv ((k : Int) % 2)), (Bo (icmp .eql ((k : Int) % 2) 1)), (Bo ((sweepG (GridT.mk A_g.low A_g.step A_g.x A_g.y A_g.z (swN A_g k)) (icmp .eql ((k : Int) % 2) 1)).2)), (Bo (!((sweepG (GridT.mk A_g.low A_g.step A_g.x A_g.y A_g.z (swN A_g k)) (icmp .eql ((k : Int) % 2) 1)).2))), (u100 20), (u100 21), Ud]) rfl rfl (does_assign (u := (Iv ((k : Int) + 1))) (ev rfl)) rfl ?_
      refine wpList_nil ?_
      have hR131 := RowF.cast (ys := ((fun (k : Nat) => swN A_g k) (k + 1))) hR113 (by (try dsimp only); rfl)
      refine ⟨k + 1, ⟨fun t => (([(.agg #[(Fl r1), (Fl r3), (Fl r5), (Fl r7), (Iv A_g.x), (Iv A_g.y), (Iv A_g.z), (.slice p11 A_g.vals.length q12)]), (Pt b15 0), (Pt b22 0), (u100 3), (u100 4), (Pt b75 0), (Iv ((k : Int) + 1)), (Bo (isGrid A_g)), (Bo (!(isGrid A_g))), Ud, (.agg #[(Fl r61), (Fl r63), (Fl r65), (Fl r67), (Iv A_g.x), (Iv A_g.y), (Iv A_g.z), (.slice (some ⟨gr90, 0, none⟩) A_g.vals.length q72)]), (Iv (k : Int)), (Bo (icmp .leq (k : Int) 32)), (Iv (k : Int)), (Iv ((k : Int) + 1)), (Iv (k : Int)), (Iv ((k : Int) % 2)), (Bo (icmp .eql ((k : Int) % 2) 1)), (Bo ((sweepG (GridT.mk A_g.low A_g.step A_g.x A_g.y A_g.z (swN A_g k)) (icmp .eql ((k : Int) % 2) 1)).2)), (Bo (!((sweepG (GridT.mk A_g.low A_g.step A_g.x A_g.y A_g.z (swN A_g k)) (icmp .eql ((k : Int) % 2) 1)).2))), (u100 20), (u100 21), Ud] : List Value)[t]?).getD undef, ?_, (KpL.more E102 K112 (allS (.inl (by simp)) all0)), hR131, ?_⟩, ?_⟩
      · first | rfl | (simp only [Nat.cast_add, Nat.cast_one, Int.natCast_add, Int.natCast_one]; rfl)
      · exact ⟨by omega, chg_step hch hcc⟩
      · omega
    have c108' := c108
    (try simp only [icmp, Bool.and_eq_true, Bool.or_eq_true, Bool.and_eq_false_iff, Bool.or_eq_false_iff, Bool.not_eq_true', Bool.not_eq_false', decide_eq_true_eq, decide_eq_false_iff_not, beq_iff_eq, bne_iff_ne, beq_eq_false_iff_ne, bne_eq_false_iff_eq] at c108')
    have hfn := sprFind_none (fun j hj => hch j (by omega))
    refine wp_exit ?_
    refine hK88 _ _ ?_
    refine wp_seq_k fun K132 hK132 => ?_
    refine wp_region_lit ?_
    refine q_is (l' := [(.agg #[(Fl r1), (Fl r3), (Fl r5), (Fl r7), (Iv A_g.x), (Iv A_g.y), (Iv A_g.z), (.slice p11 A_g.vals.length q12)]), (Pt b15 0), (Pt b22 0), (u100 3), (u100 4), (Pt b75 0), (Iv (k : Int)), (Bo (isGrid A_g)), (Bo (!(isGrid A_g))), Ud, (.agg #[(Fl r61), (Fl r63), (Fl r65), (Fl r67), (Iv A_g.x), (Iv A_g.y), (Iv A_g.z), (.slice (some ⟨gr90, 0, none⟩) A_g.vals.length q72)]), (Iv (k : Int)), (Bo (icmp .leq (k : Int) 32)), (u100 13), (u100 14), (u100 15), (u100 16), (u100 17), (u100 18), (u100 19), (u100 20), (u100 21), (.agg #[(Fl 0), (Fl 0), (Fl 0), (Fl 0), (Iv 0), (Iv 0), (Iv 0), (.slice none 0 0)])]) rfl rfl (does_build (parts' := []) (cells := #[(Fl 0), (Fl 0), (Fl 0), (Fl 0), (Iv 0), (Iv 0), (Iv 0), (.slice none 0 0)]) (evp rfl) (by kernel_rfl)) rfl ?_
    refine seqn rfl rfl (does_store (n := 8) (cs := [(Fl 0), (Fl 0), (Fl 0), (Fl 0), (Iv 0), (Iv 0), (Iv 0), (.slice none 0 0)]) (u := (.agg #[(Fl 0), (Fl 0), (Fl 0), (Fl 0), (Iv 0), (Iv 0), (Iv 0), (.slice none 0 0)])) (ev rfl) (ev rfl) Try.sizeOf31 rfl (((((hB24.ext E32).ext E52).ext E78).wr W84 (Nat.ne_of_lt n81)).kl E102 (ninS n97 nin0)) (Nat.le_of_ble_eq_true rfl) rfl) ?_; rintro _ w135 ⟨rfl, W133, hB134⟩
    change Blk _ _ [(Fl 0), (Fl 0), (Fl 0), (Fl 0), (Iv 0), (Iv 0), (Iv 0), (.slice none 0 0)] at hB134
    have X136 := Below.wr X104 W133 g28
    refine q_is (l' := [(.agg #[(Fl r1), (Fl r3), (Fl r5), (Fl r7), (Iv A_g.x), (Iv A_g.y), (Iv A_g.z), (.slice p11 A_g.vals.length q12)]), (Pt b15 0), (Pt b22 0), (Iv 0), (u100 4), (Pt b75 0), (Iv (k : Int)), (Bo (isGrid A_g)), (Bo (!(isGrid A_g))), Ud, (.agg #[(Fl r61), (Fl r63), (Fl r65), (Fl r67), (Iv A_g.x), (Iv A_g.y), (Iv A_g.z), (.slice (some ⟨gr90, 0, none⟩) A_g.vals.length q72)]), (Iv (k : Int)), (Bo (icmp .leq (k : Int) 32)), (u100 13), (u100 14), (u100 15), (u100 16), (u100 17), (u100 18), (u100 19), (u100 20), (u100 21), (.agg #[(Fl 0), (Fl 0), (Fl 0), (Fl 0), (Iv 0), (Iv 0), (Iv 0), (.slice none 0 0)])]) rfl rfl (does_assign (u := (Iv 0)) (ev rfl)) rfl ?_
    refine q_is (l' := [(.agg #[(Fl r1), (Fl r3), (Fl r5), (Fl r7), (Iv A_g.x), (Iv A_g.y), (Iv A_g.z), (.slice p11 A_g.vals.length q12)]), (Pt b15 0), (Pt b22 0), (Iv 0), (Bo false), (Pt b75 0), (Iv (k : Int)), (Bo (isGrid A_g)), (Bo (!(isGrid A_g))), Ud, (.agg #[(Fl r61), (Fl r63), (Fl r65), (Fl r67), (Iv A_g.x), (Iv A_g.y), (Iv A_g.z), (.slice (some ⟨gr90, 0, none⟩) A_g.vals.length q72)]), (Iv (k : Int)), (Bo (icmp .leq (k : Int) 32)), (u100 13), (u100 14), (u100 15), (u100 16), (u100 17), (u100 18), (u100 19), (u100 20), (u100 21), (.agg #[(Fl 0), (Fl 0), (Fl 0), (Fl 0), (Iv 0), (Iv 0), (Iv 0), (.slice none 0 0)])]) rfl rfl (does_assign (u := (Bo false)) (ev rfl)) rfl ?_
    refine wpList_nil (hK132 _ _ ?_)
    refine wp_ret ?_
    refine ret_val (v := (.tuple #[(.agg #[(Fl 0), (Fl 0), (Fl 0), (Fl 0), (Iv 0), (Iv 0), (Iv 0), (.slice none 0 0)]), (Iv 0), (Bo false)])) (res_CTT rfl (slot rfl) (run_loadAgg (cs := [(Fl 0), (Fl 0), (Fl 0), (Fl 0), (Iv 0), (Iv 0), (Iv 0), (.slice none 0 0)]) Try.isAgg31 Try.sizeOf31 (Blk.cells hB134) rfl) (slot rfl) (slot rfl)) X136 ?_
    try simp only [h2, h4, h6, h8, h62, h64, h66, h68] at c35 c108
    have x137 : (sprI A_g : Int) = 0 := by first | exact sprB_f hgf | exact sprI_f hgf | exact sprB_n hfn | exact sprI_n hgr hfn | exact sprB_s hgr hfd | exact sprI_s hgr hfd | (rw [sprG_f hgf] <;> rfl) | (rw [sprG_n hgr hfn] <;> rfl) | (rw [sprG_s hgr hfd] <;> first | rfl | assumption | (simp only [h2, h4, h6, h8, h62, h64, h66, h68, c35, c108]; done))
    have x138 : (sprB A_g) = false := by first | exact sprB_f hgf | exact sprI_f hgf | exact sprB_n hfn | exact sprI_n hgr hfn | exact sprB_s hgr hfd | exact sprI_s hgr hfd | (rw [sprG_f hgf] <;> rfl) | (rw [sprG_n hgr hfn] <;> rfl) | (rw [sprG_s hgr hfd] <;> first | rfl | assumption | (simp only [h2, h4, h6, h8, h62, h64, h66, h68, c35, c108]; done))
    have x139 : cf .f32 0 = (sprG A_g).low.x := by first | exact sprB_f hgf | exact sprI_f hgf | exact sprB_n hfn | exact sprI_n hgr hfn | exact sprB_s hgr hfd | exact sprI_s hgr hfd | (rw [sprG_f hgf] <;> rfl) | (rw [sprG_n hgr hfn] <;> rfl) | (rw [sprG_s hgr hfd] <;> first | rfl | assumption | (simp only [h2, h4, h6, h8, h62, h64, h66, h68, c35, c108]; done))
    have x140 : cf .f32 0 = (sprG A_g).low.y := by first | exact sprB_f hgf | exact sprI_f hgf | exact sprB_n hfn | exact sprI_n hgr hfn | exact sprB_s hgr hfd | exact sprI_s hgr hfd | (rw [sprG_f hgf] <;> rfl) | (rw [sprG_n hgr hfn] <;> rfl) | (rw [sprG_s hgr hfd] <;> first | rfl | assumption | (simp only [h2, h4, h6, h8, h62, h64, h66, h68, c35, c108]; done))
    have x141 : cf .f32 0 = (sprG A_g).low.z := by first | exact sprB_f hgf | exact sprI_f hgf | exact sprB_n hfn | exact sprI_n hgr hfn | exact sprB_s hgr hfd | exact sprI_s hgr hfd | (rw [sprG_f hgf] <;> rfl) | (rw [sprG_n hgr hfn] <;> rfl) | (rw [sprG_s hgr hfd] <;> first | rfl | assumption | (simp only [h2, h4, h6, h8, h62, h64, h66, h68, c35, c108]; done))
    have x142 : cf .f32 0 = (sprG A_g).step := by first | exact sprB_f hgf | exact sprI_f hgf | exact sprB_n hfn | exact sprI_n hgr hfn | exact sprB_s hgr hfd | exact sprI_s hgr hfd | (rw [sprG_f hgf] <;> rfl) | (rw [sprG_n hgr hfn] <;> rfl) | (rw [sprG_s hgr hfd] <;> first | rfl | assumption | (simp only [h2, h4, h6, h8, h62, h64, h66, h68, c35, c108]; done))
    have x143 : (sprG A_g).x = 0 := by first | exact sprB_f hgf | exact sprI_f hgf | exact sprB_n hfn | exact sprI_n hgr hfn | exact sprB_s hgr hfd | exact sprI_s hgr hfd | (rw [sprG_f hgf] <;> rfl) | (rw [sprG_n hgr hfn] <;> rfl) | (rw [sprG_s hgr hfd] <;> first | rfl | assumption | (simp only [h2, h4, h6, h8, h62, h64, h66, h68, c35, c108]; done))
    have x144 : (sprG A_g).y = 0 := by first | exact sprB_f hgf | exact sprI_f hgf | exact sprB_n hfn | exact sprI_n hgr hfn | exact sprB_s hgr hfd | exact sprI_s hgr hfd | (rw [sprG_f hgf] <;> rfl) | (rw [sprG_n hgr hfn] <;> rfl) | (rw [sprG_s hgr hfd] <;> first | rfl | assumption | (simp only [h2, h4, h6, h8, h62, h64, h66, h68, c35, c108]; done))
    have x145 : (sprG A_g).z = 0 := by first | exact sprB_f hgf | exact sprI_f hgf | exact sprB_n hfn | exact sprI_n hgr hfn | exact sprB_s hgr hfd | exact sprI_s hgr hfd | (rw [sprG_f hgf] <;> rfl) | (rw [sprG_n hgr hfn] <;> rfl) | (rw [sprG_s hgr hfd] <;> first | rfl | assumption | (simp only [h2, h4, h6, h8, h62, h64, h66, h68, c35, c108]; done))
    have x146 : ([]) = ((sprG A_g).vals) := by first | exact sprB_f hgf | exact sprI_f hgf | exact sprB_n hfn | exact sprI_n hgr hfn | exact sprB_s hgr hfd | exact sprI_s hgr hfd | (rw [sprG_f hgf] <;> rfl) | (rw [sprG_n hgr hfn] <;> rfl) | (rw [sprG_s hgr hfd] <;> first | rfl | assumption | (simp only [h2, h4, h6, h8, h62, h64, h66, h68, c35, c108]; done))
    exact ⟨[(Fl 0), (Fl 0), (Fl 0), (Fl 0), (Iv 0), (Iv 0), (Iv 0), (.slice none 0 0)], (by first | rfl | rw [x137, x138] | rw [x138, x137]), fun u hu => ⟨0, 0, 0, 0, (.slice none 0 0), (by first | with_reducible rfl | (show _ = _; simp only [x143, x144, x145]) | rfl), x139, x140, x141, x142, (Hang.castL (Sl.hang_nil _ _ _ _) x146) u hu⟩⟩

/- impl.in -/
theorem c_impl_in (n : Int) (low : Int) (high : Int) (w : World) : Gives Try.prog 40 #[(Iv n), (Iv low), (Iv high)] w (fun v w' => v = (Bo (inI n low high))) := by
  refine enter [(Iv n), (Iv low), (Iv high), Ud, Ud, Ud, Ud, Ud, Ud, Ud, Ud, Ud, Ud, Ud, Ud] Try.func40 rfl Try.ntmps40 rfl ?_
  refine wp_seq_k fun K1 hK1 => ?_
  refine wp_region_lit ?_
  refine q_is (l' := [(Iv n), (Iv low), (Iv high), Ud, Ud, Ud, (Bo false), Ud, Ud, Ud, Ud, Ud, Ud, Ud, Ud]) rfl rfl (does_assign (u := (Bo false)) (ev rfl)) rfl ?_
  refine wpList_nil (hK1 _ _ ?_)
  refine wp_seq_k fun K2 hK2 => ?_
  obtain ⟨β1, hβ1⟩ : ∃ b : Bool, b = ((icmp .geq n low) && (icmp .leq n high)) := ⟨_, rfl⟩
  refine region_text (
    [Fact.pure [] (fun v => v = (Iv n)),
    Fact.pure [] (fun v => v = (Iv low)),
    Fact.pure [7, 8] (fun v => v = (Bo (icmp .geq n low))),
    Fact.pure [9] (fun v => v = (Bo (icmp .geq n low))),
    Fact.pure [10] (fun v => (icmp .geq n low) = true → v = (Iv n)),
    Fact.pure [10] (fun v => (icmp .geq n low) = true → v = (Iv high)),
    Fact.pure [11, 12, 10] (fun v => (icmp .geq n low) = true → v = (Bo (icmp .leq n high))),
    Fact.pure [10, 13] (fun v => v = (Bo β1))]) (by simp [Fact.pure, Fact.mem]) ?_
  refine RW_d (fun v3 => [(Iv n), (Iv low), (Iv high), Ud, Ud, Ud, (Bo false), v3, Ud, Ud, Ud, Ud, Ud, Ud, Ud]) rfl (fun _ => rfl) (fun u hu hF => ?_) (fun v3 => ?_)
  · clear hF
    refine doesG_un rfl ?_
    refine (does_move (u := (Iv n)) (ev rfl)).mono ?_; rintro _ _ ⟨rfl, rfl⟩
    exact ⟨rfl, Ext.refl _⟩
  refine RW_d (fun v4 => [(Iv n), (Iv low), (Iv high), Ud, Ud, Ud, (Bo false), v3, v4, Ud, Ud, Ud, Ud, Ud, Ud]) rfl (fun _ => rfl) (fun u hu hF => ?_) (fun v4 => ?_)
  · clear hF
    refine doesG_un rfl ?_
    refine (does_move (u := (Iv low)) (ev rfl)).mono ?_; rintro _ _ ⟨rfl, rfl⟩
    exact ⟨rfl, Ext.refl _⟩
  refine RW_d (fun v5 => [(Iv n), (Iv low), (Iv high), Ud, Ud, Ud, (Bo false), v3, v4, v5, Ud, Ud, Ud, Ud, Ud]) rfl (fun _ => rfl) (fun u hu hF => ?_) (fun v5 => ?_)
  · have h7_ : v3 = (Iv n) := hF.1
    have h8_ : v4 = (Iv low) := hF.2.1
    clear hF
    refine doesG_un rfl ?_
    obtain rfl := h7_
    obtain rfl := h8_
    refine (does_icmp (p := n) (q := low) (.inr (.inr (.inr (.inr (.inr rfl))))) (ev rfl) (ev rfl)).mono ?_; rintro _ _ ⟨rfl, rfl⟩
    exact ⟨rfl, Ext.refl _⟩
  refine RW_d (fun v6 => [(Iv n), (Iv low), (Iv high), Ud, Ud, Ud, (Bo false), v3, v4, v5, v6, Ud, Ud, Ud, Ud]) rfl (fun _ => rfl) (fun u hu hF => ?_) (fun v6 => ?_)
  · have h9_ : v5 = (Bo (icmp .geq n low)) := hF.1
    clear hF
    refine doesG_un rfl ?_
    obtain rfl := h9_
    refine (does_move (u := (Bo (icmp .geq n low))) (ev rfl)).mono ?_; rintro _ _ ⟨rfl, rfl⟩
    exact ⟨rfl, Ext.refl _⟩
  refine RW_d (fun v7 => [(Iv n), (Iv low), (Iv high), Ud, Ud, Ud, (Bo false), v3, v4, v5, v6, v7, Ud, Ud, Ud]) rfl (fun _ => rfl) (fun u hu hF => ?_) (fun v7 => ?_)
  · have h10_ : v6 = (Bo (icmp .geq n low)) := hF.1
    clear hF
    obtain rfl := h10_
    refine doesG_g (b := (icmp .geq n low)) rfl (yld rfl rfl) (fun hg1 => ?_) (fun hc => ⟨fun hg1 => absurd hg1 hc, Ext.refl _⟩)
    refine (does_move (u := (Iv n)) (ev rfl)).mono ?_; rintro _ _ ⟨rfl, rfl⟩
    exact ⟨fun _ => rfl, Ext.refl _⟩
  refine RW_d (fun v8 => [(Iv n), (Iv low), (Iv high), Ud, Ud, Ud, (Bo false), v3, v4, v5, v6, v7, v8, Ud, Ud]) rfl (fun _ => rfl) (fun u hu hF => ?_) (fun v8 => ?_)
  · have h10_ : v6 = (Bo (icmp .geq n low)) := hF.1
    clear hF
    obtain rfl := h10_
    refine doesG_g (b := (icmp .geq n low)) rfl (yld rfl rfl) (fun hg1 => ?_) (fun hc => ⟨fun hg1 => absurd hg1 hc, Ext.refl _⟩)
    refine (does_move (u := (Iv high)) (ev rfl)).mono ?_; rintro _ _ ⟨rfl, rfl⟩
    exact ⟨fun _ => rfl, Ext.refl _⟩
  refine RW_d (fun v9 => [(Iv n), (Iv low), (Iv high), Ud, Ud, Ud, (Bo false), v3, v4, v5, v6, v7, v8, v9, Ud]) rfl (fun _ => rfl) (fun u hu hF => ?_) (fun v9 => ?_)
  · have h11_ : (icmp .geq n low) = true → v7 = (Iv n) := hF.1
    have h12_ : (icmp .geq n low) = true → v8 = (Iv high) := hF.2.1
    have h10_ : v6 = (Bo (icmp .geq n low)) := hF.2.2.1
    clear hF
    obtain rfl := h10_
    refine doesG_g (b := (icmp .geq n low)) rfl (yld rfl rfl) (fun hg1 => ?_) (fun hc => ⟨fun hg1 => absurd hg1 hc, Ext.refl _⟩)
    obtain rfl := h11_ hg1
    obtain rfl := h12_ hg1
    refine (does_icmp (p := n) (q := high) (.inr (.inr (.inr (.inl rfl)))) (ev rfl) (ev rfl)).mono ?_; rintro _ _ ⟨rfl, rfl⟩
    exact ⟨fun _ => rfl, Ext.refl _⟩
  refine RW_d (fun v10 => [(Iv n), (Iv low), (Iv high), Ud, Ud, Ud, (Bo false), v3, v4, v5, v6, v7, v8, v9, v10]) rfl (fun _ => rfl) (fun u hu hF => ?_) (fun v10 => ?_)
  · have h10_ : v6 = (Bo (icmp .geq n low)) := hF.1
    have h13_ : (icmp .geq n low) = true → v9 = (Bo (icmp .leq n high)) := hF.2.1
    clear hF
    refine doesG_un rfl ?_
    skip
    obtain rfl := h10_
    refine (does_pick (b := (icmp .geq n low)) (ev rfl) (ev rfl) (ev rfl)).mono ?_; rintro _ _ ⟨rfl, rfl⟩; refine ⟨?_, Ext.refl _⟩; rw [hβ1]; skip
    cases hbb : (icmp .geq n low)
    all_goals first | rfl | (have e_ := h13_ hbb; subst e_; rfl) | (simp [hbb] at h13_ ⊢; first | done | rfl | (subst h13_; rfl) | simp_all) | (simp [hbb] at h13_ ⊢; done)
  refine RW_fin ?_; intro w11 E12 hP13
  obtain ⟨⟨⟨⟨⟨⟨⟨⟨-, -⟩, -⟩, -⟩, -⟩, -⟩, -⟩, -⟩, q14⟩ := hP13
  have X15 := Ext.gr (Ext.refl w) E12
  have q14 : v10 = (Bo β1) := q14
  obtain rfl := q14
  show wpList _ _ _ _ (fr [(Iv n), (Iv low), (Iv high), Ud, Ud, Ud, (Bo false), v3, v4, v5, v6, v7, v8, v9, (Bo β1)]) _
  refine q_is (l' := [(Iv n), (Iv low), (Iv high), Ud, Ud, Ud, (Bo β1), v3, v4, v5, v6, v7, v8, v9, (Bo β1)]) rfl rfl (does_assign (u := (Bo β1)) (ev rfl)) rfl ?_
  refine wpList_nil (hK2 _ _ ?_)
  refine wp_ret ?_
  refine ret_val (v := (Bo β1)) (res_T rfl (slot rfl)) X15 ?_
  have x16 : (inI n low high) = β1 := by first | with_reducible rfl | (simp only [inI, hβ1]; done) | (simp [inI, hβ1]; done) | rfl
  exact (by first | rfl | rw [x16])

/- slices.IndexFunc[[]float32,float32] -/
theorem c_slices_IndexFunc_float32_float32 (xs : Value) (L_xs : List Nat) (f : Value) (pr_f : Nat → Bool) (w : World) (hv_xs : Sl RF 1 w xs L_xs) (hv_f : TellsF Try.prog f w pr_f) : Gives Try.prog 63 #[xs, f] w (fun v w' => v = (Iv (findI pr_f L_xs))) := by
  have hlen_xs := Sl.len hv_xs; obtain ⟨p_xs, q_xs, rfl⟩ := Sl.shape hv_xs
  obtain ⟨f_f, s_f, c_f, rfl, hcal_f, hg_f⟩ := hv_f
  refine enter [(.slice p_xs L_xs.length q_xs), (.func (.func f_f) s_f c_f), Ud, Ud, Ud, Ud, Ud, Ud, Ud, Ud, Ud, Ud, Ud, Ud, Ud, Ud, Ud, Ud, Ud] Try.func63 rfl Try.ntmps63 rfl ?_
  refine wp_seq_k fun K1 hK1 => ?_
  refine wp_region_lit ?_
  refine q_is (l' := [(.slice p_xs L_xs.length q_xs), (.func (.func f_f) s_f c_f), Ud, Ud, (Iv 0), Ud, Ud, Ud, Ud, Ud, Ud, Ud, Ud, Ud, Ud, Ud, Ud, Ud, Ud]) rfl rfl (does_assign (u := (Iv 0)) (ev rfl)) rfl ?_
  refine wpList_nil (hK1 _ _ ?_)
  refine wp_seq_k fun K2 hK2 => ?_
  refine wp_seq_k fun K3 hK3 => ?_
  refine wp_region_lit ?_
  refine q_is (l' := [(.slice p_xs L_xs.length q_xs), (.func (.func f_f) s_f c_f), Ud, Ud, (Iv 0), Ud, (.slice p_xs L_xs.length q_xs), Ud, Ud, Ud, Ud, Ud, Ud, Ud, Ud, Ud, Ud, Ud, Ud]) rfl rfl (does_move (u := (.slice p_xs L_xs.length q_xs)) (ev rfl)) rfl ?_
  refine q_is (l' := [(.slice p_xs L_xs.length q_xs), (.func (.func f_f) s_f c_f), Ud, Ud, (Iv 0), Ud, (.slice p_xs L_xs.length q_xs), (Iv (L_xs.length : Int)), Ud, Ud, Ud, Ud, Ud, Ud, Ud, Ud, Ud, Ud, Ud]) rfl rfl (does_len_slice Try.underlying25 (ev rfl)) rfl ?_
  refine q_is (l' := [(.slice p_xs L_xs.length q_xs), (.func (.func f_f) s_f c_f), Ud, Ud, (Iv 0), Ud, (.slice p_xs L_xs.length q_xs), (Iv (L_xs.length : Int)), (Iv 0), Ud, Ud, Ud, Ud, Ud, Ud, Ud, Ud, Ud, Ud]) rfl rfl (does_move (u := (Iv 0)) (ev rfl)) rfl ?_
  refine wpList_nil (hK3 _ _ ?_)
  refine wp_block ?_
  refine loop_ghost (σ := Nat) (fun k a w' => ∃ u4 : Nat → Value, a = fr [(.slice p_xs L_xs.length q_xs), (.func (.func f_f) s_f c_f), Ud, Ud, (u4 4), (u4 5), (.slice p_xs L_xs.length q_xs), (Iv (L_xs.length : Int)), (Iv (k : Int)), (u4 9), (u4 10), (u4 11), (u4 12), (u4 13), (u4 14), (u4 15), (u4 16), (u4 17), (u4 18)] ∧ Ext w w' ∧ (k ≤ L_xs.length ∧ NoneTo pr_f L_xs k)) (fun k => L_xs.length - k) 0 ?_ ?_
  · refine ⟨fun t => (([(.slice p_xs L_xs.length q_xs), (.func (.func f_f) s_f c_f), Ud, Ud, (Iv 0), Ud, (.slice p_xs L_xs.length q_xs), (Iv (L_xs.length : Int)), (Iv 0), Ud, Ud, Ud, Ud, Ud, Ud, Ud, Ud, Ud, Ud] : List Value)[t]?).getD undef, rfl, Ext.refl _, ?_⟩
    exact ⟨Nat.zero_le _, NoneTo.zero⟩
  · rintro k a w5 ⟨u4, rfl, E6, ⟨hk, hno⟩⟩
    have X8 := Ext.gr (Ext.refl w) E6
    refine wp_seq_k fun K9 hK9 => ?_
    refine wp_region_lit ?_
    refine q_is (l' := [(.slice p_xs L_xs.length q_xs), (.func (.func f_f) s_f c_f), Ud, Ud, (u4 4), (u4 5), (.slice p_xs L_xs.length q_xs), (Iv (L_xs.length : Int)), (Iv (k : Int)), (Bo (icmp .lss (k : Int) (L_xs.length : Int))), (u4 10), (u4 11), (u4 12), (u4 13), (u4 14), (u4 15), (u4 16), (u4 17), (u4 18)]) rfl rfl (does_icmp (p := (k : Int)) (q := (L_xs.length : Int)) (.inr (.inr (.inl rfl))) (ev rfl) (ev rfl)) rfl ?_
    refine wpList_nil (hK9 _ _ ?_)
    refine wp_seq_k fun K10 hK10 => ?_
    refine wp_cond_split (t := icmp .lss (k : Int) (L_xs.length : Int)) (ev rfl) (fun c11 => ?_) (fun c11 => ?_)
    · have c11' := c11
      (try simp only [icmp, Bool.and_eq_true, Bool.or_eq_true, Bool.and_eq_false_iff, Bool.or_eq_false_iff, Bool.not_eq_true', Bool.not_eq_false', decide_eq_true_eq, decide_eq_false_iff_not, beq_iff_eq, bne_iff_ne, beq_eq_false_iff_ne, bne_eq_false_iff_eq] at c11')
      refine wp_skip (hK10 _ _ ?_)
      refine wp_seq_k fun K12 hK12 => ?_
      refine wp_block ?_
      refine wp_seq_k fun K13 hK13 => ?_
      refine wp_region_lit ?_
      refine q_is (l' := [(.slice p_xs L_xs.length q_xs), (.func (.func f_f) s_f c_f), Ud, Ud, (u4 4), (u4 5), (.slice p_xs L_xs.length q_xs), (Iv (L_xs.length : Int)), (Iv (k : Int)), (Bo (icmp .lss (k : Int) (L_xs.length : Int))), (Iv (k : Int)), (u4 11), (u4 12), (u4 13), (u4 14), (u4 15), (u4 16), (u4 17), (u4 18)]) rfl rfl (does_move (u := (Iv (k : Int))) (ev rfl)) rfl ?_
      refine q_is (l' := [(.slice p_xs L_xs.length q_xs), (.func (.func f_f) s_f c_f), Ud, Ud, (u4 4), (Iv (k : Int)), (.slice p_xs L_xs.length q_xs), (Iv (L_xs.length : Int)), (Iv (k : Int)), (Bo (icmp .lss (k : Int) (L_xs.length : Int))), (Iv (k : Int)), (u4 11), (u4 12), (u4 13), (u4 14), (u4 15), (u4 16), (u4 17), (u4 18)]) rfl rfl (does_assign (u := (Iv (k : Int))) (ev rfl)) rfl ?_
      refine wpList_nil (hK13 _ _ ?_)
      refine wp_seq_k fun K14 hK14 => ?_
      refine wp_region_lit ?_
      refine q_is (l' := [(.slice p_xs L_xs.length q_xs), (.func (.func f_f) s_f c_f), Ud, Ud, (u4 4), (Iv (k : Int)), (.slice p_xs L_xs.length q_xs), (Iv (L_xs.length : Int)), (Iv (k : Int)), (Bo (icmp .lss (k : Int) (L_xs.length : Int))), (Iv (k : Int)), (.func (.func f_f) s_f c_f), (u4 12), (u4 13), (u4 14), (u4 15), (u4 16), (u4 17), (u4 18)]) rfl rfl (does_move (u := (.func (.func f_f) s_f c_f)) (ev rfl)) rfl ?_
      refine q_is (l' := [(.slice p_xs L_xs.length q_xs), (.func (.func f_f) s_f c_f), Ud, Ud, (u4 4), (Iv (k : Int)), (.slice p_xs L_xs.length q_xs), (Iv (L_xs.length : Int)), (Iv (k : Int)), (Bo (icmp .lss (k : Int) (L_xs.length : Int))), (Iv (k : Int)), (.func (.func f_f) s_f c_f), (.slice p_xs L_xs.length q_xs), (u4 13), (u4 14), (u4 15), (u4 16), (u4 17), (u4 18)]) rfl rfl (does_move (u := (.slice p_xs L_xs.length q_xs)) (ev rfl)) rfl ?_
      refine q_is (l' := [(.slice p_xs L_xs.length q_xs), (.func (.func f_f) s_f c_f), Ud, Ud, (u4 4), (Iv (k : Int)), (.slice p_xs L_xs.length q_xs), (Iv (L_xs.length : Int)), (Iv (k : Int)), (Bo (icmp .lss (k : Int) (L_xs.length : Int))), (Iv (k : Int)), (.func (.func f_f) s_f c_f), (.slice p_xs L_xs.length q_xs), (Iv (k : Int)), (u4 14), (u4 15), (u4 16), (u4 17), (u4 18)]) rfl rfl (does_move (u := (Iv (k : Int))) (ev rfl)) rfl ?_
      obtain ⟨el1, hel1⟩ : ∃ e, L_xs[k]? = some e := ⟨_, List.getElem?_eq_getElem (by omega)⟩
      refine seqd rfl rfl (does_indexSl (R := RF) (i := (k : Int)) (xs := L_xs) (e := el1) Try.underlying25 Try.sizeOf22 (ev rfl) (ev rfl) (Sl.ext hv_xs RF.mono X8) (by omega) hel1) ?_; rintro _ w5 ⟨b15, o16, _, rfl, hc18, ⟨r19, rfl, h20⟩, rfl⟩
      show wpList _ _ _ _ (fr [(.slice p_xs L_xs.length q_xs), (.func (.func f_f) s_f c_f), Ud, Ud, (u4 4), (Iv (k : Int)), (.slice p_xs L_xs.length q_xs), (Iv (L_xs.length : Int)), (Iv (k : Int)), (Bo (icmp .lss (k : Int) (L_xs.length : Int))), (Iv (k : Int)), (.func (.func f_f) s_f c_f), (.slice p_xs L_xs.length q_xs), (Iv (k : Int)), (Pt b15 o16), (u4 15), (u4 16), (u4 17), (u4 18)]) _
      refine q_is (l' := [(.slice p_xs L_xs.length q_xs), (.func (.func f_f) s_f c_f), Ud, Ud, (u4 4), (Iv (k : Int)), (.slice p_xs L_xs.length q_xs), (Iv (L_xs.length : Int)), (Iv (k : Int)), (Bo (icmp .lss (k : Int) (L_xs.length : Int))), (Iv (k : Int)), (.func (.func f_f) s_f c_f), (.slice p_xs L_xs.length q_xs), (Iv (k : Int)), (Pt b15 o16), (Fl r19), (u4 16), (u4 17), (u4 18)]) rfl rfl (does_load (u := (Fl r19)) (ev rfl) Try.isAgg22 (Cells.at hc18 0 rfl)) rfl ?_
      refine seqd rfl rfl (does_callf (args := #[(Fl r19)]) (ev rfl) hcal_f (evs rfl) (hg_f r19 _ X8)) ?_; rintro _ w22 ⟨E21, rfl⟩
      have X23 := Ext.gr X8 E21
      show wpList _ _ _ _ (fr [(.slice p_xs L_xs.length q_xs), (.func (.func f_f) s_f c_f), Ud, Ud, (u4 4), (Iv (k : Int)), (.slice p_xs L_xs.length q_xs), (Iv (L_xs.length : Int)), (Iv (k : Int)), (Bo (icmp .lss (k : Int) (L_xs.length : Int))), (Iv (k : Int)), (.func (.func f_f) s_f c_f), (.slice p_xs L_xs.length q_xs), (Iv (k : Int)), (Pt b15 o16), (Fl r19), (Bo (pr_f (cf .f32 r19))), (u4 17), (u4 18)]) _
      refine wpList_nil (hK14 _ _ ?_)
      refine wp_cond_split (t := pr_f (cf .f32 r19)) (ev rfl) (fun c24 => ?_) (fun c24 => ?_)
      · have c24' := c24
        refine wp_seq_k fun K25 hK25 => ?_
        refine wp_region_lit ?_
        refine q_is (l' := [(.slice p_xs L_xs.length q_xs), (.func (.func f_f) s_f c_f), Ud, Ud, (u4 4), (Iv (k : Int)), (.slice p_xs L_xs.length q_xs), (Iv (L_xs.length : Int)), (Iv (k : Int)), (Bo (icmp .lss (k : Int) (L_xs.length : Int))), (Iv (k : Int)), (.func (.func f_f) s_f c_f), (.slice p_xs L_xs.length q_xs), (Iv (k : Int)), (Pt b15 o16), (Fl r19), (Bo (pr_f (cf .f32 r19))), (Iv (k : Int)), (u4 18)]) rfl rfl (does_move (u := (Iv (k : Int))) (ev rfl)) rfl ?_
        refine q_is (l' := [(.slice p_xs L_xs.length q_xs), (.func (.func f_f) s_f c_f), Ud, Ud, (Iv (k : Int)), (Iv (k : Int)), (.slice p_xs L_xs.length q_xs), (Iv (L_xs.length : Int)), (Iv (k : Int)), (Bo (icmp .lss (k : Int) (L_xs.length : Int))), (Iv (k : Int)), (.func (.func f_f) s_f c_f), (.slice p_xs L_xs.length q_xs), (Iv (k : Int)), (Pt b15 o16), (Fl r19), (Bo (pr_f (cf .f32 r19))), (Iv (k : Int)), (u4 18)]) rfl rfl (does_assign (u := (Iv (k : Int))) (ev rfl)) rfl ?_
        refine wpList_nil (hK25 _ _ ?_)
        refine wp_ret ?_
        dsimp only [Exit.then, Exit.inBlock]
        refine ret_val (v := (Iv (k : Int))) (res_T rfl (slot rfl)) X23 ?_
        try simp only [hel1, h20] at c11 c24
        have x26 : (findI pr_f L_xs : Int) = (k : Int) := by first | exact findI_at hno (by assumption) (by simp_all) | exact findI_none hno (by omega)
        exact (by first | rfl | rw [x26])
      have c24' := c24
      refine wp_skip (hK12 _ _ ?_)
      refine wp_region_lit ?_
      refine q_is (l' := [(.slice p_xs L_xs.length q_xs), (.func (.func f_f) s_f c_f), Ud, Ud, (u4 4), (Iv (k : Int)), (.slice p_xs L_xs.length q_xs), (Iv (L_xs.length : Int)), (Iv (k : Int)), (Bo (icmp .lss (k : Int) (L_xs.length : Int))), (Iv (k : Int)), (.func (.func f_f) s_f c_f), (.slice p_xs L_xs.length q_xs), (Iv (k : Int)), (Pt b15 o16), (Fl r19), (Bo (pr_f (cf .f32 r19))), (u4 17), (Iv ((k : Int) + 1))]) rfl rfl (does_iarith (p := (k : Int)) (q := 1) (r := (k : Int) + 1) (ev rfl) (ev rfl) (.inl ⟨rfl, (in_i64 (by omega) (by omega)).symm⟩)) rfl ?_
      refine q_is (l' := [(.slice p_xs L_xs.length q_xs), (.func (.func f_f) s_f c_f), Ud, Ud, (u4 4), (Iv (k : Int)), (.slice p_xs L_xs.length q_xs), (Iv (L_xs.length : Int)), (Iv ((k : Int) + 1)), (Bo (icmp .lss (k : Int) (L_xs.length : Int))), (Iv (k : Int)), (.func (.func f_f) s_f c_f), (.slice p_xs L_xs.length q_xs), (Iv (k : Int)), (Pt b15 o16), (Fl r19), (Bo (pr_f (cf .f32 r19))), (u4 17), (Iv ((k : Int) + 1))]) rfl rfl (does_move (u := (Iv ((k : Int) + 1))) (ev rfl)) rfl ?_
      refine wpList_nil ?_
      refine ⟨k + 1, ⟨fun t => (([(.slice p_xs L_xs.length q_xs), (.func (.func f_f) s_f c_f), Ud, Ud, (u4 4), (Iv (k : Int)), (.slice p_xs L_xs.length q_xs), (Iv (L_xs.length : Int)), (Iv ((k : Int) + 1)), (Bo (icmp .lss (k : Int) (L_xs.length : Int))), (Iv (k : Int)), (.func (.func f_f) s_f c_f), (.slice p_xs L_xs.length q_xs), (Iv (k : Int)), (Pt b15 o16), (Fl r19), (Bo (pr_f (cf .f32 r19))), (u4 17), (Iv ((k : Int) + 1))] : List Value)[t]?).getD undef, ?_, (Ext.gr E6 E21), ?_⟩, ?_⟩
      · first | rfl | (simp only [Nat.cast_add, Nat.cast_one, Int.natCast_add, Int.natCast_one]; rfl)
      · exact ⟨by omega, NoneTo.step hno (by assumption) (by simp_all)⟩
      · omega
    have c11' := c11
    (try simp only [icmp, Bool.and_eq_true, Bool.or_eq_true, Bool.and_eq_false_iff, Bool.or_eq_false_iff, Bool.not_eq_true', Bool.not_eq_false', decide_eq_true_eq, decide_eq_false_iff_not, beq_iff_eq, bne_iff_ne, beq_eq_false_iff_ne, bne_eq_false_iff_eq] at c11')
    refine wp_exit ?_
    refine hK2 _ _ ?_
    refine wp_seq_k fun K27 hK27 => ?_
    refine wp_region_lit ?_
    refine q_is (l' := [(.slice p_xs L_xs.length q_xs), (.func (.func f_f) s_f c_f), Ud, Ud, (Iv (-1)), (u4 5), (.slice p_xs L_xs.length q_xs), (Iv (L_xs.length : Int)), (Iv (k : Int)), (Bo (icmp .lss (k : Int) (L_xs.length : Int))), (u4 10), (u4 11), (u4 12), (u4 13), (u4 14), (u4 15), (u4 16), (u4 17), (u4 18)]) rfl rfl (does_assign (u := (Iv (-1))) (ev rfl)) rfl ?_
    refine wpList_nil (hK27 _ _ ?_)
    refine wp_ret ?_
    refine ret_val (v := (Iv (-1))) (res_T rfl (slot rfl)) X8 ?_
    have x28 : (findI pr_f L_xs : Int) = (-1) := by first | exact findI_at hno (by assumption) (by simp_all) | exact findI_none hno (by omega)
    exact (by first | rfl | rw [x28])

/- slices.ContainsFunc[[]float32,float32] -/
theorem c_slices_ContainsFunc_float32_float32 (xs : Value) (L_xs : List Nat) (f : Value) (pr_f : Nat → Bool) (w : World) (hv_xs : Sl RF 1 w xs L_xs) (hv_f : TellsF Try.prog f w pr_f) : Gives Try.prog 61 #[xs, f] w (fun v w' => v = (Bo (L_xs.any pr_f))) := by
  have hlen_xs := Sl.len hv_xs; obtain ⟨p_xs, q_xs, rfl⟩ := Sl.shape hv_xs
  obtain ⟨f_f, s_f, c_f, rfl, hcal_f, hg_f⟩ := hv_f
  refine enter [(.slice p_xs L_xs.length q_xs), (.func (.func f_f) s_f c_f), Ud, Ud, Ud, Ud, Ud, Ud, Ud] Try.func61 rfl Try.ntmps61 rfl ?_
  refine wp_seq_k fun K1 hK1 => ?_
  refine wp_region_lit ?_
  refine q_is (l' := [(.slice p_xs L_xs.length q_xs), (.func (.func f_f) s_f c_f), Ud, Ud, (Bo false), Ud, Ud, Ud, Ud]) rfl rfl (does_assign (u := (Bo false)) (ev rfl)) rfl ?_
  refine wpList_nil (hK1 _ _ ?_)
  refine wp_seq_k fun K2 hK2 => ?_
  refine wp_region_lit ?_
  refine q_is (l' := [(.slice p_xs L_xs.length q_xs), (.func (.func f_f) s_f c_f), Ud, Ud, (Bo false), (.slice p_xs L_xs.length q_xs), Ud, Ud, Ud]) rfl rfl (does_move (u := (.slice p_xs L_xs.length q_xs)) (ev rfl)) rfl ?_
  refine q_is (l' := [(.slice p_xs L_xs.length q_xs), (.func (.func f_f) s_f c_f), Ud, Ud, (Bo false), (.slice p_xs L_xs.length q_xs), (.func (.func f_f) s_f c_f), Ud, Ud]) rfl rfl (does_move (u := (.func (.func f_f) s_f c_f)) (ev rfl)) rfl ?_
  refine seqd rfl rfl (does_call (args := #[(.slice p_xs L_xs.length q_xs), (.func (.func f_f) s_f c_f)]) cal63 (evs rfl) (c_slices_IndexFunc_float32_float32 (.slice p_xs L_xs.length q_xs) L_xs (.func (.func f_f) s_f c_f) pr_f _ hv_xs ⟨_, _, _, rfl, hcal_f, fun r u hu' => hg_f r u (Ext.gr (Ext.refl w) hu')⟩)) ?_; rintro _ w4 ⟨E3, rfl⟩
  have X5 := Ext.gr (Ext.refl w) E3
  show wpList _ _ _ _ (fr [(.slice p_xs L_xs.length q_xs), (.func (.func f_f) s_f c_f), Ud, Ud, (Bo false), (.slice p_xs L_xs.length q_xs), (.func (.func f_f) s_f c_f), (Iv (findI pr_f L_xs)), Ud]) _
  refine q_is (l' := [(.slice p_xs L_xs.length q_xs), (.func (.func f_f) s_f c_f), Ud, Ud, (Bo false), (.slice p_xs L_xs.length q_xs), (.func (.func f_f) s_f c_f), (Iv (findI pr_f L_xs)), (Bo (icmp .geq (findI pr_f L_xs) 0))]) rfl rfl (does_icmp (p := findI pr_f L_xs) (q := 0) (.inr (.inr (.inr (.inr (.inr rfl))))) (ev rfl) (ev rfl)) rfl ?_
  refine q_is (l' := [(.slice p_xs L_xs.length q_xs), (.func (.func f_f) s_f c_f), Ud, Ud, (Bo (icmp .geq (findI pr_f L_xs) 0)), (.slice p_xs L_xs.length q_xs), (.func (.func f_f) s_f c_f), (Iv (findI pr_f L_xs)), (Bo (icmp .geq (findI pr_f L_xs) 0))]) rfl rfl (does_assign (u := (Bo (icmp .geq (findI pr_f L_xs) 0))) (ev rfl)) rfl ?_
  refine wpList_nil (hK2 _ _ ?_)
  refine wp_ret ?_
  refine ret_val (v := (Bo (icmp .geq (findI pr_f L_xs) 0))) (res_T rfl (slot rfl)) X5 ?_
  have x6 : (L_xs.any pr_f) = (icmp .geq (findI pr_f L_xs) 0) := by first | with_reducible rfl | (simp only [findI_any]; done) | (simp [findI_any]; done) | rfl
  exact (by first | rfl | rw [x6])

/- impl.IsFinite -/
theorem c_impl_IsFinite (x : Nat) (w : World) : Gives Try.prog 60 #[(Fl x)] w (fun v w' => v = (Bo (finF (cf .f32 x)))) := by
  refine enter [(Fl x), Ud, Ud, Ud, Ud, Ud, Ud] Try.func60 rfl Try.ntmps60 rfl ?_
  refine wp_seq_k fun K1 hK1 => ?_
  refine wp_region_lit ?_
  refine q_is (l' := [(Fl x), Ud, (Bo false), Ud, Ud, Ud, Ud]) rfl rfl (does_assign (u := (Bo false)) (ev rfl)) rfl ?_
  refine wpList_nil (hK1 _ _ ?_)
  refine wp_seq_k fun K2 hK2 => ?_
  refine wp_region_lit ?_
  refine q_is (l' := [(Fl x), Ud, (Bo false), (Fl x), Ud, Ud, Ud]) rfl rfl (does_move (u := (Fl x)) (ev rfl)) rfl ?_
  refine q_is (l' := [(Fl x), Ud, (Bo false), (Fl x), (Fl x), Ud, Ud]) rfl rfl (does_move (u := (Fl x)) (ev rfl)) rfl ?_
  refine seqd rfl rfl (does_float (.inr (.inl rfl)) (ev rfl) (ev rfl)) ?_; rintro _ w6 ⟨r3, rfl, h4, E5⟩
  have X7 := Ext.gr (Ext.refl w) E5
  show wpList _ _ _ _ (fr [(Fl x), Ud, (Bo false), (Fl x), (Fl x), (Fl r3), Ud]) _
  refine q_is (l' := [(Fl x), Ud, (Bo false), (Fl x), (Fl x), (Fl r3), (Bo (fcmp .eql (ford .f32 (cf .f32 r3) (cf .f32 0))))]) rfl rfl (does_fcmp (.inl rfl) (ev rfl) (ev rfl)) rfl ?_
  refine q_is (l' := [(Fl x), Ud, (Bo (fcmp .eql (ford .f32 (cf .f32 r3) (cf .f32 0)))), (Fl x), (Fl x), (Fl r3), (Bo (fcmp .eql (ford .f32 (cf .f32 r3) (cf .f32 0))))]) rfl rfl (does_assign (u := (Bo (fcmp .eql (ford .f32 (cf .f32 r3) (cf .f32 0))))) (ev rfl)) rfl ?_
  refine wpList_nil (hK2 _ _ ?_)
  refine wp_ret ?_
  refine ret_val (v := (Bo (fcmp .eql (ford .f32 (cf .f32 r3) (cf .f32 0))))) (res_T rfl (slot rfl)) X7 ?_
  have x8 : (finF (cf .f32 x)) = (fcmp .eql (ford .f32 (cf .f32 r3) (cf .f32 0))) := by first | with_reducible rfl | (simp only [finF, h4]; done) | (simp [finF, h4]; done) | rfl
  exact (by first | rfl | rw [x8])

/- impl.finite$1 -/
theorem c_impl_finite_1 (x : Nat) (w : World) : Gives Try.prog 62 #[(Fl x)] w (fun v w' => v = (Bo (!finF (cf .f32 x)))) := by
  refine enter [(Fl x), Ud, Ud, Ud, Ud, Ud] Try.func62 rfl Try.ntmps62 rfl ?_
  refine wp_seq_k fun K1 hK1 => ?_
  refine wp_region_lit ?_
  refine q_is (l' := [(Fl x), Ud, (Bo false), Ud, Ud, Ud]) rfl rfl (does_assign (u := (Bo false)) (ev rfl)) rfl ?_
  refine wpList_nil (hK1 _ _ ?_)
  refine wp_seq_k fun K2 hK2 => ?_
  refine wp_region_lit ?_
  refine q_is (l' := [(Fl x), Ud, (Bo false), (Fl x), Ud, Ud]) rfl rfl (does_move (u := (Fl x)) (ev rfl)) rfl ?_
  refine seqd rfl rfl (does_call (args := #[(Fl x)]) cal60 (evs rfl) (c_impl_IsFinite x _)) ?_; rintro _ w4 ⟨E3, rfl⟩
  have X5 := Ext.gr (Ext.refl w) E3
  show wpList _ _ _ _ (fr [(Fl x), Ud, (Bo false), (Fl x), (Bo (finF (cf .f32 x))), Ud]) _
  refine q_is (l' := [(Fl x), Ud, (Bo false), (Fl x), (Bo (finF (cf .f32 x))), (Bo (!(finF (cf .f32 x))))]) rfl rfl (does_not (ev rfl)) rfl ?_
  refine q_is (l' := [(Fl x), Ud, (Bo (!(finF (cf .f32 x)))), (Fl x), (Bo (finF (cf .f32 x))), (Bo (!(finF (cf .f32 x))))]) rfl rfl (does_assign (u := (Bo (!(finF (cf .f32 x))))) (ev rfl)) rfl ?_
  refine wpList_nil (hK2 _ _ ?_)
  refine wp_ret ?_
  refine ret_val (v := (Bo (!(finF (cf .f32 x))))) (res_T rfl (slot rfl)) X5 ?_
  have x6 : (!finF (cf .f32 x)) = (!(finF (cf .f32 x))) := by first | with_reducible rfl | (simp only []; done) | (simp []; done) | rfl
  exact (by first | rfl | rw [x6])

/- impl.finite -/
theorem c_impl_finite (xs : Value) (L_xs : List Nat) (w : World) (hv_xs : Sl RF 1 w xs L_xs) : Gives Try.prog 59 #[xs] w (fun v w' => v = (Bo (!L_xs.any (fun x => !finF x)))) := by
  have hlen_xs := Sl.len hv_xs; obtain ⟨p_xs, q_xs, rfl⟩ := Sl.shape hv_xs
  refine enter [(.slice p_xs L_xs.length q_xs), Ud, Ud, Ud, Ud, Ud] Try.func59 rfl Try.ntmps59 rfl ?_
  refine wp_seq_k fun K1 hK1 => ?_
  refine wp_region_lit ?_
  refine q_is (l' := [(.slice p_xs L_xs.length q_xs), Ud, (Bo false), Ud, Ud, Ud]) rfl rfl (does_assign (u := (Bo false)) (ev rfl)) rfl ?_
  refine wpList_nil (hK1 _ _ ?_)
  refine wp_seq_k fun K2 hK2 => ?_
  refine wp_region_lit ?_
  refine q_is (l' := [(.slice p_xs L_xs.length q_xs), Ud, (Bo false), (.slice p_xs L_xs.length q_xs), Ud, Ud]) rfl rfl (does_move (u := (.slice p_xs L_xs.length q_xs)) (ev rfl)) rfl ?_
  refine seqd rfl rfl (does_call (args := #[(.slice p_xs L_xs.length q_xs), (.func (.func 62) #[] #[])]) cal61 (evs rfl) (c_slices_ContainsFunc_float32_float32 (.slice p_xs L_xs.length q_xs) L_xs (.func (.func 62) #[] #[]) (fun x => !finF x) _ hv_xs ⟨62, #[], #[], rfl, cal62, fun r u hu' => by simpa using (c_impl_finite_1 r u)⟩)) ?_; rintro _ w4 ⟨E3, rfl⟩
  have X5 := Ext.gr (Ext.refl w) E3
  show wpList _ _ _ _ (fr [(.slice p_xs L_xs.length q_xs), Ud, (Bo false), (.slice p_xs L_xs.length q_xs), (Bo (L_xs.any (fun x => !finF x))), Ud]) _
  refine q_is (l' := [(.slice p_xs L_xs.length q_xs), Ud, (Bo false), (.slice p_xs L_xs.length q_xs), (Bo (L_xs.any (fun x => !finF x))), (Bo (!(L_xs.any (fun x => !finF x))))]) rfl rfl (does_not (ev rfl)) rfl ?_
  refine q_is (l' := [(.slice p_xs L_xs.length q_xs), Ud, (Bo (!(L_xs.any (fun x => !finF x)))), (.slice p_xs L_xs.length q_xs), (Bo (L_xs.any (fun x => !finF x))), (Bo (!(L_xs.any (fun x => !finF x))))]) rfl rfl (does_assign (u := (Bo (!(L_xs.any (fun x => !finF x))))) (ev rfl)) rfl ?_
  refine wpList_nil (hK2 _ _ ?_)
  refine wp_ret ?_
  refine ret_val (v := (Bo (!(L_xs.any (fun x => !finF x))))) (res_T rfl (slot rfl)) X5 ?_
  have x6 : (!L_xs.any (fun x => !finF x)) = (!(L_xs.any (fun x => !finF x))) := by first | with_reducible rfl | (simp only []; done) | (simp []; done) | rfl
  exact (by first | rfl | rw [x6])

/- impl.finiteVector -/
theorem c_impl_finiteVector (v : List Value) (A_v : V3) (w : World) (hv_v : RV3 w A_v v) : Gives Try.prog 50 #[(.agg v.toArray)] w (fun v w' => v = (Bo (finV A_v))) := by
  obtain ⟨r1, r3, r5, rfl, h2, h4, h6⟩ := hv_v
  refine enter [(.agg #[(Fl r1), (Fl r3), (Fl r5)]), Ud, Ud, Ud, Ud, Ud, Ud, Ud, Ud, Ud, Ud] Try.func50 rfl Try.ntmps50 rfl ?_
  refine wp_seq_k fun K7 hK7 => ?_
  refine wp_region_lit ?_
  refine seqd rfl rfl (does_box (u := (.agg #[(Fl r1), (Fl r3), (Fl r5)])) (ev rfl)) ?_; rintro _ w12 ⟨b8, rfl, hb9, hB10, E11⟩
  have g13 : w.heap.size ≤ b8 := Nat.le_trans (Below.size (Ext.refl w)) hb9
  change Blk _ _ [(Fl r1), (Fl r3), (Fl r5)] at hB10
  have X14 := Ext.gr (Ext.refl w) E11
  show wpList _ _ _ _ (fr [(.agg #[(Fl r1), (Fl r3), (Fl r5)]), (Pt b8 0), Ud, Ud, Ud, Ud, Ud, Ud, Ud, Ud, Ud]) _
  refine q_is (l' := [(.agg #[(Fl r1), (Fl r3), (Fl r5)]), (Pt b8 0), (Bo false), Ud, Ud, Ud, Ud, Ud, Ud, Ud, Ud]) rfl rfl (does_assign (u := (Bo false)) (ev rfl)) rfl ?_
  refine wpList_nil (hK7 _ _ ?_)
  refine wp_seq_k fun K15 hK15 => ?_
  refine wp_region_lit ?_
  refine q_is (l' := [(.agg #[(Fl r1), (Fl r3), (Fl r5)]), (Pt b8 0), (Bo false), (Pt b8 0), Ud, Ud, Ud, Ud, Ud, Ud, Ud]) rfl rfl (does_fieldAddr (ev rfl) fa29_0) rfl ?_
  refine q_is (l' := [(.agg #[(Fl r1), (Fl r3), (Fl r5)]), (Pt b8 0), (Bo false), (Pt b8 0), (Fl r1), Ud, Ud, Ud, Ud, Ud, Ud]) rfl rfl (does_load (u := (Fl r1)) (ev rfl) Try.isAgg22 (Cells.at (Blk.cells hB10) 0 rfl)) rfl ?_
  refine q_is (l' := [(.agg #[(Fl r1), (Fl r3), (Fl r5)]), (Pt b8 0), (Bo false), (Pt b8 0), (Fl r1), (Pt b8 1), Ud, Ud, Ud, Ud, Ud]) rfl rfl (does_fieldAddr (ev rfl) fa29_1) rfl ?_
  refine q_is (l' := [(.agg #[(Fl r1), (Fl r3), (Fl r5)]), (Pt b8 0), (Bo false), (Pt b8 0), (Fl r1), (Pt b8 1), (Fl r3), Ud, Ud, Ud, Ud]) rfl rfl (does_load (u := (Fl r3)) (ev rfl) Try.isAgg22 (Cells.at (Blk.cells hB10) 1 rfl)) rfl ?_
  refine q_is (l' := [(.agg #[(Fl r1), (Fl r3), (Fl r5)]), (Pt b8 0), (Bo false), (Pt b8 0), (Fl r1), (Pt b8 1), (Fl r3), (Pt b8 2), Ud, Ud, Ud]) rfl rfl (does_fieldAddr (ev rfl) fa29_2) rfl ?_
  refine q_is (l' := [(.agg #[(Fl r1), (Fl r3), (Fl r5)]), (Pt b8 0), (Bo false), (Pt b8 0), (Fl r1), (Pt b8 1), (Fl r3), (Pt b8 2), (Fl r5), Ud, Ud]) rfl rfl (does_load (u := (Fl r5)) (ev rfl) Try.isAgg22 (Cells.at (Blk.cells hB10) 2 rfl)) rfl ?_
  refine seqd rfl rfl (does_buildSlice (e := 22) (parts' := [(0, (Fl r1)), (1, (Fl r3)), (2, (Fl r5))]) (cells := [(Fl r1), (Fl r3), (Fl r5)]) (evp rfl) (fun _ => by kernel_rfl)) ?_; rintro _ w20 ⟨b16, rfl, hb17, hB18, E19⟩
  have n21 : b8 < b16 := Nat.lt_of_lt_of_le (Blk.lt hB10) hb17
  have g22 : w.heap.size ≤ b16 := Nat.le_trans (Below.size X14) hb17
  have X23 := Ext.gr X14 E19
  show wpList _ _ _ _ (fr [(.agg #[(Fl r1), (Fl r3), (Fl r5)]), (Pt b8 0), (Bo false), (Pt b8 0), (Fl r1), (Pt b8 1), (Fl r3), (Pt b8 2), (Fl r5), (.slice (some ⟨b16, 0, none⟩) 3 3), Ud]) _
  refine seqd rfl rfl (does_call (args := #[(.slice (some ⟨b16, 0, none⟩) 3 3)]) cal59 (evs rfl) (c_impl_finite (.slice (some ⟨b16, 0, none⟩) 3 3) [(cf .f32 r1), (cf .f32 r3), (cf .f32 r5)] _ (Sl_lit3 hB18 ⟨_, rfl, rfl⟩ ⟨_, rfl, rfl⟩ ⟨_, rfl, rfl⟩))) ?_; rintro _ w25 ⟨E24, rfl⟩
  have X26 := Ext.gr X23 E24
  show wpList _ _ _ _ (fr [(.agg #[(Fl r1), (Fl r3), (Fl r5)]), (Pt b8 0), (Bo false), (Pt b8 0), (Fl r1), (Pt b8 1), (Fl r3), (Pt b8 2), (Fl r5), (.slice (some ⟨b16, 0, none⟩) 3 3), (Bo (!([(cf .f32 r1), (cf .f32 r3), (cf .f32 r5)]).any (fun x => !finF x)))]) _
  refine q_is (l' := [(.agg #[(Fl r1), (Fl r3), (Fl r5)]), (Pt b8 0), (Bo (!([(cf .f32 r1), (cf .f32 r3), (cf .f32 r5)]).any (fun x => !finF x))), (Pt b8 0), (Fl r1), (Pt b8 1), (Fl r3), (Pt b8 2), (Fl r5), (.slice (some ⟨b16, 0, none⟩) 3 3), (Bo (!([(cf .f32 r1), (cf .f32 r3), (cf .f32 r5)]).any (fun x => !finF x)))]) rfl rfl (does_assign (u := (Bo (!([(cf .f32 r1), (cf .f32 r3), (cf .f32 r5)]).any (fun x => !finF x)))) (ev rfl)) rfl ?_
  refine wpList_nil (hK15 _ _ ?_)
  refine wp_ret ?_
  refine ret_val (v := (Bo (!([(cf .f32 r1), (cf .f32 r3), (cf .f32 r5)]).any (fun x => !finF x)))) (res_T rfl (slot rfl)) X26 ?_
  have x27 : (finV A_v) = (!([(cf .f32 r1), (cf .f32 r3), (cf .f32 r5)]).any (fun x => !finF x)) := by first | with_reducible rfl | (simp only [finV, any3_finF, h2, h4, h6]; done) | (simp [finV, any3_finF, h2, h4, h6]; done) | rfl
  exact (by first | rfl | rw [x27])

/- impl.stepOk -/
theorem c_impl_stepOk (x : Nat) (w : World) : Gives Try.prog 51 #[(Fl x)] w (fun v w' => v = (Bo (finF (cf .f32 x) && posF (cf .f32 x)))) := by
  refine enter [(Fl x), Ud, Ud, Ud, Ud, Ud, Ud, Ud, Ud] Try.func51 rfl Try.ntmps51 rfl ?_
  refine wp_seq_k fun K1 hK1 => ?_
  refine wp_region_lit ?_
  refine q_is (l' := [(Fl x), Ud, (Bo false), Ud, Ud, Ud, Ud, Ud, Ud]) rfl rfl (does_assign (u := (Bo false)) (ev rfl)) rfl ?_
  refine wpList_nil (hK1 _ _ ?_)
  refine wp_seq_k fun K2 hK2 => ?_
  obtain ⟨β1, hβ1⟩ : ∃ b : Bool, b = (fcmp .gtr (ford .f32 (cf .f32 x) (cf .f32 0))) := ⟨_, rfl⟩
  refine region_text (
    [Fact.pure [] (fun v => v = (Fl x)),
    Fact.pure [3] (fun v => v = (Bo (finF (cf .f32 x)))),
    Fact.pure [4] (fun v => v = (Bo (finF (cf .f32 x)))),
    Fact.pure [5] (fun v => (finF (cf .f32 x)) = true → v = (Fl x)),
    Fact.pure [6, 5] (fun v => (finF (cf .f32 x)) = true → v = (Bo β1)),
    Fact.pure [5, 7] (fun v => v = (Bo ((finF (cf .f32 x)) && β1)))]) (by simp [Fact.pure, Fact.mem]) ?_
  refine RW_d (fun v3 => [(Fl x), Ud, (Bo false), v3, Ud, Ud, Ud, Ud, Ud]) rfl (fun _ => rfl) (fun u hu hF => ?_) (fun v3 => ?_)
  · clear hF
    refine doesG_un rfl ?_
    refine (does_move (u := (Fl x)) (ev rfl)).mono ?_; rintro _ _ ⟨rfl, rfl⟩
    exact ⟨rfl, Ext.refl _⟩
  refine RW_d (fun v4 => [(Fl x), Ud, (Bo false), v3, v4, Ud, Ud, Ud, Ud]) rfl (fun _ => rfl) (fun u hu hF => ?_) (fun v4 => ?_)
  · have h3_ : v3 = (Fl x) := hF.1
    clear hF
    refine doesG_un rfl ?_
    obtain rfl := h3_
    refine (does_call (args := #[(Fl x)]) cal60 (evs rfl) (c_impl_IsFinite x _)).mono ?_; rintro v u' ⟨hx, hv⟩
    exact ⟨hv, hx⟩
  refine RW_d (fun v5 => [(Fl x), Ud, (Bo false), v3, v4, v5, Ud, Ud, Ud]) rfl (fun _ => rfl) (fun u hu hF => ?_) (fun v5 => ?_)
  · have h4_ : v4 = (Bo (finF (cf .f32 x))) := hF.1
    clear hF
    refine doesG_un rfl ?_
    obtain rfl := h4_
    refine (does_move (u := (Bo (finF (cf .f32 x)))) (ev rfl)).mono ?_; rintro _ _ ⟨rfl, rfl⟩
    exact ⟨rfl, Ext.refl _⟩
  refine RW_d (fun v6 => [(Fl x), Ud, (Bo false), v3, v4, v5, v6, Ud, Ud]) rfl (fun _ => rfl) (fun u hu hF => ?_) (fun v6 => ?_)
  · have h5_ : v5 = (Bo (finF (cf .f32 x))) := hF.1
    clear hF
    obtain rfl := h5_
    refine doesG_g (b := (finF (cf .f32 x))) rfl (yld rfl rfl) (fun hg1 => ?_) (fun hc => ⟨fun hg1 => absurd hg1 hc, Ext.refl _⟩)
    refine (does_move (u := (Fl x)) (ev rfl)).mono ?_; rintro _ _ ⟨rfl, rfl⟩
    exact ⟨fun _ => rfl, Ext.refl _⟩
  refine RW_d (fun v7 => [(Fl x), Ud, (Bo false), v3, v4, v5, v6, v7, Ud]) rfl (fun _ => rfl) (fun u hu hF => ?_) (fun v7 => ?_)
  · have h6_ : (finF (cf .f32 x)) = true → v6 = (Fl x) := hF.1
    have h5_ : v5 = (Bo (finF (cf .f32 x))) := hF.2.1
    clear hF
    obtain rfl := h5_
    refine doesG_g (b := (finF (cf .f32 x))) rfl (yld rfl rfl) (fun hg1 => ?_) (fun hc => ⟨fun hg1 => absurd hg1 hc, Ext.refl _⟩)
    obtain rfl := h6_ hg1
    refine (does_fcmp (.inr (.inr (.inr (.inr (.inl rfl))))) (ev rfl) (ev rfl)).mono ?_; rintro _ _ ⟨rfl, rfl⟩
    exact ⟨fun _ => (by first | rfl | (show _ = _; simp only [hβ1]; done) | (show _ = _; simp only [hβ1]; rfl)), Ext.refl _⟩
  refine RW_d (fun v8 => [(Fl x), Ud, (Bo false), v3, v4, v5, v6, v7, v8]) rfl (fun _ => rfl) (fun u hu hF => ?_) (fun v8 => ?_)
  · have h5_ : v5 = (Bo (finF (cf .f32 x))) := hF.1
    have h7_ : (finF (cf .f32 x)) = true → v7 = (Bo β1) := hF.2.1
    clear hF
    refine doesG_un rfl ?_
    skip
    obtain rfl := h5_
    refine (does_pick (b := (finF (cf .f32 x))) (ev rfl) (ev rfl) (ev rfl)).mono ?_; rintro _ _ ⟨rfl, rfl⟩; refine ⟨?_, Ext.refl _⟩; skip
    cases hbb : (finF (cf .f32 x))
    all_goals first | rfl | (have e_ := h7_ hbb; subst e_; rfl) | (simp [hbb] at h7_ ⊢; first | done | rfl | (subst h7_; rfl) | simp_all) | (simp [hbb] at h7_ ⊢; done)
  refine RW_fin ?_; intro w9 E10 hP11
  obtain ⟨⟨⟨⟨⟨⟨-, -⟩, -⟩, -⟩, -⟩, -⟩, q12⟩ := hP11
  have X13 := Ext.gr (Ext.refl w) E10
  have q12 : v8 = (Bo ((finF (cf .f32 x)) && β1)) := q12
  obtain rfl := q12
  show wpList _ _ _ _ (fr [(Fl x), Ud, (Bo false), v3, v4, v5, v6, v7, (Bo ((finF (cf .f32 x)) && β1))]) _
  refine q_is (l' := [(Fl x), Ud, (Bo ((finF (cf .f32 x)) && β1)), v3, v4, v5, v6, v7, (Bo ((finF (cf .f32 x)) && β1))]) rfl rfl (does_assign (u := (Bo ((finF (cf .f32 x)) && β1))) (ev rfl)) rfl ?_
  refine wpList_nil (hK2 _ _ ?_)
  refine wp_ret ?_
  refine ret_val (v := (Bo ((finF (cf .f32 x)) && β1))) (res_T rfl (slot rfl)) X13 ?_
  have x14 : (finF (cf .f32 x) && posF (cf .f32 x)) = ((finF (cf .f32 x)) && β1) := by first | with_reducible rfl | (simp only [posF, hβ1]; done) | (simp [posF, hβ1]; done) | rfl
  exact (by first | rfl | rw [x14])

/- impl.ValidGrid -/
theorem c_impl_ValidGrid (g : List Value) (A_g : GridT) (w : World) (hv_g : RGridT w A_g g) : Gives Try.prog 28 #[(.agg g.toArray)] w (fun v w' => v = (Bo (isGrid A_g))) := by
  obtain ⟨r1, r3, r5, r7, y9, rfl, h2, h4, h6, h8, h10⟩ := hv_g
  have hs13 := h10; have hs13l := Sl.len h10; obtain ⟨p11, q12, rfl⟩ := Sl.shape h10
  refine enter [(.agg #[(Fl r1), (Fl r3), (Fl r5), (Fl r7), (Iv A_g.x), (Iv A_g.y), (Iv A_g.z), (.slice p11 A_g.vals.length q12)]), Ud, Ud, Ud, Ud, Ud, Ud, Ud, Ud, Ud, Ud, Ud, Ud, Ud, Ud, Ud, Ud, Ud, Ud, Ud, Ud, Ud, Ud, Ud, Ud, Ud, Ud, Ud, Ud, Ud, Ud, Ud, Ud, Ud, Ud, Ud, Ud, Ud, Ud, Ud, Ud] Try.func28 rfl Try.ntmps28 rfl ?_
  refine wp_seq_k fun K14 hK14 => ?_
  refine wp_region_lit ?_
  refine seqd rfl rfl (does_box (u := (.agg #[(Fl r1), (Fl r3), (Fl r5), (Fl r7), (Iv A_g.x), (Iv A_g.y), (Iv A_g.z), (.slice p11 A_g.vals.length q12)])) (ev rfl)) ?_; rintro _ w19 ⟨b15, rfl, hb16, hB17, E18⟩
  have g20 : w.heap.size ≤ b15 := Nat.le_trans (Below.size (Ext.refl w)) hb16
  change Blk _ _ [(Fl r1), (Fl r3), (Fl r5), (Fl r7), (Iv A_g.x), (Iv A_g.y), (Iv A_g.z), (.slice p11 A_g.vals.length q12)] at hB17
  have X21 := Ext.gr (Ext.refl w) E18
  show wpList _ _ _ _ (fr [_, _, _, _, _, _, _, _, _, _, _, _, _, _, _, _, _, _, _, _, _, _, _, _, _, _, _, _, _, _, _, _, _, _, _, _, _, _, _, _, _]) _
  refine q_is rfl rfl (does_assign (u := (Bo false)) (ev rfl)) (by dsimp only [List.set]; try rfl) ?_
  refine wpList_nil (hK14 _ _ ?_)
  refine wp_seq_k fun K22 hK22 => ?_
  refine wp_seq_k fun K23 hK23 => ?_
  obtain ⟨β1, hβ1⟩ : ∃ b : Bool, b = (finF (cf .f32 r7) && posF (cf .f32 r7)) := ⟨_, rfl⟩
  obtain ⟨β2, hβ2⟩ : ∃ b : Bool, b = ((!(finV A_g.low)) || (!β1)) := ⟨_, rfl⟩
  refine region_text (
    [Fact.pure [] (fun v => v = (Pt b15 0)),
    Fact.pure [6] (fun v => v = (.agg #[(Fl r1), (Fl r3), (Fl r5)])),
    Fact.pure [7] (fun v => v = (Bo (finV A_g.low))),
    Fact.pure [8] (fun v => v = (Bo (!(finV A_g.low)))),
    Fact.pure [9] (fun v => v = (Bo (!(finV A_g.low)))),
    Fact.pure [10] (fun v => (!(finV A_g.low)) = false → v = (Pt b15 3)),
    Fact.pure [11, 10] (fun v => (!(finV A_g.low)) = false → v = (Fl r7)),
    Fact.pure [12, 10] (fun v => (!(finV A_g.low)) = false → v = (Bo β1)),
    Fact.pure [13, 10] (fun v => (!(finV A_g.low)) = false → v = (Bo (!β1))),
    Fact.pure [10, 14] (fun v => v = (Bo β2))]) (by simp [Fact.pure, Fact.mem]) ?_
  refine RW_d _ rfl (fun v => by dsimp only [List.set]; try rfl) (fun u hu hF => ?_) (fun v24 => ?_)
  · clear hF
    refine doesG_un rfl ?_
    refine (does_fieldAddr (ev rfl) fa31_0).mono ?_; rintro _ _ ⟨rfl, rfl⟩
    exact ⟨rfl, Ext.refl _⟩
  refine RW_d _ rfl (fun v => by dsimp only [List.set]; try rfl) (fun u hu hF => ?_) (fun v25 => ?_)
  · have h6_ : v24 = (Pt b15 0) := hF.1
    clear hF
    refine doesG_un rfl ?_
    obtain rfl := h6_
    refine (does_loadAgg (cs := [(Fl r1), (Fl r3), (Fl r5)]) (ev rfl) Try.isAgg29 Try.sizeOf29 (Cells.sub (Blk.cells (hB17.ext hu)) 0 3) rfl).mono ?_; rintro _ _ ⟨rfl, rfl⟩
    exact ⟨rfl, Ext.refl _⟩
  refine RW_d _ rfl (fun v => by dsimp only [List.set]; try rfl) (fun u hu hF => ?_) (fun v26 => ?_)
  · have h7_ : v25 = (.agg #[(Fl r1), (Fl r3), (Fl r5)]) := hF.1
    clear hF
    refine doesG_un rfl ?_
    obtain rfl := h7_
    refine (does_call (args := #[(.agg #[(Fl r1), (Fl r3), (Fl r5)])]) cal50 (evs rfl) (c_impl_finiteVector [(Fl r1), (Fl r3), (Fl r5)] A_g.low _ ⟨r1, r3, r5, rfl, h2, h4, h6⟩)).mono ?_; rintro v u' ⟨hx, hv⟩
    exact ⟨hv, hx⟩
  refine RW_d _ rfl (fun v => by dsimp only [List.set]; try rfl) (fun u hu hF => ?_) (fun v27 => ?_)
  · have h8_ : v26 = (Bo (finV A_g.low)) := hF.1
    clear hF
    refine doesG_un rfl ?_
    obtain rfl := h8_
    refine (does_not (ev rfl)).mono ?_; rintro _ _ ⟨rfl, rfl⟩
    exact ⟨rfl, Ext.refl _⟩
  refine RW_d _ rfl (fun v => by dsimp only [List.set]; try rfl) (fun u hu hF => ?_) (fun v28 => ?_)
  · have h9_ : v27 = (Bo (!(finV A_g.low))) := hF.1
    clear hF
    refine doesG_un rfl ?_
    obtain rfl := h9_
    refine (does_move (u := (Bo (!(finV A_g.low)))) (ev rfl)).mono ?_; rintro _ _ ⟨rfl, rfl⟩
    exact ⟨rfl, Ext.refl _⟩
  refine RW_d _ rfl (fun v => by dsimp only [List.set]; try rfl) (fun u hu hF => ?_) (fun v29 => ?_)
  · have h10_ : v28 = (Bo (!(finV A_g.low))) := hF.1
    clear hF
    obtain rfl := h10_
    refine doesG_g (b := (!(finV A_g.low))) rfl (yld rfl rfl) (fun hg1 => ?_) (fun hc => ⟨fun hg1 => absurd hg1 hc, Ext.refl _⟩)
    refine (does_fieldAddr (ev rfl) fa31_1).mono ?_; rintro _ _ ⟨rfl, rfl⟩
    exact ⟨fun _ => rfl, Ext.refl _⟩
  refine RW_d _ rfl (fun v => by dsimp only [List.set]; try rfl) (fun u hu hF => ?_) (fun v30 => ?_)
  · have h11_ : (!(finV A_g.low)) = false → v29 = (Pt b15 3) := hF.1
    have h10_ : v28 = (Bo (!(finV A_g.low))) := hF.2.1
    clear hF
    obtain rfl := h10_
    refine doesG_g (b := (!(finV A_g.low))) rfl (yld rfl rfl) (fun hg1 => ?_) (fun hc => ⟨fun hg1 => absurd hg1 hc, Ext.refl _⟩)
    obtain rfl := h11_ hg1
    refine (does_load (u := (Fl r7)) (ev rfl) Try.isAgg22 (Cells.at (Blk.cells (hB17.ext hu)) 3 rfl)).mono ?_; rintro _ _ ⟨rfl, rfl⟩
    exact ⟨fun _ => rfl, Ext.refl _⟩
  refine RW_d _ rfl (fun v => by dsimp only [List.set]; try rfl) (fun u hu hF => ?_) (fun v31 => ?_)
  · have h12_ : (!(finV A_g.low)) = false → v30 = (Fl r7) := hF.1
    have h10_ : v28 = (Bo (!(finV A_g.low))) := hF.2.1
    clear hF
    obtain rfl := h10_
    refine doesG_g (b := (!(finV A_g.low))) rfl (yld rfl rfl) (fun hg1 => ?_) (fun hc => ⟨fun hg1 => absurd hg1 hc, Ext.refl _⟩)
    obtain rfl := h12_ hg1
    refine (does_call (args := #[(Fl r7)]) cal51 (evs rfl) (c_impl_stepOk r7 _)).mono ?_; rintro v u' ⟨hx, hv⟩
    exact ⟨fun _ => hv.trans (by simp only [hβ1]), hx⟩
  refine RW_d _ rfl (fun v => by dsimp only [List.set]; try rfl) (fun u hu hF => ?_) (fun v32 => ?_)
  · have h13_ : (!(finV A_g.low)) = false → v31 = (Bo β1) := hF.1
    have h10_ : v28 = (Bo (!(finV A_g.low))) := hF.2.1
    clear hF
    obtain rfl := h10_
    refine doesG_g (b := (!(finV A_g.low))) rfl (yld rfl rfl) (fun hg1 => ?_) (fun hc => ⟨fun hg1 => absurd hg1 hc, Ext.refl _⟩)
    obtain rfl := h13_ hg1
    refine (does_not (ev rfl)).mono ?_; rintro _ _ ⟨rfl, rfl⟩
    exact ⟨fun _ => rfl, Ext.refl _⟩
  refine RW_d _ rfl (fun v => by dsimp only [List.set]; try rfl) (fun u hu hF => ?_) (fun v33 => ?_)
  · have h10_ : v28 = (Bo (!(finV A_g.low))) := hF.1
    have h14_ : (!(finV A_g.low)) = false → v32 = (Bo (!β1)) := hF.2.1
    clear hF
    refine doesG_un rfl ?_
    skip
    obtain rfl := h10_
    refine (does_pick (b := (!(finV A_g.low))) (ev rfl) (ev rfl) (ev rfl)).mono ?_; rintro _ _ ⟨rfl, rfl⟩; refine ⟨?_, Ext.refl _⟩; rw [hβ2]; skip
    cases hbb : (!(finV A_g.low))
    all_goals first | rfl | (have e_ := h14_ hbb; subst e_; rfl) | (simp [hbb] at h14_ ⊢; first | done | rfl | (subst h14_; rfl) | simp_all) | (simp [hbb] at h14_ ⊢; done)
  refine RW_fin ?_; intro w34 E35 hP36
  obtain ⟨⟨⟨⟨⟨⟨⟨⟨⟨⟨-, -⟩, -⟩, -⟩, -⟩, -⟩, -⟩, -⟩, -⟩, -⟩, q37⟩ := hP36
  have X38 := Ext.gr X21 E35
  have q37 : v33 = (Bo β2) := q37
  obtain rfl := q37
  show wpList _ _ _ _ (fr [_, _, _, _, _, _, _, _, _, _, _, _, _, _, _, _, _, _, _, _, _, _, _, _, _, _, _, _, _, _, _, _, _, _, _, _, _, _, _, _, _]) _
  refine wpList_nil (hK23 _ _ ?_)
  refine wp_cond_split (t := β2) (ev rfl) (fun c39 => ?_) (fun c39 => ?_)
  · have c39' := c39
    (try simp only [hβ1, hβ2] at c39')
    (try simp only [icmp, Bool.and_eq_true, Bool.or_eq_true, Bool.and_eq_false_iff, Bool.or_eq_false_iff, Bool.not_eq_true', Bool.not_eq_false', decide_eq_true_eq, decide_eq_false_iff_not, beq_iff_eq, bne_iff_ne, beq_eq_false_iff_ne, bne_eq_false_iff_eq] at c39')
    refine wp_seq_k fun K40 hK40 => ?_
    refine wp_region_lit ?_
    refine q_is rfl rfl (does_assign (u := (Bo false)) (ev rfl)) (by dsimp only [List.set]; try rfl) ?_
    refine wpList_nil (hK40 _ _ ?_)
    refine wp_ret ?_
    dsimp only [Exit.then, Exit.inBlock]
    refine ret_val (v := (Bo false)) (res_T rfl (slot rfl)) X38 ?_
    try simp only [h2, h4, h6, h8, hβ1, hβ2] at c39
    have x41 : (isGrid A_g) = false := by first | with_reducible rfl | (simp only [isGrid, cntOk, prod3, h2, h4, h6, h8, hβ1, hβ2, c39]; done) | (simp [isGrid, cntOk, prod3, h2, h4, h6, h8, hβ1, hβ2, c39]; done) | (revert c39; simp +contextual [isGrid, cntOk, prod3, h2, h4, h6, h8, hβ1, hβ2]; done) | (rcases c39' with hh | hh <;> simp only [hh, isGrid, cntOk, prod3, h2, h4, h6, h8, hβ1, hβ2, c39]; done) | (rcases c39' with hh | hh <;> simp_all [isGrid, cntOk, prod3]; done) | (rcases c39' with hh | hh | hh <;> simp_all [isGrid, cntOk, prod3]; done) | (rcases c39' with hh | hh | hh | hh <;> simp_all [isGrid, cntOk, prod3]; done) | (simp_all [isGrid, cntOk, prod3]; done) | rfl
    exact (by first | rfl | rw [x41])
  have c39' := c39
  (try simp only [hβ1, hβ2] at c39')
  (try simp only [icmp, Bool.and_eq_true, Bool.or_eq_true, Bool.and_eq_false_iff, Bool.or_eq_false_iff, Bool.not_eq_true', Bool.not_eq_false', decide_eq_true_eq, decide_eq_false_iff_not, beq_iff_eq, bne_iff_ne, beq_eq_false_iff_ne, bne_eq_false_iff_eq] at c39')
  refine wp_skip (hK22 _ _ ?_)
  refine wp_seq_k fun K42 hK42 => ?_
  refine wp_seq_k fun K43 hK43 => ?_
  refine wp_region_lit ?_
  refine seqd rfl rfl (does_call (args := #[(Pt b15 0)]) cal39 (evs rfl) (c_impl_Grid_counts b15 0 [(Fl r1), (Fl r3), (Fl r5), (Fl r7), (Iv A_g.x), (Iv A_g.y), (Iv A_g.z), (.slice p11 A_g.vals.length q12)] A_g _ (Blk.cells (hB17.ext E35)) ⟨r1, r3, r5, r7, (.slice p11 A_g.vals.length q12), rfl, h2, h4, h6, h8, (Sl.ext hs13 RF.mono X38)⟩)) ?_; rintro _ w45 ⟨E44, rfl⟩
  have X46 := Ext.gr X38 E44
  show wpList _ _ _ _ (fr [_, _, _, _, _, _, _, _, _, _, _, _, _, _, _, _, _, _, _, _, _, _, _, _, _, _, _, _, _, _, _, _, _, _, _, _, _, _, _, _, _]) _
  refine q_is rfl rfl (does_move (u := (Iv 0)) (ev rfl)) (by dsimp only [List.set]; try rfl) ?_
  refine wpList_nil (hK43 _ _ ?_)
  refine wp_block ?_
  refine loop_unroll 4 ?_
  refine un_step ?_
  refine wp_seq_k fun K47 hK47 => ?_
  refine wp_region_lit ?_
  refine q_is rfl rfl (does_icmp (p := 0) (q := 3) (.inr (.inr (.inl rfl))) (ev rfl) (ev rfl)) (by dsimp only [List.set]; try rfl) ?_
  refine wpList_nil (hK47 _ _ ?_)
  refine wp_seq_k fun K48 hK48 => ?_
  refine wp_cond_true (ev rfl) ?_
  refine wp_skip (hK48 _ _ ?_)
  refine wp_seq_k fun K49 hK49 => ?_
  refine wp_block ?_
  refine wp_seq_k fun K50 hK50 => ?_
  refine wp_region_lit ?_
  refine q_is rfl rfl (does_index_run (r := (Iv A_g.x)) (ev rfl) (ev rfl) (fun w => ix55_0 _ _ _ w)) (by dsimp only [List.set]; try rfl) ?_
  refine q_is rfl rfl (does_assign (u := (Iv A_g.x)) (ev rfl)) (by dsimp only [List.set]; try rfl) ?_
  refine wpList_nil (hK50 _ _ ?_)
  refine wp_seq_k fun K51 hK51 => ?_
  refine wp_region_lit ?_
  refine q_is rfl rfl (does_move (u := (Iv A_g.x)) (ev rfl)) (by dsimp only [List.set]; try rfl) ?_
  refine seqd rfl rfl (does_call (args := #[(Iv A_g.x), (Iv 1), (Iv 16)]) cal40 (evs rfl) (c_impl_in A_g.x 1 16 _)) ?_; rintro _ w53 ⟨E52, rfl⟩
  have X54 := Ext.gr X46 E52
  show wpList _ _ _ _ (fr [_, _, _, _, _, _, _, _, _, _, _, _, _, _, _, _, _, _, _, _, _, _, _, _, _, _, _, _, _, _, _, _, _, _, _, _, _, _, _, _, _]) _
  refine q_is rfl rfl (does_not (ev rfl)) (by dsimp only [List.set]; try rfl) ?_
  refine wpList_nil (hK51 _ _ ?_)
  refine wp_cond_split (t := !(inI A_g.x 1 16)) (ev rfl) (fun c55 => ?_) (fun c55 => ?_)
  · rw [Bool.not_eq_true'] at c55
    have c55' := c55
    (try simp only [hβ1, hβ2] at c55')
    (try simp only [icmp, Bool.and_eq_true, Bool.or_eq_true, Bool.and_eq_false_iff, Bool.or_eq_false_iff, Bool.not_eq_true', Bool.not_eq_false', decide_eq_true_eq, decide_eq_false_iff_not, beq_iff_eq, bne_iff_ne, beq_eq_false_iff_ne, bne_eq_false_iff_eq] at c55')
    refine wp_seq_k fun K56 hK56 => ?_
    refine wp_region_lit ?_
    refine q_is rfl rfl (does_assign (u := (Bo false)) (ev rfl)) (by dsimp only [List.set]; try rfl) ?_
    refine wpList_nil (hK56 _ _ ?_)
    refine wp_ret ?_
    dsimp only [Exit.then, Exit.inBlock]
    refine ret_val (v := (Bo false)) (res_T rfl (slot rfl)) X54 ?_
    try simp only [h2, h4, h6, h8, hβ1, hβ2] at c39 c55
    have x57 : (isGrid A_g) = false := by first | with_reducible rfl | (simp only [isGrid, cntOk, prod3, h2, h4, h6, h8, hβ1, hβ2, c39, c55]; done) | (simp [isGrid, cntOk, prod3, h2, h4, h6, h8, hβ1, hβ2, c39, c55]; done) | (revert c39 c55; simp +contextual [isGrid, cntOk, prod3, h2, h4, h6, h8, hβ1, hβ2]; done) | (rcases c39' with hh | hh <;> simp only [hh, isGrid, cntOk, prod3, h2, h4, h6, h8, hβ1, hβ2, c39, c55]; done) | (rcases c55' with hh | hh <;> simp only [hh, isGrid, cntOk, prod3, h2, h4, h6, h8, hβ1, hβ2, c39, c55]; done) | (rcases c55' with hh | hh <;> simp_all [isGrid, cntOk, prod3]; done) | (rcases c55' with hh | hh | hh <;> simp_all [isGrid, cntOk, prod3]; done) | (rcases c55' with hh | hh | hh | hh <;> simp_all [isGrid, cntOk, prod3]; done) | (simp_all [isGrid, cntOk, prod3]; done) | rfl
    exact (by first | rfl | rw [x57])
  rw [Bool.not_eq_false'] at c55
  have c55' := c55
  (try simp only [hβ1, hβ2] at c55')
  (try simp only [icmp, Bool.and_eq_true, Bool.or_eq_true, Bool.and_eq_false_iff, Bool.or_eq_false_iff, Bool.not_eq_true', Bool.not_eq_false', decide_eq_true_eq, decide_eq_false_iff_not, beq_iff_eq, bne_iff_ne, beq_eq_false_iff_ne, bne_eq_false_iff_eq] at c55')
  refine wp_skip (hK49 _ _ ?_)
  refine wp_region_lit ?_
  refine q_is rfl rfl (does_iarith (p := 0) (q := 1) (r := (1)) (ev rfl) (ev rfl) (.inl ⟨rfl, rfl⟩)) (by dsimp only [List.set]; try rfl) ?_
  refine q_is rfl rfl (does_move (u := (Iv 1)) (ev rfl)) (by dsimp only [List.set]; try rfl) ?_
  refine wpList_nil ?_
  refine un_step ?_
  refine wp_seq_k fun K58 hK58 => ?_
  refine wp_region_lit ?_
  refine q_is rfl rfl (does_icmp (p := 1) (q := 3) (.inr (.inr (.inl rfl))) (ev rfl) (ev rfl)) (by dsimp only [List.set]; try rfl) ?_
  refine wpList_nil (hK58 _ _ ?_)
  refine wp_seq_k fun K59 hK59 => ?_
  refine wp_cond_true (ev rfl) ?_
  refine wp_skip (hK59 _ _ ?_)
  refine wp_seq_k fun K60 hK60 => ?_
  refine wp_block ?_
  refine wp_seq_k fun K61 hK61 => ?_
  refine wp_region_lit ?_
  refine q_is rfl rfl (does_index_run (r := (Iv A_g.y)) (ev rfl) (ev rfl) (fun w => ix55_1 _ _ _ w)) (by dsimp only [List.set]; try rfl) ?_
  refine q_is rfl rfl (does_assign (u := (Iv A_g.y)) (ev rfl)) (by dsimp only [List.set]; try rfl) ?_
  refine wpList_nil (hK61 _ _ ?_)
  refine wp_seq_k fun K62 hK62 => ?_
  refine wp_region_lit ?_
  refine q_is rfl rfl (does_move (u := (Iv A_g.y)) (ev rfl)) (by dsimp only [List.set]; try rfl) ?_
  refine seqd rfl rfl (does_call (args := #[(Iv A_g.y), (Iv 1), (Iv 16)]) cal40 (evs rfl) (c_impl_in A_g.y 1 16 _)) ?_; rintro _ w64 ⟨E63, rfl⟩
  have X65 := Ext.gr X54 E63
  show wpList _ _ _ _ (fr [_, _, _, _, _, _, _, _, _, _, _, _, _, _, _, _, _, _, _, _, _, _, _, _, _, _, _, _, _, _, _, _, _, _, _, _, _, _, _, _, _]) _
  refine q_is rfl rfl (does_not (ev rfl)) (by dsimp only [List.set]; try rfl) ?_
  refine wpList_nil (hK62 _ _ ?_)
  refine wp_cond_split (t := !(inI A_g.y 1 16)) (ev rfl) (fun c66 => ?_) (fun c66 => ?_)
  · rw [Bool.not_eq_true'] at c66
    have c66' := c66
    (try simp only [hβ1, hβ2] at c66')
    (try simp only [icmp, Bool.and_eq_true, Bool.or_eq_true, Bool.and_eq_false_iff, Bool.or_eq_false_iff, Bool.not_eq_true', Bool.not_eq_false', decide_eq_true_eq, decide_eq_false_iff_not, beq_iff_eq, bne_iff_ne, beq_eq_false_iff_ne, bne_eq_false_iff_eq] at c66')
    refine wp_seq_k fun K67 hK67 => ?_
    refine wp_region_lit ?_
    refine q_is rfl rfl (does_assign (u := (Bo false)) (ev rfl)) (by dsimp only [List.set]; try rfl) ?_
    refine wpList_nil (hK67 _ _ ?_)
    refine wp_ret ?_
    dsimp only [Exit.then, Exit.inBlock]
    refine ret_val (v := (Bo false)) (res_T rfl (slot rfl)) X65 ?_
    try simp only [h2, h4, h6, h8, hβ1, hβ2] at c39 c55 c66
    have x68 : (isGrid A_g) = false := by first | with_reducible rfl | (simp only [isGrid, cntOk, prod3, h2, h4, h6, h8, hβ1, hβ2, c39, c55, c66]; done) | (simp [isGrid, cntOk, prod3, h2, h4, h6, h8, hβ1, hβ2, c39, c55, c66]; done) | (revert c39 c55 c66; simp +contextual [isGrid, cntOk, prod3, h2, h4, h6, h8, hβ1, hβ2]; done) | (rcases c39' with hh | hh <;> simp only [hh, isGrid, cntOk, prod3, h2, h4, h6, h8, hβ1, hβ2, c39, c55, c66]; done) | (rcases c55' with hh | hh <;> simp only [hh, isGrid, cntOk, prod3, h2, h4, h6, h8, hβ1, hβ2, c39, c55, c66]; done) | (rcases c66' with hh | hh <;> simp only [hh, isGrid, cntOk, prod3, h2, h4, h6, h8, hβ1, hβ2, c39, c55, c66]; done) | (rcases c66' with hh | hh <;> simp_all [isGrid, cntOk, prod3]; done) | (rcases c66' with hh | hh | hh <;> simp_all [isGrid, cntOk, prod3]; done) | (rcases c66' with hh | hh | hh | hh <;> simp_all [isGrid, cntOk, prod3]; done) | (simp_all [isGrid, cntOk, prod3]; done) | rfl
    exact (by first | rfl | rw [x68])
  rw [Bool.not_eq_false'] at c66
  have c66' := c66
  (try simp only [hβ1, hβ2] at c66')
  (try simp only [icmp, Bool.and_eq_true, Bool.or_eq_true, Bool.and_eq_false_iff, Bool.or_eq_false_iff, Bool.not_eq_true', Bool.not_eq_false', decide_eq_true_eq, decide_eq_false_iff_not, beq_iff_eq, bne_iff_ne, beq_eq_false_iff_ne, bne_eq_false_iff_eq] at c66')
  refine wp_skip (hK60 _ _ ?_)
  refine wp_region_lit ?_
  refine q_is rfl rfl (does_iarith (p := 1) (q := 1) (r := (2)) (ev rfl) (ev rfl) (.inl ⟨rfl, rfl⟩)) (by dsimp only [List.set]; try rfl) ?_
  refine q_is rfl rfl (does_move (u := (Iv 2)) (ev rfl)) (by dsimp only [List.set]; try rfl) ?_
  refine wpList_nil ?_
  refine un_step ?_
  refine wp_seq_k fun K69 hK69 => ?_
  refine wp_region_lit ?_
  refine q_is rfl rfl (does_icmp (p := 2) (q := 3) (.inr (.inr (.inl rfl))) (ev rfl) (ev rfl)) (by dsimp only [List.set]; try rfl) ?_
  refine wpList_nil (hK69 _ _ ?_)
  refine wp_seq_k fun K70 hK70 => ?_
  refine wp_cond_true (ev rfl) ?_
  refine wp_skip (hK70 _ _ ?_)
  refine wp_seq_k fun K71 hK71 => ?_
  refine wp_block ?_
  refine wp_seq_k fun K72 hK72 => ?_
  refine wp_region_lit ?_
  refine q_is rfl rfl (does_index_run (r := (Iv A_g.z)) (ev rfl) (ev rfl) (fun w => ix55_2 _ _ _ w)) (by dsimp only [List.set]; try rfl) ?_
  refine q_is rfl rfl (does_assign (u := (Iv A_g.z)) (ev rfl)) (by dsimp only [List.set]; try rfl) ?_
  refine wpList_nil (hK72 _ _ ?_)
  refine wp_seq_k fun K73 hK73 => ?_
  refine wp_region_lit ?_
  refine q_is rfl rfl (does_move (u := (Iv A_g.z)) (ev rfl)) (by dsimp only [List.set]; try rfl) ?_
  refine seqd rfl rfl (does_call (args := #[(Iv A_g.z), (Iv 1), (Iv 16)]) cal40 (evs rfl) (c_impl_in A_g.z 1 16 _)) ?_; rintro _ w75 ⟨E74, rfl⟩
  have X76 := Ext.gr X65 E74
  show wpList _ _ _ _ (fr [_, _, _, _, _, _, _, _, _, _, _, _, _, _, _, _, _, _, _, _, _, _, _, _, _, _, _, _, _, _, _, _, _, _, _, _, _, _, _, _, _]) _
  refine q_is rfl rfl (does_not (ev rfl)) (by dsimp only [List.set]; try rfl) ?_
  refine wpList_nil (hK73 _ _ ?_)
  refine wp_cond_split (t := !(inI A_g.z 1 16)) (ev rfl) (fun c77 => ?_) (fun c77 => ?_)
  · rw [Bool.not_eq_true'] at c77
    have c77' := c77
    (try simp only [hβ1, hβ2] at c77')
    (try simp only [icmp, Bool.and_eq_true, Bool.or_eq_true, Bool.and_eq_false_iff, Bool.or_eq_false_iff, Bool.not_eq_true', Bool.not_eq_false', decide_eq_true_eq, decide_eq_false_iff_not, beq_iff_eq, bne_iff_ne, beq_eq_false_iff_ne, bne_eq_false_iff_eq] at c77')
    refine wp_seq_k fun K78 hK78 => ?_
    refine wp_region_lit ?_
    refine q_is rfl rfl (does_assign (u := (Bo false)) (ev rfl)) (by dsimp only [List.set]; try rfl) ?_
    refine wpList_nil (hK78 _ _ ?_)
    refine wp_ret ?_
    dsimp only [Exit.then, Exit.inBlock]
    refine ret_val (v := (Bo false)) (res_T rfl (slot rfl)) X76 ?_
    try simp only [h2, h4, h6, h8, hβ1, hβ2] at c39 c55 c66 c77
    have x79 : (isGrid A_g) = false := by first | with_reducible rfl | (simp only [isGrid, cntOk, prod3, h2, h4, h6, h8, hβ1, hβ2, c39, c55, c66, c77]; done) | (simp [isGrid, cntOk, prod3, h2, h4, h6, h8, hβ1, hβ2, c39, c55, c66, c77]; done) | (revert c39 c55 c66 c77; simp +contextual [isGrid, cntOk, prod3, h2, h4, h6, h8, hβ1, hβ2]; done) | (rcases c39' with hh | hh <;> simp only [hh, isGrid, cntOk, prod3, h2, h4, h6, h8, hβ1, hβ2, c39, c55, c66, c77]; done) | (rcases c55' with hh | hh <;> simp only [hh, isGrid, cntOk, prod3, h2, h4, h6, h8, hβ1, hβ2, c39, c55, c66, c77]; done) | (rcases c66' with hh | hh <;> simp only [hh, isGrid, cntOk, prod3, h2, h4, h6, h8, hβ1, hβ2, c39, c55, c66, c77]; done) | (rcases c77' with hh | hh <;> simp only [hh, isGrid, cntOk, prod3, h2, h4, h6, h8, hβ1, hβ2, c39, c55, c66, c77]; done) | (rcases c77' with hh | hh <;> simp_all [isGrid, cntOk, prod3]; done) | (rcases c77' with hh | hh | hh <;> simp_all [isGrid, cntOk, prod3]; done) | (rcases c77' with hh | hh | hh | hh <;> simp_all [isGrid, cntOk, prod3]; done) | (simp_all [isGrid, cntOk, prod3]; done) | rfl
    exact (by first | rfl | rw [x79])
  rw [Bool.not_eq_false'] at c77
  have c77' := c77
  (try simp only [hβ1, hβ2] at c77')
  (try simp only [icmp, Bool.and_eq_true, Bool.or_eq_true, Bool.and_eq_false_iff, Bool.or_eq_false_iff, Bool.not_eq_true', Bool.not_eq_false', decide_eq_true_eq, decide_eq_false_iff_not, beq_iff_eq, bne_iff_ne, beq_eq_false_iff_ne, bne_eq_false_iff_eq] at c77')
  refine wp_skip (hK71 _ _ ?_)
  refine wp_region_lit ?_
  refine q_is rfl rfl (does_iarith (p := 2) (q := 1) (r := (3)) (ev rfl) (ev rfl) (.inl ⟨rfl, rfl⟩)) (by dsimp only [List.set]; try rfl) ?_
  refine q_is rfl rfl (does_move (u := (Iv 3)) (ev rfl)) (by dsimp only [List.set]; try rfl) ?_
  refine wpList_nil ?_
  refine un_step ?_
  refine wp_seq_k fun K80 hK80 => ?_
  refine wp_region_lit ?_
  refine q_is rfl rfl (does_icmp (p := 3) (q := 3) (.inr (.inr (.inl rfl))) (ev rfl) (ev rfl)) (by dsimp only [List.set]; try rfl) ?_
  refine wpList_nil (hK80 _ _ ?_)
  refine wp_seq_k fun K81 hK81 => ?_
  refine wp_cond_false (ev rfl) ?_
  refine wp_exit ?_
  refine hK42 _ _ ?_
  refine wp_seq_k fun K82 hK82 => ?_
  refine wp_region_lit ?_
  refine q_is rfl rfl (does_fieldAddr (ev rfl) fa31_2) (by dsimp only [List.set]; try rfl) ?_
  refine q_is rfl rfl (does_load (u := (Iv A_g.x)) (ev rfl) Try.isAgg2 (Cells.at (Blk.cells (((((hB17.ext E35).ext E44).ext E52).ext E63).ext E74)) 4 rfl)) (by dsimp only [List.set]; try rfl) ?_
  refine q_is rfl rfl (does_fieldAddr (ev rfl) fa31_3) (by dsimp only [List.set]; try rfl) ?_
  refine q_is rfl rfl (does_load (u := (Iv A_g.y)) (ev rfl) Try.isAgg2 (Cells.at (Blk.cells (((((hB17.ext E35).ext E44).ext E52).ext E63).ext E74)) 5 rfl)) (by dsimp only [List.set]; try rfl) ?_
  refine q_is rfl rfl (does_iarith (p := A_g.x) (q := A_g.y) (r := IntKind.i64.wrap (A_g.x * A_g.y)) (ev rfl) (ev rfl) (.inr (.inr ⟨rfl, rfl⟩))) (by dsimp only [List.set]; try rfl) ?_
  refine q_is rfl rfl (does_fieldAddr (ev rfl) fa31_4) (by dsimp only [List.set]; try rfl) ?_
  refine q_is rfl rfl (does_load (u := (Iv A_g.z)) (ev rfl) Try.isAgg2 (Cells.at (Blk.cells (((((hB17.ext E35).ext E44).ext E52).ext E63).ext E74)) 6 rfl)) (by dsimp only [List.set]; try rfl) ?_
  refine q_is rfl rfl (does_iarith (p := IntKind.i64.wrap (A_g.x * A_g.y)) (q := A_g.z) (r := IntKind.i64.wrap ((IntKind.i64.wrap (A_g.x * A_g.y)) * A_g.z)) (ev rfl) (ev rfl) (.inr (.inr ⟨rfl, rfl⟩))) (by dsimp only [List.set]; try rfl) ?_
  refine q_is rfl rfl (does_assign (u := (Iv (IntKind.i64.wrap ((IntKind.i64.wrap (A_g.x * A_g.y)) * A_g.z)))) (ev rfl)) (by dsimp only [List.set]; try rfl) ?_
  refine wpList_nil (hK82 _ _ ?_)
  refine wp_seq_k fun K83 hK83 => ?_
  obtain ⟨β3, hβ3⟩ : ∃ b : Bool, b = (icmp .leq (IntKind.i64.wrap ((IntKind.i64.wrap (A_g.x * A_g.y)) * A_g.z)) 1024) := ⟨_, rfl⟩
  obtain ⟨β4, hβ4⟩ : ∃ b : Bool, b = (icmp .eql (A_g.vals.length : Int) (IntKind.i64.wrap ((IntKind.i64.wrap (A_g.x * A_g.y)) * A_g.z))) := ⟨_, rfl⟩
  refine region_text (
    [Fact.pure [] (fun v => v = (Iv (IntKind.i64.wrap ((IntKind.i64.wrap (A_g.x * A_g.y)) * A_g.z)))),
    Fact.pure [32] (fun v => v = (Bo β3)),
    Fact.pure [33] (fun v => v = (Bo β3)),
    Fact.pure [34] (fun v => β3 = true → v = (Pt b15 7)),
    Fact.pure [35, 34] (fun v => β3 = true → v = (.slice p11 A_g.vals.length q12)),
    Fact.pure [36, 34] (fun v => β3 = true → v = (Iv (A_g.vals.length : Int))),
    Fact.pure [34] (fun v => β3 = true → v = (Iv (IntKind.i64.wrap ((IntKind.i64.wrap (A_g.x * A_g.y)) * A_g.z)))),
    Fact.pure [37, 38, 34] (fun v => β3 = true → v = (Bo β4)),
    Fact.pure [34, 39] (fun v => v = (Bo (β3 && β4)))]) (by simp [Fact.pure, Fact.mem]) ?_
  refine RW_d _ rfl (fun v => by dsimp only [List.set]; try rfl) (fun u hu hF => ?_) (fun v84 => ?_)
  · clear hF
    refine doesG_un rfl ?_
    refine (does_move (u := (Iv (IntKind.i64.wrap ((IntKind.i64.wrap (A_g.x * A_g.y)) * A_g.z)))) (ev rfl)).mono ?_; rintro _ _ ⟨rfl, rfl⟩
    exact ⟨rfl, Ext.refl _⟩
  refine RW_d _ rfl (fun v => by dsimp only [List.set]; try rfl) (fun u hu hF => ?_) (fun v85 => ?_)
  · have h32_ : v84 = (Iv (IntKind.i64.wrap ((IntKind.i64.wrap (A_g.x * A_g.y)) * A_g.z))) := hF.1
    clear hF
    refine doesG_un rfl ?_
    obtain rfl := h32_
    refine (does_icmp (p := IntKind.i64.wrap ((IntKind.i64.wrap (A_g.x * A_g.y)) * A_g.z)) (q := 1024) (.inr (.inr (.inr (.inl rfl)))) (ev rfl) (ev rfl)).mono ?_; rintro _ _ ⟨rfl, rfl⟩
    exact ⟨(by first | rfl | (show _ = _; simp only [hβ3]; done) | (show _ = _; simp only [hβ3]; rfl)), Ext.refl _⟩
  refine RW_d _ rfl (fun v => by dsimp only [List.set]; try rfl) (fun u hu hF => ?_) (fun v86 => ?_)
  · have h33_ : v85 = (Bo β3) := hF.1
    clear hF
    refine doesG_un rfl ?_
    obtain rfl := h33_
    refine (does_move (u := (Bo β3)) (ev rfl)).mono ?_; rintro _ _ ⟨rfl, rfl⟩
    exact ⟨rfl, Ext.refl _⟩
  refine RW_d _ rfl (fun v => by dsimp only [List.set]; try rfl) (fun u hu hF => ?_) (fun v87 => ?_)
  · have h34_ : v86 = (Bo β3) := hF.1
    clear hF
    obtain rfl := h34_
    refine doesG_g (b := β3) rfl (yld rfl rfl) (fun hg1 => ?_) (fun hc => ⟨fun hg1 => absurd hg1 hc, Ext.refl _⟩)
    refine (does_fieldAddr (ev rfl) fa31_5).mono ?_; rintro _ _ ⟨rfl, rfl⟩
    exact ⟨fun _ => rfl, Ext.refl _⟩
  refine RW_d _ rfl (fun v => by dsimp only [List.set]; try rfl) (fun u hu hF => ?_) (fun v88 => ?_)
  · have h35_ : β3 = true → v87 = (Pt b15 7) := hF.1
    have h34_ : v86 = (Bo β3) := hF.2.1
    clear hF
    obtain rfl := h34_
    refine doesG_g (b := β3) rfl (yld rfl rfl) (fun hg1 => ?_) (fun hc => ⟨fun hg1 => absurd hg1 hc, Ext.refl _⟩)
    obtain rfl := h35_ hg1
    refine (does_load (u := (.slice p11 A_g.vals.length q12)) (ev rfl) Try.isAgg25 (Cells.at (Blk.cells ((((((hB17.ext E35).ext E44).ext E52).ext E63).ext E74).ext hu)) 7 rfl)).mono ?_; rintro _ _ ⟨rfl, rfl⟩
    exact ⟨fun _ => rfl, Ext.refl _⟩
  refine RW_d _ rfl (fun v => by dsimp only [List.set]; try rfl) (fun u hu hF => ?_) (fun v89 => ?_)
  · have h36_ : β3 = true → v88 = (.slice p11 A_g.vals.length q12) := hF.1
    have h34_ : v86 = (Bo β3) := hF.2.1
    clear hF
    obtain rfl := h34_
    refine doesG_g (b := β3) rfl (yld rfl rfl) (fun hg1 => ?_) (fun hc => ⟨fun hg1 => absurd hg1 hc, Ext.refl _⟩)
    obtain rfl := h36_ hg1
    refine (does_len_slice Try.underlying25 (ev rfl)).mono ?_; rintro _ _ ⟨rfl, rfl⟩
    exact ⟨fun _ => rfl, Ext.refl _⟩
  refine RW_d _ rfl (fun v => by dsimp only [List.set]; try rfl) (fun u hu hF => ?_) (fun v90 => ?_)
  · have h34_ : v86 = (Bo β3) := hF.1
    clear hF
    obtain rfl := h34_
    refine doesG_g (b := β3) rfl (yld rfl rfl) (fun hg1 => ?_) (fun hc => ⟨fun hg1 => absurd hg1 hc, Ext.refl _⟩)
    refine (does_move (u := (Iv (IntKind.i64.wrap ((IntKind.i64.wrap (A_g.x * A_g.y)) * A_g.z)))) (ev rfl)).mono ?_; rintro _ _ ⟨rfl, rfl⟩
    exact ⟨fun _ => rfl, Ext.refl _⟩
  refine RW_d _ rfl (fun v => by dsimp only [List.set]; try rfl) (fun u hu hF => ?_) (fun v91 => ?_)
  · have h37_ : β3 = true → v89 = (Iv (A_g.vals.length : Int)) := hF.1
    have h38_ : β3 = true → v90 = (Iv (IntKind.i64.wrap ((IntKind.i64.wrap (A_g.x * A_g.y)) * A_g.z))) := hF.2.1
    have h34_ : v86 = (Bo β3) := hF.2.2.1
    clear hF
    obtain rfl := h34_
    refine doesG_g (b := β3) rfl (yld rfl rfl) (fun hg1 => ?_) (fun hc => ⟨fun hg1 => absurd hg1 hc, Ext.refl _⟩)
    obtain rfl := h37_ hg1
    obtain rfl := h38_ hg1
    refine (does_icmp (p := (A_g.vals.length : Int)) (q := IntKind.i64.wrap ((IntKind.i64.wrap (A_g.x * A_g.y)) * A_g.z)) (.inl rfl) (ev rfl) (ev rfl)).mono ?_; rintro _ _ ⟨rfl, rfl⟩
    exact ⟨fun _ => (by first | rfl | (show _ = _; simp only [hβ4]; done) | (show _ = _; simp only [hβ4]; rfl)), Ext.refl _⟩
  refine RW_d _ rfl (fun v => by dsimp only [List.set]; try rfl) (fun u hu hF => ?_) (fun v92 => ?_)
  · have h34_ : v86 = (Bo β3) := hF.1
    have h39_ : β3 = true → v91 = (Bo β4) := hF.2.1
    clear hF
    refine doesG_un rfl ?_
    skip
    obtain rfl := h34_
    refine (does_pick (b := β3) (ev rfl) (ev rfl) (ev rfl)).mono ?_; rintro _ _ ⟨rfl, rfl⟩; refine ⟨?_, Ext.refl _⟩; skip
    cases hbb : β3
    all_goals first | rfl | (have e_ := h39_ hbb; subst e_; rfl) | (simp [hbb] at h39_ ⊢; first | done | rfl | (subst h39_; rfl) | simp_all) | (simp [hbb] at h39_ ⊢; done)
  refine RW_fin ?_; intro w93 E94 hP95
  obtain ⟨⟨⟨⟨⟨⟨⟨⟨⟨-, -⟩, -⟩, -⟩, -⟩, -⟩, -⟩, -⟩, -⟩, q96⟩ := hP95
  have X97 := Ext.gr X76 E94
  have q96 : v92 = (Bo (β3 && β4)) := q96
  obtain rfl := q96
  show wpList _ _ _ _ (fr [_, _, _, _, _, _, _, _, _, _, _, _, _, _, _, _, _, _, _, _, _, _, _, _, _, _, _, _, _, _, _, _, _, _, _, _, _, _, _, _, _]) _
  refine q_is rfl rfl (does_assign (u := (Bo (β3 && β4))) (ev rfl)) (by dsimp only [List.set]; try rfl) ?_
  refine wpList_nil (hK83 _ _ ?_)
  refine wp_ret ?_
  refine ret_val (v := (Bo (β3 && β4))) (res_T rfl (slot rfl)) X97 ?_
  try simp only [h2, h4, h6, h8, hβ1, hβ2, hβ3, hβ4] at c39 c55 c66 c77
  have x98 : (isGrid A_g) = (β3 && β4) := by first | with_reducible rfl | (simp only [isGrid, cntOk, prod3, h2, h4, h6, h8, hβ1, hβ2, hβ3, hβ4, c39, c55, c66, c77]; done) | (simp [isGrid, cntOk, prod3, h2, h4, h6, h8, hβ1, hβ2, hβ3, hβ4, c39, c55, c66, c77]; done) | (revert c39 c55 c66 c77; simp +contextual [isGrid, cntOk, prod3, h2, h4, h6, h8, hβ1, hβ2, hβ3, hβ4]; done) | (rcases c39' with hh | hh <;> simp only [hh, isGrid, cntOk, prod3, h2, h4, h6, h8, hβ1, hβ2, hβ3, hβ4, c39, c55, c66, c77]; done) | (rcases c55' with hh | hh <;> simp only [hh, isGrid, cntOk, prod3, h2, h4, h6, h8, hβ1, hβ2, hβ3, hβ4, c39, c55, c66, c77]; done) | (rcases c66' with hh | hh <;> simp only [hh, isGrid, cntOk, prod3, h2, h4, h6, h8, hβ1, hβ2, hβ3, hβ4, c39, c55, c66, c77]; done) | (rcases c77' with hh | hh <;> simp only [hh, isGrid, cntOk, prod3, h2, h4, h6, h8, hβ1, hβ2, hβ3, hβ4, c39, c55, c66, c77]; done) | (rcases c77' with hh | hh <;> simp_all [isGrid, cntOk, prod3]; done) | (rcases c77' with hh | hh | hh <;> simp_all [isGrid, cntOk, prod3]; done) | (rcases c77' with hh | hh | hh | hh <;> simp_all [isGrid, cntOk, prod3]; done) | (simp_all [isGrid, cntOk, prod3]; done) | rfl
  exact (by first | rfl | rw [x98])

/- slices.Clone[[]float32,float32] -/
theorem c_slices_Clone_float32_float32 (xs : Value) (L_xs : List Nat) (w : World) (hv_xs : Sl RF 1 w xs L_xs) (hne : 0 < L_xs.length ∧ L_xs.length ≤ 1048576) : Gives Try.prog 57 #[xs] w (fun v w' => ∃ y_1 : Value, ∃ Lw_2 : List Nat, v = y_1 ∧ Hang w.heap.size w' (fun u => Sl RF 1 u y_1 L_xs) ∧ WL 1 w.heap.size w' Lw_2 y_1 L_xs.length) := by
  have hlen_xs := Sl.len hv_xs; obtain ⟨p_xs, q_xs, rfl⟩ := Sl.shape hv_xs
  have hso := Sl.some_of hv_xs hne.1
  refine enter [(.slice p_xs L_xs.length q_xs), Ud, Ud, Ud, Ud, Ud, Ud, Ud] Try.func57 rfl Try.ntmps57 rfl ?_
  refine wp_seq_k fun K1 hK1 => ?_
  refine wp_region_lit ?_
  refine q_is (l' := [(.slice p_xs L_xs.length q_xs), Ud, (.slice none 0 0), Ud, Ud, Ud, Ud, Ud]) rfl rfl (does_assign (u := (.slice none 0 0)) (ev rfl)) rfl ?_
  refine wpList_nil (hK1 _ _ ?_)
  refine wp_seq_k fun K2 hK2 => ?_
  refine wp_seq_k fun K3 hK3 => ?_
  refine wp_region_lit ?_
  refine q_is (l' := [(.slice p_xs L_xs.length q_xs), Ud, (.slice none 0 0), (.slice p_xs L_xs.length q_xs), Ud, Ud, Ud, Ud]) rfl rfl (does_move (u := (.slice p_xs L_xs.length q_xs)) (ev rfl)) rfl ?_
  refine q_is (l' := [(.slice p_xs L_xs.length q_xs), Ud, (.slice none 0 0), (.slice p_xs L_xs.length q_xs), (Bo p_xs.isNone), Ud, Ud, Ud]) rfl rfl (does_slnil Try.underlying25 (ev rfl) (ev rfl)) rfl ?_
  refine wpList_nil (hK3 _ _ ?_)
  refine wp_cond_split (t := p_xs.isNone) (ev rfl) (fun c4 => ?_) (fun c4 => ?_)
  · have c4' := c4
    rw [hso] at c4; cases c4
  have c4' := c4
  refine wp_skip (hK2 _ _ ?_)
  refine wp_seq_k fun K5 hK5 => ?_
  refine wp_region_lit ?_
  refine seqd rfl rfl (does_slice0 (e := 22) (fun _ => by kernel_rfl)) ?_; rintro _ w11 ⟨b6, rfl, hb7, hl8, hO9, E10⟩
  have X12 := Ext.gr (Ext.refl w) E10
  have hO13 := hO9 _ RF 1
  have hH14 : Hang w.heap.size w11 (fun u => Sl RF 1 u (.slice (some ⟨b6, 0, none⟩) 0 0) ([])) := Own.hang hO13 RF.flat (by decide) hb7 (Below.size E10)
  show wpList _ _ _ _ (fr [(.slice p_xs L_xs.length q_xs), Ud, (.slice none 0 0), (.slice p_xs L_xs.length q_xs), (Bo p_xs.isNone), (.slice (some ⟨b6, 0, none⟩) 0 0), Ud, Ud]) _
  refine q_is (l' := [(.slice p_xs L_xs.length q_xs), Ud, (.slice none 0 0), (.slice p_xs L_xs.length q_xs), (Bo p_xs.isNone), (.slice (some ⟨b6, 0, none⟩) 0 0), (.slice p_xs L_xs.length q_xs), Ud]) rfl rfl (does_move (u := (.slice p_xs L_xs.length q_xs)) (ev rfl)) rfl ?_
  refine seqd rfl rfl (does_appendF (g0 := b6) (B := w11.heap.size) (xs := ([])) (ys := L_xs) Try.underlying25 inf22 (ev rfl) (ev rfl) hO13 (Sl.ext hv_xs RF.mono X12) (by omega) (by first | (simp only [List.length_nil]; omega) | omega) (Nat.le_refl _)) ?_; rintro y' w15 ⟨gg16, hg17, K18, hO19⟩
  have hN20 : w.heap.size ≤ gg16 := by rcases hg17 with h | h; exact h ▸ hb7; exact Nat.le_trans (Below.size E10) h
  have g21 : w.heap.size ≤ gg16 := Nat.le_trans (Nat.le_refl _) hN20
  have X22 := Below.kl X12 K18 (allS g21 all0) (Nat.le_refl _)
  replace hO19 := hO19.cast (List.nil_append _)
  obtain ⟨p23, q24, rfl⟩ := Own.shape hO19
  have hH25 : Hang w.heap.size w15 (fun u => Sl RF 1 u (.slice p23 L_xs.length q24) L_xs) := Own.hang hO19 RF.flat (by decide) hb7 (Below.size E10)
  show wpList _ _ _ _ (fr [(.slice p_xs L_xs.length q_xs), Ud, (.slice none 0 0), (.slice p_xs L_xs.length q_xs), (Bo p_xs.isNone), (.slice (some ⟨b6, 0, none⟩) 0 0), (.slice p_xs L_xs.length q_xs), (.slice p23 L_xs.length q24)]) _
  refine q_is (l' := [(.slice p_xs L_xs.length q_xs), Ud, (.slice p23 L_xs.length q24), (.slice p_xs L_xs.length q_xs), (Bo p_xs.isNone), (.slice (some ⟨b6, 0, none⟩) 0 0), (.slice p_xs L_xs.length q_xs), (.slice p23 L_xs.length q24)]) rfl rfl (does_assign (u := (.slice p23 L_xs.length q24)) (ev rfl)) rfl ?_
  refine wpList_nil (hK5 _ _ ?_)
  refine wp_ret ?_
  refine ret_val (v := (.slice p23 L_xs.length q24)) (res_T rfl (slot rfl)) X22 ?_
  obtain ⟨Lw26, hw27⟩ : ∃ L, WL 1 w.heap.size w15 L (.slice p23 L_xs.length q24) L_xs.length := Own.wl hO19 (Nat.le_trans (Nat.le_refl _) hb7) (Nat.le_trans (Nat.le_refl _) (Below.size E10))
  exact ⟨(.slice p23 L_xs.length q24), Lw26, rfl, (Own.hang hO19 RF.flat (by decide) (Nat.le_trans (Nat.le_refl _) hb7) (Nat.le_trans (Nat.le_refl _) (Below.size E10))), hw27⟩

/- impl.cloneGrid -/
theorem c_impl_cloneGrid (g : List Value) (A_g : GridT) (w : World) (hv_g : RGridT w A_g g) (hne : 0 < A_g.vals.length ∧ A_g.vals.length ≤ 1048576) : Gives Try.prog 45 #[(.agg g.toArray)] w (fun v w' => ∃ cs_1 : List Value, ∃ Lw_2 : List Nat, v = (.agg cs_1.toArray) ∧ Hang w.heap.size w' (fun u => RGridT u A_g cs_1) ∧ WL 1 w.heap.size w' Lw_2 (cellN cs_1 7) A_g.vals.length) := by
  obtain ⟨r1, r3, r5, r7, y9, rfl, h2, h4, h6, h8, h10⟩ := hv_g
  have hs13 := h10; have hs13l := Sl.len h10; obtain ⟨p11, q12, rfl⟩ := Sl.shape h10
  refine enter [(.agg #[(Fl r1), (Fl r3), (Fl r5), (Fl r7), (Iv A_g.x), (Iv A_g.y), (Iv A_g.z), (.slice p11 A_g.vals.length q12)]), Ud, Ud, Ud, Ud, Ud, Ud, Ud] Try.func45 rfl Try.ntmps45 rfl ?_
  refine wp_seq_k fun K14 hK14 => ?_
  refine wp_region_lit ?_
  refine seqd rfl rfl (does_box (u := (.agg #[(Fl r1), (Fl r3), (Fl r5), (Fl r7), (Iv A_g.x), (Iv A_g.y), (Iv A_g.z), (.slice p11 A_g.vals.length q12)])) (ev rfl)) ?_; rintro _ w19 ⟨b15, rfl, hb16, hB17, E18⟩
  have g20 : w.heap.size ≤ b15 := Nat.le_trans (Below.size (Ext.refl w)) hb16
  change Blk _ _ [(Fl r1), (Fl r3), (Fl r5), (Fl r7), (Iv A_g.x), (Iv A_g.y), (Iv A_g.z), (.slice p11 A_g.vals.length q12)] at hB17
  have X21 := Ext.gr (Ext.refl w) E18
  show wpList _ _ _ _ (fr [(.agg #[(Fl r1), (Fl r3), (Fl r5), (Fl r7), (Iv A_g.x), (Iv A_g.y), (Iv A_g.z), (.slice p11 A_g.vals.length q12)]), (Pt b15 0), Ud, Ud, Ud, Ud, Ud, Ud]) _
  refine seqd rfl rfl (does_alloc z31) ?_; rintro _ w26 ⟨b22, rfl, hb23, hB24, E25⟩
  have n27 : b15 < b22 := Nat.lt_of_lt_of_le (Blk.lt hB17) hb23
  have g28 : w.heap.size ≤ b22 := Nat.le_trans (Below.size X21) hb23
  change Blk _ _ [(Fl 0), (Fl 0), (Fl 0), (Fl 0), (Iv 0), (Iv 0), (Iv 0), (.slice none 0 0)] at hB24
  have X29 := Ext.gr X21 E25
  show wpList _ _ _ _ (fr [(.agg #[(Fl r1), (Fl r3), (Fl r5), (Fl r7), (Iv A_g.x), (Iv A_g.y), (Iv A_g.z), (.slice p11 A_g.vals.length q12)]), (Pt b15 0), (Pt b22 0), Ud, Ud, Ud, Ud, Ud]) _
  refine wpList_nil (hK14 _ _ ?_)
  refine wp_seq_k fun K30 hK30 => ?_
  refine wp_region_lit ?_
  refine q_is (l' := [(.agg #[(Fl r1), (Fl r3), (Fl r5), (Fl r7), (Iv A_g.x), (Iv A_g.y), (Iv A_g.z), (.slice p11 A_g.vals.length q12)]), (Pt b15 0), (Pt b22 0), (Pt b15 7), Ud, Ud, Ud, Ud]) rfl rfl (does_fieldAddr (ev rfl) fa31_5) rfl ?_
  refine q_is (l' := [(.agg #[(Fl r1), (Fl r3), (Fl r5), (Fl r7), (Iv A_g.x), (Iv A_g.y), (Iv A_g.z), (.slice p11 A_g.vals.length q12)]), (Pt b15 0), (Pt b22 0), (Pt b15 7), (.slice p11 A_g.vals.length q12), Ud, Ud, Ud]) rfl rfl (does_load (u := (.slice p11 A_g.vals.length q12)) (ev rfl) Try.isAgg25 (Cells.at (Blk.cells (hB17.ext E25)) 7 rfl)) rfl ?_
  refine seqd rfl rfl (does_call (args := #[(.slice p11 A_g.vals.length q12)]) cal57 (evs rfl) (c_slices_Clone_float32_float32 (.slice p11 A_g.vals.length q12) A_g.vals _ (Sl.ext hs13 RF.mono X29) (by omega))) ?_; rintro _ w32 ⟨E31, ⟨y34, Lw35, rfl, hh33, hw36⟩⟩
  have X37 := Ext.gr X29 E31
  have n38 : b15 < w26.heap.size := Blk.lt (hB17.ext E25)
  have n39 : b22 < w26.heap.size := Blk.lt hB24
  obtain ⟨p40, q41, rfl⟩ := Sl.shape hh33.get
  have hw42 : WL 1 w26.heap.size w32 Lw35 (.slice p40 A_g.vals.length q41) A_g.vals.length := hw36
  show wpList _ _ _ _ (fr [(.agg #[(Fl r1), (Fl r3), (Fl r5), (Fl r7), (Iv A_g.x), (Iv A_g.y), (Iv A_g.z), (.slice p11 A_g.vals.length q12)]), (Pt b15 0), (Pt b22 0), (Pt b15 7), (.slice p11 A_g.vals.length q12), (.slice p40 A_g.vals.length q41), Ud, Ud]) _
  refine q_is (l' := [(.agg #[(Fl r1), (Fl r3), (Fl r5), (Fl r7), (Iv A_g.x), (Iv A_g.y), (Iv A_g.z), (.slice p11 A_g.vals.length q12)]), (Pt b15 0), (Pt b22 0), (Pt b15 7), (.slice p11 A_g.vals.length q12), (.slice p40 A_g.vals.length q41), (Pt b15 7), Ud]) rfl rfl (does_fieldAddr (ev rfl) fa31_5) rfl ?_
  refine seqn rfl rfl (does_store (n := 1) (cs := [(Fl r1), (Fl r3), (Fl r5), (Fl r7), (Iv A_g.x), (Iv A_g.y), (Iv A_g.z), (.slice p11 A_g.vals.length q12)]) (u := (.slice p40 A_g.vals.length q41)) (ev rfl) (ev rfl) Try.sizeOf25 rfl ((hB17.ext E25).ext E31) (Nat.le_of_ble_eq_true rfl) rfl) ?_; rintro _ w45 ⟨rfl, W43, hB44⟩
  change Blk _ _ [(Fl r1), (Fl r3), (Fl r5), (Fl r7), (Iv A_g.x), (Iv A_g.y), (Iv A_g.z), (.slice p40 A_g.vals.length q41)] at hB44
  have X46 := Below.wr X37 W43 g20
  refine wpList_nil (hK30 _ _ ?_)
  refine wp_seq_k fun K47 hK47 => ?_
  refine wp_region_lit ?_
  refine q_is (l' := [(.agg #[(Fl r1), (Fl r3), (Fl r5), (Fl r7), (Iv A_g.x), (Iv A_g.y), (Iv A_g.z), (.slice p11 A_g.vals.length q12)]), (Pt b15 0), (Pt b22 0), (Pt b15 7), (.slice p11 A_g.vals.length q12), (.slice p40 A_g.vals.length q41), (Pt b15 7), (.agg #[(Fl r1), (Fl r3), (Fl r5), (Fl r7), (Iv A_g.x), (Iv A_g.y), (Iv A_g.z), (.slice p40 A_g.vals.length q41)])]) rfl rfl (does_loadAgg (cs := [(Fl r1), (Fl r3), (Fl r5), (Fl r7), (Iv A_g.x), (Iv A_g.y), (Iv A_g.z), (.slice p40 A_g.vals.length q41)]) (ev rfl) Try.isAgg31 Try.sizeOf31 (Blk.cells hB44) rfl) rfl ?_
  refine seqn rfl rfl (does_store (n := 8) (cs := [(Fl 0), (Fl 0), (Fl 0), (Fl 0), (Iv 0), (Iv 0), (Iv 0), (.slice none 0 0)]) (u := (.agg #[(Fl r1), (Fl r3), (Fl r5), (Fl r7), (Iv A_g.x), (Iv A_g.y), (Iv A_g.z), (.slice p40 A_g.vals.length q41)])) (ev rfl) (ev rfl) Try.sizeOf31 rfl ((hB24.ext E31).wr W43 (Nat.ne_of_gt n27)) (Nat.le_of_ble_eq_true rfl) rfl) ?_; rintro _ w50 ⟨rfl, W48, hB49⟩
  change Blk _ _ [(Fl r1), (Fl r3), (Fl r5), (Fl r7), (Iv A_g.x), (Iv A_g.y), (Iv A_g.z), (.slice p40 A_g.vals.length q41)] at hB49
  have X51 := Below.wr X46 W48 g28
  refine wpList_nil (hK47 _ _ ?_)
  refine wp_ret ?_
  refine ret_val (v := (.agg #[(Fl r1), (Fl r3), (Fl r5), (Fl r7), (Iv A_g.x), (Iv A_g.y), (Iv A_g.z), (.slice p40 A_g.vals.length q41)])) (res_C rfl (slot rfl) (run_loadAgg (cs := [(Fl r1), (Fl r3), (Fl r5), (Fl r7), (Iv A_g.x), (Iv A_g.y), (Iv A_g.z), (.slice p40 A_g.vals.length q41)]) Try.isAgg31 Try.sizeOf31 (Blk.cells hB49) rfl)) X51 ?_
  exact ⟨[(Fl r1), (Fl r3), (Fl r5), (Fl r7), (Iv A_g.x), (Iv A_g.y), (Iv A_g.z), (.slice p40 A_g.vals.length q41)], Lw35, rfl, fun u hu => ⟨r1, r3, r5, r7, (.slice p40 A_g.vals.length q41), rfl, h2, h4, h6, h8, ((Hang.to hh33 (((Same.refl _ _).wr W43 (.inl n38)).wr W48 (.inl n39))).le (Below.size (Ext.gr (Ext.gr (Ext.refl _) E18) E25))) u hu⟩, ((hw42.same (((Same.refl _ _).wr W43 (.inl n38)).wr W48 (.inl n39))).le (Below.size (Ext.gr (Ext.gr (Ext.refl _) E18) E25)))⟩

/- impl.SpreadGrid -/
theorem c_impl_SpreadGrid (g : List Value) (A_g : GridT) (w : World) (hv_g : RGridT w A_g g) : Gives Try.prog 22 #[(.agg g.toArray)] w (fun v w' => ∃ cs_1 : List Value, ∃ Lw_2 : List Nat, v = (.tuple #[(.agg cs_1.toArray), (Iv (sprI A_g)), (Bo (sprB A_g))]) ∧ Hang w.heap.size w' (fun u => RGridT u (sprG A_g) cs_1) ∧ WL 1 w.heap.size w' Lw_2 (cellN cs_1 7) ((sprG A_g).vals).length) := by
  obtain ⟨r1, r3, r5, r7, y9, rfl, h2, h4, h6, h8, h10⟩ := hv_g
  have hs13 := h10; have hs13l := Sl.len h10; obtain ⟨p11, q12, rfl⟩ := Sl.shape h10
  refine enter [(.agg #[(Fl r1), (Fl r3), (Fl r5), (Fl r7), (Iv A_g.x), (Iv A_g.y), (Iv A_g.z), (.slice p11 A_g.vals.length q12)]), Ud, Ud, Ud, Ud, Ud, Ud, Ud, Ud, Ud, Ud, Ud, Ud, Ud, Ud, Ud, Ud, Ud, Ud, Ud, Ud, Ud] Try.func22 rfl Try.ntmps22 rfl ?_
  refine wp_seq_k fun K14 hK14 => ?_
  refine wp_region_lit ?_
  refine seqd rfl rfl (does_box (u := (.agg #[(Fl r1), (Fl r3), (Fl r5), (Fl r7), (Iv A_g.x), (Iv A_g.y), (Iv A_g.z), (.slice p11 A_g.vals.length q12)])) (ev rfl)) ?_; rintro _ w19 ⟨b15, rfl, hb16, hB17, E18⟩
  have g20 : w.heap.size ≤ b15 := Nat.le_trans (Below.size (Ext.refl w)) hb16
  change Blk _ _ [(Fl r1), (Fl r3), (Fl r5), (Fl r7), (Iv A_g.x), (Iv A_g.y), (Iv A_g.z), (.slice p11 A_g.vals.length q12)] at hB17
  have X21 := Ext.gr (Ext.refl w) E18
  show wpList _ _ _ _ (fr [(.agg #[(Fl r1), (Fl r3), (Fl r5), (Fl r7), (Iv A_g.x), (Iv A_g.y), (Iv A_g.z), (.slice p11 A_g.vals.length q12)]), (Pt b15 0), Ud, Ud, Ud, Ud, Ud, Ud, Ud, Ud, Ud, Ud, Ud, Ud, Ud, Ud, Ud, Ud, Ud, Ud, Ud, Ud]) _
  refine seqd rfl rfl (does_alloc z31) ?_; rintro _ w26 ⟨b22, rfl, hb23, hB24, E25⟩
  have n27 : b15 < b22 := Nat.lt_of_lt_of_le (Blk.lt hB17) hb23
  have g28 : w.heap.size ≤ b22 := Nat.le_trans (Below.size X21) hb23
  change Blk _ _ [(Fl 0), (Fl 0), (Fl 0), (Fl 0), (Iv 0), (Iv 0), (Iv 0), (.slice none 0 0)] at hB24
  have X29 := Ext.gr X21 E25
  show wpList _ _ _ _ (fr [(.agg #[(Fl r1), (Fl r3), (Fl r5), (Fl r7), (Iv A_g.x), (Iv A_g.y), (Iv A_g.z), (.slice p11 A_g.vals.length q12)]), (Pt b15 0), (Pt b22 0), Ud, Ud, Ud, Ud, Ud, Ud, Ud, Ud, Ud, Ud, Ud, Ud, Ud, Ud, Ud, Ud, Ud, Ud, Ud]) _
  refine q_is (l' := [(.agg #[(Fl r1), (Fl r3), (Fl r5), (Fl r7), (Iv A_g.x), (Iv A_g.y), (Iv A_g.z), (.slice p11 A_g.vals.length q12)]), (Pt b15 0), (Pt b22 0), (Iv 0), Ud, Ud, Ud, Ud, Ud, Ud, Ud, Ud, Ud, Ud, Ud, Ud, Ud, Ud, Ud, Ud, Ud, Ud]) rfl rfl (does_assign (u := (Iv 0)) (ev rfl)) rfl ?_
  refine q_is (l' := [(.agg #[(Fl r1), (Fl r3), (Fl r5), (Fl r7), (Iv A_g.x), (Iv A_g.y), (Iv A_g.z), (.slice p11 A_g.vals.length q12)]), (Pt b15 0), (Pt b22 0), (Iv 0), (Bo false), Ud, Ud, Ud, Ud, Ud, Ud, Ud, Ud, Ud, Ud, Ud, Ud, Ud, Ud, Ud, Ud, Ud]) rfl rfl (does_assign (u := (Bo false)) (ev rfl)) rfl ?_
  refine wpList_nil (hK14 _ _ ?_)
  refine wp_seq_k fun K30 hK30 => ?_
  refine wp_seq_k fun K31 hK31 => ?_
  refine wp_region_lit ?_
  refine q_is (l' := [(.agg #[(Fl r1), (Fl r3), (Fl r5), (Fl r7), (Iv A_g.x), (Iv A_g.y), (Iv A_g.z), (.slice p11 A_g.vals.length q12)]), (Pt b15 0), (Pt b22 0), (Iv 0), (Bo false), Ud, Ud, (.agg #[(Fl r1), (Fl r3), (Fl r5), (Fl r7), (Iv A_g.x), (Iv A_g.y), (Iv A_g.z), (.slice p11 A_g.vals.length q12)]), Ud, Ud, Ud, Ud, Ud, Ud, Ud, Ud, Ud, Ud, Ud, Ud, Ud, Ud]) rfl rfl (does_loadAgg (cs := [(Fl r1), (Fl r3), (Fl r5), (Fl r7), (Iv A_g.x), (Iv A_g.y), (Iv A_g.z), (.slice p11 A_g.vals.length q12)]) (ev rfl) Try.isAgg31 Try.sizeOf31 (Blk.cells (hB17.ext E25)) rfl) rfl ?_
  refine seqd rfl rfl (does_call (args := #[(.agg #[(Fl r1), (Fl r3), (Fl r5), (Fl r7), (Iv A_g.x), (Iv A_g.y), (Iv A_g.z), (.slice p11 A_g.vals.length q12)])]) cal28 (evs rfl) (c_impl_ValidGrid [(Fl r1), (Fl r3), (Fl r5), (Fl r7), (Iv A_g.x), (Iv A_g.y), (Iv A_g.z), (.slice p11 A_g.vals.length q12)] A_g _ ⟨r1, r3, r5, r7, (.slice p11 A_g.vals.length q12), rfl, h2, h4, h6, h8, (Sl.ext hs13 RF.mono X29)⟩)) ?_; rintro _ w33 ⟨E32, rfl⟩
  have X34 := Ext.gr X29 E32
  show wpList _ _ _ _ (fr [(.agg #[(Fl r1), (Fl r3), (Fl r5), (Fl r7), (Iv A_g.x), (Iv A_g.y), (Iv A_g.z), (.slice p11 A_g.vals.length q12)]), (Pt b15 0), (Pt b22 0), (Iv 0), (Bo false), Ud, Ud, (.agg #[(Fl r1), (Fl r3), (Fl r5), (Fl r7), (Iv A_g.x), (Iv A_g.y), (Iv A_g.z), (.slice p11 A_g.vals.length q12)]), (Bo (isGrid A_g)), Ud, Ud, Ud, Ud, Ud, Ud, Ud, Ud, Ud, Ud, Ud, Ud, Ud]) _
  refine q_is (l' := [(.agg #[(Fl r1), (Fl r3), (Fl r5), (Fl r7), (Iv A_g.x), (Iv A_g.y), (Iv A_g.z), (.slice p11 A_g.vals.length q12)]), (Pt b15 0), (Pt b22 0), (Iv 0), (Bo false), Ud, Ud, (.agg #[(Fl r1), (Fl r3), (Fl r5), (Fl r7), (Iv A_g.x), (Iv A_g.y), (Iv A_g.z), (.slice p11 A_g.vals.length q12)]), (Bo (isGrid A_g)), (Bo (!(isGrid A_g))), Ud, Ud, Ud, Ud, Ud, Ud, Ud, Ud, Ud, Ud, Ud, Ud]) rfl rfl (does_not (ev rfl)) rfl ?_
  refine wpList_nil (hK31 _ _ ?_)
  refine wp_cond_split (t := !(isGrid A_g)) (ev rfl) (fun c35 => ?_) (fun c35 => ?_)
  · rw [Bool.not_eq_true'] at c35
    have c35' := c35
    have hgf : isGrid A_g = false := c35
    refine wp_seq_k fun K36 hK36 => ?_
    refine wp_region_lit ?_
    refine q_is (l' := [(.agg #[(Fl r1), (Fl r3), (Fl r5), (Fl r7), (Iv A_g.x), (Iv A_g.y), (Iv A_g.z), (.slice p11 A_g.vals.length q12)]), (Pt b15 0), (Pt b22 0), (Iv 0), (Bo false), Ud, Ud, (.agg #[(Fl r1), (Fl r3), (Fl r5), (Fl r7), (Iv A_g.x), (Iv A_g.y), (Iv A_g.z), (.slice p11 A_g.vals.length q12)]), (Bo (isGrid A_g)), (Bo (!(isGrid A_g))), (.agg #[(Fl 0), (Fl 0), (Fl 0), (Fl 0), (Iv 0), (Iv 0), (Iv 0), (.slice none 0 0)]), Ud, Ud, Ud, Ud, Ud, Ud, Ud, Ud, Ud, Ud, Ud]) rfl rfl (does_build (parts' := []) (cells := #[(Fl 0), (Fl 0), (Fl 0), (Fl 0), (Iv 0), (Iv 0), (Iv 0), (.slice none 0 0)]) (evp rfl) (by kernel_rfl)) rfl ?_
    refine seqn rfl rfl (does_store (n := 8) (cs := [(Fl 0), (Fl 0), (Fl 0), (Fl 0), (Iv 0), (Iv 0), (Iv 0), (.slice none 0 0)]) (u := (.agg #[(Fl 0), (Fl 0), (Fl 0), (Fl 0), (Iv 0), (Iv 0), (Iv 0), (.slice none 0 0)])) (ev rfl) (ev rfl) Try.sizeOf31 rfl (hB24.ext E32) (Nat.le_of_ble_eq_true rfl) rfl) ?_; rintro _ w39 ⟨rfl, W37, hB38⟩
    change Blk _ _ [(Fl 0), (Fl 0), (Fl 0), (Fl 0), (Iv 0), (Iv 0), (Iv 0), (.slice none 0 0)] at hB38
    have X40 := Below.wr X34 W37 g28
    refine q_is (l' := [(.agg #[(Fl r1), (Fl r3), (Fl r5), (Fl r7), (Iv A_g.x), (Iv A_g.y), (Iv A_g.z), (.slice p11 A_g.vals.length q12)]), (Pt b15 0), (Pt b22 0), (Iv 0), (Bo false), Ud, Ud, (.agg #[(Fl r1), (Fl r3), (Fl r5), (Fl r7), (Iv A_g.x), (Iv A_g.y), (Iv A_g.z), (.slice p11 A_g.vals.length q12)]), (Bo (isGrid A_g)), (Bo (!(isGrid A_g))), (.agg #[(Fl 0), (Fl 0), (Fl 0), (Fl 0), (Iv 0), (Iv 0), (Iv 0), (.slice none 0 0)]), Ud, Ud, Ud, Ud, Ud, Ud, Ud, Ud, Ud, Ud, Ud]) rfl rfl (does_assign (u := (Iv 0)) (ev rfl)) rfl ?_
    refine q_is (l' := [(.agg #[(Fl r1), (Fl r3), (Fl r5), (Fl r7), (Iv A_g.x), (Iv A_g.y), (Iv A_g.z), (.slice p11 A_g.vals.length q12)]), (Pt b15 0), (Pt b22 0), (Iv 0), (Bo false), Ud, Ud, (.agg #[(Fl r1), (Fl r3), (Fl r5), (Fl r7), (Iv A_g.x), (Iv A_g.y), (Iv A_g.z), (.slice p11 A_g.vals.length q12)]), (Bo (isGrid A_g)), (Bo (!(isGrid A_g))), (.agg #[(Fl 0), (Fl 0), (Fl 0), (Fl 0), (Iv 0), (Iv 0), (Iv 0), (.slice none 0 0)]), Ud, Ud, Ud, Ud, Ud, Ud, Ud, Ud, Ud, Ud, Ud]) rfl rfl (does_assign (u := (Bo false)) (ev rfl)) rfl ?_
    refine wpList_nil (hK36 _ _ ?_)
    refine wp_ret ?_
    dsimp only [Exit.then, Exit.inBlock]
    refine ret_val (v := (.tuple #[(.agg #[(Fl 0), (Fl 0), (Fl 0), (Fl 0), (Iv 0), (Iv 0), (Iv 0), (.slice none 0 0)]), (Iv 0), (Bo false)])) (res_CTT rfl (slot rfl) (run_loadAgg (cs := [(Fl 0), (Fl 0), (Fl 0), (Fl 0), (Iv 0), (Iv 0), (Iv 0), (.slice none 0 0)]) Try.isAgg31 Try.sizeOf31 (Blk.cells hB38) rfl) (slot rfl) (slot rfl)) X40 ?_
    try simp only [h2, h4, h6, h8] at c35
    have x41 : (sprI A_g : Int) = 0 := by first | exact sprB_f hgf | exact sprI_f hgf | exact sprB_n hfn | exact sprI_n hgr hfn | exact sprB_s hgr hfd | exact sprI_s hgr hfd | (rw [sprG_f hgf] <;> rfl) | (rw [sprG_n hgr hfn] <;> rfl) | (rw [sprG_s hgr hfd] <;> first | rfl | assumption | (simp only [h2, h4, h6, h8, c35]; done))
    have x42 : (sprB A_g) = false := by first | exact sprB_f hgf | exact sprI_f hgf | exact sprB_n hfn | exact sprI_n hgr hfn | exact sprB_s hgr hfd | exact sprI_s hgr hfd | (rw [sprG_f hgf] <;> rfl) | (rw [sprG_n hgr hfn] <;> rfl) | (rw [sprG_s hgr hfd] <;> first | rfl | assumption | (simp only [h2, h4, h6, h8, c35]; done))
    have x43 : cf .f32 0 = (sprG A_g).low.x := by first | exact sprB_f hgf | exact sprI_f hgf | exact sprB_n hfn | exact sprI_n hgr hfn | exact sprB_s hgr hfd | exact sprI_s hgr hfd | (rw [sprG_f hgf] <;> rfl) | (rw [sprG_n hgr hfn] <;> rfl) | (rw [sprG_s hgr hfd] <;> first | rfl | assumption | (simp only [h2, h4, h6, h8, c35]; done))
    have x44 : cf .f32 0 = (sprG A_g).low.y := by first | exact sprB_f hgf | exact sprI_f hgf | exact sprB_n hfn | exact sprI_n hgr hfn | exact sprB_s hgr hfd | exact sprI_s hgr hfd | (rw [sprG_f hgf] <;> rfl) | (rw [sprG_n hgr hfn] <;> rfl) | (rw [sprG_s hgr hfd] <;> first | rfl | assumption | (simp only [h2, h4, h6, h8, c35]; done))
    have x45 : cf .f32 0 = (sprG A_g).low.z := by first | exact sprB_f hgf | exact sprI_f hgf | exact sprB_n hfn | exact sprI_n hgr hfn | exact sprB_s hgr hfd | exact sprI_s hgr hfd | (rw [sprG_f hgf] <;> rfl) | (rw [sprG_n hgr hfn] <;> rfl) | (rw [sprG_s hgr hfd] <;> first | rfl | assumption | (simp only [h2, h4, h6, h8, c35]; done))
    have x46 : cf .f32 0 = (sprG A_g).step := by first | exact sprB_f hgf | exact sprI_f hgf | exact sprB_n hfn | exact sprI_n hgr hfn | exact sprB_s hgr hfd | exact sprI_s hgr hfd | (rw [sprG_f hgf] <;> rfl) | (rw [sprG_n hgr hfn] <;> rfl) | (rw [sprG_s hgr hfd] <;> first | rfl | assumption | (simp only [h2, h4, h6, h8, c35]; done))
    have x47 : (sprG A_g).x = 0 := by first | exact sprB_f hgf | exact sprI_f hgf | exact sprB_n hfn | exact sprI_n hgr hfn | exact sprB_s hgr hfd | exact sprI_s hgr hfd | (rw [sprG_f hgf] <;> rfl) | (rw [sprG_n hgr hfn] <;> rfl) | (rw [sprG_s hgr hfd] <;> first | rfl | assumption | (simp only [h2, h4, h6, h8, c35]; done))
    have x48 : (sprG A_g).y = 0 := by first | exact sprB_f hgf | exact sprI_f hgf | exact sprB_n hfn | exact sprI_n hgr hfn | exact sprB_s hgr hfd | exact sprI_s hgr hfd | (rw [sprG_f hgf] <;> rfl) | (rw [sprG_n hgr hfn] <;> rfl) | (rw [sprG_s hgr hfd] <;> first | rfl | assumption | (simp only [h2, h4, h6, h8, c35]; done))
    have x49 : (sprG A_g).z = 0 := by first | exact sprB_f hgf | exact sprI_f hgf | exact sprB_n hfn | exact sprI_n hgr hfn | exact sprB_s hgr hfd | exact sprI_s hgr hfd | (rw [sprG_f hgf] <;> rfl) | (rw [sprG_n hgr hfn] <;> rfl) | (rw [sprG_s hgr hfd] <;> first | rfl | assumption | (simp only [h2, h4, h6, h8, c35]; done))
    have x50 : ([]) = ((sprG A_g).vals) := by first | exact sprB_f hgf | exact sprI_f hgf | exact sprB_n hfn | exact sprI_n hgr hfn | exact sprB_s hgr hfd | exact sprI_s hgr hfd | (rw [sprG_f hgf] <;> rfl) | (rw [sprG_n hgr hfn] <;> rfl) | (rw [sprG_s hgr hfd] <;> first | rfl | assumption | (simp only [h2, h4, h6, h8, c35]; done))
    have x51 : ([]) = ((sprG A_g).vals) := by first | exact sprB_f hgf | exact sprI_f hgf | exact sprB_n hfn | exact sprI_n hgr hfn | exact sprB_s hgr hfd | exact sprI_s hgr hfd | (rw [sprG_f hgf] <;> rfl) | (rw [sprG_n hgr hfn] <;> rfl) | (rw [sprG_s hgr hfd] <;> first | rfl | assumption | (simp only [h2, h4, h6, h8, c35]; done))
    exact ⟨[(Fl 0), (Fl 0), (Fl 0), (Fl 0), (Iv 0), (Iv 0), (Iv 0), (.slice none 0 0)], [], (by first | rfl | rw [x41, x42] | rw [x42, x41]), fun u hu => ⟨0, 0, 0, 0, (.slice none 0 0), (by first | with_reducible rfl | (show _ = _; simp only [x47, x48, x49]) | rfl), x43, x44, x45, x46, (Hang.castL (Sl.hang_nil _ _ _ _) x50) u hu⟩, (WL.cast (WL.nil _ _ _) (congrArg List.length x51))⟩
  rw [Bool.not_eq_false'] at c35
  have c35' := c35
  have hgr : isGrid A_g = true := c35
  have hgc := isGrid_cnt hgr
  have hv0 := vol_pos hgr
  refine wp_skip (hK30 _ _ ?_)
  refine wp_seq_k fun K52 hK52 => ?_
  refine wp_region_lit ?_
  refine q_is (l' := [(.agg #[(Fl r1), (Fl r3), (Fl r5), (Fl r7), (Iv A_g.x), (Iv A_g.y), (Iv A_g.z), (.slice p11 A_g.vals.length q12)]), (Pt b15 0), (Pt b22 0), (Iv 0), (Bo false), Ud, Ud, (.agg #[(Fl r1), (Fl r3), (Fl r5), (Fl r7), (Iv A_g.x), (Iv A_g.y), (Iv A_g.z), (.slice p11 A_g.vals.length q12)]), (Bo (isGrid A_g)), (Bo (!(isGrid A_g))), Ud, (.agg #[(Fl r1), (Fl r3), (Fl r5), (Fl r7), (Iv A_g.x), (Iv A_g.y), (Iv A_g.z), (.slice p11 A_g.vals.length q12)]), Ud, Ud, Ud, Ud, Ud, Ud, Ud, Ud, Ud, Ud]) rfl rfl (does_loadAgg (cs := [(Fl r1), (Fl r3), (Fl r5), (Fl r7), (Iv A_g.x), (Iv A_g.y), (Iv A_g.z), (.slice p11 A_g.vals.length q12)]) (ev rfl) Try.isAgg31 Try.sizeOf31 (Blk.cells ((hB17.ext E25).ext E32)) rfl) rfl ?_
  refine seqd rfl rfl (does_call (args := #[(.agg #[(Fl r1), (Fl r3), (Fl r5), (Fl r7), (Iv A_g.x), (Iv A_g.y), (Iv A_g.z), (.slice p11 A_g.vals.length q12)])]) cal45 (evs rfl) (c_impl_cloneGrid [(Fl r1), (Fl r3), (Fl r5), (Fl r7), (Iv A_g.x), (Iv A_g.y), (Iv A_g.z), (.slice p11 A_g.vals.length q12)] A_g _ ⟨r1, r3, r5, r7, (.slice p11 A_g.vals.length q12), rfl, h2, h4, h6, h8, (Sl.ext hs13 RF.mono X34)⟩ (by omega))) ?_; rintro _ w54 ⟨E53, ⟨cs56, Lw57, rfl, hh55, hw58⟩⟩
  have X59 := Ext.gr X34 E53
  have n60 : b15 < w33.heap.size := Blk.lt ((hB17.ext E25).ext E32)
  have n61 : b22 < w33.heap.size := Blk.lt (hB24.ext E32)
  obtain ⟨r62, r64, r66, r68, y70, rfl, h63, h65, h67, h69, h71⟩ := hh55.get
  have h71l := Sl.len h71; obtain ⟨p72, q73, rfl⟩ := Sl.shape h71
  have hh74 : Hang w33.heap.size w54 (fun u => Sl RF 1 u (.slice p72 A_g.vals.length q73) A_g.vals) := fun u hu => by obtain ⟨_, _, _, _, _, hq, _, _, _, _, _⟩ := hh55 u hu; cases hq; assumption
  have hw75 : WL 1 w33.heap.size w54 Lw57 (.slice p72 A_g.vals.length q73) A_g.vals.length := hw58
  show wpList _ _ _ _ (fr [(.agg #[(Fl r1), (Fl r3), (Fl r5), (Fl r7), (Iv A_g.x), (Iv A_g.y), (Iv A_g.z), (.slice p11 A_g.vals.length q12)]), (Pt b15 0), (Pt b22 0), (Iv 0), (Bo false), Ud, Ud, (.agg #[(Fl r1), (Fl r3), (Fl r5), (Fl r7), (Iv A_g.x), (Iv A_g.y), (Iv A_g.z), (.slice p11 A_g.vals.length q12)]), (Bo (isGrid A_g)), (Bo (!(isGrid A_g))), Ud, (.agg #[(Fl r1), (Fl r3), (Fl r5), (Fl r7), (Iv A_g.x), (Iv A_g.y), (Iv A_g.z), (.slice p11 A_g.vals.length q12)]), (.agg #[(Fl r62), (Fl r64), (Fl r66), (Fl r68), (Iv A_g.x), (Iv A_g.y), (Iv A_g.z), (.slice p72 A_g.vals.length q73)]), Ud, Ud, Ud, Ud, Ud, Ud, Ud, Ud, Ud]) _
  refine seqd rfl rfl (does_alloc z31) ?_; rintro _ w80 ⟨b76, rfl, hb77, hB78, E79⟩
  have n81 : b15 < b76 := Nat.lt_of_lt_of_le (Blk.lt (((hB17.ext E25).ext E32).ext E53)) hb77
  have n82 : b22 < b76 := Nat.lt_of_lt_of_le (Blk.lt ((hB24.ext E32).ext E53)) hb77
  have g83 : w.heap.size ≤ b76 := Nat.le_trans (Below.size X59) hb77
  change Blk _ _ [(Fl 0), (Fl 0), (Fl 0), (Fl 0), (Iv 0), (Iv 0), (Iv 0), (.slice none 0 0)] at hB78
  have X84 := Ext.gr X59 E79
  show wpList _ _ _ _ (fr [(.agg #[(Fl r1), (Fl r3), (Fl r5), (Fl r7), (Iv A_g.x), (Iv A_g.y), (Iv A_g.z), (.slice p11 A_g.vals.length q12)]), (Pt b15 0), (Pt b22 0), (Iv 0), (Bo false), (Pt b76 0), Ud, (.agg #[(Fl r1), (Fl r3), (Fl r5), (Fl r7), (Iv A_g.x), (Iv A_g.y), (Iv A_g.z), (.slice p11 A_g.vals.length q12)]), (Bo (isGrid A_g)), (Bo (!(isGrid A_g))), Ud, (.agg #[(Fl r1), (Fl r3), (Fl r5), (Fl r7), (Iv A_g.x), (Iv A_g.y), (Iv A_g.z), (.slice p11 A_g.vals.length q12)]), (.agg #[(Fl r62), (Fl r64), (Fl r66), (Fl r68), (Iv A_g.x), (Iv A_g.y), (Iv A_g.z), (.slice p72 A_g.vals.length q73)]), Ud, Ud, Ud, Ud, Ud, Ud, Ud, Ud, Ud]) _
  refine seqn rfl rfl (does_store (n := 8) (cs := [(Fl 0), (Fl 0), (Fl 0), (Fl 0), (Iv 0), (Iv 0), (Iv 0), (.slice none 0 0)]) (u := (.agg #[(Fl r62), (Fl r64), (Fl r66), (Fl r68), (Iv A_g.x), (Iv A_g.y), (Iv A_g.z), (.slice p72 A_g.vals.length q73)])) (ev rfl) (ev rfl) Try.sizeOf31 rfl hB78 (Nat.le_of_ble_eq_true rfl) rfl) ?_; rintro _ w87 ⟨rfl, W85, hB86⟩
  change Blk _ _ [(Fl r62), (Fl r64), (Fl r66), (Fl r68), (Iv A_g.x), (Iv A_g.y), (Iv A_g.z), (.slice p72 A_g.vals.length q73)] at hB86
  have X88 := Below.wr X84 W85 g83
  refine q_is (l' := [(.agg #[(Fl r1), (Fl r3), (Fl r5), (Fl r7), (Iv A_g.x), (Iv A_g.y), (Iv A_g.z), (.slice p11 A_g.vals.length q12)]), (Pt b15 0), (Pt b22 0), (Iv 0), (Bo false), (Pt b76 0), (Iv 0), (.agg #[(Fl r1), (Fl r3), (Fl r5), (Fl r7), (Iv A_g.x), (Iv A_g.y), (Iv A_g.z), (.slice p11 A_g.vals.length q12)]), (Bo (isGrid A_g)), (Bo (!(isGrid A_g))), Ud, (.agg #[(Fl r1), (Fl r3), (Fl r5), (Fl r7), (Iv A_g.x), (Iv A_g.y), (Iv A_g.z), (.slice p11 A_g.vals.length q12)]), (.agg #[(Fl r62), (Fl r64), (Fl r66), (Fl r68), (Iv A_g.x), (Iv A_g.y), (Iv A_g.z), (.slice p72 A_g.vals.length q73)]), Ud, Ud, Ud, Ud, Ud, Ud, Ud, Ud, Ud]) rfl rfl (does_assign (u := (Iv 0)) (ev rfl)) rfl ?_
  refine wpList_nil (hK52 _ _ ?_)
  refine wp_seq_k fun K89 hK89 => ?_
  refine wp_block ?_
  obtain ⟨gr90, hp91, hL92, hR93, hcap94, hB95⟩ := WL.row (hw75.same (((Same.refl _ _).ext E79).wr W85 (.inr (Nat.le_trans (Nat.le_refl _) hb77)))) (hh74 _ (((Same.refl _ _).ext E79).wr W85 (.inr (Nat.le_trans (Nat.le_refl _) hb77)))) (by omega)
  have n96 : b15 ≠ gr90 := Nat.ne_of_lt (Nat.lt_of_lt_of_le n60 hB95)
  have n97 : b22 ≠ gr90 := Nat.ne_of_lt (Nat.lt_of_lt_of_le n61 hB95)
  have n98 : gr90 ≠ b76 := Nat.ne_of_lt (Nat.lt_of_lt_of_le (hw75.1 gr90 (by rw [hL92]; simp)).2 (Nat.le_trans (Nat.le_refl _) hb77))
  have g99 : w.heap.size ≤ gr90 := Nat.le_trans (Nat.le_trans (Nat.le_trans (Below.size E18) (Below.size E25)) (Below.size E32)) hB95
  subst hp91; subst hL92
  refine loop_ghost (σ := Nat) (fun k a w' => ∃ u100 : Nat → Value, a = fr [(.agg #[(Fl r1), (Fl r3), (Fl r5), (Fl r7), (Iv A_g.x), (Iv A_g.y), (Iv A_g.z), (.slice p11 A_g.vals.length q12)]), (Pt b15 0), (Pt b22 0), (u100 3), (u100 4), (Pt b76 0), (Iv (k : Int)), (.agg #[(Fl r1), (Fl r3), (Fl r5), (Fl r7), (Iv A_g.x), (Iv A_g.y), (Iv A_g.z), (.slice p11 A_g.vals.length q12)]), (Bo (isGrid A_g)), (Bo (!(isGrid A_g))), Ud, (.agg #[(Fl r1), (Fl r3), (Fl r5), (Fl r7), (Iv A_g.x), (Iv A_g.y), (Iv A_g.z), (.slice p11 A_g.vals.length q12)]), (.agg #[(Fl r62), (Fl r64), (Fl r66), (Fl r68), (Iv A_g.x), (Iv A_g.y), (Iv A_g.z), (.slice (some ⟨gr90, 0, none⟩) A_g.vals.length q73)]), (u100 13), (u100 14), (u100 15), (u100 16), (u100 17), (u100 18), (u100 19), Ud, Ud] ∧ KpL [gr90] w87 w' ∧ RowF w' gr90 (swN A_g k) ∧ (k ≤ 32 ∧ ∀ j, j < k → stChg A_g j = true)) (fun k => 33 - k) 0 ?_ ?_
  · refine ⟨fun t => (([(.agg #[(Fl r1), (Fl r3), (Fl r5), (Fl r7), (Iv A_g.x), (Iv A_g.y), (Iv A_g.z), (.slice p11 A_g.vals.length q12)]), (Pt b15 0), (Pt b22 0), (Iv 0), (Bo false), (Pt b76 0), (Iv 0), (.agg #[(Fl r1), (Fl r3), (Fl r5), (Fl r7), (Iv A_g.x), (Iv A_g.y), (Iv A_g.z), (.slice p11 A_g.vals.length q12)]), (Bo (isGrid A_g)), (Bo (!(isGrid A_g))), Ud, (.agg #[(Fl r1), (Fl r3), (Fl r5), (Fl r7), (Iv A_g.x), (Iv A_g.y), (Iv A_g.z), (.slice p11 A_g.vals.length q12)]), (.agg #[(Fl r62), (Fl r64), (Fl r66), (Fl r68), (Iv A_g.x), (Iv A_g.y), (Iv A_g.z), (.slice (some ⟨gr90, 0, none⟩) A_g.vals.length q73)]), Ud, Ud, Ud, Ud, Ud, Ud, Ud, Ud, Ud] : List Value)[t]?).getD undef, rfl, KpL.refl _ _, (RowF.cast hR93 (by rfl)), ?_⟩
    exact ⟨by omega, fun j hj => by omega⟩
  · rintro k a w101 ⟨u100, rfl, E102, hRw, ⟨hk, hch⟩⟩
    have X104 := Below.kl X88 E102 (allS g99 all0) (Nat.le_refl _)
    have hR105 := hRw; clear hRw
    have hsl := swN_len A_g k
    have hgv := isGrid_vals hgr hsl
    refine wp_seq_k fun K106 hK106 => ?_
    refine wp_seq_k fun K107 hK107 => ?_
    refine wp_region_lit ?_
    refine q_is (l' := [(.agg #[(Fl r1), (Fl r3), (Fl r5), (Fl r7), (Iv A_g.x), (Iv A_g.y), (Iv A_g.z), (.slice p11 A_g.vals.length q12)]), (Pt b15 0), (Pt b22 0), (u100 3), (u100 4), (Pt b76 0), (Iv (k : Int)), (.agg #[(Fl r1), (Fl r3), (Fl r5), (Fl r7), (Iv A_g.x), (Iv A_g.y), (Iv A_g.z), (.slice p11 A_g.vals.length q12)]), (Bo (isGrid A_g)), (Bo (!(isGrid A_g))), Ud, (.agg #[(Fl r1), (Fl r3), (Fl r5), (Fl r7), (Iv A_g.x), (Iv A_g.y), (Iv A_g.z), (.slice p11 A_g.vals.length q12)]), (.agg #[(Fl r62), (Fl r64), (Fl r66), (Fl r68), (Iv A_g.x), (Iv A_g.y), (Iv A_g.z), (.slice (some ⟨gr90, 0, none⟩) A_g.vals.length q73)]), (Iv (k : Int)), (u100 14), (u100 15), (u100 16), (u100 17), (u100 18), (u100 19), Ud, Ud]) rfl rfl (does_move (u := (Iv (k : Int))) (ev rfl)) rfl ?_
    refine seqd rfl rfl (does_callK (args := #[(Pt b76 0), (Iv (k : Int))]) cal46 (evs rfl) (c_impl_Grid_sweep b76 0 gr90 q73 [(Fl r62), (Fl r64), (Fl r66), (Fl r68), (Iv A_g.x), (Iv A_g.y), (Iv A_g.z), (.slice (some ⟨gr90, 0, none⟩) A_g.vals.length q73)] (GridT.mk A_g.low A_g.step A_g.x A_g.y A_g.z (swN A_g k)) (k : Int) _ (Blk.cells (hB86.kl E102 (ninS (Ne.symm n98) nin0))) ⟨r62, r64, r66, r68, (.slice (some ⟨gr90, 0, none⟩) A_g.vals.length q73), rfl, h63, h65, h67, h69, (RowF.sl hR105 (by first | assumption | (simp only [sweepG_len, sweepTo_len, rowS_len, swN_len, List.length_set]; done) | omega | (simp only [sweepG_len, sweepTo_len, rowS_len, swN_len, List.length_set]; omega) | rfl) hcap94 (by omega))⟩ (by have hl_ : (swN A_g k).length = A_g.vals.length := (by first | assumption | (simp only [sweepG_len, sweepTo_len, rowS_len, swN_len, List.length_set]; done) | omega | (simp only [sweepG_len, sweepTo_len, rowS_len, swN_len, List.length_set]; omega) | rfl); show _ = some (Value.slice _ (swN A_g k).length _); rw [hl_]; rfl) hR105 (by have hl_ : (swN A_g k).length = A_g.vals.length := (by first | assumption | (simp only [sweepG_len, sweepTo_len, rowS_len, swN_len, List.length_set]; done) | omega | (simp only [sweepG_len, sweepTo_len, rowS_len, swN_len, List.length_set]; omega) | rfl); show (swN A_g k).length ≤ _; rw [hl_]; exact hcap94) (Ne.symm n98) (by exact hgv) (by omega))) ?_; rintro _ w108 ⟨K109, rfl, hR110⟩
    have X111 := Below.kl X104 K109 (allS g99 all0) (Nat.le_refl _)
    show wpList _ _ _ _ (fr [(.agg #[(Fl r1), (Fl r3), (Fl r5), (Fl r7), (Iv A_g.x), (Iv A_g.y), (Iv A_g.z), (.slice p11 A_g.vals.length q12)]), (Pt b15 0), (Pt b22 0), (u100 3), (u100 4), (Pt b76 0), (Iv (k : Int)), (.agg #[(Fl r1), (Fl r3), (Fl r5), (Fl r7), (Iv A_g.x), (Iv A_g.y), (Iv A_g.z), (.slice p11 A_g.vals.length q12)]), (Bo (isGrid A_g)), (Bo (!(isGrid A_g))), Ud, (.agg #[(Fl r1), (Fl r3), (Fl r5), (Fl r7), (Iv A_g.x), (Iv A_g.y), (Iv A_g.z), (.slice p11 A_g.vals.length q12)]), (.agg #[(Fl r62), (Fl r64), (Fl r66), (Fl r68), (Iv A_g.x), (Iv A_g.y), (Iv A_g.z), (.slice (some ⟨gr90, 0, none⟩) A_g.vals.length q73)]), (Iv (k : Int)), (Bo ((sweepG (GridT.mk A_g.low A_g.step A_g.x A_g.y A_g.z (swN A_g k)) (icmp .eql ((k : Int) % 2) 1)).2)), (u100 15), (u100 16), (u100 17), (u100 18), (u100 19), Ud, Ud]) _
    refine wpList_nil (hK107 _ _ ?_)
    refine wp_cond_split (t := (sweepG (GridT.mk A_g.low A_g.step A_g.x A_g.y A_g.z (swN A_g k)) (icmp .eql ((k : Int) % 2) 1)).2) (ev rfl) (fun c112 => ?_) (fun c112 => ?_)
    · have c112' := c112
      (try simp only [icmp, Bool.and_eq_true, Bool.or_eq_true, Bool.and_eq_false_iff, Bool.or_eq_false_iff, Bool.not_eq_true', Bool.not_eq_false', decide_eq_true_eq, decide_eq_false_iff_not, beq_iff_eq, bne_iff_ne, beq_eq_false_iff_ne, bne_eq_false_iff_eq] at c112')
      have hcc : stChg A_g k = true := c112
      refine wp_skip (hK106 _ _ ?_)
      refine wp_block ?_
      refine wp_seq_k fun K113 hK113 => ?_
      refine wp_region_lit ?_
      refine q_is (l' := [(.agg #[(Fl r1), (Fl r3), (Fl r5), (Fl r7), (Iv A_g.x), (Iv A_g.y), (Iv A_g.z), (.slice p11 A_g.vals.length q12)]), (Pt b15 0), (Pt b22 0), (u100 3), (u100 4), (Pt b76 0), (Iv (k : Int)), (.agg #[(Fl r1), (Fl r3), (Fl r5), (Fl r7), (Iv A_g.x), (Iv A_g.y), (Iv A_g.z), (.slice p11 A_g.vals.length q12)]), (Bo (isGrid A_g)), (Bo (!(isGrid A_g))), Ud, (.agg #[(Fl r1), (Fl r3), (Fl r5), (Fl r7), (Iv A_g.x), (Iv A_g.y), (Iv A_g.z), (.slice p11 A_g.vals.length q12)]), (.agg #[(Fl r62), (Fl r64), (Fl r66), (Fl r68), (Iv A_g.x), (Iv A_g.y), (Iv A_g.z), (.slice (some ⟨gr90, 0, none⟩) A_g.vals.length q73)]), (Iv (k : Int)), (Bo ((sweepG (GridT.mk A_g.low A_g.step A_g.x A_g.y A_g.z (swN A_g k)) (icmp .eql ((k : Int) % 2) 1)).2)), (Iv (k : Int)), (u100 16), (u100 17), (u100 18), (u100 19), Ud, Ud]) rfl rfl (does_move (u := (Iv (k : Int))) (ev rfl)) rfl ?_
      refine q_is (l' := [(.agg #[(Fl r1), (Fl r3), (Fl r5), (Fl r7), (Iv A_g.x), (Iv A_g.y), (Iv A_g.z), (.slice p11 A_g.vals.length q12)]), (Pt b15 0), (Pt b22 0), (u100 3), (u100 4), (Pt b76 0), (Iv (k : Int)), (.agg #[(Fl r1), (Fl r3), (Fl r5), (Fl r7), (Iv A_g.x), (Iv A_g.y), (Iv A_g.z), (.slice p11 A_g.vals.length q12)]), (Bo (isGrid A_g)), (Bo (!(isGrid A_g))), Ud, (.agg #[(Fl r1), (Fl r3), (Fl r5), (Fl r7), (Iv A_g.x), (Iv A_g.y), (Iv A_g.z), (.slice p11 A_g.vals.length q12)]), (.agg #[(Fl r62), (Fl r64), (Fl r66), (Fl r68), (Iv A_g.x), (Iv A_g.y), (Iv A_g.z), (.slice (some ⟨gr90, 0, none⟩) A_g.vals.length q73)]), (Iv (k : Int)), (Bo ((sweepG (GridT.mk A_g.low A_g.step A_g.x A_g.y A_g.z (swN A_g k)) (icmp .eql ((k : Int) % 2) 1)).2)), (Iv (k : Int)), (Iv ((k : Int) + 1)), (u100 17), (u100 18), (u100 19), Ud, Ud]) rfl rfl (does_iarith (p := (k : Int)) (q := 1) (r := (k : Int) + 1) (ev rfl) (ev rfl) (.inl ⟨rfl, (in_i64 (by omega) (by omega)).symm⟩)) rfl ?_
      refine q_is (l' := [(.agg #[(Fl r1), (Fl r3), (Fl r5), (Fl r7), (Iv A_g.x), (Iv A_g.y), (Iv A_g.z), (.slice p11 A_g.vals.length q12)]), (Pt b15 0), (Pt b22 0), (u100 3), (u100 4), (Pt b76 0), (Iv ((k : Int) + 1)), (.agg #[(Fl r1), (Fl r3), (Fl r5), (Fl r7), (Iv A_g.x), (Iv A_g.y), (Iv A_g.z), (.slice p11 A_g.vals.length q12)]), (Bo (isGrid A_g)), (Bo (!(isGrid A_g))), Ud, (.agg #[(Fl r1), (Fl r3), (Fl r5), (Fl r7), (Iv A_g.x), (Iv A_g.y), (Iv A_g.z), (.slice p11 A_g.vals.length q12)]), (.agg #[(Fl r62), (Fl r64), (Fl r66), (Fl r68), (Iv A_g.x), (Iv A_g.y), (Iv A_g.z), (.slice (some ⟨gr90, 0, none⟩) A_g.vals.length q73)]), (Iv (k : Int)), (Bo ((sweepG (GridT.mk A_g.low A_g.step A_g.x A_g.y A_g.z (swN A_g k)) (icmp .eql ((k : Int) % 2) 1)).2)), (Iv (k : Int)), (Iv ((k : Int) + 1)), (u100 17), (u100 18), (u100 19), Ud, Ud]) rfl rfl (does_assign (u := (Iv ((k : Int) + 1))) (ev rfl)) rfl ?_
      refine wpList_nil (hK113 _ _ ?_)
      refine wp_seq_k fun K114 hK114 => ?_
      refine wp_region_lit ?_
      refine q_is (l' := [(.agg #[(Fl r1), (Fl r3), (Fl r5), (Fl r7), (Iv A_g.x), (Iv A_g.y), (Iv A_g.z), (.slice p11 A_g.vals.length q12)]), (Pt b15 0), (Pt b22 0), (u100 3), (u100 4), (Pt b76 0), (Iv ((k : Int) + 1)), (.agg #[(Fl r1), (Fl r3), (Fl r5), (Fl r7), (Iv A_g.x), (Iv A_g.y), (Iv A_g.z), (.slice p11 A_g.vals.length q12)]), (Bo (isGrid A_g)), (Bo (!(isGrid A_g))), Ud, (.agg #[(Fl r1), (Fl r3), (Fl r5), (Fl r7), (Iv A_g.x), (Iv A_g.y), (Iv A_g.z), (.slice p11 A_g.vals.length q12)]), (.agg #[(Fl r62), (Fl r64), (Fl r66), (Fl r68), (Iv A_g.x), (Iv A_g.y), (Iv A_g.z), (.slice (some ⟨gr90, 0, none⟩) A_g.vals.length q73)]), (Iv (k : Int)), (Bo ((sweepG (GridT.mk A_g.low A_g.step A_g.x A_g.y A_g.z (swN A_g k)) (icmp .eql ((k : Int) % 2) 1)).2)), (Iv (k : Int)), (Iv ((k : Int) + 1)), (Iv ((k : Int) + 1)), (u100 18), (u100 19), Ud, Ud]) rfl rfl (does_move (u := (Iv ((k : Int) + 1))) (ev rfl)) rfl ?_
      refine q_is (l' := [(.agg #[(Fl r1), (Fl r3), (Fl r5), (Fl r7), (Iv A_g.x), (Iv A_g.y), (Iv A_g.z), (.slice p11 A_g.vals.length q12)]), (Pt b15 0), (Pt b22 0), (u100 3), (u100 4), (Pt b76 0), (Iv ((k : Int) + 1)), (.agg #[(Fl r1), (Fl r3), (Fl r5), (Fl r7), (Iv A_g.x), (Iv A_g.y), (Iv A_g.z), (.slice p11 A_g.vals.length q12)]), (Bo (isGrid A_g)), (Bo (!(isGrid A_g))), Ud, (.agg #[(Fl r1), (Fl r3), (Fl r5), (Fl r7), (Iv A_g.x), (Iv A_g.y), (Iv A_g.z), (.slice p11 A_g.vals.length q12)]), (.agg #[(Fl r62), (Fl r64), (Fl r66), (Fl r68), (Iv A_g.x), (Iv A_g.y), (Iv A_g.z), (.slice (some ⟨gr90, 0, none⟩) A_g.vals.length q73)]), (Iv (k : Int)), (Bo ((sweepG (GridT.mk A_g.low A_g.step A_g.x A_g.y A_g.z (swN A_g k)) (icmp .eql ((k : Int) % 2) 1)).2)), (Iv (k : Int)), (Iv ((k : Int) + 1)), (Iv ((k : Int) + 1)), (Bo (icmp .gtr ((k : Int) + 1) 32)), (u100 19), Ud, Ud]) rfl rfl (does_icmp (p := (k : Int) + 1) (q := 32) (.inr (.inr (.inr (.inr (.inl rfl))))) (ev rfl) (ev rfl)) rfl ?_
      refine wpList_nil (hK114 _ _ ?_)
      refine wp_cond_split (t := icmp .gtr ((k : Int) + 1) 32) (ev rfl) (fun c115 => ?_) (fun c115 => ?_)
      · have c115' := c115
        (try simp only [icmp, Bool.and_eq_true, Bool.or_eq_true, Bool.and_eq_false_iff, Bool.or_eq_false_iff, Bool.not_eq_true', Bool.not_eq_false', decide_eq_true_eq, decide_eq_false_iff_not, beq_iff_eq, bne_iff_ne, beq_eq_false_iff_ne, bne_eq_false_iff_eq] at c115')
        have hfn := sprFind_none (fun j hj => chg_step hch hcc j (by omega))
        refine wp_seq_k fun K116 hK116 => ?_
        refine wp_region_lit ?_
        refine q_is (l' := [(.agg #[(Fl r1), (Fl r3), (Fl r5), (Fl r7), (Iv A_g.x), (Iv A_g.y), (Iv A_g.z), (.slice p11 A_g.vals.length q12)]), (Pt b15 0), (Pt b22 0), (u100 3), (u100 4), (Pt b76 0), (Iv ((k : Int) + 1)), (.agg #[(Fl r1), (Fl r3), (Fl r5), (Fl r7), (Iv A_g.x), (Iv A_g.y), (Iv A_g.z), (.slice p11 A_g.vals.length q12)]), (Bo (isGrid A_g)), (Bo (!(isGrid A_g))), Ud, (.agg #[(Fl r1), (Fl r3), (Fl r5), (Fl r7), (Iv A_g.x), (Iv A_g.y), (Iv A_g.z), (.slice p11 A_g.vals.length q12)]), (.agg #[(Fl r62), (Fl r64), (Fl r66), (Fl r68), (Iv A_g.x), (Iv A_g.y), (Iv A_g.z), (.slice (some ⟨gr90, 0, none⟩) A_g.vals.length q73)]), (Iv (k : Int)), (Bo ((sweepG (GridT.mk A_g.low A_g.step A_g.x A_g.y A_g.z (swN A_g k)) (icmp .eql ((k : Int) % 2) 1)).2)), (Iv (k : Int)), (Iv ((k : Int) + 1)), (Iv ((k : Int) + 1)), (Bo (icmp .gtr ((k : Int) + 1) 32)), (.agg #[(Fl 0), (Fl 0), (Fl 0), (Fl 0), (Iv 0), (Iv 0), (Iv 0), (.slice none 0 0)]), Ud, Ud]) rfl rfl (does_build (parts' := []) (cells := #[(Fl 0), (Fl 0), (Fl 0), (Fl 0), (Iv 0), (Iv 0), (Iv 0), (.slice none 0 0)]) (evp rfl) (by kernel_rfl)) rfl ?_
        refine seqn rfl rfl (does_store (n := 8) (cs := [(Fl 0), (Fl 0), (Fl 0), (Fl 0), (Iv 0), (Iv 0), (Iv 0), (.slice none 0 0)]) (u := (.agg #[(Fl 0), (Fl 0), (Fl 0), (Fl 0), (Iv 0), (Iv 0), (Iv 0), (.slice none 0 0)])) (ev rfl) (ev rfl) Try.sizeOf31 rfl ((((((hB24.ext E32).ext E53).ext E79).wr W85 (Nat.ne_of_lt n82)).kl E102 (ninS n97 nin0)).kl K109 (ninS n97 nin0)) (Nat.le_of_ble_eq_true rfl) rfl) ?_; rintro _ w119 ⟨rfl, W117, hB118⟩
        change Blk _ _ [(Fl 0), (Fl 0), (Fl 0), (Fl 0), (Iv 0), (Iv 0), (Iv 0), (.slice none 0 0)] at hB118
        have X120 := Below.wr X111 W117 g28
        refine q_is (l' := [(.agg #[(Fl r1), (Fl r3), (Fl r5), (Fl r7), (Iv A_g.x), (Iv A_g.y), (Iv A_g.z), (.slice p11 A_g.vals.length q12)]), (Pt b15 0), (Pt b22 0), (Iv 0), (u100 4), (Pt b76 0), (Iv ((k : Int) + 1)), (.agg #[(Fl r1), (Fl r3), (Fl r5), (Fl r7), (Iv A_g.x), (Iv A_g.y), (Iv A_g.z), (.slice p11 A_g.vals.length q12)]), (Bo (isGrid A_g)), (Bo (!(isGrid A_g))), Ud, (.agg #[(Fl r1), (Fl r3), (Fl r5), (Fl r7), (Iv A_g.x), (Iv A_g.y), (Iv A_g.z), (.slice p11 A_g.vals.length q12)]), (.agg #[(Fl r62), (Fl r64), (Fl r66), (Fl r68), (Iv A_g.x), (Iv A_g.y), (Iv A_g.z), (.slice (some ⟨gr90, 0, none⟩) A_g.vals.length q73)]), (Iv (k : Int)), (Bo ((sweepG (GridT.mk A_g.low A_g.step A_g.x A_g.y A_g.z (swN A_g k)) (icmp .eql ((k : Int) % 2) 1)).2)), (Iv (k : Int)), (Iv ((k : Int) + 1)), (Iv ((k : Int) + 1)), (Bo (icmp .gtr ((k : Int) + 1) 32)), (.agg #[(Fl 0), (Fl 0), (Fl 0), (Fl 0), (Iv 0), (Iv 0), (Iv 0), (.slice none 0 0)]), Ud, Ud]) rfl rfl (does_assign (u := (Iv 0)) (ev rfl)) rfl ?_
        refine q_is (l' := [(.agg #[(Fl r1), (Fl r3), (Fl r5), (Fl r7), (Iv A_g.x), (Iv A_g.y), (Iv A_g.z), (.slice p11 A_g.vals.length q12)]), (Pt b15 0), (Pt b22 0), (Iv 0), (Bo false), (Pt b76 0), (Iv ((k : Int) + 1)), (.agg #[(Fl r1), (Fl r3), (Fl r5), (Fl r7), (Iv A_g.x), (Iv A_g.y), (Iv A_g.z), (.slice p11 A_g.vals.length q12)]), (Bo (isGrid A_g)), (Bo (!(isGrid A_g))), Ud, (.agg #[(Fl r1), (Fl r3), (Fl r5), (Fl r7), (Iv A_g.x), (Iv A_g.y), (Iv A_g.z), (.slice p11 A_g.vals.length q12)]), (.agg #[(Fl r62), (Fl r64), (Fl r66), (Fl r68), (Iv A_g.x), (Iv A_g.y), (Iv A_g.z), (.slice (some ⟨gr90, 0, none⟩) A_g.vals.length q73)]), (Iv (k : Int)), (Bo ((sweepG (GridT.mk A_g.low A_g.step A_g.x A_g.y A_g.z (swN A_g k)) (icmp .eql ((k : Int) % 2) 1)).2)), (Iv (k : Int)), (Iv ((k : Int) + 1)), (Iv ((k : Int) + 1)), (Bo (icmp .gtr ((k : Int) + 1) 32)), (.agg #[(Fl 0), (Fl 0), (Fl 0), (Fl 0), (Iv 0), (Iv 0), (Iv 0), (.slice none 0 0)]), Ud, Ud]) rfl rfl (does_assign (u := (Bo false)) (ev rfl)) rfl ?_
        refine wpList_nil (hK116 _ _ ?_)
        refine wp_ret ?_
        dsimp only [Exit.then, Exit.inBlock]
        refine ret_val (v := (.tuple #[(.agg #[(Fl 0), (Fl 0), (Fl 0), (Fl 0), (Iv 0), (Iv 0), (Iv 0), (.slice none 0 0)]), (Iv 0), (Bo false)])) (res_CTT rfl (slot rfl) (run_loadAgg (cs := [(Fl 0), (Fl 0), (Fl 0), (Fl 0), (Iv 0), (Iv 0), (Iv 0), (.slice none 0 0)]) Try.isAgg31 Try.sizeOf31 (Blk.cells hB118) rfl) (slot rfl) (slot rfl)) X120 ?_
        try simp only [h2, h4, h6, h8, h63, h65, h67, h69] at c35 c112 c115
        have x121 : (sprI A_g : Int) = 0 := by first | exact sprB_f hgf | exact sprI_f hgf | exact sprB_n hfn | exact sprI_n hgr hfn | exact sprB_s hgr hfd | exact sprI_s hgr hfd | (rw [sprG_f hgf] <;> rfl) | (rw [sprG_n hgr hfn] <;> rfl) | (rw [sprG_s hgr hfd] <;> first | rfl | assumption | (simp only [h2, h4, h6, h8, h63, h65, h67, h69, c35, c112, c115]; done))
        have x122 : (sprB A_g) = false := by first | exact sprB_f hgf | exact sprI_f hgf | exact sprB_n hfn | exact sprI_n hgr hfn | exact sprB_s hgr hfd | exact sprI_s hgr hfd | (rw [sprG_f hgf] <;> rfl) | (rw [sprG_n hgr hfn] <;> rfl) | (rw [sprG_s hgr hfd] <;> first | rfl | assumption | (simp only [h2, h4, h6, h8, h63, h65, h67, h69, c35, c112, c115]; done))
        have x123 : cf .f32 0 = (sprG A_g).low.x := by first | exact sprB_f hgf | exact sprI_f hgf | exact sprB_n hfn | exact sprI_n hgr hfn | exact sprB_s hgr hfd | exact sprI_s hgr hfd | (rw [sprG_f hgf] <;> rfl) | (rw [sprG_n hgr hfn] <;> rfl) | (rw [sprG_s hgr hfd] <;> first | rfl | assumption | (simp only [h2, h4, h6, h8, h63, h65, h67, h69, c35, c112, c115]; done))
        have x124 : cf .f32 0 = (sprG A_g).low.y := by first | exact sprB_f hgf | exact sprI_f hgf | exact sprB_n hfn | exact sprI_n hgr hfn | exact sprB_s hgr hfd | exact sprI_s hgr hfd | (rw [sprG_f hgf] <;> rfl) | (rw [sprG_n hgr hfn] <;> rfl) | (rw [sprG_s hgr hfd] <;> first | rfl | assumption | (simp only [h2, h4, h6, h8, h63, h65, h67, h69, c35, c112, c115]; done))
        have x125 : cf .f32 0 = (sprG A_g).low.z := by first | exact sprB_f hgf | exact sprI_f hgf | exact sprB_n hfn | exact sprI_n hgr hfn | exact sprB_s hgr hfd | exact sprI_s hgr hfd | (rw [sprG_f hgf] <;> rfl) | (rw [sprG_n hgr hfn] <;> rfl) | (rw [sprG_s hgr hfd] <;> first | rfl | assumption | (simp only [h2, h4, h6, h8, h63, h65, h67, h69, c35, c112, c115]; done))
        have x126 : cf .f32 0 = (sprG A_g).step := by first | exact sprB_f hgf | exact sprI_f hgf | exact sprB_n hfn | exact sprI_n hgr hfn | exact sprB_s hgr hfd | exact sprI_s hgr hfd | (rw [sprG_f hgf] <;> rfl) | (rw [sprG_n hgr hfn] <;> rfl) | (rw [sprG_s hgr hfd] <;> first | rfl | assumption | (simp only [h2, h4, h6, h8, h63, h65, h67, h69, c35, c112, c115]; done))
        have x127 : (sprG A_g).x = 0 := by first | exact sprB_f hgf | exact sprI_f hgf | exact sprB_n hfn | exact sprI_n hgr hfn | exact sprB_s hgr hfd | exact sprI_s hgr hfd | (rw [sprG_f hgf] <;> rfl) | (rw [sprG_n hgr hfn] <;> rfl) | (rw [sprG_s hgr hfd] <;> first | rfl | assumption | (simp only [h2, h4, h6, h8, h63, h65, h67, h69, c35, c112, c115]; done))
        have x128 : (sprG A_g).y = 0 := by first | exact sprB_f hgf | exact sprI_f hgf | exact sprB_n hfn | exact sprI_n hgr hfn | exact sprB_s hgr hfd | exact sprI_s hgr hfd | (rw [sprG_f hgf] <;> rfl) | (rw [sprG_n hgr hfn] <;> rfl) | (rw [sprG_s hgr hfd] <;> first | rfl | assumption | (simp only [h2, h4, h6, h8, h63, h65, h67, h69, c35, c112, c115]; done))
        have x129 : (sprG A_g).z = 0 := by first | exact sprB_f hgf | exact sprI_f hgf | exact sprB_n hfn | exact sprI_n hgr hfn | exact sprB_s hgr hfd | exact sprI_s hgr hfd | (rw [sprG_f hgf] <;> rfl) | (rw [sprG_n hgr hfn] <;> rfl) | (rw [sprG_s hgr hfd] <;> first | rfl | assumption | (simp only [h2, h4, h6, h8, h63, h65, h67, h69, c35, c112, c115]; done))
        have x130 : ([]) = ((sprG A_g).vals) := by first | exact sprB_f hgf | exact sprI_f hgf | exact sprB_n hfn | exact sprI_n hgr hfn | exact sprB_s hgr hfd | exact sprI_s hgr hfd | (rw [sprG_f hgf] <;> rfl) | (rw [sprG_n hgr hfn] <;> rfl) | (rw [sprG_s hgr hfd] <;> first | rfl | assumption | (simp only [h2, h4, h6, h8, h63, h65, h67, h69, c35, c112, c115]; done))
        have x131 : ([]) = ((sprG A_g).vals) := by first | exact sprB_f hgf | exact sprI_f hgf | exact sprB_n hfn | exact sprI_n hgr hfn | exact sprB_s hgr hfd | exact sprI_s hgr hfd | (rw [sprG_f hgf] <;> rfl) | (rw [sprG_n hgr hfn] <;> rfl) | (rw [sprG_s hgr hfd] <;> first | rfl | assumption | (simp only [h2, h4, h6, h8, h63, h65, h67, h69, c35, c112, c115]; done))
        exact ⟨[(Fl 0), (Fl 0), (Fl 0), (Fl 0), (Iv 0), (Iv 0), (Iv 0), (.slice none 0 0)], [], (by first | rfl | rw [x121, x122] | rw [x122, x121]), fun u hu => ⟨0, 0, 0, 0, (.slice none 0 0), (by first | with_reducible rfl | (show _ = _; simp only [x127, x128, x129]) | rfl), x123, x124, x125, x126, (Hang.castL (Sl.hang_nil _ _ _ _) x130) u hu⟩, (WL.cast (WL.nil _ _ _) (congrArg List.length x131))⟩
      have c115' := c115
      (try simp only [icmp, Bool.and_eq_true, Bool.or_eq_true, Bool.and_eq_false_iff, Bool.or_eq_false_iff, Bool.not_eq_true', Bool.not_eq_false', decide_eq_true_eq, decide_eq_false_iff_not, beq_iff_eq, bne_iff_ne, beq_eq_false_iff_ne, bne_eq_false_iff_eq] at c115')
      refine wp_skip ?_
      have hR132 := RowF.cast (ys := ((fun (k : Nat) => swN A_g k) (k + 1))) hR110 (by (try dsimp only); rfl)
      refine ⟨k + 1, ⟨fun t => (([(.agg #[(Fl r1), (Fl r3), (Fl r5), (Fl r7), (Iv A_g.x), (Iv A_g.y), (Iv A_g.z), (.slice p11 A_g.vals.length q12)]), (Pt b15 0), (Pt b22 0), (u100 3), (u100 4), (Pt b76 0), (Iv ((k : Int) + 1)), (.agg #[(Fl r1), (Fl r3), (Fl r5), (Fl r7), (Iv A_g.x), (Iv A_g.y), (Iv A_g.z), (.slice p11 A_g.vals.length q12)]), (Bo (isGrid A_g)), (Bo (!(isGrid A_g))), Ud, (.agg #[(Fl r1), (Fl r3), (Fl r5), (Fl r7), (Iv A_g.x), (Iv A_g.y), (Iv A_g.z), (.slice p11 A_g.vals.length q12)]), (.agg #[(Fl r62), (Fl r64), (Fl r66), (Fl r68), (Iv A_g.x), (Iv A_g.y), (Iv A_g.z), (.slice (some ⟨gr90, 0, none⟩) A_g.vals.length q73)]), (Iv (k : Int)), (Bo ((sweepG (GridT.mk A_g.low A_g.step A_g.x A_g.y A_g.z (swN A_g k)) (icmp .eql ((k : Int) % 2) 1)).2)), (Iv (k : Int)), (Iv ((k : Int) + 1)), (Iv ((k : Int) + 1)), (Bo (icmp .gtr ((k : Int) + 1) 32)), (u100 19), Ud, Ud] : List Value)[t]?).getD undef, ?_, (KpL.more E102 K109 (allS (.inl (by simp)) all0)), hR132, ?_⟩, ?_⟩
      · first | rfl | (simp only [Nat.cast_add, Nat.cast_one, Int.natCast_add, Int.natCast_one]; rfl)
      · exact ⟨by omega, chg_step hch hcc⟩
      · omega
    have c112' := c112
    (try simp only [icmp, Bool.and_eq_true, Bool.or_eq_true, Bool.and_eq_false_iff, Bool.or_eq_false_iff, Bool.not_eq_true', Bool.not_eq_false', decide_eq_true_eq, decide_eq_false_iff_not, beq_iff_eq, bne_iff_ne, beq_eq_false_iff_ne, bne_eq_false_iff_eq] at c112')
    have hnc : stChg A_g k = false := c112
    have hfd := sprFind_some (by omega) hch hnc
    refine wp_exit ?_
    refine hK89 _ _ ?_
    refine wp_seq_k fun K133 hK133 => ?_
    refine wp_region_lit ?_
    refine q_is (l' := [(.agg #[(Fl r1), (Fl r3), (Fl r5), (Fl r7), (Iv A_g.x), (Iv A_g.y), (Iv A_g.z), (.slice p11 A_g.vals.length q12)]), (Pt b15 0), (Pt b22 0), (u100 3), (u100 4), (Pt b76 0), (Iv (k : Int)), (.agg #[(Fl r1), (Fl r3), (Fl r5), (Fl r7), (Iv A_g.x), (Iv A_g.y), (Iv A_g.z), (.slice p11 A_g.vals.length q12)]), (Bo (isGrid A_g)), (Bo (!(isGrid A_g))), Ud, (.agg #[(Fl r1), (Fl r3), (Fl r5), (Fl r7), (Iv A_g.x), (Iv A_g.y), (Iv A_g.z), (.slice p11 A_g.vals.length q12)]), (.agg #[(Fl r62), (Fl r64), (Fl r66), (Fl r68), (Iv A_g.x), (Iv A_g.y), (Iv A_g.z), (.slice (some ⟨gr90, 0, none⟩) A_g.vals.length q73)]), (Iv (k : Int)), (Bo ((sweepG (GridT.mk A_g.low A_g.step A_g.x A_g.y A_g.z (swN A_g k)) (icmp .eql ((k : Int) % 2) 1)).2)), (u100 15), (u100 16), (u100 17), (u100 18), (u100 19), (.agg #[(Fl r62), (Fl r64), (Fl r66), (Fl r68), (Iv A_g.x), (Iv A_g.y), (Iv A_g.z), (.slice (some ⟨gr90, 0, none⟩) A_g.vals.length q73)]), Ud]) rfl rfl (does_loadAgg (cs := [(Fl r62), (Fl r64), (Fl r66), (Fl r68), (Iv A_g.x), (Iv A_g.y), (Iv A_g.z), (.slice (some ⟨gr90, 0, none⟩) A_g.vals.length q73)]) (ev rfl) Try.isAgg31 Try.sizeOf31 (Blk.cells ((hB86.kl E102 (ninS (Ne.symm n98) nin0)).kl K109 (ninS (Ne.symm n98) nin0))) rfl) rfl ?_
    refine q_is (l' := [(.agg #[(Fl r1), (Fl r3), (Fl r5), (Fl r7), (Iv A_g.x), (Iv A_g.y), (Iv A_g.z), (.slice p11 A_g.vals.length q12)]), (Pt b15 0), (Pt b22 0), (u100 3), (u100 4), (Pt b76 0), (Iv (k : Int)), (.agg #[(Fl r1), (Fl r3), (Fl r5), (Fl r7), (Iv A_g.x), (Iv A_g.y), (Iv A_g.z), (.slice p11 A_g.vals.length q12)]), (Bo (isGrid A_g)), (Bo (!(isGrid A_g))), Ud, (.agg #[(Fl r1), (Fl r3), (Fl r5), (Fl r7), (Iv A_g.x), (Iv A_g.y), (Iv A_g.z), (.slice p11 A_g.vals.length q12)]), (.agg #[(Fl r62), (Fl r64), (Fl r66), (Fl r68), (Iv A_g.x), (Iv A_g.y), (Iv A_g.z), (.slice (some ⟨gr90, 0, none⟩) A_g.vals.length q73)]), (Iv (k : Int)), (Bo ((sweepG (GridT.mk A_g.low A_g.step A_g.x A_g.y A_g.z (swN A_g k)) (icmp .eql ((k : Int) % 2) 1)).2)), (u100 15), (u100 16), (u100 17), (u100 18), (u100 19), (.agg #[(Fl r62), (Fl r64), (Fl r66), (Fl r68), (Iv A_g.x), (Iv A_g.y), (Iv A_g.z), (.slice (some ⟨gr90, 0, none⟩) A_g.vals.length q73)]), (Iv (k : Int))]) rfl rfl (does_move (u := (Iv (k : Int))) (ev rfl)) rfl ?_
    refine seqn rfl rfl (does_store (n := 8) (cs := [(Fl 0), (Fl 0), (Fl 0), (Fl 0), (Iv 0), (Iv 0), (Iv 0), (.slice none 0 0)]) (u := (.agg #[(Fl r62), (Fl r64), (Fl r66), (Fl r68), (Iv A_g.x), (Iv A_g.y), (Iv A_g.z), (.slice (some ⟨gr90, 0, none⟩) A_g.vals.length q73)])) (ev rfl) (ev rfl) Try.sizeOf31 rfl ((((((hB24.ext E32).ext E53).ext E79).wr W85 (Nat.ne_of_lt n82)).kl E102 (ninS n97 nin0)).kl K109 (ninS n97 nin0)) (Nat.le_of_ble_eq_true rfl) rfl) ?_; rintro _ w136 ⟨rfl, W134, hB135⟩
    change Blk _ _ [(Fl r62), (Fl r64), (Fl r66), (Fl r68), (Iv A_g.x), (Iv A_g.y), (Iv A_g.z), (.slice (some ⟨gr90, 0, none⟩) A_g.vals.length q73)] at hB135
    have X137 := Below.wr X111 W134 g28
    refine q_is (l' := [(.agg #[(Fl r1), (Fl r3), (Fl r5), (Fl r7), (Iv A_g.x), (Iv A_g.y), (Iv A_g.z), (.slice p11 A_g.vals.length q12)]), (Pt b15 0), (Pt b22 0), (Iv (k : Int)), (u100 4), (Pt b76 0), (Iv (k : Int)), (.agg #[(Fl r1), (Fl r3), (Fl r5), (Fl r7), (Iv A_g.x), (Iv A_g.y), (Iv A_g.z), (.slice p11 A_g.vals.length q12)]), (Bo (isGrid A_g)), (Bo (!(isGrid A_g))), Ud, (.agg #[(Fl r1), (Fl r3), (Fl r5), (Fl r7), (Iv A_g.x), (Iv A_g.y), (Iv A_g.z), (.slice p11 A_g.vals.length q12)]), (.agg #[(Fl r62), (Fl r64), (Fl r66), (Fl r68), (Iv A_g.x), (Iv A_g.y), (Iv A_g.z), (.slice (some ⟨gr90, 0, none⟩) A_g.vals.length q73)]), (Iv (k : Int)), (Bo ((sweepG (GridT.mk A_g.low A_g.step A_g.x A_g.y A_g.z (swN A_g k)) (icmp .eql ((k : Int) % 2) 1)).2)), (u100 15), (u100 16), (u100 17), (u100 18), (u100 19), (.agg #[(Fl r62), (Fl r64), (Fl r66), (Fl r68), (Iv A_g.x), (Iv A_g.y), (Iv A_g.z), (.slice (some ⟨gr90, 0, none⟩) A_g.vals.length q73)]), (Iv (k : Int))]) rfl rfl (does_assign (u := (Iv (k : Int))) (ev rfl)) rfl ?_
    refine q_is (l' := [(.agg #[(Fl r1), (Fl r3), (Fl r5), (Fl r7), (Iv A_g.x), (Iv A_g.y), (Iv A_g.z), (.slice p11 A_g.vals.length q12)]), (Pt b15 0), (Pt b22 0), (Iv (k : Int)), (Bo true), (Pt b76 0), (Iv (k : Int)), (.agg #[(Fl r1), (Fl r3), (Fl r5), (Fl r7), (Iv A_g.x), (Iv A_g.y), (Iv A_g.z), (.slice p11 A_g.vals.length q12)]), (Bo (isGrid A_g)), (Bo (!(isGrid A_g))), Ud, (.agg #[(Fl r1), (Fl r3), (Fl r5), (Fl r7), (Iv A_g.x), (Iv A_g.y), (Iv A_g.z), (.slice p11 A_g.vals.length q12)]), (.agg #[(Fl r62), (Fl r64), (Fl r66), (Fl r68), (Iv A_g.x), (Iv A_g.y), (Iv A_g.z), (.slice (some ⟨gr90, 0, none⟩) A_g.vals.length q73)]), (Iv (k : Int)), (Bo ((sweepG (GridT.mk A_g.low A_g.step A_g.x A_g.y A_g.z (swN A_g k)) (icmp .eql ((k : Int) % 2) 1)).2)), (u100 15), (u100 16), (u100 17), (u100 18), (u100 19), (.agg #[(Fl r62), (Fl r64), (Fl r66), (Fl r68), (Iv A_g.x), (Iv A_g.y), (Iv A_g.z), (.slice (some ⟨gr90, 0, none⟩) A_g.vals.length q73)]), (Iv (k : Int))]) rfl rfl (does_assign (u := (Bo true)) (ev rfl)) rfl ?_
    refine wpList_nil (hK133 _ _ ?_)
    refine wp_ret ?_
    refine ret_val (v := (.tuple #[(.agg #[(Fl r62), (Fl r64), (Fl r66), (Fl r68), (Iv A_g.x), (Iv A_g.y), (Iv A_g.z), (.slice (some ⟨gr90, 0, none⟩) A_g.vals.length q73)]), (Iv (k : Int)), (Bo true)])) (res_CTT rfl (slot rfl) (run_loadAgg (cs := [(Fl r62), (Fl r64), (Fl r66), (Fl r68), (Iv A_g.x), (Iv A_g.y), (Iv A_g.z), (.slice (some ⟨gr90, 0, none⟩) A_g.vals.length q73)]) Try.isAgg31 Try.sizeOf31 (Blk.cells hB135) rfl) (slot rfl) (slot rfl)) X137 ?_
    try simp only [h2, h4, h6, h8, h63, h65, h67, h69] at c35 c112
    have x138 : (sprI A_g : Int) = (k : Int) := by first | exact sprB_f hgf | exact sprI_f hgf | exact sprB_n hfn | exact sprI_n hgr hfn | exact sprB_s hgr hfd | exact sprI_s hgr hfd | (rw [sprG_f hgf] <;> rfl) | (rw [sprG_n hgr hfn] <;> rfl) | (rw [sprG_s hgr hfd] <;> first | rfl | assumption | (simp only [h2, h4, h6, h8, h63, h65, h67, h69, c35, c112]; done))
    have x139 : (sprB A_g) = true := by first | exact sprB_f hgf | exact sprI_f hgf | exact sprB_n hfn | exact sprI_n hgr hfn | exact sprB_s hgr hfd | exact sprI_s hgr hfd | (rw [sprG_f hgf] <;> rfl) | (rw [sprG_n hgr hfn] <;> rfl) | (rw [sprG_s hgr hfd] <;> first | rfl | assumption | (simp only [h2, h4, h6, h8, h63, h65, h67, h69, c35, c112]; done))
    have x140 : cf .f32 r62 = (sprG A_g).low.x := by first | exact sprB_f hgf | exact sprI_f hgf | exact sprB_n hfn | exact sprI_n hgr hfn | exact sprB_s hgr hfd | exact sprI_s hgr hfd | (rw [sprG_f hgf] <;> rfl) | (rw [sprG_n hgr hfn] <;> rfl) | (rw [sprG_s hgr hfd] <;> first | rfl | assumption | (simp only [h2, h4, h6, h8, h63, h65, h67, h69, c35, c112]; done))
    have x141 : cf .f32 r64 = (sprG A_g).low.y := by first | exact sprB_f hgf | exact sprI_f hgf | exact sprB_n hfn | exact sprI_n hgr hfn | exact sprB_s hgr hfd | exact sprI_s hgr hfd | (rw [sprG_f hgf] <;> rfl) | (rw [sprG_n hgr hfn] <;> rfl) | (rw [sprG_s hgr hfd] <;> first | rfl | assumption | (simp only [h2, h4, h6, h8, h63, h65, h67, h69, c35, c112]; done))
    have x142 : cf .f32 r66 = (sprG A_g).low.z := by first | exact sprB_f hgf | exact sprI_f hgf | exact sprB_n hfn | exact sprI_n hgr hfn | exact sprB_s hgr hfd | exact sprI_s hgr hfd | (rw [sprG_f hgf] <;> rfl) | (rw [sprG_n hgr hfn] <;> rfl) | (rw [sprG_s hgr hfd] <;> first | rfl | assumption | (simp only [h2, h4, h6, h8, h63, h65, h67, h69, c35, c112]; done))
    have x143 : cf .f32 r68 = (sprG A_g).step := by first | exact sprB_f hgf | exact sprI_f hgf | exact sprB_n hfn | exact sprI_n hgr hfn | exact sprB_s hgr hfd | exact sprI_s hgr hfd | (rw [sprG_f hgf] <;> rfl) | (rw [sprG_n hgr hfn] <;> rfl) | (rw [sprG_s hgr hfd] <;> first | rfl | assumption | (simp only [h2, h4, h6, h8, h63, h65, h67, h69, c35, c112]; done))
    have x144 : (sprG A_g).x = A_g.x := by first | exact sprB_f hgf | exact sprI_f hgf | exact sprB_n hfn | exact sprI_n hgr hfn | exact sprB_s hgr hfd | exact sprI_s hgr hfd | (rw [sprG_f hgf] <;> rfl) | (rw [sprG_n hgr hfn] <;> rfl) | (rw [sprG_s hgr hfd] <;> first | rfl | assumption | (simp only [h2, h4, h6, h8, h63, h65, h67, h69, c35, c112]; done))
    have x145 : (sprG A_g).y = A_g.y := by first | exact sprB_f hgf | exact sprI_f hgf | exact sprB_n hfn | exact sprI_n hgr hfn | exact sprB_s hgr hfd | exact sprI_s hgr hfd | (rw [sprG_f hgf] <;> rfl) | (rw [sprG_n hgr hfn] <;> rfl) | (rw [sprG_s hgr hfd] <;> first | rfl | assumption | (simp only [h2, h4, h6, h8, h63, h65, h67, h69, c35, c112]; done))
    have x146 : (sprG A_g).z = A_g.z := by first | exact sprB_f hgf | exact sprI_f hgf | exact sprB_n hfn | exact sprI_n hgr hfn | exact sprB_s hgr hfd | exact sprI_s hgr hfd | (rw [sprG_f hgf] <;> rfl) | (rw [sprG_n hgr hfn] <;> rfl) | (rw [sprG_s hgr hfd] <;> first | rfl | assumption | (simp only [h2, h4, h6, h8, h63, h65, h67, h69, c35, c112]; done))
    have x147 : ((sweepG (GridT.mk A_g.low A_g.step A_g.x A_g.y A_g.z (swN A_g k)) (icmp .eql ((k : Int) % 2) 1)).1) = ((sprG A_g).vals) := by first | exact sprB_f hgf | exact sprI_f hgf | exact sprB_n hfn | exact sprI_n hgr hfn | exact sprB_s hgr hfd | exact sprI_s hgr hfd | (rw [sprG_f hgf] <;> rfl) | (rw [sprG_n hgr hfn] <;> rfl) | (rw [sprG_s hgr hfd] <;> first | rfl | assumption | (simp only [h2, h4, h6, h8, h63, h65, h67, h69, c35, c112]; done))
    have x148 : ((sweepG (GridT.mk A_g.low A_g.step A_g.x A_g.y A_g.z (swN A_g k)) (icmp .eql ((k : Int) % 2) 1)).1) = ((sprG A_g).vals) := by first | exact sprB_f hgf | exact sprI_f hgf | exact sprB_n hfn | exact sprI_n hgr hfn | exact sprB_s hgr hfd | exact sprI_s hgr hfd | (rw [sprG_f hgf] <;> rfl) | (rw [sprG_n hgr hfn] <;> rfl) | (rw [sprG_s hgr hfd] <;> first | rfl | assumption | (simp only [h2, h4, h6, h8, h63, h65, h67, h69, c35, c112]; done))
    exact ⟨[(Fl r62), (Fl r64), (Fl r66), (Fl r68), (Iv A_g.x), (Iv A_g.y), (Iv A_g.z), (.slice (some ⟨gr90, 0, none⟩) A_g.vals.length q73)], [gr90], (by first | rfl | rw [x138, x139] | rw [x139, x138]), fun u hu => ⟨r62, r64, r66, r68, (.slice (some ⟨gr90, 0, none⟩) A_g.vals.length q73), (by first | with_reducible rfl | (show _ = _; simp only [x144, x145, x146]) | rfl), x140, x141, x142, x143, (Hang.castL (RowF.hang (hR110.wr W134 (Ne.symm n97)) (by first | assumption | (simp only [sweepG_len, sweepTo_len, rowS_len, swN_len, List.length_set]; done) | omega | (simp only [sweepG_len, sweepTo_len, rowS_len, swN_len, List.length_set]; omega) | rfl) g99 hcap94 (by omega)) x147) u hu⟩, (WL.cast (WL.cast (RowF.wl (hR110.wr W134 (Ne.symm n97)) (by first | assumption | (simp only [sweepG_len, sweepTo_len, rowS_len, swN_len, List.length_set]; done) | omega | (simp only [sweepG_len, sweepTo_len, rowS_len, swN_len, List.length_set]; omega) | rfl) g99 hcap94) (by first | (symm; first | assumption | (simp only [sweepG_len, sweepTo_len, rowS_len, swN_len, List.length_set]; done) | omega | (simp only [sweepG_len, sweepTo_len, rowS_len, swN_len, List.length_set]; omega) | rfl) | assumption | (simp only [sweepG_len, sweepTo_len, rowS_len, swN_len, List.length_set]; done) | omega | (simp only [sweepG_len, sweepTo_len, rowS_len, swN_len, List.length_set]; omega) | rfl)) (congrArg List.length x148))⟩

end Go.Proofs.Ytffmjlalacnfiaa
