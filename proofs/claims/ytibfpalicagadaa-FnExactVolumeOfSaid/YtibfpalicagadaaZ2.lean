/- contracts of functions, each walked once -/
import Derived.Test.YtibfpalicagadaaZ
namespace Go.Proofs.Ytibfpalicagadaa
open Go Go.RowKit
set_option maxRecDepth 100000
set_option linter.unusedVariables false
set_option linter.unusedSimpArgs false

/- laws.eqVector -/
theorem c_laws_eqVector (a : List Value) (A_a : V3) (b : List Value) (A_b : V3) (w : World) (hv_a : RV3 w A_a a) (hv_b : RV3 w A_b b) : Gives Try.prog 29 #[(.agg a.toArray), (.agg b.toArray)] w (fun v w' => v = (Bo (sameV A_a A_b))) := by
  obtain ⟨r1, r3, r5, rfl, h2, h4, h6⟩ := hv_a
  obtain ⟨r7, r9, r11, rfl, h8, h10, h12⟩ := hv_b
  refine enter [(.agg #[(Fl r1), (Fl r3), (Fl r5)]), (.agg #[(Fl r7), (Fl r9), (Fl r11)]), Ud, Ud, Ud, Ud, Ud, Ud, Ud, Ud, Ud, Ud, Ud, Ud, Ud, Ud, Ud, Ud, Ud, Ud, Ud, Ud, Ud, Ud, Ud, Ud, Ud, Ud, Ud] Try.func29 rfl Try.ntmps29 rfl ?_
  refine wp_seq_k fun K13 hK13 => ?_
  refine wp_region_lit ?_
  refine seqd rfl rfl (does_box (u := (.agg #[(Fl r1), (Fl r3), (Fl r5)])) (ev rfl)) ?_; rintro _ w18 ⟨b14, rfl, hb15, hB16, E17⟩
  have g19 : w.heap.size ≤ b14 := Nat.le_trans (Below.size (Ext.refl w)) hb15
  change Blk _ _ [(Fl r1), (Fl r3), (Fl r5)] at hB16
  have X20 := Ext.gr (Ext.refl w) E17
  show wpList _ _ _ _ (fr [(.agg #[(Fl r1), (Fl r3), (Fl r5)]), (.agg #[(Fl r7), (Fl r9), (Fl r11)]), (Pt b14 0), Ud, Ud, Ud, Ud, Ud, Ud, Ud, Ud, Ud, Ud, Ud, Ud, Ud, Ud, Ud, Ud, Ud, Ud, Ud, Ud, Ud, Ud, Ud, Ud, Ud, Ud]) _
  refine seqd rfl rfl (does_box (u := (.agg #[(Fl r7), (Fl r9), (Fl r11)])) (ev rfl)) ?_; rintro _ w25 ⟨b21, rfl, hb22, hB23, E24⟩
  have n26 : b14 < b21 := Nat.lt_of_lt_of_le (Blk.lt hB16) hb22
  have g27 : w.heap.size ≤ b21 := Nat.le_trans (Below.size X20) hb22
  change Blk _ _ [(Fl r7), (Fl r9), (Fl r11)] at hB23
  have X28 := Ext.gr X20 E24
  show wpList _ _ _ _ (fr [(.agg #[(Fl r1), (Fl r3), (Fl r5)]), (.agg #[(Fl r7), (Fl r9), (Fl r11)]), (Pt b14 0), (Pt b21 0), Ud, Ud, Ud, Ud, Ud, Ud, Ud, Ud, Ud, Ud, Ud, Ud, Ud, Ud, Ud, Ud, Ud, Ud, Ud, Ud, Ud, Ud, Ud, Ud, Ud]) _
  refine q_is (l' := [(.agg #[(Fl r1), (Fl r3), (Fl r5)]), (.agg #[(Fl r7), (Fl r9), (Fl r11)]), (Pt b14 0), (Pt b21 0), (Bo false), Ud, Ud, Ud, Ud, Ud, Ud, Ud, Ud, Ud, Ud, Ud, Ud, Ud, Ud, Ud, Ud, Ud, Ud, Ud, Ud, Ud, Ud, Ud, Ud]) rfl rfl (does_assign (u := (Bo false)) (ev rfl)) rfl ?_
  refine wpList_nil (hK13 _ _ ?_)
  refine wp_seq_k fun K29 hK29 => ?_
  refine wp_seq_k fun K30 hK30 => ?_
  refine wp_region_lit ?_
  refine q_is (l' := [(.agg #[(Fl r1), (Fl r3), (Fl r5)]), (.agg #[(Fl r7), (Fl r9), (Fl r11)]), (Pt b14 0), (Pt b21 0), (Bo false), (Pt b14 0), Ud, Ud, Ud, Ud, Ud, Ud, Ud, Ud, Ud, Ud, Ud, Ud, Ud, Ud, Ud, Ud, Ud, Ud, Ud, Ud, Ud, Ud, Ud]) rfl rfl (does_fieldAddr (ev rfl) fa30_0) rfl ?_
  refine q_is (l' := [(.agg #[(Fl r1), (Fl r3), (Fl r5)]), (.agg #[(Fl r7), (Fl r9), (Fl r11)]), (Pt b14 0), (Pt b21 0), (Bo false), (Pt b14 0), (Fl r1), Ud, Ud, Ud, Ud, Ud, Ud, Ud, Ud, Ud, Ud, Ud, Ud, Ud, Ud, Ud, Ud, Ud, Ud, Ud, Ud, Ud, Ud]) rfl rfl (does_load (u := (Fl r1)) (ev rfl) Try.isAgg22 (Cells.at (Blk.cells (hB16.ext E24)) 0 rfl)) rfl ?_
  refine seqd rfl rfl (does_widen Try.underlying22 Try.underlying39 (ev rfl)) ?_; rintro _ w34 ⟨r31, rfl, h32, E33⟩
  have X35 := Ext.gr X28 E33
  show wpList _ _ _ _ (fr [(.agg #[(Fl r1), (Fl r3), (Fl r5)]), (.agg #[(Fl r7), (Fl r9), (Fl r11)]), (Pt b14 0), (Pt b21 0), (Bo false), (Pt b14 0), (Fl r1), (Fd r31), Ud, Ud, Ud, Ud, Ud, Ud, Ud, Ud, Ud, Ud, Ud, Ud, Ud, Ud, Ud, Ud, Ud, Ud, Ud, Ud, Ud]) _
  refine q_is (l' := [(.agg #[(Fl r1), (Fl r3), (Fl r5)]), (.agg #[(Fl r7), (Fl r9), (Fl r11)]), (Pt b14 0), (Pt b21 0), (Bo false), (Pt b14 0), (Fl r1), (Fd r31), (Pt b21 0), Ud, Ud, Ud, Ud, Ud, Ud, Ud, Ud, Ud, Ud, Ud, Ud, Ud, Ud, Ud, Ud, Ud, Ud, Ud, Ud]) rfl rfl (does_fieldAddr (ev rfl) fa30_0) rfl ?_
  refine q_is (l' := [(.agg #[(Fl r1), (Fl r3), (Fl r5)]), (.agg #[(Fl r7), (Fl r9), (Fl r11)]), (Pt b14 0), (Pt b21 0), (Bo false), (Pt b14 0), (Fl r1), (Fd r31), (Pt b21 0), (Fl r7), Ud, Ud, Ud, Ud, Ud, Ud, Ud, Ud, Ud, Ud, Ud, Ud, Ud, Ud, Ud, Ud, Ud, Ud, Ud]) rfl rfl (does_load (u := (Fl r7)) (ev rfl) Try.isAgg22 (Cells.at (Blk.cells (hB23.ext E33)) 0 rfl)) rfl ?_
  refine seqd rfl rfl (does_widen Try.underlying22 Try.underlying39 (ev rfl)) ?_; rintro _ w39 ⟨r36, rfl, h37, E38⟩
  have X40 := Ext.gr X35 E38
  show wpList _ _ _ _ (fr [(.agg #[(Fl r1), (Fl r3), (Fl r5)]), (.agg #[(Fl r7), (Fl r9), (Fl r11)]), (Pt b14 0), (Pt b21 0), (Bo false), (Pt b14 0), (Fl r1), (Fd r31), (Pt b21 0), (Fl r7), (Fd r36), Ud, Ud, Ud, Ud, Ud, Ud, Ud, Ud, Ud, Ud, Ud, Ud, Ud, Ud, Ud, Ud, Ud, Ud]) _
  refine seqd rfl rfl (does_call (args := #[(Fd r31), (Fd r36)]) cal24 (evs rfl) (c_laws_sameFloat r31 r36 _)) ?_; rintro _ w42 ⟨E41, rfl⟩
  have X43 := Ext.gr X40 E41
  show wpList _ _ _ _ (fr [(.agg #[(Fl r1), (Fl r3), (Fl r5)]), (.agg #[(Fl r7), (Fl r9), (Fl r11)]), (Pt b14 0), (Pt b21 0), (Bo false), (Pt b14 0), (Fl r1), (Fd r31), (Pt b21 0), (Fl r7), (Fd r36), (Bo (sameF (cf .f64 r31) (cf .f64 r36))), Ud, Ud, Ud, Ud, Ud, Ud, Ud, Ud, Ud, Ud, Ud, Ud, Ud, Ud, Ud, Ud, Ud]) _
  refine q_is (l' := [(.agg #[(Fl r1), (Fl r3), (Fl r5)]), (.agg #[(Fl r7), (Fl r9), (Fl r11)]), (Pt b14 0), (Pt b21 0), (Bo false), (Pt b14 0), (Fl r1), (Fd r31), (Pt b21 0), (Fl r7), (Fd r36), (Bo (sameF (cf .f64 r31) (cf .f64 r36))), (Bo (!(sameF (cf .f64 r31) (cf .f64 r36)))), Ud, Ud, Ud, Ud, Ud, Ud, Ud, Ud, Ud, Ud, Ud, Ud, Ud, Ud, Ud, Ud]) rfl rfl (does_not (ev rfl)) rfl ?_
  refine wpList_nil (hK30 _ _ ?_)
  refine wp_cond_split (t := !(sameF (cf .f64 r31) (cf .f64 r36))) (ev rfl) (fun c44 => ?_) (fun c44 => ?_)
  · rw [Bool.not_eq_true'] at c44
    have c44' := c44
    refine wp_seq_k fun K45 hK45 => ?_
    refine wp_region_lit ?_
    refine q_is (l' := [(.agg #[(Fl r1), (Fl r3), (Fl r5)]), (.agg #[(Fl r7), (Fl r9), (Fl r11)]), (Pt b14 0), (Pt b21 0), (Bo false), (Pt b14 0), (Fl r1), (Fd r31), (Pt b21 0), (Fl r7), (Fd r36), (Bo (sameF (cf .f64 r31) (cf .f64 r36))), (Bo (!(sameF (cf .f64 r31) (cf .f64 r36)))), Ud, Ud, Ud, Ud, Ud, Ud, Ud, Ud, Ud, Ud, Ud, Ud, Ud, Ud, Ud, Ud]) rfl rfl (does_assign (u := (Bo false)) (ev rfl)) rfl ?_
    refine wpList_nil (hK45 _ _ ?_)
    refine wp_ret ?_
    dsimp only [Exit.then, Exit.inBlock]
    refine ret_val (v := (Bo false)) (res_T rfl (slot rfl)) X43 ?_
    try simp only [h2, h4, h6, h8, h10, h12, h32, h37] at c44
    have x46 : (sameV A_a A_b) = false := by first | rfl | (simp only [sameV, h2, h4, h6, h8, h10, h12, h32, h37, c44]; done) | (simp [sameV, h2, h4, h6, h8, h10, h12, h32, h37, c44]; done) | (revert c44; simp +contextual [sameV, h2, h4, h6, h8, h10, h12, h32, h37]; done) | (rcases c44' with hh | hh <;> simp only [hh, sameV, h2, h4, h6, h8, h10, h12, h32, h37, c44]; done) | (rcases c44' with hh | hh <;> simp_all [sameV]; done) | (rcases c44' with hh | hh | hh <;> simp_all [sameV]; done) | (rcases c44' with hh | hh | hh | hh <;> simp_all [sameV]; done) | (simp_all [sameV]; done)
    exact (by first | rfl | rw [x46])
  rw [Bool.not_eq_false'] at c44
  have c44' := c44
  refine wp_skip (hK29 _ _ ?_)
  refine wp_seq_k fun K47 hK47 => ?_
  refine wp_seq_k fun K48 hK48 => ?_
  refine wp_region_lit ?_
  refine q_is (l' := [(.agg #[(Fl r1), (Fl r3), (Fl r5)]), (.agg #[(Fl r7), (Fl r9), (Fl r11)]), (Pt b14 0), (Pt b21 0), (Bo false), (Pt b14 0), (Fl r1), (Fd r31), (Pt b21 0), (Fl r7), (Fd r36), (Bo (sameF (cf .f64 r31) (cf .f64 r36))), (Bo (!(sameF (cf .f64 r31) (cf .f64 r36)))), (Pt b14 1), Ud, Ud, Ud, Ud, Ud, Ud, Ud, Ud, Ud, Ud, Ud, Ud, Ud, Ud, Ud]) rfl rfl (does_fieldAddr (ev rfl) fa30_1) rfl ?_
  refine q_is (l' := [(.agg #[(Fl r1), (Fl r3), (Fl r5)]), (.agg #[(Fl r7), (Fl r9), (Fl r11)]), (Pt b14 0), (Pt b21 0), (Bo false), (Pt b14 0), (Fl r1), (Fd r31), (Pt b21 0), (Fl r7), (Fd r36), (Bo (sameF (cf .f64 r31) (cf .f64 r36))), (Bo (!(sameF (cf .f64 r31) (cf .f64 r36)))), (Pt b14 1), (Fl r3), Ud, Ud, Ud, Ud, Ud, Ud, Ud, Ud, Ud, Ud, Ud, Ud, Ud, Ud]) rfl rfl (does_load (u := (Fl r3)) (ev rfl) Try.isAgg22 (Cells.at (Blk.cells ((((hB16.ext E24).ext E33).ext E38).ext E41)) 1 rfl)) rfl ?_
  refine seqd rfl rfl (does_widen Try.underlying22 Try.underlying39 (ev rfl)) ?_; rintro _ w52 ⟨r49, rfl, h50, E51⟩
  have X53 := Ext.gr X43 E51
  show wpList _ _ _ _ (fr [(.agg #[(Fl r1), (Fl r3), (Fl r5)]), (.agg #[(Fl r7), (Fl r9), (Fl r11)]), (Pt b14 0), (Pt b21 0), (Bo false), (Pt b14 0), (Fl r1), (Fd r31), (Pt b21 0), (Fl r7), (Fd r36), (Bo (sameF (cf .f64 r31) (cf .f64 r36))), (Bo (!(sameF (cf .f64 r31) (cf .f64 r36)))), (Pt b14 1), (Fl r3), (Fd r49), Ud, Ud, Ud, Ud, Ud, Ud, Ud, Ud, Ud, Ud, Ud, Ud, Ud]) _
  refine q_is (l' := [(.agg #[(Fl r1), (Fl r3), (Fl r5)]), (.agg #[(Fl r7), (Fl r9), (Fl r11)]), (Pt b14 0), (Pt b21 0), (Bo false), (Pt b14 0), (Fl r1), (Fd r31), (Pt b21 0), (Fl r7), (Fd r36), (Bo (sameF (cf .f64 r31) (cf .f64 r36))), (Bo (!(sameF (cf .f64 r31) (cf .f64 r36)))), (Pt b14 1), (Fl r3), (Fd r49), (Pt b21 1), Ud, Ud, Ud, Ud, Ud, Ud, Ud, Ud, Ud, Ud, Ud, Ud]) rfl rfl (does_fieldAddr (ev rfl) fa30_1) rfl ?_
  refine q_is (l' := [(.agg #[(Fl r1), (Fl r3), (Fl r5)]), (.agg #[(Fl r7), (Fl r9), (Fl r11)]), (Pt b14 0), (Pt b21 0), (Bo false), (Pt b14 0), (Fl r1), (Fd r31), (Pt b21 0), (Fl r7), (Fd r36), (Bo (sameF (cf .f64 r31) (cf .f64 r36))), (Bo (!(sameF (cf .f64 r31) (cf .f64 r36)))), (Pt b14 1), (Fl r3), (Fd r49), (Pt b21 1), (Fl r9), Ud, Ud, Ud, Ud, Ud, Ud, Ud, Ud, Ud, Ud, Ud]) rfl rfl (does_load (u := (Fl r9)) (ev rfl) Try.isAgg22 (Cells.at (Blk.cells ((((hB23.ext E33).ext E38).ext E41).ext E51)) 1 rfl)) rfl ?_
  refine seqd rfl rfl (does_widen Try.underlying22 Try.underlying39 (ev rfl)) ?_; rintro _ w57 ⟨r54, rfl, h55, E56⟩
  have X58 := Ext.gr X53 E56
  show wpList _ _ _ _ (fr [(.agg #[(Fl r1), (Fl r3), (Fl r5)]), (.agg #[(Fl r7), (Fl r9), (Fl r11)]), (Pt b14 0), (Pt b21 0), (Bo false), (Pt b14 0), (Fl r1), (Fd r31), (Pt b21 0), (Fl r7), (Fd r36), (Bo (sameF (cf .f64 r31) (cf .f64 r36))), (Bo (!(sameF (cf .f64 r31) (cf .f64 r36)))), (Pt b14 1), (Fl r3), (Fd r49), (Pt b21 1), (Fl r9), (Fd r54), Ud, Ud, Ud, Ud, Ud, Ud, Ud, Ud, Ud, Ud]) _
  refine seqd rfl rfl (does_call (args := #[(Fd r49), (Fd r54)]) cal24 (evs rfl) (c_laws_sameFloat r49 r54 _)) ?_; rintro _ w60 ⟨E59, rfl⟩
  have X61 := Ext.gr X58 E59
  show wpList _ _ _ _ (fr [(.agg #[(Fl r1), (Fl r3), (Fl r5)]), (.agg #[(Fl r7), (Fl r9), (Fl r11)]), (Pt b14 0), (Pt b21 0), (Bo false), (Pt b14 0), (Fl r1), (Fd r31), (Pt b21 0), (Fl r7), (Fd r36), (Bo (sameF (cf .f64 r31) (cf .f64 r36))), (Bo (!(sameF (cf .f64 r31) (cf .f64 r36)))), (Pt b14 1), (Fl r3), (Fd r49), (Pt b21 1), (Fl r9), (Fd r54), (Bo (sameF (cf .f64 r49) (cf .f64 r54))), Ud, Ud, Ud, Ud, Ud, Ud, Ud, Ud, Ud]) _
  refine q_is (l' := [(.agg #[(Fl r1), (Fl r3), (Fl r5)]), (.agg #[(Fl r7), (Fl r9), (Fl r11)]), (Pt b14 0), (Pt b21 0), (Bo false), (Pt b14 0), (Fl r1), (Fd r31), (Pt b21 0), (Fl r7), (Fd r36), (Bo (sameF (cf .f64 r31) (cf .f64 r36))), (Bo (!(sameF (cf .f64 r31) (cf .f64 r36)))), (Pt b14 1), (Fl r3), (Fd r49), (Pt b21 1), (Fl r9), (Fd r54), (Bo (sameF (cf .f64 r49) (cf .f64 r54))), (Bo (!(sameF (cf .f64 r49) (cf .f64 r54)))), Ud, Ud, Ud, Ud, Ud, Ud, Ud, Ud]) rfl rfl (does_not (ev rfl)) rfl ?_
  refine wpList_nil (hK48 _ _ ?_)
  refine wp_cond_split (t := !(sameF (cf .f64 r49) (cf .f64 r54))) (ev rfl) (fun c62 => ?_) (fun c62 => ?_)
  · rw [Bool.not_eq_true'] at c62
    have c62' := c62
    refine wp_seq_k fun K63 hK63 => ?_
    refine wp_region_lit ?_
    refine q_is (l' := [(.agg #[(Fl r1), (Fl r3), (Fl r5)]), (.agg #[(Fl r7), (Fl r9), (Fl r11)]), (Pt b14 0), (Pt b21 0), (Bo false), (Pt b14 0), (Fl r1), (Fd r31), (Pt b21 0), (Fl r7), (Fd r36), (Bo (sameF (cf .f64 r31) (cf .f64 r36))), (Bo (!(sameF (cf .f64 r31) (cf .f64 r36)))), (Pt b14 1), (Fl r3), (Fd r49), (Pt b21 1), (Fl r9), (Fd r54), (Bo (sameF (cf .f64 r49) (cf .f64 r54))), (Bo (!(sameF (cf .f64 r49) (cf .f64 r54)))), Ud, Ud, Ud, Ud, Ud, Ud, Ud, Ud]) rfl rfl (does_assign (u := (Bo false)) (ev rfl)) rfl ?_
    refine wpList_nil (hK63 _ _ ?_)
    refine wp_ret ?_
    dsimp only [Exit.then, Exit.inBlock]
    refine ret_val (v := (Bo false)) (res_T rfl (slot rfl)) X61 ?_
    try simp only [h2, h4, h6, h8, h10, h12, h32, h37, h50, h55] at c44 c62
    have x64 : (sameV A_a A_b) = false := by first | rfl | (simp only [sameV, h2, h4, h6, h8, h10, h12, h32, h37, h50, h55, c44, c62]; done) | (simp [sameV, h2, h4, h6, h8, h10, h12, h32, h37, h50, h55, c44, c62]; done) | (revert c44 c62; simp +contextual [sameV, h2, h4, h6, h8, h10, h12, h32, h37, h50, h55]; done) | (rcases c44' with hh | hh <;> simp only [hh, sameV, h2, h4, h6, h8, h10, h12, h32, h37, h50, h55, c44, c62]; done) | (rcases c62' with hh | hh <;> simp only [hh, sameV, h2, h4, h6, h8, h10, h12, h32, h37, h50, h55, c44, c62]; done) | (rcases c62' with hh | hh <;> simp_all [sameV]; done) | (rcases c62' with hh | hh | hh <;> simp_all [sameV]; done) | (rcases c62' with hh | hh | hh | hh <;> simp_all [sameV]; done) | (simp_all [sameV]; done)
    exact (by first | rfl | rw [x64])
  rw [Bool.not_eq_false'] at c62
  have c62' := c62
  refine wp_skip (hK47 _ _ ?_)
  refine wp_seq_k fun K65 hK65 => ?_
  refine wp_seq_k fun K66 hK66 => ?_
  refine wp_region_lit ?_
  refine q_is (l' := [(.agg #[(Fl r1), (Fl r3), (Fl r5)]), (.agg #[(Fl r7), (Fl r9), (Fl r11)]), (Pt b14 0), (Pt b21 0), (Bo false), (Pt b14 0), (Fl r1), (Fd r31), (Pt b21 0), (Fl r7), (Fd r36), (Bo (sameF (cf .f64 r31) (cf .f64 r36))), (Bo (!(sameF (cf .f64 r31) (cf .f64 r36)))), (Pt b14 1), (Fl r3), (Fd r49), (Pt b21 1), (Fl r9), (Fd r54), (Bo (sameF (cf .f64 r49) (cf .f64 r54))), (Bo (!(sameF (cf .f64 r49) (cf .f64 r54)))), (Pt b14 2), Ud, Ud, Ud, Ud, Ud, Ud, Ud]) rfl rfl (does_fieldAddr (ev rfl) fa30_2) rfl ?_
  refine q_is (l' := [(.agg #[(Fl r1), (Fl r3), (Fl r5)]), (.agg #[(Fl r7), (Fl r9), (Fl r11)]), (Pt b14 0), (Pt b21 0), (Bo false), (Pt b14 0), (Fl r1), (Fd r31), (Pt b21 0), (Fl r7), (Fd r36), (Bo (sameF (cf .f64 r31) (cf .f64 r36))), (Bo (!(sameF (cf .f64 r31) (cf .f64 r36)))), (Pt b14 1), (Fl r3), (Fd r49), (Pt b21 1), (Fl r9), (Fd r54), (Bo (sameF (cf .f64 r49) (cf .f64 r54))), (Bo (!(sameF (cf .f64 r49) (cf .f64 r54)))), (Pt b14 2), (Fl r5), Ud, Ud, Ud, Ud, Ud, Ud]) rfl rfl (does_load (u := (Fl r5)) (ev rfl) Try.isAgg22 (Cells.at (Blk.cells (((((((hB16.ext E24).ext E33).ext E38).ext E41).ext E51).ext E56).ext E59)) 2 rfl)) rfl ?_
  refine seqd rfl rfl (does_widen Try.underlying22 Try.underlying39 (ev rfl)) ?_; rintro _ w70 ⟨r67, rfl, h68, E69⟩
  have X71 := Ext.gr X61 E69
  show wpList _ _ _ _ (fr [(.agg #[(Fl r1), (Fl r3), (Fl r5)]), (.agg #[(Fl r7), (Fl r9), (Fl r11)]), (Pt b14 0), (Pt b21 0), (Bo false), (Pt b14 0), (Fl r1), (Fd r31), (Pt b21 0), (Fl r7), (Fd r36), (Bo (sameF (cf .f64 r31) (cf .f64 r36))), (Bo (!(sameF (cf .f64 r31) (cf .f64 r36)))), (Pt b14 1), (Fl r3), (Fd r49), (Pt b21 1), (Fl r9), (Fd r54), (Bo (sameF (cf .f64 r49) (cf .f64 r54))), (Bo (!(sameF (cf .f64 r49) (cf .f64 r54)))), (Pt b14 2), (Fl r5), (Fd r67), Ud, Ud, Ud, Ud, Ud]) _
  refine q_is (l' := [(.agg #[(Fl r1), (Fl r3), (Fl r5)]), (.agg #[(Fl r7), (Fl r9), (Fl r11)]), (Pt b14 0), (Pt b21 0), (Bo false), (Pt b14 0), (Fl r1), (Fd r31), (Pt b21 0), (Fl r7), (Fd r36), (Bo (sameF (cf .f64 r31) (cf .f64 r36))), (Bo (!(sameF (cf .f64 r31) (cf .f64 r36)))), (Pt b14 1), (Fl r3), (Fd r49), (Pt b21 1), (Fl r9), (Fd r54), (Bo (sameF (cf .f64 r49) (cf .f64 r54))), (Bo (!(sameF (cf .f64 r49) (cf .f64 r54)))), (Pt b14 2), (Fl r5), (Fd r67), (Pt b21 2), Ud, Ud, Ud, Ud]) rfl rfl (does_fieldAddr (ev rfl) fa30_2) rfl ?_
  refine q_is (l' := [(.agg #[(Fl r1), (Fl r3), (Fl r5)]), (.agg #[(Fl r7), (Fl r9), (Fl r11)]), (Pt b14 0), (Pt b21 0), (Bo false), (Pt b14 0), (Fl r1), (Fd r31), (Pt b21 0), (Fl r7), (Fd r36), (Bo (sameF (cf .f64 r31) (cf .f64 r36))), (Bo (!(sameF (cf .f64 r31) (cf .f64 r36)))), (Pt b14 1), (Fl r3), (Fd r49), (Pt b21 1), (Fl r9), (Fd r54), (Bo (sameF (cf .f64 r49) (cf .f64 r54))), (Bo (!(sameF (cf .f64 r49) (cf .f64 r54)))), (Pt b14 2), (Fl r5), (Fd r67), (Pt b21 2), (Fl r11), Ud, Ud, Ud]) rfl rfl (does_load (u := (Fl r11)) (ev rfl) Try.isAgg22 (Cells.at (Blk.cells (((((((hB23.ext E33).ext E38).ext E41).ext E51).ext E56).ext E59).ext E69)) 2 rfl)) rfl ?_
  refine seqd rfl rfl (does_widen Try.underlying22 Try.underlying39 (ev rfl)) ?_; rintro _ w75 ⟨r72, rfl, h73, E74⟩
  have X76 := Ext.gr X71 E74
  show wpList _ _ _ _ (fr [(.agg #[(Fl r1), (Fl r3), (Fl r5)]), (.agg #[(Fl r7), (Fl r9), (Fl r11)]), (Pt b14 0), (Pt b21 0), (Bo false), (Pt b14 0), (Fl r1), (Fd r31), (Pt b21 0), (Fl r7), (Fd r36), (Bo (sameF (cf .f64 r31) (cf .f64 r36))), (Bo (!(sameF (cf .f64 r31) (cf .f64 r36)))), (Pt b14 1), (Fl r3), (Fd r49), (Pt b21 1), (Fl r9), (Fd r54), (Bo (sameF (cf .f64 r49) (cf .f64 r54))), (Bo (!(sameF (cf .f64 r49) (cf .f64 r54)))), (Pt b14 2), (Fl r5), (Fd r67), (Pt b21 2), (Fl r11), (Fd r72), Ud, Ud]) _
  refine seqd rfl rfl (does_call (args := #[(Fd r67), (Fd r72)]) cal24 (evs rfl) (c_laws_sameFloat r67 r72 _)) ?_; rintro _ w78 ⟨E77, rfl⟩
  have X79 := Ext.gr X76 E77
  show wpList _ _ _ _ (fr [(.agg #[(Fl r1), (Fl r3), (Fl r5)]), (.agg #[(Fl r7), (Fl r9), (Fl r11)]), (Pt b14 0), (Pt b21 0), (Bo false), (Pt b14 0), (Fl r1), (Fd r31), (Pt b21 0), (Fl r7), (Fd r36), (Bo (sameF (cf .f64 r31) (cf .f64 r36))), (Bo (!(sameF (cf .f64 r31) (cf .f64 r36)))), (Pt b14 1), (Fl r3), (Fd r49), (Pt b21 1), (Fl r9), (Fd r54), (Bo (sameF (cf .f64 r49) (cf .f64 r54))), (Bo (!(sameF (cf .f64 r49) (cf .f64 r54)))), (Pt b14 2), (Fl r5), (Fd r67), (Pt b21 2), (Fl r11), (Fd r72), (Bo (sameF (cf .f64 r67) (cf .f64 r72))), Ud]) _
  refine q_is (l' := [(.agg #[(Fl r1), (Fl r3), (Fl r5)]), (.agg #[(Fl r7), (Fl r9), (Fl r11)]), (Pt b14 0), (Pt b21 0), (Bo false), (Pt b14 0), (Fl r1), (Fd r31), (Pt b21 0), (Fl r7), (Fd r36), (Bo (sameF (cf .f64 r31) (cf .f64 r36))), (Bo (!(sameF (cf .f64 r31) (cf .f64 r36)))), (Pt b14 1), (Fl r3), (Fd r49), (Pt b21 1), (Fl r9), (Fd r54), (Bo (sameF (cf .f64 r49) (cf .f64 r54))), (Bo (!(sameF (cf .f64 r49) (cf .f64 r54)))), (Pt b14 2), (Fl r5), (Fd r67), (Pt b21 2), (Fl r11), (Fd r72), (Bo (sameF (cf .f64 r67) (cf .f64 r72))), (Bo (!(sameF (cf .f64 r67) (cf .f64 r72))))]) rfl rfl (does_not (ev rfl)) rfl ?_
  refine wpList_nil (hK66 _ _ ?_)
  refine wp_cond_split (t := !(sameF (cf .f64 r67) (cf .f64 r72))) (ev rfl) (fun c80 => ?_) (fun c80 => ?_)
  · rw [Bool.not_eq_true'] at c80
    have c80' := c80
    refine wp_seq_k fun K81 hK81 => ?_
    refine wp_region_lit ?_
    refine q_is (l' := [(.agg #[(Fl r1), (Fl r3), (Fl r5)]), (.agg #[(Fl r7), (Fl r9), (Fl r11)]), (Pt b14 0), (Pt b21 0), (Bo false), (Pt b14 0), (Fl r1), (Fd r31), (Pt b21 0), (Fl r7), (Fd r36), (Bo (sameF (cf .f64 r31) (cf .f64 r36))), (Bo (!(sameF (cf .f64 r31) (cf .f64 r36)))), (Pt b14 1), (Fl r3), (Fd r49), (Pt b21 1), (Fl r9), (Fd r54), (Bo (sameF (cf .f64 r49) (cf .f64 r54))), (Bo (!(sameF (cf .f64 r49) (cf .f64 r54)))), (Pt b14 2), (Fl r5), (Fd r67), (Pt b21 2), (Fl r11), (Fd r72), (Bo (sameF (cf .f64 r67) (cf .f64 r72))), (Bo (!(sameF (cf .f64 r67) (cf .f64 r72))))]) rfl rfl (does_assign (u := (Bo false)) (ev rfl)) rfl ?_
    refine wpList_nil (hK81 _ _ ?_)
    refine wp_ret ?_
    dsimp only [Exit.then, Exit.inBlock]
    refine ret_val (v := (Bo false)) (res_T rfl (slot rfl)) X79 ?_
    try simp only [h2, h4, h6, h8, h10, h12, h32, h37, h50, h55, h68, h73] at c44 c62 c80
    have x82 : (sameV A_a A_b) = false := by first | rfl | (simp only [sameV, h2, h4, h6, h8, h10, h12, h32, h37, h50, h55, h68, h73, c44, c62, c80]; done) | (simp [sameV, h2, h4, h6, h8, h10, h12, h32, h37, h50, h55, h68, h73, c44, c62, c80]; done) | (revert c44 c62 c80; simp +contextual [sameV, h2, h4, h6, h8, h10, h12, h32, h37, h50, h55, h68, h73]; done) | (rcases c44' with hh | hh <;> simp only [hh, sameV, h2, h4, h6, h8, h10, h12, h32, h37, h50, h55, h68, h73, c44, c62, c80]; done) | (rcases c62' with hh | hh <;> simp only [hh, sameV, h2, h4, h6, h8, h10, h12, h32, h37, h50, h55, h68, h73, c44, c62, c80]; done) | (rcases c80' with hh | hh <;> simp only [hh, sameV, h2, h4, h6, h8, h10, h12, h32, h37, h50, h55, h68, h73, c44, c62, c80]; done) | (rcases c80' with hh | hh <;> simp_all [sameV]; done) | (rcases c80' with hh | hh | hh <;> simp_all [sameV]; done) | (rcases c80' with hh | hh | hh | hh <;> simp_all [sameV]; done) | (simp_all [sameV]; done)
    exact (by first | rfl | rw [x82])
  rw [Bool.not_eq_false'] at c80
  have c80' := c80
  refine wp_skip (hK65 _ _ ?_)
  refine wp_seq_k fun K83 hK83 => ?_
  refine wp_region_lit ?_
  refine q_is (l' := [(.agg #[(Fl r1), (Fl r3), (Fl r5)]), (.agg #[(Fl r7), (Fl r9), (Fl r11)]), (Pt b14 0), (Pt b21 0), (Bo true), (Pt b14 0), (Fl r1), (Fd r31), (Pt b21 0), (Fl r7), (Fd r36), (Bo (sameF (cf .f64 r31) (cf .f64 r36))), (Bo (!(sameF (cf .f64 r31) (cf .f64 r36)))), (Pt b14 1), (Fl r3), (Fd r49), (Pt b21 1), (Fl r9), (Fd r54), (Bo (sameF (cf .f64 r49) (cf .f64 r54))), (Bo (!(sameF (cf .f64 r49) (cf .f64 r54)))), (Pt b14 2), (Fl r5), (Fd r67), (Pt b21 2), (Fl r11), (Fd r72), (Bo (sameF (cf .f64 r67) (cf .f64 r72))), (Bo (!(sameF (cf .f64 r67) (cf .f64 r72))))]) rfl rfl (does_assign (u := (Bo true)) (ev rfl)) rfl ?_
  refine wpList_nil (hK83 _ _ ?_)
  refine wp_ret ?_
  refine ret_val (v := (Bo true)) (res_T rfl (slot rfl)) X79 ?_
  try simp only [h2, h4, h6, h8, h10, h12, h32, h37, h50, h55, h68, h73] at c44 c62 c80
  have x84 : (sameV A_a A_b) = true := by first | rfl | (simp only [sameV, h2, h4, h6, h8, h10, h12, h32, h37, h50, h55, h68, h73, c44, c62, c80]; done) | (simp [sameV, h2, h4, h6, h8, h10, h12, h32, h37, h50, h55, h68, h73, c44, c62, c80]; done) | (revert c44 c62 c80; simp +contextual [sameV, h2, h4, h6, h8, h10, h12, h32, h37, h50, h55, h68, h73]; done) | (rcases c44' with hh | hh <;> simp only [hh, sameV, h2, h4, h6, h8, h10, h12, h32, h37, h50, h55, h68, h73, c44, c62, c80]; done) | (rcases c62' with hh | hh <;> simp only [hh, sameV, h2, h4, h6, h8, h10, h12, h32, h37, h50, h55, h68, h73, c44, c62, c80]; done) | (rcases c80' with hh | hh <;> simp only [hh, sameV, h2, h4, h6, h8, h10, h12, h32, h37, h50, h55, h68, h73, c44, c62, c80]; done) | (rcases c80' with hh | hh <;> simp_all [sameV]; done) | (rcases c80' with hh | hh | hh <;> simp_all [sameV]; done) | (rcases c80' with hh | hh | hh | hh <;> simp_all [sameV]; done) | (simp_all [sameV]; done)
  exact (by first | rfl | rw [x84])

/- laws.eqFloat32S -/
theorem c_laws_eqFloat32S (a : Value) (L_a : List Nat) (b : Value) (L_b : List Nat) (w : World) (hv_a : Sl RF 1 w a L_a) (hv_b : Sl RF 1 w b L_b) : Gives Try.prog 67 #[a, b] w (fun v w' => v = (Bo (sameL L_a L_b))) := by
  have hlen_a := Sl.len hv_a; obtain ⟨p_a, q_a, rfl⟩ := Sl.shape hv_a
  have hlen_b := Sl.len hv_b; obtain ⟨p_b, q_b, rfl⟩ := Sl.shape hv_b
  refine enter [(.slice p_a L_a.length q_a), (.slice p_b L_b.length q_b), Ud, Ud, Ud, Ud, Ud, Ud, Ud, Ud, Ud, Ud, Ud, Ud, Ud, Ud, Ud, Ud, Ud, Ud, Ud, Ud, Ud, Ud, Ud, Ud, Ud, Ud, Ud] Try.func67 rfl Try.ntmps67 rfl ?_
  refine wp_seq_k fun K1 hK1 => ?_
  refine wp_region_lit ?_
  refine q_is (l' := [(.slice p_a L_a.length q_a), (.slice p_b L_b.length q_b), Ud, Ud, (Bo false), Ud, Ud, Ud, Ud, Ud, Ud, Ud, Ud, Ud, Ud, Ud, Ud, Ud, Ud, Ud, Ud, Ud, Ud, Ud, Ud, Ud, Ud, Ud, Ud]) rfl rfl (does_assign (u := (Bo false)) (ev rfl)) rfl ?_
  refine wpList_nil (hK1 _ _ ?_)
  refine wp_seq_k fun K2 hK2 => ?_
  refine wp_seq_k fun K3 hK3 => ?_
  refine wp_region_lit ?_
  refine q_is (l' := [(.slice p_a L_a.length q_a), (.slice p_b L_b.length q_b), Ud, Ud, (Bo false), Ud, (.slice p_a L_a.length q_a), Ud, Ud, Ud, Ud, Ud, Ud, Ud, Ud, Ud, Ud, Ud, Ud, Ud, Ud, Ud, Ud, Ud, Ud, Ud, Ud, Ud, Ud]) rfl rfl (does_move (u := (.slice p_a L_a.length q_a)) (ev rfl)) rfl ?_
  refine q_is (l' := [(.slice p_a L_a.length q_a), (.slice p_b L_b.length q_b), Ud, Ud, (Bo false), Ud, (.slice p_a L_a.length q_a), (Iv (L_a.length : Int)), Ud, Ud, Ud, Ud, Ud, Ud, Ud, Ud, Ud, Ud, Ud, Ud, Ud, Ud, Ud, Ud, Ud, Ud, Ud, Ud, Ud]) rfl rfl (does_len_slice Try.underlying25 (ev rfl)) rfl ?_
  refine q_is (l' := [(.slice p_a L_a.length q_a), (.slice p_b L_b.length q_b), Ud, Ud, (Bo false), Ud, (.slice p_a L_a.length q_a), (Iv (L_a.length : Int)), (.slice p_b L_b.length q_b), Ud, Ud, Ud, Ud, Ud, Ud, Ud, Ud, Ud, Ud, Ud, Ud, Ud, Ud, Ud, Ud, Ud, Ud, Ud, Ud]) rfl rfl (does_move (u := (.slice p_b L_b.length q_b)) (ev rfl)) rfl ?_
  refine q_is (l' := [(.slice p_a L_a.length q_a), (.slice p_b L_b.length q_b), Ud, Ud, (Bo false), Ud, (.slice p_a L_a.length q_a), (Iv (L_a.length : Int)), (.slice p_b L_b.length q_b), (Iv (L_b.length : Int)), Ud, Ud, Ud, Ud, Ud, Ud, Ud, Ud, Ud, Ud, Ud, Ud, Ud, Ud, Ud, Ud, Ud, Ud, Ud]) rfl rfl (does_len_slice Try.underlying25 (ev rfl)) rfl ?_
  refine q_is (l' := [(.slice p_a L_a.length q_a), (.slice p_b L_b.length q_b), Ud, Ud, (Bo false), Ud, (.slice p_a L_a.length q_a), (Iv (L_a.length : Int)), (.slice p_b L_b.length q_b), (Iv (L_b.length : Int)), (Bo (icmp .neq (L_a.length : Int) (L_b.length : Int))), Ud, Ud, Ud, Ud, Ud, Ud, Ud, Ud, Ud, Ud, Ud, Ud, Ud, Ud, Ud, Ud, Ud, Ud]) rfl rfl (does_icmp (p := (L_a.length : Int)) (q := (L_b.length : Int)) (.inr (.inl rfl)) (ev rfl) (ev rfl)) rfl ?_
  refine wpList_nil (hK3 _ _ ?_)
  refine wp_cond_split (t := icmp .neq (L_a.length : Int) (L_b.length : Int)) (ev rfl) (fun c4 => ?_) (fun c4 => ?_)
  · have c4' := c4
    (try simp only [icmp, Bool.and_eq_true, Bool.or_eq_true, Bool.and_eq_false_iff, Bool.or_eq_false_iff, Bool.not_eq_true', Bool.not_eq_false', decide_eq_true_eq, decide_eq_false_iff_not, beq_iff_eq, bne_iff_ne, beq_eq_false_iff_ne, bne_eq_false_iff_eq] at c4')
    refine wp_seq_k fun K5 hK5 => ?_
    refine wp_region_lit ?_
    refine q_is (l' := [(.slice p_a L_a.length q_a), (.slice p_b L_b.length q_b), Ud, Ud, (Bo false), Ud, (.slice p_a L_a.length q_a), (Iv (L_a.length : Int)), (.slice p_b L_b.length q_b), (Iv (L_b.length : Int)), (Bo (icmp .neq (L_a.length : Int) (L_b.length : Int))), Ud, Ud, Ud, Ud, Ud, Ud, Ud, Ud, Ud, Ud, Ud, Ud, Ud, Ud, Ud, Ud, Ud, Ud]) rfl rfl (does_assign (u := (Bo false)) (ev rfl)) rfl ?_
    refine wpList_nil (hK5 _ _ ?_)
    refine wp_ret ?_
    dsimp only [Exit.then, Exit.inBlock]
    refine ret_val (v := (Bo false)) (res_T rfl (slot rfl)) (Ext.refl w) ?_
    have x6 : (sameL L_a L_b) = false := by first | exact (sameL_len (by omega)) | exact (sameL_not (by omega) (by assumption) (by assumption) (by simp_all)) | exact (sameL_all (by omega) (by omega) hs)
    exact (by first | rfl | rw [x6])
  have c4' := c4
  (try simp only [icmp, Bool.and_eq_true, Bool.or_eq_true, Bool.and_eq_false_iff, Bool.or_eq_false_iff, Bool.not_eq_true', Bool.not_eq_false', decide_eq_true_eq, decide_eq_false_iff_not, beq_iff_eq, bne_iff_ne, beq_eq_false_iff_ne, bne_eq_false_iff_eq] at c4')
  refine wp_skip (hK2 _ _ ?_)
  refine wp_seq_k fun K7 hK7 => ?_
  refine wp_seq_k fun K8 hK8 => ?_
  refine wp_region_lit ?_
  refine q_is (l' := [(.slice p_a L_a.length q_a), (.slice p_b L_b.length q_b), Ud, Ud, (Bo false), (Iv 0), (.slice p_a L_a.length q_a), (Iv (L_a.length : Int)), (.slice p_b L_b.length q_b), (Iv (L_b.length : Int)), (Bo (icmp .neq (L_a.length : Int) (L_b.length : Int))), Ud, Ud, Ud, Ud, Ud, Ud, Ud, Ud, Ud, Ud, Ud, Ud, Ud, Ud, Ud, Ud, Ud, Ud]) rfl rfl (does_assign (u := (Iv 0)) (ev rfl)) rfl ?_
  refine wpList_nil (hK8 _ _ ?_)
  refine wp_block ?_
  refine loop_ghost (σ := Nat) (fun k a w' => ∃ u9 : Nat → Value, a = fr [(.slice p_a L_a.length q_a), (.slice p_b L_b.length q_b), Ud, Ud, (u9 4), (Iv (k : Int)), (.slice p_a L_a.length q_a), (Iv (L_a.length : Int)), (.slice p_b L_b.length q_b), (Iv (L_b.length : Int)), (Bo (icmp .neq (L_a.length : Int) (L_b.length : Int))), (u9 11), (u9 12), (u9 13), (u9 14), (u9 15), (u9 16), (u9 17), (u9 18), (u9 19), (u9 20), (u9 21), (u9 22), (u9 23), (u9 24), (u9 25), (u9 26), (u9 27), (u9 28)] ∧ Ext w w' ∧ (k ≤ L_a.length ∧ SameTo L_a L_b k)) (fun k => L_a.length - k) 0 ?_ ?_
  · refine ⟨fun t => (([(.slice p_a L_a.length q_a), (.slice p_b L_b.length q_b), Ud, Ud, (Bo false), (Iv 0), (.slice p_a L_a.length q_a), (Iv (L_a.length : Int)), (.slice p_b L_b.length q_b), (Iv (L_b.length : Int)), (Bo (icmp .neq (L_a.length : Int) (L_b.length : Int))), Ud, Ud, Ud, Ud, Ud, Ud, Ud, Ud, Ud, Ud, Ud, Ud, Ud, Ud, Ud, Ud, Ud, Ud] : List Value)[t]?).getD undef, rfl, Ext.refl _, ?_⟩
    exact ⟨Nat.zero_le _, SameTo.zero⟩
  · rintro k a w10 ⟨u9, rfl, E11, ⟨hk, hs⟩⟩
    have X13 := Ext.gr (Ext.refl w) E11
    refine wp_seq_k fun K14 hK14 => ?_
    refine wp_seq_k fun K15 hK15 => ?_
    refine wp_region_lit ?_
    refine q_is (l' := [(.slice p_a L_a.length q_a), (.slice p_b L_b.length q_b), Ud, Ud, (u9 4), (Iv (k : Int)), (.slice p_a L_a.length q_a), (Iv (L_a.length : Int)), (.slice p_b L_b.length q_b), (Iv (L_b.length : Int)), (Bo (icmp .neq (L_a.length : Int) (L_b.length : Int))), (Iv (k : Int)), (u9 12), (u9 13), (u9 14), (u9 15), (u9 16), (u9 17), (u9 18), (u9 19), (u9 20), (u9 21), (u9 22), (u9 23), (u9 24), (u9 25), (u9 26), (u9 27), (u9 28)]) rfl rfl (does_move (u := (Iv (k : Int))) (ev rfl)) rfl ?_
    refine q_is (l' := [(.slice p_a L_a.length q_a), (.slice p_b L_b.length q_b), Ud, Ud, (u9 4), (Iv (k : Int)), (.slice p_a L_a.length q_a), (Iv (L_a.length : Int)), (.slice p_b L_b.length q_b), (Iv (L_b.length : Int)), (Bo (icmp .neq (L_a.length : Int) (L_b.length : Int))), (Iv (k : Int)), (.slice p_a L_a.length q_a), (u9 13), (u9 14), (u9 15), (u9 16), (u9 17), (u9 18), (u9 19), (u9 20), (u9 21), (u9 22), (u9 23), (u9 24), (u9 25), (u9 26), (u9 27), (u9 28)]) rfl rfl (does_move (u := (.slice p_a L_a.length q_a)) (ev rfl)) rfl ?_
    refine q_is (l' := [(.slice p_a L_a.length q_a), (.slice p_b L_b.length q_b), Ud, Ud, (u9 4), (Iv (k : Int)), (.slice p_a L_a.length q_a), (Iv (L_a.length : Int)), (.slice p_b L_b.length q_b), (Iv (L_b.length : Int)), (Bo (icmp .neq (L_a.length : Int) (L_b.length : Int))), (Iv (k : Int)), (.slice p_a L_a.length q_a), (Iv (L_a.length : Int)), (u9 14), (u9 15), (u9 16), (u9 17), (u9 18), (u9 19), (u9 20), (u9 21), (u9 22), (u9 23), (u9 24), (u9 25), (u9 26), (u9 27), (u9 28)]) rfl rfl (does_len_slice Try.underlying25 (ev rfl)) rfl ?_
    refine q_is (l' := [(.slice p_a L_a.length q_a), (.slice p_b L_b.length q_b), Ud, Ud, (u9 4), (Iv (k : Int)), (.slice p_a L_a.length q_a), (Iv (L_a.length : Int)), (.slice p_b L_b.length q_b), (Iv (L_b.length : Int)), (Bo (icmp .neq (L_a.length : Int) (L_b.length : Int))), (Iv (k : Int)), (.slice p_a L_a.length q_a), (Iv (L_a.length : Int)), (Bo (icmp .lss (k : Int) (L_a.length : Int))), (u9 15), (u9 16), (u9 17), (u9 18), (u9 19), (u9 20), (u9 21), (u9 22), (u9 23), (u9 24), (u9 25), (u9 26), (u9 27), (u9 28)]) rfl rfl (does_icmp (p := (k : Int)) (q := (L_a.length : Int)) (.inr (.inr (.inl rfl))) (ev rfl) (ev rfl)) rfl ?_
    refine wpList_nil (hK15 _ _ ?_)
    refine wp_cond_split (t := icmp .lss (k : Int) (L_a.length : Int)) (ev rfl) (fun c16 => ?_) (fun c16 => ?_)
    · have c16' := c16
      (try simp only [icmp, Bool.and_eq_true, Bool.or_eq_true, Bool.and_eq_false_iff, Bool.or_eq_false_iff, Bool.not_eq_true', Bool.not_eq_false', decide_eq_true_eq, decide_eq_false_iff_not, beq_iff_eq, bne_iff_ne, beq_eq_false_iff_ne, bne_eq_false_iff_eq] at c16')
      refine wp_skip (hK14 _ _ ?_)
      refine wp_seq_k fun K17 hK17 => ?_
      refine wp_block ?_
      refine wp_seq_k fun K18 hK18 => ?_
      obtain ⟨el1, hel1⟩ : ∃ e, L_a[k]? = some e := ⟨_, List.getElem?_eq_getElem (by omega)⟩
      obtain ⟨el2, hel2⟩ : ∃ e, L_b[k]? = some e := ⟨_, List.getElem?_eq_getElem (by omega)⟩
      obtain ⟨β1, hβ1⟩ : ∃ b : Bool, b = (sameF (fwid el1) (fwid el2)) := ⟨_, rfl⟩
      refine region_draw (
        [Fact.pure [] (fun v => v = (.slice p_a L_a.length q_a)),
    Fact.pure [] (fun v => v = (Iv (k : Int))),
    Fact.mem [17, 18] (fun v w' => PtrR RF w' v el1) (by intro v w1 w2 hx h; exact h.ext RF.mono hx),
    Fact.pure [19] (fun v => ∃ r_1 : Nat, v = (Fl r_1) ∧ cf .f32 r_1 = el1),
    Fact.pure [20] (fun v => ∃ r_1 : Nat, v = (Fd r_1) ∧ cf .f64 r_1 = fwid el1),
    Fact.pure [] (fun v => v = (.slice p_b L_b.length q_b)),
    Fact.pure [] (fun v => v = (Iv (k : Int))),
    Fact.mem [22, 23] (fun v w' => PtrR RF w' v el2) (by intro v w1 w2 hx h; exact h.ext RF.mono hx),
    Fact.pure [24] (fun v => ∃ r_1 : Nat, v = (Fl r_1) ∧ cf .f32 r_1 = el2),
    Fact.pure [25] (fun v => ∃ r_1 : Nat, v = (Fd r_1) ∧ cf .f64 r_1 = fwid el2),
    Fact.pure [21, 26] (fun v => v = (Bo β1)),
    Fact.pure [27] (fun v => v = (Bo (!β1)))]) mixed (by kernel_rfl) (by intro _ _ d _ _ h; cases d <;> exact h) ?_
      obtain ⟨w19, hw21⟩ : ∃ w', w' = World.drew w10 := ⟨_, rfl⟩; rw [← hw21]; have E20 : Ext w10 w19 := by rw [hw21]; exact Ext.draw _
      clear hw21
      have X22 := Ext.gr X13 E20
      refine RW_d (fun v23 => [(.slice p_a L_a.length q_a), (.slice p_b L_b.length q_b), Ud, Ud, (u9 4), (Iv (k : Int)), (.slice p_a L_a.length q_a), (Iv (L_a.length : Int)), (.slice p_b L_b.length q_b), (Iv (L_b.length : Int)), (Bo (icmp .neq (L_a.length : Int) (L_b.length : Int))), (Iv (k : Int)), (.slice p_a L_a.length q_a), (Iv (L_a.length : Int)), (Bo (icmp .lss (k : Int) (L_a.length : Int))), (u9 15), (u9 16), v23, (u9 18), (u9 19), (u9 20), (u9 21), (u9 22), (u9 23), (u9 24), (u9 25), (u9 26), (u9 27), (u9 28)]) rfl (fun _ => rfl) (fun u hu hF => ?_) (fun v23 => ?_)
      · clear hF
        refine doesG_un rfl ?_
        refine (does_move (u := (.slice p_a L_a.length q_a)) (ev rfl)).mono ?_; rintro _ _ ⟨rfl, rfl⟩
        exact ⟨rfl, Ext.refl _⟩
      refine RW_d (fun v24 => [(.slice p_a L_a.length q_a), (.slice p_b L_b.length q_b), Ud, Ud, (u9 4), (Iv (k : Int)), (.slice p_a L_a.length q_a), (Iv (L_a.length : Int)), (.slice p_b L_b.length q_b), (Iv (L_b.length : Int)), (Bo (icmp .neq (L_a.length : Int) (L_b.length : Int))), (Iv (k : Int)), (.slice p_a L_a.length q_a), (Iv (L_a.length : Int)), (Bo (icmp .lss (k : Int) (L_a.length : Int))), (u9 15), (u9 16), v23, v24, (u9 19), (u9 20), (u9 21), (u9 22), (u9 23), (u9 24), (u9 25), (u9 26), (u9 27), (u9 28)]) rfl (fun _ => rfl) (fun u hu hF => ?_) (fun v24 => ?_)
      · clear hF
        refine doesG_un rfl ?_
        refine (does_move (u := (Iv (k : Int))) (ev rfl)).mono ?_; rintro _ _ ⟨rfl, rfl⟩
        exact ⟨rfl, Ext.refl _⟩
      refine RW_d (fun v25 => [(.slice p_a L_a.length q_a), (.slice p_b L_b.length q_b), Ud, Ud, (u9 4), (Iv (k : Int)), (.slice p_a L_a.length q_a), (Iv (L_a.length : Int)), (.slice p_b L_b.length q_b), (Iv (L_b.length : Int)), (Bo (icmp .neq (L_a.length : Int) (L_b.length : Int))), (Iv (k : Int)), (.slice p_a L_a.length q_a), (Iv (L_a.length : Int)), (Bo (icmp .lss (k : Int) (L_a.length : Int))), (u9 15), (u9 16), v23, v24, v25, (u9 20), (u9 21), (u9 22), (u9 23), (u9 24), (u9 25), (u9 26), (u9 27), (u9 28)]) rfl (fun _ => rfl) (fun u hu hF => ?_) (fun v25 => ?_)
      · have h17_ : v23 = (.slice p_a L_a.length q_a) := hF.1
        have h18_ : v24 = (Iv (k : Int)) := hF.2.1
        clear hF
        obtain rfl := h17_
        obtain rfl := h18_
        refine doesG_un rfl ?_
        refine (does_indexSl (R := RF) (i := (k : Int)) (xs := L_a) (e := el1) Try.underlying25 Try.sizeOf22 (ev rfl) (ev rfl) (Sl.ext (Sl.ext hv_a RF.mono (Ext.gr X13 E20)) RF.mono hu) (by omega) hel1).mono ?_; rintro v u' ⟨b, of, cs, hv, hc, hR, hu'⟩; subst hu'
        exact ⟨⟨b, of, cs, hv, hc, hR⟩, Ext.refl _⟩
      refine RW_d (fun v26 => [(.slice p_a L_a.length q_a), (.slice p_b L_b.length q_b), Ud, Ud, (u9 4), (Iv (k : Int)), (.slice p_a L_a.length q_a), (Iv (L_a.length : Int)), (.slice p_b L_b.length q_b), (Iv (L_b.length : Int)), (Bo (icmp .neq (L_a.length : Int) (L_b.length : Int))), (Iv (k : Int)), (.slice p_a L_a.length q_a), (Iv (L_a.length : Int)), (Bo (icmp .lss (k : Int) (L_a.length : Int))), (u9 15), (u9 16), v23, v24, v25, v26, (u9 21), (u9 22), (u9 23), (u9 24), (u9 25), (u9 26), (u9 27), (u9 28)]) rfl (fun _ => rfl) (fun u hu hF => ?_) (fun v26 => ?_)
      · have h19_ : PtrR RF u v25 el1 := hF.1
        clear hF
        obtain ⟨b19_, o19_, _, rfl, hc19_, ⟨r19_1, rfl, h19_2⟩⟩ := h19_
        refine doesG_un rfl ?_
        refine (does_load (u := (Fl r19_1)) (ev rfl) Try.isAgg22 (Cells.at hc19_ 0 rfl)).mono ?_; rintro _ _ ⟨rfl, rfl⟩
        exact ⟨⟨r19_1, rfl, (by simp only [h19_2])⟩, Ext.refl _⟩
      refine RW_d (fun v27 => [(.slice p_a L_a.length q_a), (.slice p_b L_b.length q_b), Ud, Ud, (u9 4), (Iv (k : Int)), (.slice p_a L_a.length q_a), (Iv (L_a.length : Int)), (.slice p_b L_b.length q_b), (Iv (L_b.length : Int)), (Bo (icmp .neq (L_a.length : Int) (L_b.length : Int))), (Iv (k : Int)), (.slice p_a L_a.length q_a), (Iv (L_a.length : Int)), (Bo (icmp .lss (k : Int) (L_a.length : Int))), (u9 15), (u9 16), v23, v24, v25, v26, v27, (u9 22), (u9 23), (u9 24), (u9 25), (u9 26), (u9 27), (u9 28)]) rfl (fun _ => rfl) (fun u hu hF => ?_) (fun v27 => ?_)
      · have h20_ : ∃ r_1 : Nat, v26 = (Fl r_1) ∧ cf .f32 r_1 = el1 := hF.1
        clear hF
        obtain ⟨r20_1, rfl, h20_2⟩ := h20_
        refine doesG_un rfl ?_
        refine (does_widen Try.underlying22 Try.underlying39 (ev rfl)).mono ?_; rintro _ _ ⟨r, rfl, hr, hx⟩
        exact ⟨⟨r, rfl, (by simp only [hr, h20_2])⟩, hx⟩
      refine RW_d (fun v28 => [(.slice p_a L_a.length q_a), (.slice p_b L_b.length q_b), Ud, Ud, (u9 4), (Iv (k : Int)), (.slice p_a L_a.length q_a), (Iv (L_a.length : Int)), (.slice p_b L_b.length q_b), (Iv (L_b.length : Int)), (Bo (icmp .neq (L_a.length : Int) (L_b.length : Int))), (Iv (k : Int)), (.slice p_a L_a.length q_a), (Iv (L_a.length : Int)), (Bo (icmp .lss (k : Int) (L_a.length : Int))), (u9 15), (u9 16), v23, v24, v25, v26, v27, v28, (u9 23), (u9 24), (u9 25), (u9 26), (u9 27), (u9 28)]) rfl (fun _ => rfl) (fun u hu hF => ?_) (fun v28 => ?_)
      · clear hF
        refine doesG_un rfl ?_
        refine (does_move (u := (.slice p_b L_b.length q_b)) (ev rfl)).mono ?_; rintro _ _ ⟨rfl, rfl⟩
        exact ⟨rfl, Ext.refl _⟩
      refine RW_d (fun v29 => [(.slice p_a L_a.length q_a), (.slice p_b L_b.length q_b), Ud, Ud, (u9 4), (Iv (k : Int)), (.slice p_a L_a.length q_a), (Iv (L_a.length : Int)), (.slice p_b L_b.length q_b), (Iv (L_b.length : Int)), (Bo (icmp .neq (L_a.length : Int) (L_b.length : Int))), (Iv (k : Int)), (.slice p_a L_a.length q_a), (Iv (L_a.length : Int)), (Bo (icmp .lss (k : Int) (L_a.length : Int))), (u9 15), (u9 16), v23, v24, v25, v26, v27, v28, v29, (u9 24), (u9 25), (u9 26), (u9 27), (u9 28)]) rfl (fun _ => rfl) (fun u hu hF => ?_) (fun v29 => ?_)
      · clear hF
        refine doesG_un rfl ?_
        refine (does_move (u := (Iv (k : Int))) (ev rfl)).mono ?_; rintro _ _ ⟨rfl, rfl⟩
        exact ⟨rfl, Ext.refl _⟩
      refine RW_d (fun v30 => [(.slice p_a L_a.length q_a), (.slice p_b L_b.length q_b), Ud, Ud, (u9 4), (Iv (k : Int)), (.slice p_a L_a.length q_a), (Iv (L_a.length : Int)), (.slice p_b L_b.length q_b), (Iv (L_b.length : Int)), (Bo (icmp .neq (L_a.length : Int) (L_b.length : Int))), (Iv (k : Int)), (.slice p_a L_a.length q_a), (Iv (L_a.length : Int)), (Bo (icmp .lss (k : Int) (L_a.length : Int))), (u9 15), (u9 16), v23, v24, v25, v26, v27, v28, v29, v30, (u9 25), (u9 26), (u9 27), (u9 28)]) rfl (fun _ => rfl) (fun u hu hF => ?_) (fun v30 => ?_)
      · have h22_ : v28 = (.slice p_b L_b.length q_b) := hF.1
        have h23_ : v29 = (Iv (k : Int)) := hF.2.1
        clear hF
        obtain rfl := h22_
        obtain rfl := h23_
        refine doesG_un rfl ?_
        refine (does_indexSl (R := RF) (i := (k : Int)) (xs := L_b) (e := el2) Try.underlying25 Try.sizeOf22 (ev rfl) (ev rfl) (Sl.ext (Sl.ext hv_b RF.mono (Ext.gr X13 E20)) RF.mono hu) (by omega) hel2).mono ?_; rintro v u' ⟨b, of, cs, hv, hc, hR, hu'⟩; subst hu'
        exact ⟨⟨b, of, cs, hv, hc, hR⟩, Ext.refl _⟩
      refine RW_d (fun v31 => [(.slice p_a L_a.length q_a), (.slice p_b L_b.length q_b), Ud, Ud, (u9 4), (Iv (k : Int)), (.slice p_a L_a.length q_a), (Iv (L_a.length : Int)), (.slice p_b L_b.length q_b), (Iv (L_b.length : Int)), (Bo (icmp .neq (L_a.length : Int) (L_b.length : Int))), (Iv (k : Int)), (.slice p_a L_a.length q_a), (Iv (L_a.length : Int)), (Bo (icmp .lss (k : Int) (L_a.length : Int))), (u9 15), (u9 16), v23, v24, v25, v26, v27, v28, v29, v30, v31, (u9 26), (u9 27), (u9 28)]) rfl (fun _ => rfl) (fun u hu hF => ?_) (fun v31 => ?_)
      · have h24_ : PtrR RF u v30 el2 := hF.1
        clear hF
        obtain ⟨b24_, o24_, _, rfl, hc24_, ⟨r24_1, rfl, h24_2⟩⟩ := h24_
        refine doesG_un rfl ?_
        refine (does_load (u := (Fl r24_1)) (ev rfl) Try.isAgg22 (Cells.at hc24_ 0 rfl)).mono ?_; rintro _ _ ⟨rfl, rfl⟩
        exact ⟨⟨r24_1, rfl, (by simp only [h24_2])⟩, Ext.refl _⟩
      refine RW_d (fun v32 => [(.slice p_a L_a.length q_a), (.slice p_b L_b.length q_b), Ud, Ud, (u9 4), (Iv (k : Int)), (.slice p_a L_a.length q_a), (Iv (L_a.length : Int)), (.slice p_b L_b.length q_b), (Iv (L_b.length : Int)), (Bo (icmp .neq (L_a.length : Int) (L_b.length : Int))), (Iv (k : Int)), (.slice p_a L_a.length q_a), (Iv (L_a.length : Int)), (Bo (icmp .lss (k : Int) (L_a.length : Int))), (u9 15), (u9 16), v23, v24, v25, v26, v27, v28, v29, v30, v31, v32, (u9 27), (u9 28)]) rfl (fun _ => rfl) (fun u hu hF => ?_) (fun v32 => ?_)
      · have h25_ : ∃ r_1 : Nat, v31 = (Fl r_1) ∧ cf .f32 r_1 = el2 := hF.1
        clear hF
        obtain ⟨r25_1, rfl, h25_2⟩ := h25_
        refine doesG_un rfl ?_
        refine (does_widen Try.underlying22 Try.underlying39 (ev rfl)).mono ?_; rintro _ _ ⟨r, rfl, hr, hx⟩
        exact ⟨⟨r, rfl, (by simp only [hr, h25_2])⟩, hx⟩
      refine RW_d (fun v33 => [(.slice p_a L_a.length q_a), (.slice p_b L_b.length q_b), Ud, Ud, (u9 4), (Iv (k : Int)), (.slice p_a L_a.length q_a), (Iv (L_a.length : Int)), (.slice p_b L_b.length q_b), (Iv (L_b.length : Int)), (Bo (icmp .neq (L_a.length : Int) (L_b.length : Int))), (Iv (k : Int)), (.slice p_a L_a.length q_a), (Iv (L_a.length : Int)), (Bo (icmp .lss (k : Int) (L_a.length : Int))), (u9 15), (u9 16), v23, v24, v25, v26, v27, v28, v29, v30, v31, v32, v33, (u9 28)]) rfl (fun _ => rfl) (fun u hu hF => ?_) (fun v33 => ?_)
      · have h21_ : ∃ r_1 : Nat, v27 = (Fd r_1) ∧ cf .f64 r_1 = fwid el1 := hF.1
        have h26_ : ∃ r_1 : Nat, v32 = (Fd r_1) ∧ cf .f64 r_1 = fwid el2 := hF.2.1
        clear hF
        obtain ⟨r21_1, rfl, h21_2⟩ := h21_
        obtain ⟨r26_1, rfl, h26_2⟩ := h26_
        refine doesG_un rfl ?_
        refine (does_call (args := #[(Fd r21_1), (Fd r26_1)]) cal24 (evs rfl) (c_laws_sameFloat r21_1 r26_1 _)).mono ?_; rintro v u' ⟨hx, hv⟩
        exact ⟨hv.trans (by simp only [hβ1, h21_2, h26_2]), hx⟩
      refine RW_d (fun v34 => [(.slice p_a L_a.length q_a), (.slice p_b L_b.length q_b), Ud, Ud, (u9 4), (Iv (k : Int)), (.slice p_a L_a.length q_a), (Iv (L_a.length : Int)), (.slice p_b L_b.length q_b), (Iv (L_b.length : Int)), (Bo (icmp .neq (L_a.length : Int) (L_b.length : Int))), (Iv (k : Int)), (.slice p_a L_a.length q_a), (Iv (L_a.length : Int)), (Bo (icmp .lss (k : Int) (L_a.length : Int))), (u9 15), (u9 16), v23, v24, v25, v26, v27, v28, v29, v30, v31, v32, v33, v34]) rfl (fun _ => rfl) (fun u hu hF => ?_) (fun v34 => ?_)
      · have h27_ : v33 = (Bo β1) := hF.1
        clear hF
        obtain rfl := h27_
        refine doesG_un rfl ?_
        refine (does_not (ev rfl)).mono ?_; rintro _ _ ⟨rfl, rfl⟩
        exact ⟨rfl, Ext.refl _⟩
      refine RW_fin ?_; intro w35 E36 hP37
      obtain ⟨⟨⟨⟨⟨⟨⟨⟨⟨⟨⟨⟨-, -⟩, -⟩, -⟩, -⟩, -⟩, -⟩, -⟩, -⟩, -⟩, -⟩, -⟩, q38⟩ := hP37
      have X39 := Ext.gr X22 E36
      have q38 : v34 = (Bo (!β1)) := q38
      obtain rfl := q38
      show wpList _ _ _ _ (fr [(.slice p_a L_a.length q_a), (.slice p_b L_b.length q_b), Ud, Ud, (u9 4), (Iv (k : Int)), (.slice p_a L_a.length q_a), (Iv (L_a.length : Int)), (.slice p_b L_b.length q_b), (Iv (L_b.length : Int)), (Bo (icmp .neq (L_a.length : Int) (L_b.length : Int))), (Iv (k : Int)), (.slice p_a L_a.length q_a), (Iv (L_a.length : Int)), (Bo (icmp .lss (k : Int) (L_a.length : Int))), (u9 15), (u9 16), v23, v24, v25, v26, v27, v28, v29, v30, v31, v32, v33, (Bo (!β1))]) _
      refine wpList_nil (hK18 _ _ ?_)
      refine wp_cond_split (t := !β1) (ev rfl) (fun c40 => ?_) (fun c40 => ?_)
      · rw [Bool.not_eq_true'] at c40
        have c40' := c40
        (try simp only [hβ1] at c40')
        (try simp only [icmp, Bool.and_eq_true, Bool.or_eq_true, Bool.and_eq_false_iff, Bool.or_eq_false_iff, Bool.not_eq_true', Bool.not_eq_false', decide_eq_true_eq, decide_eq_false_iff_not, beq_iff_eq, bne_iff_ne, beq_eq_false_iff_ne, bne_eq_false_iff_eq] at c40')
        refine wp_seq_k fun K41 hK41 => ?_
        refine wp_region_lit ?_
        refine q_is (l' := [(.slice p_a L_a.length q_a), (.slice p_b L_b.length q_b), Ud, Ud, (Bo false), (Iv (k : Int)), (.slice p_a L_a.length q_a), (Iv (L_a.length : Int)), (.slice p_b L_b.length q_b), (Iv (L_b.length : Int)), (Bo (icmp .neq (L_a.length : Int) (L_b.length : Int))), (Iv (k : Int)), (.slice p_a L_a.length q_a), (Iv (L_a.length : Int)), (Bo (icmp .lss (k : Int) (L_a.length : Int))), (u9 15), (u9 16), v23, v24, v25, v26, v27, v28, v29, v30, v31, v32, v33, (Bo (!β1))]) rfl rfl (does_assign (u := (Bo false)) (ev rfl)) rfl ?_
        refine wpList_nil (hK41 _ _ ?_)
        refine wp_ret ?_
        dsimp only [Exit.then, Exit.inBlock]
        refine ret_val (v := (Bo false)) (res_T rfl (slot rfl)) X39 ?_
        try simp only [hβ1, hel1, hel2] at c4 c16 c40
        have x42 : (sameL L_a L_b) = false := by first | exact (sameL_len (by omega)) | exact (sameL_not (by omega) (by assumption) (by assumption) (by simp_all)) | exact (sameL_all (by omega) (by omega) hs)
        exact (by first | rfl | rw [x42])
      rw [Bool.not_eq_false'] at c40
      have c40' := c40
      (try simp only [hβ1] at c40')
      (try simp only [icmp, Bool.and_eq_true, Bool.or_eq_true, Bool.and_eq_false_iff, Bool.or_eq_false_iff, Bool.not_eq_true', Bool.not_eq_false', decide_eq_true_eq, decide_eq_false_iff_not, beq_iff_eq, bne_iff_ne, beq_eq_false_iff_ne, bne_eq_false_iff_eq] at c40')
      refine wp_skip (hK17 _ _ ?_)
      refine wp_region_lit ?_
      refine q_is (l' := [(.slice p_a L_a.length q_a), (.slice p_b L_b.length q_b), Ud, Ud, (u9 4), (Iv (k : Int)), (.slice p_a L_a.length q_a), (Iv (L_a.length : Int)), (.slice p_b L_b.length q_b), (Iv (L_b.length : Int)), (Bo (icmp .neq (L_a.length : Int) (L_b.length : Int))), (Iv (k : Int)), (.slice p_a L_a.length q_a), (Iv (L_a.length : Int)), (Bo (icmp .lss (k : Int) (L_a.length : Int))), (Iv (k : Int)), (u9 16), v23, v24, v25, v26, v27, v28, v29, v30, v31, v32, v33, (Bo (!β1))]) rfl rfl (does_move (u := (Iv (k : Int))) (ev rfl)) rfl ?_
      refine q_is (l' := [(.slice p_a L_a.length q_a), (.slice p_b L_b.length q_b), Ud, Ud, (u9 4), (Iv (k : Int)), (.slice p_a L_a.length q_a), (Iv (L_a.length : Int)), (.slice p_b L_b.length q_b), (Iv (L_b.length : Int)), (Bo (icmp .neq (L_a.length : Int) (L_b.length : Int))), (Iv (k : Int)), (.slice p_a L_a.length q_a), (Iv (L_a.length : Int)), (Bo (icmp .lss (k : Int) (L_a.length : Int))), (Iv (k : Int)), (Iv ((k : Int) + 1)), v23, v24, v25, v26, v27, v28, v29, v30, v31, v32, v33, (Bo (!β1))]) rfl rfl (does_iarith (p := (k : Int)) (q := 1) (r := (k : Int) + 1) (ev rfl) (ev rfl) (.inl ⟨rfl, (in_i64 (by omega) (by omega)).symm⟩)) rfl ?_
      refine q_is (l' := [(.slice p_a L_a.length q_a), (.slice p_b L_b.length q_b), Ud, Ud, (u9 4), (Iv ((k : Int) + 1)), (.slice p_a L_a.length q_a), (Iv (L_a.length : Int)), (.slice p_b L_b.length q_b), (Iv (L_b.length : Int)), (Bo (icmp .neq (L_a.length : Int) (L_b.length : Int))), (Iv (k : Int)), (.slice p_a L_a.length q_a), (Iv (L_a.length : Int)), (Bo (icmp .lss (k : Int) (L_a.length : Int))), (Iv (k : Int)), (Iv ((k : Int) + 1)), v23, v24, v25, v26, v27, v28, v29, v30, v31, v32, v33, (Bo (!β1))]) rfl rfl (does_assign (u := (Iv ((k : Int) + 1))) (ev rfl)) rfl ?_
      refine wpList_nil ?_
      refine ⟨k + 1, ⟨fun t => (([(.slice p_a L_a.length q_a), (.slice p_b L_b.length q_b), Ud, Ud, (u9 4), (Iv ((k : Int) + 1)), (.slice p_a L_a.length q_a), (Iv (L_a.length : Int)), (.slice p_b L_b.length q_b), (Iv (L_b.length : Int)), (Bo (icmp .neq (L_a.length : Int) (L_b.length : Int))), (Iv (k : Int)), (.slice p_a L_a.length q_a), (Iv (L_a.length : Int)), (Bo (icmp .lss (k : Int) (L_a.length : Int))), (Iv (k : Int)), (Iv ((k : Int) + 1)), v23, v24, v25, v26, v27, v28, v29, v30, v31, v32, v33, (Bo (!β1))] : List Value)[t]?).getD undef, ?_, (Ext.gr (Ext.gr E11 E20) E36), ?_⟩, ?_⟩
      · first | rfl | (simp only [Nat.cast_add, Nat.cast_one, Int.natCast_add, Int.natCast_one]; rfl)
      · exact ⟨by omega, SameTo.step hs (by assumption) (by assumption) (by simp_all)⟩
      · omega
    have c16' := c16
    (try simp only [icmp, Bool.and_eq_true, Bool.or_eq_true, Bool.and_eq_false_iff, Bool.or_eq_false_iff, Bool.not_eq_true', Bool.not_eq_false', decide_eq_true_eq, decide_eq_false_iff_not, beq_iff_eq, bne_iff_ne, beq_eq_false_iff_ne, bne_eq_false_iff_eq] at c16')
    refine wp_exit ?_
    refine hK7 _ _ ?_
    refine wp_seq_k fun K43 hK43 => ?_
    refine wp_region_lit ?_
    refine q_is (l' := [(.slice p_a L_a.length q_a), (.slice p_b L_b.length q_b), Ud, Ud, (Bo true), (Iv (k : Int)), (.slice p_a L_a.length q_a), (Iv (L_a.length : Int)), (.slice p_b L_b.length q_b), (Iv (L_b.length : Int)), (Bo (icmp .neq (L_a.length : Int) (L_b.length : Int))), (Iv (k : Int)), (.slice p_a L_a.length q_a), (Iv (L_a.length : Int)), (Bo (icmp .lss (k : Int) (L_a.length : Int))), (u9 15), (u9 16), (u9 17), (u9 18), (u9 19), (u9 20), (u9 21), (u9 22), (u9 23), (u9 24), (u9 25), (u9 26), (u9 27), (u9 28)]) rfl rfl (does_assign (u := (Bo true)) (ev rfl)) rfl ?_
    refine wpList_nil (hK43 _ _ ?_)
    refine wp_ret ?_
    refine ret_val (v := (Bo true)) (res_T rfl (slot rfl)) X13 ?_
    have x44 : (sameL L_a L_b) = true := by first | exact (sameL_len (by omega)) | exact (sameL_not (by omega) (by assumption) (by assumption) (by simp_all)) | exact (sameL_all (by omega) (by omega) hs)
    exact (by first | rfl | rw [x44])

/- laws.eqGrid -/
theorem c_laws_eqGrid (a : List Value) (A_a : GridT) (b : List Value) (A_b : GridT) (w : World) (hv_a : RGridT w A_a a) (hv_b : RGridT w A_b b) : Gives Try.prog 21 #[(.agg a.toArray), (.agg b.toArray)] w (fun v w' => v = (Bo (sameG A_a A_b))) := by
  obtain ⟨r1, r3, r5, r7, y9, rfl, h2, h4, h6, h8, h10⟩ := hv_a
  obtain ⟨r11, r13, r15, r17, y19, rfl, h12, h14, h16, h18, h20⟩ := hv_b
  have hs23 := h10; have hs23l := Sl.len h10; obtain ⟨p21, q22, rfl⟩ := Sl.shape h10
  have hs26 := h20; have hs26l := Sl.len h20; obtain ⟨p24, q25, rfl⟩ := Sl.shape h20
  refine enter [(.agg #[(Fl r1), (Fl r3), (Fl r5), (Fl r7), (Iv A_a.x), (Iv A_a.y), (Iv A_a.z), (.slice p21 A_a.vals.length q22)]), (.agg #[(Fl r11), (Fl r13), (Fl r15), (Fl r17), (Iv A_b.x), (Iv A_b.y), (Iv A_b.z), (.slice p24 A_b.vals.length q25)]), Ud, Ud, Ud, Ud, Ud, Ud, Ud, Ud, Ud, Ud, Ud, Ud, Ud, Ud, Ud, Ud, Ud, Ud, Ud, Ud, Ud, Ud, Ud, Ud, Ud, Ud, Ud, Ud, Ud, Ud, Ud, Ud, Ud, Ud, Ud, Ud, Ud, Ud] Try.func21 rfl Try.ntmps21 rfl ?_
  refine wp_seq_k fun K27 hK27 => ?_
  refine wp_region_lit ?_
  refine seqd rfl rfl (does_box (u := (.agg #[(Fl r1), (Fl r3), (Fl r5), (Fl r7), (Iv A_a.x), (Iv A_a.y), (Iv A_a.z), (.slice p21 A_a.vals.length q22)])) (ev rfl)) ?_; rintro _ w32 ⟨b28, rfl, hb29, hB30, E31⟩
  have g33 : w.heap.size ≤ b28 := Nat.le_trans (Below.size (Ext.refl w)) hb29
  change Blk _ _ [(Fl r1), (Fl r3), (Fl r5), (Fl r7), (Iv A_a.x), (Iv A_a.y), (Iv A_a.z), (.slice p21 A_a.vals.length q22)] at hB30
  have X34 := Ext.gr (Ext.refl w) E31
  show wpList _ _ _ _ (fr [(.agg #[(Fl r1), (Fl r3), (Fl r5), (Fl r7), (Iv A_a.x), (Iv A_a.y), (Iv A_a.z), (.slice p21 A_a.vals.length q22)]), (.agg #[(Fl r11), (Fl r13), (Fl r15), (Fl r17), (Iv A_b.x), (Iv A_b.y), (Iv A_b.z), (.slice p24 A_b.vals.length q25)]), (Pt b28 0), Ud, Ud, Ud, Ud, Ud, Ud, Ud, Ud, Ud, Ud, Ud, Ud, Ud, Ud, Ud, Ud, Ud, Ud, Ud, Ud, Ud, Ud, Ud, Ud, Ud, Ud, Ud, Ud, Ud, Ud, Ud, Ud, Ud, Ud, Ud, Ud, Ud]) _
  refine seqd rfl rfl (does_box (u := (.agg #[(Fl r11), (Fl r13), (Fl r15), (Fl r17), (Iv A_b.x), (Iv A_b.y), (Iv A_b.z), (.slice p24 A_b.vals.length q25)])) (ev rfl)) ?_; rintro _ w39 ⟨b35, rfl, hb36, hB37, E38⟩
  have n40 : b28 < b35 := Nat.lt_of_lt_of_le (Blk.lt hB30) hb36
  have g41 : w.heap.size ≤ b35 := Nat.le_trans (Below.size X34) hb36
  change Blk _ _ [(Fl r11), (Fl r13), (Fl r15), (Fl r17), (Iv A_b.x), (Iv A_b.y), (Iv A_b.z), (.slice p24 A_b.vals.length q25)] at hB37
  have X42 := Ext.gr X34 E38
  show wpList _ _ _ _ (fr [(.agg #[(Fl r1), (Fl r3), (Fl r5), (Fl r7), (Iv A_a.x), (Iv A_a.y), (Iv A_a.z), (.slice p21 A_a.vals.length q22)]), (.agg #[(Fl r11), (Fl r13), (Fl r15), (Fl r17), (Iv A_b.x), (Iv A_b.y), (Iv A_b.z), (.slice p24 A_b.vals.length q25)]), (Pt b28 0), (Pt b35 0), Ud, Ud, Ud, Ud, Ud, Ud, Ud, Ud, Ud, Ud, Ud, Ud, Ud, Ud, Ud, Ud, Ud, Ud, Ud, Ud, Ud, Ud, Ud, Ud, Ud, Ud, Ud, Ud, Ud, Ud, Ud, Ud, Ud, Ud, Ud, Ud]) _
  refine q_is (l' := [(.agg #[(Fl r1), (Fl r3), (Fl r5), (Fl r7), (Iv A_a.x), (Iv A_a.y), (Iv A_a.z), (.slice p21 A_a.vals.length q22)]), (.agg #[(Fl r11), (Fl r13), (Fl r15), (Fl r17), (Iv A_b.x), (Iv A_b.y), (Iv A_b.z), (.slice p24 A_b.vals.length q25)]), (Pt b28 0), (Pt b35 0), (Bo false), Ud, Ud, Ud, Ud, Ud, Ud, Ud, Ud, Ud, Ud, Ud, Ud, Ud, Ud, Ud, Ud, Ud, Ud, Ud, Ud, Ud, Ud, Ud, Ud, Ud, Ud, Ud, Ud, Ud, Ud, Ud, Ud, Ud, Ud, Ud]) rfl rfl (does_assign (u := (Bo false)) (ev rfl)) rfl ?_
  refine wpList_nil (hK27 _ _ ?_)
  refine wp_seq_k fun K43 hK43 => ?_
  refine wp_seq_k fun K44 hK44 => ?_
  refine wp_region_lit ?_
  refine q_is (l' := [(.agg #[(Fl r1), (Fl r3), (Fl r5), (Fl r7), (Iv A_a.x), (Iv A_a.y), (Iv A_a.z), (.slice p21 A_a.vals.length q22)]), (.agg #[(Fl r11), (Fl r13), (Fl r15), (Fl r17), (Iv A_b.x), (Iv A_b.y), (Iv A_b.z), (.slice p24 A_b.vals.length q25)]), (Pt b28 0), (Pt b35 0), (Bo false), (Pt b28 0), Ud, Ud, Ud, Ud, Ud, Ud, Ud, Ud, Ud, Ud, Ud, Ud, Ud, Ud, Ud, Ud, Ud, Ud, Ud, Ud, Ud, Ud, Ud, Ud, Ud, Ud, Ud, Ud, Ud, Ud, Ud, Ud, Ud, Ud]) rfl rfl (does_fieldAddr (ev rfl) fa32_0) rfl ?_
  refine q_is (l' := [(.agg #[(Fl r1), (Fl r3), (Fl r5), (Fl r7), (Iv A_a.x), (Iv A_a.y), (Iv A_a.z), (.slice p21 A_a.vals.length q22)]), (.agg #[(Fl r11), (Fl r13), (Fl r15), (Fl r17), (Iv A_b.x), (Iv A_b.y), (Iv A_b.z), (.slice p24 A_b.vals.length q25)]), (Pt b28 0), (Pt b35 0), (Bo false), (Pt b28 0), (.agg #[(Fl r1), (Fl r3), (Fl r5)]), Ud, Ud, Ud, Ud, Ud, Ud, Ud, Ud, Ud, Ud, Ud, Ud, Ud, Ud, Ud, Ud, Ud, Ud, Ud, Ud, Ud, Ud, Ud, Ud, Ud, Ud, Ud, Ud, Ud, Ud, Ud, Ud, Ud]) rfl rfl (does_loadAgg (cs := [(Fl r1), (Fl r3), (Fl r5)]) (ev rfl) Try.isAgg30 Try.sizeOf30 (Cells.sub (Blk.cells (hB30.ext E38)) 0 3) rfl) rfl ?_
  refine q_is (l' := [(.agg #[(Fl r1), (Fl r3), (Fl r5), (Fl r7), (Iv A_a.x), (Iv A_a.y), (Iv A_a.z), (.slice p21 A_a.vals.length q22)]), (.agg #[(Fl r11), (Fl r13), (Fl r15), (Fl r17), (Iv A_b.x), (Iv A_b.y), (Iv A_b.z), (.slice p24 A_b.vals.length q25)]), (Pt b28 0), (Pt b35 0), (Bo false), (Pt b28 0), (.agg #[(Fl r1), (Fl r3), (Fl r5)]), (Pt b35 0), Ud, Ud, Ud, Ud, Ud, Ud, Ud, Ud, Ud, Ud, Ud, Ud, Ud, Ud, Ud, Ud, Ud, Ud, Ud, Ud, Ud, Ud, Ud, Ud, Ud, Ud, Ud, Ud, Ud, Ud, Ud, Ud]) rfl rfl (does_fieldAddr (ev rfl) fa32_0) rfl ?_
  refine q_is (l' := [(.agg #[(Fl r1), (Fl r3), (Fl r5), (Fl r7), (Iv A_a.x), (Iv A_a.y), (Iv A_a.z), (.slice p21 A_a.vals.length q22)]), (.agg #[(Fl r11), (Fl r13), (Fl r15), (Fl r17), (Iv A_b.x), (Iv A_b.y), (Iv A_b.z), (.slice p24 A_b.vals.length q25)]), (Pt b28 0), (Pt b35 0), (Bo false), (Pt b28 0), (.agg #[(Fl r1), (Fl r3), (Fl r5)]), (Pt b35 0), (.agg #[(Fl r11), (Fl r13), (Fl r15)]), Ud, Ud, Ud, Ud, Ud, Ud, Ud, Ud, Ud, Ud, Ud, Ud, Ud, Ud, Ud, Ud, Ud, Ud, Ud, Ud, Ud, Ud, Ud, Ud, Ud, Ud, Ud, Ud, Ud, Ud, Ud]) rfl rfl (does_loadAgg (cs := [(Fl r11), (Fl r13), (Fl r15)]) (ev rfl) Try.isAgg30 Try.sizeOf30 (Cells.sub (Blk.cells hB37) 0 3) rfl) rfl ?_
  refine seqd rfl rfl (does_call (args := #[(.agg #[(Fl r1), (Fl r3), (Fl r5)]), (.agg #[(Fl r11), (Fl r13), (Fl r15)])]) cal29 (evs rfl) (c_laws_eqVector [(Fl r1), (Fl r3), (Fl r5)] A_a.low [(Fl r11), (Fl r13), (Fl r15)] A_b.low _ ⟨r1, r3, r5, rfl, h2, h4, h6⟩ ⟨r11, r13, r15, rfl, h12, h14, h16⟩)) ?_; rintro _ w46 ⟨E45, rfl⟩
  have X47 := Ext.gr X42 E45
  show wpList _ _ _ _ (fr [(.agg #[(Fl r1), (Fl r3), (Fl r5), (Fl r7), (Iv A_a.x), (Iv A_a.y), (Iv A_a.z), (.slice p21 A_a.vals.length q22)]), (.agg #[(Fl r11), (Fl r13), (Fl r15), (Fl r17), (Iv A_b.x), (Iv A_b.y), (Iv A_b.z), (.slice p24 A_b.vals.length q25)]), (Pt b28 0), (Pt b35 0), (Bo false), (Pt b28 0), (.agg #[(Fl r1), (Fl r3), (Fl r5)]), (Pt b35 0), (.agg #[(Fl r11), (Fl r13), (Fl r15)]), (Bo (sameV A_a.low A_b.low)), Ud, Ud, Ud, Ud, Ud, Ud, Ud, Ud, Ud, Ud, Ud, Ud, Ud, Ud, Ud, Ud, Ud, Ud, Ud, Ud, Ud, Ud, Ud, Ud, Ud, Ud, Ud, Ud, Ud, Ud]) _
  refine q_is (l' := [(.agg #[(Fl r1), (Fl r3), (Fl r5), (Fl r7), (Iv A_a.x), (Iv A_a.y), (Iv A_a.z), (.slice p21 A_a.vals.length q22)]), (.agg #[(Fl r11), (Fl r13), (Fl r15), (Fl r17), (Iv A_b.x), (Iv A_b.y), (Iv A_b.z), (.slice p24 A_b.vals.length q25)]), (Pt b28 0), (Pt b35 0), (Bo false), (Pt b28 0), (.agg #[(Fl r1), (Fl r3), (Fl r5)]), (Pt b35 0), (.agg #[(Fl r11), (Fl r13), (Fl r15)]), (Bo (sameV A_a.low A_b.low)), (Bo (!(sameV A_a.low A_b.low))), Ud, Ud, Ud, Ud, Ud, Ud, Ud, Ud, Ud, Ud, Ud, Ud, Ud, Ud, Ud, Ud, Ud, Ud, Ud, Ud, Ud, Ud, Ud, Ud, Ud, Ud, Ud, Ud, Ud]) rfl rfl (does_not (ev rfl)) rfl ?_
  refine wpList_nil (hK44 _ _ ?_)
  refine wp_cond_split (t := !(sameV A_a.low A_b.low)) (ev rfl) (fun c48 => ?_) (fun c48 => ?_)
  · rw [Bool.not_eq_true'] at c48
    have c48' := c48
    refine wp_seq_k fun K49 hK49 => ?_
    refine wp_region_lit ?_
    refine q_is (l' := [(.agg #[(Fl r1), (Fl r3), (Fl r5), (Fl r7), (Iv A_a.x), (Iv A_a.y), (Iv A_a.z), (.slice p21 A_a.vals.length q22)]), (.agg #[(Fl r11), (Fl r13), (Fl r15), (Fl r17), (Iv A_b.x), (Iv A_b.y), (Iv A_b.z), (.slice p24 A_b.vals.length q25)]), (Pt b28 0), (Pt b35 0), (Bo false), (Pt b28 0), (.agg #[(Fl r1), (Fl r3), (Fl r5)]), (Pt b35 0), (.agg #[(Fl r11), (Fl r13), (Fl r15)]), (Bo (sameV A_a.low A_b.low)), (Bo (!(sameV A_a.low A_b.low))), Ud, Ud, Ud, Ud, Ud, Ud, Ud, Ud, Ud, Ud, Ud, Ud, Ud, Ud, Ud, Ud, Ud, Ud, Ud, Ud, Ud, Ud, Ud, Ud, Ud, Ud, Ud, Ud, Ud]) rfl rfl (does_assign (u := (Bo false)) (ev rfl)) rfl ?_
    refine wpList_nil (hK49 _ _ ?_)
    refine wp_ret ?_
    dsimp only [Exit.then, Exit.inBlock]
    refine ret_val (v := (Bo false)) (res_T rfl (slot rfl)) X47 ?_
    try simp only [h2, h4, h6, h8, h12, h14, h16, h18] at c48
    have x50 : (sameG A_a A_b) = false := by first | rfl | (simp only [sameG, icmp, h2, h4, h6, h8, h12, h14, h16, h18, c48]; done) | (simp [sameG, icmp, h2, h4, h6, h8, h12, h14, h16, h18, c48]; done) | (revert c48; simp +contextual [sameG, icmp, h2, h4, h6, h8, h12, h14, h16, h18]; done) | (rcases c48' with hh | hh <;> simp only [hh, sameG, icmp, h2, h4, h6, h8, h12, h14, h16, h18, c48]; done) | (rcases c48' with hh | hh <;> simp_all [sameG, icmp]; done) | (rcases c48' with hh | hh | hh <;> simp_all [sameG, icmp]; done) | (rcases c48' with hh | hh | hh | hh <;> simp_all [sameG, icmp]; done) | (simp_all [sameG, icmp]; done)
    exact (by first | rfl | rw [x50])
  rw [Bool.not_eq_false'] at c48
  have c48' := c48
  refine wp_skip (hK43 _ _ ?_)
  refine wp_seq_k fun K51 hK51 => ?_
  refine wp_seq_k fun K52 hK52 => ?_
  refine wp_region_lit ?_
  refine q_is (l' := [(.agg #[(Fl r1), (Fl r3), (Fl r5), (Fl r7), (Iv A_a.x), (Iv A_a.y), (Iv A_a.z), (.slice p21 A_a.vals.length q22)]), (.agg #[(Fl r11), (Fl r13), (Fl r15), (Fl r17), (Iv A_b.x), (Iv A_b.y), (Iv A_b.z), (.slice p24 A_b.vals.length q25)]), (Pt b28 0), (Pt b35 0), (Bo false), (Pt b28 0), (.agg #[(Fl r1), (Fl r3), (Fl r5)]), (Pt b35 0), (.agg #[(Fl r11), (Fl r13), (Fl r15)]), (Bo (sameV A_a.low A_b.low)), (Bo (!(sameV A_a.low A_b.low))), (Pt b28 3), Ud, Ud, Ud, Ud, Ud, Ud, Ud, Ud, Ud, Ud, Ud, Ud, Ud, Ud, Ud, Ud, Ud, Ud, Ud, Ud, Ud, Ud, Ud, Ud, Ud, Ud, Ud, Ud]) rfl rfl (does_fieldAddr (ev rfl) fa32_1) rfl ?_
  refine q_is (l' := [(.agg #[(Fl r1), (Fl r3), (Fl r5), (Fl r7), (Iv A_a.x), (Iv A_a.y), (Iv A_a.z), (.slice p21 A_a.vals.length q22)]), (.agg #[(Fl r11), (Fl r13), (Fl r15), (Fl r17), (Iv A_b.x), (Iv A_b.y), (Iv A_b.z), (.slice p24 A_b.vals.length q25)]), (Pt b28 0), (Pt b35 0), (Bo false), (Pt b28 0), (.agg #[(Fl r1), (Fl r3), (Fl r5)]), (Pt b35 0), (.agg #[(Fl r11), (Fl r13), (Fl r15)]), (Bo (sameV A_a.low A_b.low)), (Bo (!(sameV A_a.low A_b.low))), (Pt b28 3), (Fl r7), Ud, Ud, Ud, Ud, Ud, Ud, Ud, Ud, Ud, Ud, Ud, Ud, Ud, Ud, Ud, Ud, Ud, Ud, Ud, Ud, Ud, Ud, Ud, Ud, Ud, Ud, Ud]) rfl rfl (does_load (u := (Fl r7)) (ev rfl) Try.isAgg22 (Cells.at (Blk.cells ((hB30.ext E38).ext E45)) 3 rfl)) rfl ?_
  refine seqd rfl rfl (does_widen Try.underlying22 Try.underlying39 (ev rfl)) ?_; rintro _ w56 ⟨r53, rfl, h54, E55⟩
  have X57 := Ext.gr X47 E55
  show wpList _ _ _ _ (fr [(.agg #[(Fl r1), (Fl r3), (Fl r5), (Fl r7), (Iv A_a.x), (Iv A_a.y), (Iv A_a.z), (.slice p21 A_a.vals.length q22)]), (.agg #[(Fl r11), (Fl r13), (Fl r15), (Fl r17), (Iv A_b.x), (Iv A_b.y), (Iv A_b.z), (.slice p24 A_b.vals.length q25)]), (Pt b28 0), (Pt b35 0), (Bo false), (Pt b28 0), (.agg #[(Fl r1), (Fl r3), (Fl r5)]), (Pt b35 0), (.agg #[(Fl r11), (Fl r13), (Fl r15)]), (Bo (sameV A_a.low A_b.low)), (Bo (!(sameV A_a.low A_b.low))), (Pt b28 3), (Fl r7), (Fd r53), Ud, Ud, Ud, Ud, Ud, Ud, Ud, Ud, Ud, Ud, Ud, Ud, Ud, Ud, Ud, Ud, Ud, Ud, Ud, Ud, Ud, Ud, Ud, Ud, Ud, Ud]) _
  refine q_is (l' := [(.agg #[(Fl r1), (Fl r3), (Fl r5), (Fl r7), (Iv A_a.x), (Iv A_a.y), (Iv A_a.z), (.slice p21 A_a.vals.length q22)]), (.agg #[(Fl r11), (Fl r13), (Fl r15), (Fl r17), (Iv A_b.x), (Iv A_b.y), (Iv A_b.z), (.slice p24 A_b.vals.length q25)]), (Pt b28 0), (Pt b35 0), (Bo false), (Pt b28 0), (.agg #[(Fl r1), (Fl r3), (Fl r5)]), (Pt b35 0), (.agg #[(Fl r11), (Fl r13), (Fl r15)]), (Bo (sameV A_a.low A_b.low)), (Bo (!(sameV A_a.low A_b.low))), (Pt b28 3), (Fl r7), (Fd r53), (Pt b35 3), Ud, Ud, Ud, Ud, Ud, Ud, Ud, Ud, Ud, Ud, Ud, Ud, Ud, Ud, Ud, Ud, Ud, Ud, Ud, Ud, Ud, Ud, Ud, Ud, Ud]) rfl rfl (does_fieldAddr (ev rfl) fa32_1) rfl ?_
  refine q_is (l' := [(.agg #[(Fl r1), (Fl r3), (Fl r5), (Fl r7), (Iv A_a.x), (Iv A_a.y), (Iv A_a.z), (.slice p21 A_a.vals.length q22)]), (.agg #[(Fl r11), (Fl r13), (Fl r15), (Fl r17), (Iv A_b.x), (Iv A_b.y), (Iv A_b.z), (.slice p24 A_b.vals.length q25)]), (Pt b28 0), (Pt b35 0), (Bo false), (Pt b28 0), (.agg #[(Fl r1), (Fl r3), (Fl r5)]), (Pt b35 0), (.agg #[(Fl r11), (Fl r13), (Fl r15)]), (Bo (sameV A_a.low A_b.low)), (Bo (!(sameV A_a.low A_b.low))), (Pt b28 3), (Fl r7), (Fd r53), (Pt b35 3), (Fl r17), Ud, Ud, Ud, Ud, Ud, Ud, Ud, Ud, Ud, Ud, Ud, Ud, Ud, Ud, Ud, Ud, Ud, Ud, Ud, Ud, Ud, Ud, Ud, Ud]) rfl rfl (does_load (u := (Fl r17)) (ev rfl) Try.isAgg22 (Cells.at (Blk.cells ((hB37.ext E45).ext E55)) 3 rfl)) rfl ?_
  refine seqd rfl rfl (does_widen Try.underlying22 Try.underlying39 (ev rfl)) ?_; rintro _ w61 ⟨r58, rfl, h59, E60⟩
  have X62 := Ext.gr X57 E60
  show wpList _ _ _ _ (fr [(.agg #[(Fl r1), (Fl r3), (Fl r5), (Fl r7), (Iv A_a.x), (Iv A_a.y), (Iv A_a.z), (.slice p21 A_a.vals.length q22)]), (.agg #[(Fl r11), (Fl r13), (Fl r15), (Fl r17), (Iv A_b.x), (Iv A_b.y), (Iv A_b.z), (.slice p24 A_b.vals.length q25)]), (Pt b28 0), (Pt b35 0), (Bo false), (Pt b28 0), (.agg #[(Fl r1), (Fl r3), (Fl r5)]), (Pt b35 0), (.agg #[(Fl r11), (Fl r13), (Fl r15)]), (Bo (sameV A_a.low A_b.low)), (Bo (!(sameV A_a.low A_b.low))), (Pt b28 3), (Fl r7), (Fd r53), (Pt b35 3), (Fl r17), (Fd r58), Ud, Ud, Ud, Ud, Ud, Ud, Ud, Ud, Ud, Ud, Ud, Ud, Ud, Ud, Ud, Ud, Ud, Ud, Ud, Ud, Ud, Ud, Ud]) _
  refine seqd rfl rfl (does_call (args := #[(Fd r53), (Fd r58)]) cal24 (evs rfl) (c_laws_sameFloat r53 r58 _)) ?_; rintro _ w64 ⟨E63, rfl⟩
  have X65 := Ext.gr X62 E63
  show wpList _ _ _ _ (fr [(.agg #[(Fl r1), (Fl r3), (Fl r5), (Fl r7), (Iv A_a.x), (Iv A_a.y), (Iv A_a.z), (.slice p21 A_a.vals.length q22)]), (.agg #[(Fl r11), (Fl r13), (Fl r15), (Fl r17), (Iv A_b.x), (Iv A_b.y), (Iv A_b.z), (.slice p24 A_b.vals.length q25)]), (Pt b28 0), (Pt b35 0), (Bo false), (Pt b28 0), (.agg #[(Fl r1), (Fl r3), (Fl r5)]), (Pt b35 0), (.agg #[(Fl r11), (Fl r13), (Fl r15)]), (Bo (sameV A_a.low A_b.low)), (Bo (!(sameV A_a.low A_b.low))), (Pt b28 3), (Fl r7), (Fd r53), (Pt b35 3), (Fl r17), (Fd r58), (Bo (sameF (cf .f64 r53) (cf .f64 r58))), Ud, Ud, Ud, Ud, Ud, Ud, Ud, Ud, Ud, Ud, Ud, Ud, Ud, Ud, Ud, Ud, Ud, Ud, Ud, Ud, Ud, Ud]) _
  refine q_is (l' := [(.agg #[(Fl r1), (Fl r3), (Fl r5), (Fl r7), (Iv A_a.x), (Iv A_a.y), (Iv A_a.z), (.slice p21 A_a.vals.length q22)]), (.agg #[(Fl r11), (Fl r13), (Fl r15), (Fl r17), (Iv A_b.x), (Iv A_b.y), (Iv A_b.z), (.slice p24 A_b.vals.length q25)]), (Pt b28 0), (Pt b35 0), (Bo false), (Pt b28 0), (.agg #[(Fl r1), (Fl r3), (Fl r5)]), (Pt b35 0), (.agg #[(Fl r11), (Fl r13), (Fl r15)]), (Bo (sameV A_a.low A_b.low)), (Bo (!(sameV A_a.low A_b.low))), (Pt b28 3), (Fl r7), (Fd r53), (Pt b35 3), (Fl r17), (Fd r58), (Bo (sameF (cf .f64 r53) (cf .f64 r58))), (Bo (!(sameF (cf .f64 r53) (cf .f64 r58)))), Ud, Ud, Ud, Ud, Ud, Ud, Ud, Ud, Ud, Ud, Ud, Ud, Ud, Ud, Ud, Ud, Ud, Ud, Ud, Ud, Ud]) rfl rfl (does_not (ev rfl)) rfl ?_
  refine wpList_nil (hK52 _ _ ?_)
  refine wp_cond_split (t := !(sameF (cf .f64 r53) (cf .f64 r58))) (ev rfl) (fun c66 => ?_) (fun c66 => ?_)
  · rw [Bool.not_eq_true'] at c66
    have c66' := c66
    refine wp_seq_k fun K67 hK67 => ?_
    refine wp_region_lit ?_
    refine q_is (l' := [(.agg #[(Fl r1), (Fl r3), (Fl r5), (Fl r7), (Iv A_a.x), (Iv A_a.y), (Iv A_a.z), (.slice p21 A_a.vals.length q22)]), (.agg #[(Fl r11), (Fl r13), (Fl r15), (Fl r17), (Iv A_b.x), (Iv A_b.y), (Iv A_b.z), (.slice p24 A_b.vals.length q25)]), (Pt b28 0), (Pt b35 0), (Bo false), (Pt b28 0), (.agg #[(Fl r1), (Fl r3), (Fl r5)]), (Pt b35 0), (.agg #[(Fl r11), (Fl r13), (Fl r15)]), (Bo (sameV A_a.low A_b.low)), (Bo (!(sameV A_a.low A_b.low))), (Pt b28 3), (Fl r7), (Fd r53), (Pt b35 3), (Fl r17), (Fd r58), (Bo (sameF (cf .f64 r53) (cf .f64 r58))), (Bo (!(sameF (cf .f64 r53) (cf .f64 r58)))), Ud, Ud, Ud, Ud, Ud, Ud, Ud, Ud, Ud, Ud, Ud, Ud, Ud, Ud, Ud, Ud, Ud, Ud, Ud, Ud, Ud]) rfl rfl (does_assign (u := (Bo false)) (ev rfl)) rfl ?_
    refine wpList_nil (hK67 _ _ ?_)
    refine wp_ret ?_
    dsimp only [Exit.then, Exit.inBlock]
    refine ret_val (v := (Bo false)) (res_T rfl (slot rfl)) X65 ?_
    try simp only [h2, h4, h6, h8, h12, h14, h16, h18, h54, h59] at c48 c66
    have x68 : (sameG A_a A_b) = false := by first | rfl | (simp only [sameG, icmp, h2, h4, h6, h8, h12, h14, h16, h18, h54, h59, c48, c66]; done) | (simp [sameG, icmp, h2, h4, h6, h8, h12, h14, h16, h18, h54, h59, c48, c66]; done) | (revert c48 c66; simp +contextual [sameG, icmp, h2, h4, h6, h8, h12, h14, h16, h18, h54, h59]; done) | (rcases c48' with hh | hh <;> simp only [hh, sameG, icmp, h2, h4, h6, h8, h12, h14, h16, h18, h54, h59, c48, c66]; done) | (rcases c66' with hh | hh <;> simp only [hh, sameG, icmp, h2, h4, h6, h8, h12, h14, h16, h18, h54, h59, c48, c66]; done) | (rcases c66' with hh | hh <;> simp_all [sameG, icmp]; done) | (rcases c66' with hh | hh | hh <;> simp_all [sameG, icmp]; done) | (rcases c66' with hh | hh | hh | hh <;> simp_all [sameG, icmp]; done) | (simp_all [sameG, icmp]; done)
    exact (by first | rfl | rw [x68])
  rw [Bool.not_eq_false'] at c66
  have c66' := c66
  refine wp_skip (hK51 _ _ ?_)
  refine wp_seq_k fun K69 hK69 => ?_
  refine wp_seq_k fun K70 hK70 => ?_
  refine wp_region_lit ?_
  refine q_is (l' := [(.agg #[(Fl r1), (Fl r3), (Fl r5), (Fl r7), (Iv A_a.x), (Iv A_a.y), (Iv A_a.z), (.slice p21 A_a.vals.length q22)]), (.agg #[(Fl r11), (Fl r13), (Fl r15), (Fl r17), (Iv A_b.x), (Iv A_b.y), (Iv A_b.z), (.slice p24 A_b.vals.length q25)]), (Pt b28 0), (Pt b35 0), (Bo false), (Pt b28 0), (.agg #[(Fl r1), (Fl r3), (Fl r5)]), (Pt b35 0), (.agg #[(Fl r11), (Fl r13), (Fl r15)]), (Bo (sameV A_a.low A_b.low)), (Bo (!(sameV A_a.low A_b.low))), (Pt b28 3), (Fl r7), (Fd r53), (Pt b35 3), (Fl r17), (Fd r58), (Bo (sameF (cf .f64 r53) (cf .f64 r58))), (Bo (!(sameF (cf .f64 r53) (cf .f64 r58)))), (Pt b28 4), Ud, Ud, Ud, Ud, Ud, Ud, Ud, Ud, Ud, Ud, Ud, Ud, Ud, Ud, Ud, Ud, Ud, Ud, Ud, Ud]) rfl rfl (does_fieldAddr (ev rfl) fa32_2) rfl ?_
  refine q_is (l' := [(.agg #[(Fl r1), (Fl r3), (Fl r5), (Fl r7), (Iv A_a.x), (Iv A_a.y), (Iv A_a.z), (.slice p21 A_a.vals.length q22)]), (.agg #[(Fl r11), (Fl r13), (Fl r15), (Fl r17), (Iv A_b.x), (Iv A_b.y), (Iv A_b.z), (.slice p24 A_b.vals.length q25)]), (Pt b28 0), (Pt b35 0), (Bo false), (Pt b28 0), (.agg #[(Fl r1), (Fl r3), (Fl r5)]), (Pt b35 0), (.agg #[(Fl r11), (Fl r13), (Fl r15)]), (Bo (sameV A_a.low A_b.low)), (Bo (!(sameV A_a.low A_b.low))), (Pt b28 3), (Fl r7), (Fd r53), (Pt b35 3), (Fl r17), (Fd r58), (Bo (sameF (cf .f64 r53) (cf .f64 r58))), (Bo (!(sameF (cf .f64 r53) (cf .f64 r58)))), (Pt b28 4), (Iv A_a.x), Ud, Ud, Ud, Ud, Ud, Ud, Ud, Ud, Ud, Ud, Ud, Ud, Ud, Ud, Ud, Ud, Ud, Ud, Ud]) rfl rfl (does_load (u := (Iv A_a.x)) (ev rfl) Try.isAgg2 (Cells.at (Blk.cells (((((hB30.ext E38).ext E45).ext E55).ext E60).ext E63)) 4 rfl)) rfl ?_
  refine q_is (l' := [(.agg #[(Fl r1), (Fl r3), (Fl r5), (Fl r7), (Iv A_a.x), (Iv A_a.y), (Iv A_a.z), (.slice p21 A_a.vals.length q22)]), (.agg #[(Fl r11), (Fl r13), (Fl r15), (Fl r17), (Iv A_b.x), (Iv A_b.y), (Iv A_b.z), (.slice p24 A_b.vals.length q25)]), (Pt b28 0), (Pt b35 0), (Bo false), (Pt b28 0), (.agg #[(Fl r1), (Fl r3), (Fl r5)]), (Pt b35 0), (.agg #[(Fl r11), (Fl r13), (Fl r15)]), (Bo (sameV A_a.low A_b.low)), (Bo (!(sameV A_a.low A_b.low))), (Pt b28 3), (Fl r7), (Fd r53), (Pt b35 3), (Fl r17), (Fd r58), (Bo (sameF (cf .f64 r53) (cf .f64 r58))), (Bo (!(sameF (cf .f64 r53) (cf .f64 r58)))), (Pt b28 4), (Iv A_a.x), (Pt b35 4), Ud, Ud, Ud, Ud, Ud, Ud, Ud, Ud, Ud, Ud, Ud, Ud, Ud, Ud, Ud, Ud, Ud, Ud]) rfl rfl (does_fieldAddr (ev rfl) fa32_2) rfl ?_
  refine q_is (l' := [(.agg #[(Fl r1), (Fl r3), (Fl r5), (Fl r7), (Iv A_a.x), (Iv A_a.y), (Iv A_a.z), (.slice p21 A_a.vals.length q22)]), (.agg #[(Fl r11), (Fl r13), (Fl r15), (Fl r17), (Iv A_b.x), (Iv A_b.y), (Iv A_b.z), (.slice p24 A_b.vals.length q25)]), (Pt b28 0), (Pt b35 0), (Bo false), (Pt b28 0), (.agg #[(Fl r1), (Fl r3), (Fl r5)]), (Pt b35 0), (.agg #[(Fl r11), (Fl r13), (Fl r15)]), (Bo (sameV A_a.low A_b.low)), (Bo (!(sameV A_a.low A_b.low))), (Pt b28 3), (Fl r7), (Fd r53), (Pt b35 3), (Fl r17), (Fd r58), (Bo (sameF (cf .f64 r53) (cf .f64 r58))), (Bo (!(sameF (cf .f64 r53) (cf .f64 r58)))), (Pt b28 4), (Iv A_a.x), (Pt b35 4), (Iv A_b.x), Ud, Ud, Ud, Ud, Ud, Ud, Ud, Ud, Ud, Ud, Ud, Ud, Ud, Ud, Ud, Ud, Ud]) rfl rfl (does_load (u := (Iv A_b.x)) (ev rfl) Try.isAgg2 (Cells.at (Blk.cells ((((hB37.ext E45).ext E55).ext E60).ext E63)) 4 rfl)) rfl ?_
  refine q_is (l' := [(.agg #[(Fl r1), (Fl r3), (Fl r5), (Fl r7), (Iv A_a.x), (Iv A_a.y), (Iv A_a.z), (.slice p21 A_a.vals.length q22)]), (.agg #[(Fl r11), (Fl r13), (Fl r15), (Fl r17), (Iv A_b.x), (Iv A_b.y), (Iv A_b.z), (.slice p24 A_b.vals.length q25)]), (Pt b28 0), (Pt b35 0), (Bo false), (Pt b28 0), (.agg #[(Fl r1), (Fl r3), (Fl r5)]), (Pt b35 0), (.agg #[(Fl r11), (Fl r13), (Fl r15)]), (Bo (sameV A_a.low A_b.low)), (Bo (!(sameV A_a.low A_b.low))), (Pt b28 3), (Fl r7), (Fd r53), (Pt b35 3), (Fl r17), (Fd r58), (Bo (sameF (cf .f64 r53) (cf .f64 r58))), (Bo (!(sameF (cf .f64 r53) (cf .f64 r58)))), (Pt b28 4), (Iv A_a.x), (Pt b35 4), (Iv A_b.x), (Bo (icmp .neq A_a.x A_b.x)), Ud, Ud, Ud, Ud, Ud, Ud, Ud, Ud, Ud, Ud, Ud, Ud, Ud, Ud, Ud, Ud]) rfl rfl (does_icmp (p := A_a.x) (q := A_b.x) (.inr (.inl rfl)) (ev rfl) (ev rfl)) rfl ?_
  refine wpList_nil (hK70 _ _ ?_)
  refine wp_cond_split (t := icmp .neq A_a.x A_b.x) (ev rfl) (fun c71 => ?_) (fun c71 => ?_)
  · have c71' := c71
    (try simp only [icmp, Bool.and_eq_true, Bool.or_eq_true, Bool.and_eq_false_iff, Bool.or_eq_false_iff, Bool.not_eq_true', Bool.not_eq_false', decide_eq_true_eq, decide_eq_false_iff_not, beq_iff_eq, bne_iff_ne, beq_eq_false_iff_ne, bne_eq_false_iff_eq] at c71')
    refine wp_seq_k fun K72 hK72 => ?_
    refine wp_region_lit ?_
    refine q_is (l' := [(.agg #[(Fl r1), (Fl r3), (Fl r5), (Fl r7), (Iv A_a.x), (Iv A_a.y), (Iv A_a.z), (.slice p21 A_a.vals.length q22)]), (.agg #[(Fl r11), (Fl r13), (Fl r15), (Fl r17), (Iv A_b.x), (Iv A_b.y), (Iv A_b.z), (.slice p24 A_b.vals.length q25)]), (Pt b28 0), (Pt b35 0), (Bo false), (Pt b28 0), (.agg #[(Fl r1), (Fl r3), (Fl r5)]), (Pt b35 0), (.agg #[(Fl r11), (Fl r13), (Fl r15)]), (Bo (sameV A_a.low A_b.low)), (Bo (!(sameV A_a.low A_b.low))), (Pt b28 3), (Fl r7), (Fd r53), (Pt b35 3), (Fl r17), (Fd r58), (Bo (sameF (cf .f64 r53) (cf .f64 r58))), (Bo (!(sameF (cf .f64 r53) (cf .f64 r58)))), (Pt b28 4), (Iv A_a.x), (Pt b35 4), (Iv A_b.x), (Bo (icmp .neq A_a.x A_b.x)), Ud, Ud, Ud, Ud, Ud, Ud, Ud, Ud, Ud, Ud, Ud, Ud, Ud, Ud, Ud, Ud]) rfl rfl (does_assign (u := (Bo false)) (ev rfl)) rfl ?_
    refine wpList_nil (hK72 _ _ ?_)
    refine wp_ret ?_
    dsimp only [Exit.then, Exit.inBlock]
    refine ret_val (v := (Bo false)) (res_T rfl (slot rfl)) X65 ?_
    try simp only [h2, h4, h6, h8, h12, h14, h16, h18, h54, h59] at c48 c66 c71
    have x73 : (sameG A_a A_b) = false := by first | rfl | (simp only [sameG, icmp, h2, h4, h6, h8, h12, h14, h16, h18, h54, h59, c48, c66, c71]; done) | (simp [sameG, icmp, h2, h4, h6, h8, h12, h14, h16, h18, h54, h59, c48, c66, c71]; done) | (revert c48 c66 c71; simp +contextual [sameG, icmp, h2, h4, h6, h8, h12, h14, h16, h18, h54, h59]; done) | (rcases c48' with hh | hh <;> simp only [hh, sameG, icmp, h2, h4, h6, h8, h12, h14, h16, h18, h54, h59, c48, c66, c71]; done) | (rcases c66' with hh | hh <;> simp only [hh, sameG, icmp, h2, h4, h6, h8, h12, h14, h16, h18, h54, h59, c48, c66, c71]; done) | (rcases c71' with hh | hh <;> simp only [hh, sameG, icmp, h2, h4, h6, h8, h12, h14, h16, h18, h54, h59, c48, c66, c71]; done) | (rcases c71' with hh | hh <;> simp_all [sameG, icmp]; done) | (rcases c71' with hh | hh | hh <;> simp_all [sameG, icmp]; done) | (rcases c71' with hh | hh | hh | hh <;> simp_all [sameG, icmp]; done) | (simp_all [sameG, icmp]; done)
    exact (by first | rfl | rw [x73])
  have c71' := c71
  (try simp only [icmp, Bool.and_eq_true, Bool.or_eq_true, Bool.and_eq_false_iff, Bool.or_eq_false_iff, Bool.not_eq_true', Bool.not_eq_false', decide_eq_true_eq, decide_eq_false_iff_not, beq_iff_eq, bne_iff_ne, beq_eq_false_iff_ne, bne_eq_false_iff_eq] at c71')
  refine wp_skip (hK69 _ _ ?_)
  refine wp_seq_k fun K74 hK74 => ?_
  refine wp_seq_k fun K75 hK75 => ?_
  refine wp_region_lit ?_
  refine q_is (l' := [(.agg #[(Fl r1), (Fl r3), (Fl r5), (Fl r7), (Iv A_a.x), (Iv A_a.y), (Iv A_a.z), (.slice p21 A_a.vals.length q22)]), (.agg #[(Fl r11), (Fl r13), (Fl r15), (Fl r17), (Iv A_b.x), (Iv A_b.y), (Iv A_b.z), (.slice p24 A_b.vals.length q25)]), (Pt b28 0), (Pt b35 0), (Bo false), (Pt b28 0), (.agg #[(Fl r1), (Fl r3), (Fl r5)]), (Pt b35 0), (.agg #[(Fl r11), (Fl r13), (Fl r15)]), (Bo (sameV A_a.low A_b.low)), (Bo (!(sameV A_a.low A_b.low))), (Pt b28 3), (Fl r7), (Fd r53), (Pt b35 3), (Fl r17), (Fd r58), (Bo (sameF (cf .f64 r53) (cf .f64 r58))), (Bo (!(sameF (cf .f64 r53) (cf .f64 r58)))), (Pt b28 4), (Iv A_a.x), (Pt b35 4), (Iv A_b.x), (Bo (icmp .neq A_a.x A_b.x)), (Pt b28 5), Ud, Ud, Ud, Ud, Ud, Ud, Ud, Ud, Ud, Ud, Ud, Ud, Ud, Ud, Ud]) rfl rfl (does_fieldAddr (ev rfl) fa32_3) rfl ?_
  refine q_is (l' := [(.agg #[(Fl r1), (Fl r3), (Fl r5), (Fl r7), (Iv A_a.x), (Iv A_a.y), (Iv A_a.z), (.slice p21 A_a.vals.length q22)]), (.agg #[(Fl r11), (Fl r13), (Fl r15), (Fl r17), (Iv A_b.x), (Iv A_b.y), (Iv A_b.z), (.slice p24 A_b.vals.length q25)]), (Pt b28 0), (Pt b35 0), (Bo false), (Pt b28 0), (.agg #[(Fl r1), (Fl r3), (Fl r5)]), (Pt b35 0), (.agg #[(Fl r11), (Fl r13), (Fl r15)]), (Bo (sameV A_a.low A_b.low)), (Bo (!(sameV A_a.low A_b.low))), (Pt b28 3), (Fl r7), (Fd r53), (Pt b35 3), (Fl r17), (Fd r58), (Bo (sameF (cf .f64 r53) (cf .f64 r58))), (Bo (!(sameF (cf .f64 r53) (cf .f64 r58)))), (Pt b28 4), (Iv A_a.x), (Pt b35 4), (Iv A_b.x), (Bo (icmp .neq A_a.x A_b.x)), (Pt b28 5), (Iv A_a.y), Ud, Ud, Ud, Ud, Ud, Ud, Ud, Ud, Ud, Ud, Ud, Ud, Ud, Ud]) rfl rfl (does_load (u := (Iv A_a.y)) (ev rfl) Try.isAgg2 (Cells.at (Blk.cells (((((hB30.ext E38).ext E45).ext E55).ext E60).ext E63)) 5 rfl)) rfl ?_
  refine q_is (l' := [(.agg #[(Fl r1), (Fl r3), (Fl r5), (Fl r7), (Iv A_a.x), (Iv A_a.y), (Iv A_a.z), (.slice p21 A_a.vals.length q22)]), (.agg #[(Fl r11), (Fl r13), (Fl r15), (Fl r17), (Iv A_b.x), (Iv A_b.y), (Iv A_b.z), (.slice p24 A_b.vals.length q25)]), (Pt b28 0), (Pt b35 0), (Bo false), (Pt b28 0), (.agg #[(Fl r1), (Fl r3), (Fl r5)]), (Pt b35 0), (.agg #[(Fl r11), (Fl r13), (Fl r15)]), (Bo (sameV A_a.low A_b.low)), (Bo (!(sameV A_a.low A_b.low))), (Pt b28 3), (Fl r7), (Fd r53), (Pt b35 3), (Fl r17), (Fd r58), (Bo (sameF (cf .f64 r53) (cf .f64 r58))), (Bo (!(sameF (cf .f64 r53) (cf .f64 r58)))), (Pt b28 4), (Iv A_a.x), (Pt b35 4), (Iv A_b.x), (Bo (icmp .neq A_a.x A_b.x)), (Pt b28 5), (Iv A_a.y), (Pt b35 5), Ud, Ud, Ud, Ud, Ud, Ud, Ud, Ud, Ud, Ud, Ud, Ud, Ud]) rfl rfl (does_fieldAddr (ev rfl) fa32_3) rfl ?_
  refine q_is (l' := [(.agg #[(Fl r1), (Fl r3), (Fl r5), (Fl r7), (Iv A_a.x), (Iv A_a.y), (Iv A_a.z), (.slice p21 A_a.vals.length q22)]), (.agg #[(Fl r11), (Fl r13), (Fl r15), (Fl r17), (Iv A_b.x), (Iv A_b.y), (Iv A_b.z), (.slice p24 A_b.vals.length q25)]), (Pt b28 0), (Pt b35 0), (Bo false), (Pt b28 0), (.agg #[(Fl r1), (Fl r3), (Fl r5)]), (Pt b35 0), (.agg #[(Fl r11), (Fl r13), (Fl r15)]), (Bo (sameV A_a.low A_b.low)), (Bo (!(sameV A_a.low A_b.low))), (Pt b28 3), (Fl r7), (Fd r53), (Pt b35 3), (Fl r17), (Fd r58), (Bo (sameF (cf .f64 r53) (cf .f64 r58))), (Bo (!(sameF (cf .f64 r53) (cf .f64 r58)))), (Pt b28 4), (Iv A_a.x), (Pt b35 4), (Iv A_b.x), (Bo (icmp .neq A_a.x A_b.x)), (Pt b28 5), (Iv A_a.y), (Pt b35 5), (Iv A_b.y), Ud, Ud, Ud, Ud, Ud, Ud, Ud, Ud, Ud, Ud, Ud, Ud]) rfl rfl (does_load (u := (Iv A_b.y)) (ev rfl) Try.isAgg2 (Cells.at (Blk.cells ((((hB37.ext E45).ext E55).ext E60).ext E63)) 5 rfl)) rfl ?_
  refine q_is (l' := [(.agg #[(Fl r1), (Fl r3), (Fl r5), (Fl r7), (Iv A_a.x), (Iv A_a.y), (Iv A_a.z), (.slice p21 A_a.vals.length q22)]), (.agg #[(Fl r11), (Fl r13), (Fl r15), (Fl r17), (Iv A_b.x), (Iv A_b.y), (Iv A_b.z), (.slice p24 A_b.vals.length q25)]), (Pt b28 0), (Pt b35 0), (Bo false), (Pt b28 0), (.agg #[(Fl r1), (Fl r3), (Fl r5)]), (Pt b35 0), (.agg #[(Fl r11), (Fl r13), (Fl r15)]), (Bo (sameV A_a.low A_b.low)), (Bo (!(sameV A_a.low A_b.low))), (Pt b28 3), (Fl r7), (Fd r53), (Pt b35 3), (Fl r17), (Fd r58), (Bo (sameF (cf .f64 r53) (cf .f64 r58))), (Bo (!(sameF (cf .f64 r53) (cf .f64 r58)))), (Pt b28 4), (Iv A_a.x), (Pt b35 4), (Iv A_b.x), (Bo (icmp .neq A_a.x A_b.x)), (Pt b28 5), (Iv A_a.y), (Pt b35 5), (Iv A_b.y), (Bo (icmp .neq A_a.y A_b.y)), Ud, Ud, Ud, Ud, Ud, Ud, Ud, Ud, Ud, Ud, Ud]) rfl rfl (does_icmp (p := A_a.y) (q := A_b.y) (.inr (.inl rfl)) (ev rfl) (ev rfl)) rfl ?_
  refine wpList_nil (hK75 _ _ ?_)
  refine wp_cond_split (t := icmp .neq A_a.y A_b.y) (ev rfl) (fun c76 => ?_) (fun c76 => ?_)
  · have c76' := c76
    (try simp only [icmp, Bool.and_eq_true, Bool.or_eq_true, Bool.and_eq_false_iff, Bool.or_eq_false_iff, Bool.not_eq_true', Bool.not_eq_false', decide_eq_true_eq, decide_eq_false_iff_not, beq_iff_eq, bne_iff_ne, beq_eq_false_iff_ne, bne_eq_false_iff_eq] at c76')
    refine wp_seq_k fun K77 hK77 => ?_
    refine wp_region_lit ?_
    refine q_is (l' := [(.agg #[(Fl r1), (Fl r3), (Fl r5), (Fl r7), (Iv A_a.x), (Iv A_a.y), (Iv A_a.z), (.slice p21 A_a.vals.length q22)]), (.agg #[(Fl r11), (Fl r13), (Fl r15), (Fl r17), (Iv A_b.x), (Iv A_b.y), (Iv A_b.z), (.slice p24 A_b.vals.length q25)]), (Pt b28 0), (Pt b35 0), (Bo false), (Pt b28 0), (.agg #[(Fl r1), (Fl r3), (Fl r5)]), (Pt b35 0), (.agg #[(Fl r11), (Fl r13), (Fl r15)]), (Bo (sameV A_a.low A_b.low)), (Bo (!(sameV A_a.low A_b.low))), (Pt b28 3), (Fl r7), (Fd r53), (Pt b35 3), (Fl r17), (Fd r58), (Bo (sameF (cf .f64 r53) (cf .f64 r58))), (Bo (!(sameF (cf .f64 r53) (cf .f64 r58)))), (Pt b28 4), (Iv A_a.x), (Pt b35 4), (Iv A_b.x), (Bo (icmp .neq A_a.x A_b.x)), (Pt b28 5), (Iv A_a.y), (Pt b35 5), (Iv A_b.y), (Bo (icmp .neq A_a.y A_b.y)), Ud, Ud, Ud, Ud, Ud, Ud, Ud, Ud, Ud, Ud, Ud]) rfl rfl (does_assign (u := (Bo false)) (ev rfl)) rfl ?_
    refine wpList_nil (hK77 _ _ ?_)
    refine wp_ret ?_
    dsimp only [Exit.then, Exit.inBlock]
    refine ret_val (v := (Bo false)) (res_T rfl (slot rfl)) X65 ?_
    try simp only [h2, h4, h6, h8, h12, h14, h16, h18, h54, h59] at c48 c66 c71 c76
    have x78 : (sameG A_a A_b) = false := by first | rfl | (simp only [sameG, icmp, h2, h4, h6, h8, h12, h14, h16, h18, h54, h59, c48, c66, c71, c76]; done) | (simp [sameG, icmp, h2, h4, h6, h8, h12, h14, h16, h18, h54, h59, c48, c66, c71, c76]; done) | (revert c48 c66 c71 c76; simp +contextual [sameG, icmp, h2, h4, h6, h8, h12, h14, h16, h18, h54, h59]; done) | (rcases c48' with hh | hh <;> simp only [hh, sameG, icmp, h2, h4, h6, h8, h12, h14, h16, h18, h54, h59, c48, c66, c71, c76]; done) | (rcases c66' with hh | hh <;> simp only [hh, sameG, icmp, h2, h4, h6, h8, h12, h14, h16, h18, h54, h59, c48, c66, c71, c76]; done) | (rcases c71' with hh | hh <;> simp only [hh, sameG, icmp, h2, h4, h6, h8, h12, h14, h16, h18, h54, h59, c48, c66, c71, c76]; done) | (rcases c76' with hh | hh <;> simp only [hh, sameG, icmp, h2, h4, h6, h8, h12, h14, h16, h18, h54, h59, c48, c66, c71, c76]; done) | (rcases c76' with hh | hh <;> simp_all [sameG, icmp]; done) | (rcases c76' with hh | hh | hh <;> simp_all [sameG, icmp]; done) | (rcases c76' with hh | hh | hh | hh <;> simp_all [sameG, icmp]; done) | (simp_all [sameG, icmp]; done)
    exact (by first | rfl | rw [x78])
  have c76' := c76
  (try simp only [icmp, Bool.and_eq_true, Bool.or_eq_true, Bool.and_eq_false_iff, Bool.or_eq_false_iff, Bool.not_eq_true', Bool.not_eq_false', decide_eq_true_eq, decide_eq_false_iff_not, beq_iff_eq, bne_iff_ne, beq_eq_false_iff_ne, bne_eq_false_iff_eq] at c76')
  refine wp_skip (hK74 _ _ ?_)
  refine wp_seq_k fun K79 hK79 => ?_
  refine wp_seq_k fun K80 hK80 => ?_
  refine wp_region_lit ?_
  refine q_is (l' := [(.agg #[(Fl r1), (Fl r3), (Fl r5), (Fl r7), (Iv A_a.x), (Iv A_a.y), (Iv A_a.z), (.slice p21 A_a.vals.length q22)]), (.agg #[(Fl r11), (Fl r13), (Fl r15), (Fl r17), (Iv A_b.x), (Iv A_b.y), (Iv A_b.z), (.slice p24 A_b.vals.length q25)]), (Pt b28 0), (Pt b35 0), (Bo false), (Pt b28 0), (.agg #[(Fl r1), (Fl r3), (Fl r5)]), (Pt b35 0), (.agg #[(Fl r11), (Fl r13), (Fl r15)]), (Bo (sameV A_a.low A_b.low)), (Bo (!(sameV A_a.low A_b.low))), (Pt b28 3), (Fl r7), (Fd r53), (Pt b35 3), (Fl r17), (Fd r58), (Bo (sameF (cf .f64 r53) (cf .f64 r58))), (Bo (!(sameF (cf .f64 r53) (cf .f64 r58)))), (Pt b28 4), (Iv A_a.x), (Pt b35 4), (Iv A_b.x), (Bo (icmp .neq A_a.x A_b.x)), (Pt b28 5), (Iv A_a.y), (Pt b35 5), (Iv A_b.y), (Bo (icmp .neq A_a.y A_b.y)), (Pt b28 6), Ud, Ud, Ud, Ud, Ud, Ud, Ud, Ud, Ud, Ud]) rfl rfl (does_fieldAddr (ev rfl) fa32_4) rfl ?_
  refine q_is (l' := [(.agg #[(Fl r1), (Fl r3), (Fl r5), (Fl r7), (Iv A_a.x), (Iv A_a.y), (Iv A_a.z), (.slice p21 A_a.vals.length q22)]), (.agg #[(Fl r11), (Fl r13), (Fl r15), (Fl r17), (Iv A_b.x), (Iv A_b.y), (Iv A_b.z), (.slice p24 A_b.vals.length q25)]), (Pt b28 0), (Pt b35 0), (Bo false), (Pt b28 0), (.agg #[(Fl r1), (Fl r3), (Fl r5)]), (Pt b35 0), (.agg #[(Fl r11), (Fl r13), (Fl r15)]), (Bo (sameV A_a.low A_b.low)), (Bo (!(sameV A_a.low A_b.low))), (Pt b28 3), (Fl r7), (Fd r53), (Pt b35 3), (Fl r17), (Fd r58), (Bo (sameF (cf .f64 r53) (cf .f64 r58))), (Bo (!(sameF (cf .f64 r53) (cf .f64 r58)))), (Pt b28 4), (Iv A_a.x), (Pt b35 4), (Iv A_b.x), (Bo (icmp .neq A_a.x A_b.x)), (Pt b28 5), (Iv A_a.y), (Pt b35 5), (Iv A_b.y), (Bo (icmp .neq A_a.y A_b.y)), (Pt b28 6), (Iv A_a.z), Ud, Ud, Ud, Ud, Ud, Ud, Ud, Ud, Ud]) rfl rfl (does_load (u := (Iv A_a.z)) (ev rfl) Try.isAgg2 (Cells.at (Blk.cells (((((hB30.ext E38).ext E45).ext E55).ext E60).ext E63)) 6 rfl)) rfl ?_
  refine q_is (l' := [(.agg #[(Fl r1), (Fl r3), (Fl r5), (Fl r7), (Iv A_a.x), (Iv A_a.y), (Iv A_a.z), (.slice p21 A_a.vals.length q22)]), (.agg #[(Fl r11), (Fl r13), (Fl r15), (Fl r17), (Iv A_b.x), (Iv A_b.y), (Iv A_b.z), (.slice p24 A_b.vals.length q25)]), (Pt b28 0), (Pt b35 0), (Bo false), (Pt b28 0), (.agg #[(Fl r1), (Fl r3), (Fl r5)]), (Pt b35 0), (.agg #[(Fl r11), (Fl r13), (Fl r15)]), (Bo (sameV A_a.low A_b.low)), (Bo (!(sameV A_a.low A_b.low))), (Pt b28 3), (Fl r7), (Fd r53), (Pt b35 3), (Fl r17), (Fd r58), (Bo (sameF (cf .f64 r53) (cf .f64 r58))), (Bo (!(sameF (cf .f64 r53) (cf .f64 r58)))), (Pt b28 4), (Iv A_a.x), (Pt b35 4), (Iv A_b.x), (Bo (icmp .neq A_a.x A_b.x)), (Pt b28 5), (Iv A_a.y), (Pt b35 5), (Iv A_b.y), (Bo (icmp .neq A_a.y A_b.y)), (Pt b28 6), (Iv A_a.z), (Pt b35 6), Ud, Ud, Ud, Ud, Ud, Ud, Ud, Ud]) rfl rfl (does_fieldAddr (ev rfl) fa32_4) rfl ?_
  refine q_is (l' := [(.agg #[(Fl r1), (Fl r3), (Fl r5), (Fl r7), (Iv A_a.x), (Iv A_a.y), (Iv A_a.z), (.slice p21 A_a.vals.length q22)]), (.agg #[(Fl r11), (Fl r13), (Fl r15), (Fl r17), (Iv A_b.x), (Iv A_b.y), (Iv A_b.z), (.slice p24 A_b.vals.length q25)]), (Pt b28 0), (Pt b35 0), (Bo false), (Pt b28 0), (.agg #[(Fl r1), (Fl r3), (Fl r5)]), (Pt b35 0), (.agg #[(Fl r11), (Fl r13), (Fl r15)]), (Bo (sameV A_a.low A_b.low)), (Bo (!(sameV A_a.low A_b.low))), (Pt b28 3), (Fl r7), (Fd r53), (Pt b35 3), (Fl r17), (Fd r58), (Bo (sameF (cf .f64 r53) (cf .f64 r58))), (Bo (!(sameF (cf .f64 r53) (cf .f64 r58)))), (Pt b28 4), (Iv A_a.x), (Pt b35 4), (Iv A_b.x), (Bo (icmp .neq A_a.x A_b.x)), (Pt b28 5), (Iv A_a.y), (Pt b35 5), (Iv A_b.y), (Bo (icmp .neq A_a.y A_b.y)), (Pt b28 6), (Iv A_a.z), (Pt b35 6), (Iv A_b.z), Ud, Ud, Ud, Ud, Ud, Ud, Ud]) rfl rfl (does_load (u := (Iv A_b.z)) (ev rfl) Try.isAgg2 (Cells.at (Blk.cells ((((hB37.ext E45).ext E55).ext E60).ext E63)) 6 rfl)) rfl ?_
  refine q_is (l' := [(.agg #[(Fl r1), (Fl r3), (Fl r5), (Fl r7), (Iv A_a.x), (Iv A_a.y), (Iv A_a.z), (.slice p21 A_a.vals.length q22)]), (.agg #[(Fl r11), (Fl r13), (Fl r15), (Fl r17), (Iv A_b.x), (Iv A_b.y), (Iv A_b.z), (.slice p24 A_b.vals.length q25)]), (Pt b28 0), (Pt b35 0), (Bo false), (Pt b28 0), (.agg #[(Fl r1), (Fl r3), (Fl r5)]), (Pt b35 0), (.agg #[(Fl r11), (Fl r13), (Fl r15)]), (Bo (sameV A_a.low A_b.low)), (Bo (!(sameV A_a.low A_b.low))), (Pt b28 3), (Fl r7), (Fd r53), (Pt b35 3), (Fl r17), (Fd r58), (Bo (sameF (cf .f64 r53) (cf .f64 r58))), (Bo (!(sameF (cf .f64 r53) (cf .f64 r58)))), (Pt b28 4), (Iv A_a.x), (Pt b35 4), (Iv A_b.x), (Bo (icmp .neq A_a.x A_b.x)), (Pt b28 5), (Iv A_a.y), (Pt b35 5), (Iv A_b.y), (Bo (icmp .neq A_a.y A_b.y)), (Pt b28 6), (Iv A_a.z), (Pt b35 6), (Iv A_b.z), (Bo (icmp .neq A_a.z A_b.z)), Ud, Ud, Ud, Ud, Ud, Ud]) rfl rfl (does_icmp (p := A_a.z) (q := A_b.z) (.inr (.inl rfl)) (ev rfl) (ev rfl)) rfl ?_
  refine wpList_nil (hK80 _ _ ?_)
  refine wp_cond_split (t := icmp .neq A_a.z A_b.z) (ev rfl) (fun c81 => ?_) (fun c81 => ?_)
  · have c81' := c81
    (try simp only [icmp, Bool.and_eq_true, Bool.or_eq_true, Bool.and_eq_false_iff, Bool.or_eq_false_iff, Bool.not_eq_true', Bool.not_eq_false', decide_eq_true_eq, decide_eq_false_iff_not, beq_iff_eq, bne_iff_ne, beq_eq_false_iff_ne, bne_eq_false_iff_eq] at c81')
    refine wp_seq_k fun K82 hK82 => ?_
    refine wp_region_lit ?_
    refine q_is (l' := [(.agg #[(Fl r1), (Fl r3), (Fl r5), (Fl r7), (Iv A_a.x), (Iv A_a.y), (Iv A_a.z), (.slice p21 A_a.vals.length q22)]), (.agg #[(Fl r11), (Fl r13), (Fl r15), (Fl r17), (Iv A_b.x), (Iv A_b.y), (Iv A_b.z), (.slice p24 A_b.vals.length q25)]), (Pt b28 0), (Pt b35 0), (Bo false), (Pt b28 0), (.agg #[(Fl r1), (Fl r3), (Fl r5)]), (Pt b35 0), (.agg #[(Fl r11), (Fl r13), (Fl r15)]), (Bo (sameV A_a.low A_b.low)), (Bo (!(sameV A_a.low A_b.low))), (Pt b28 3), (Fl r7), (Fd r53), (Pt b35 3), (Fl r17), (Fd r58), (Bo (sameF (cf .f64 r53) (cf .f64 r58))), (Bo (!(sameF (cf .f64 r53) (cf .f64 r58)))), (Pt b28 4), (Iv A_a.x), (Pt b35 4), (Iv A_b.x), (Bo (icmp .neq A_a.x A_b.x)), (Pt b28 5), (Iv A_a.y), (Pt b35 5), (Iv A_b.y), (Bo (icmp .neq A_a.y A_b.y)), (Pt b28 6), (Iv A_a.z), (Pt b35 6), (Iv A_b.z), (Bo (icmp .neq A_a.z A_b.z)), Ud, Ud, Ud, Ud, Ud, Ud]) rfl rfl (does_assign (u := (Bo false)) (ev rfl)) rfl ?_
    refine wpList_nil (hK82 _ _ ?_)
    refine wp_ret ?_
    dsimp only [Exit.then, Exit.inBlock]
    refine ret_val (v := (Bo false)) (res_T rfl (slot rfl)) X65 ?_
    try simp only [h2, h4, h6, h8, h12, h14, h16, h18, h54, h59] at c48 c66 c71 c76 c81
    have x83 : (sameG A_a A_b) = false := by first | rfl | (simp only [sameG, icmp, h2, h4, h6, h8, h12, h14, h16, h18, h54, h59, c48, c66, c71, c76, c81]; done) | (simp [sameG, icmp, h2, h4, h6, h8, h12, h14, h16, h18, h54, h59, c48, c66, c71, c76, c81]; done) | (revert c48 c66 c71 c76 c81; simp +contextual [sameG, icmp, h2, h4, h6, h8, h12, h14, h16, h18, h54, h59]; done) | (rcases c48' with hh | hh <;> simp only [hh, sameG, icmp, h2, h4, h6, h8, h12, h14, h16, h18, h54, h59, c48, c66, c71, c76, c81]; done) | (rcases c66' with hh | hh <;> simp only [hh, sameG, icmp, h2, h4, h6, h8, h12, h14, h16, h18, h54, h59, c48, c66, c71, c76, c81]; done) | (rcases c71' with hh | hh <;> simp only [hh, sameG, icmp, h2, h4, h6, h8, h12, h14, h16, h18, h54, h59, c48, c66, c71, c76, c81]; done) | (rcases c76' with hh | hh <;> simp only [hh, sameG, icmp, h2, h4, h6, h8, h12, h14, h16, h18, h54, h59, c48, c66, c71, c76, c81]; done) | (rcases c81' with hh | hh <;> simp only [hh, sameG, icmp, h2, h4, h6, h8, h12, h14, h16, h18, h54, h59, c48, c66, c71, c76, c81]; done) | (rcases c81' with hh | hh <;> simp_all [sameG, icmp]; done) | (rcases c81' with hh | hh | hh <;> simp_all [sameG, icmp]; done) | (rcases c81' with hh | hh | hh | hh <;> simp_all [sameG, icmp]; done) | (simp_all [sameG, icmp]; done)
    exact (by first | rfl | rw [x83])
  have c81' := c81
  (try simp only [icmp, Bool.and_eq_true, Bool.or_eq_true, Bool.and_eq_false_iff, Bool.or_eq_false_iff, Bool.not_eq_true', Bool.not_eq_false', decide_eq_true_eq, decide_eq_false_iff_not, beq_iff_eq, bne_iff_ne, beq_eq_false_iff_ne, bne_eq_false_iff_eq] at c81')
  refine wp_skip (hK79 _ _ ?_)
  refine wp_seq_k fun K84 hK84 => ?_
  refine wp_seq_k fun K85 hK85 => ?_
  refine wp_region_lit ?_
  refine q_is (l' := [(.agg #[(Fl r1), (Fl r3), (Fl r5), (Fl r7), (Iv A_a.x), (Iv A_a.y), (Iv A_a.z), (.slice p21 A_a.vals.length q22)]), (.agg #[(Fl r11), (Fl r13), (Fl r15), (Fl r17), (Iv A_b.x), (Iv A_b.y), (Iv A_b.z), (.slice p24 A_b.vals.length q25)]), (Pt b28 0), (Pt b35 0), (Bo false), (Pt b28 0), (.agg #[(Fl r1), (Fl r3), (Fl r5)]), (Pt b35 0), (.agg #[(Fl r11), (Fl r13), (Fl r15)]), (Bo (sameV A_a.low A_b.low)), (Bo (!(sameV A_a.low A_b.low))), (Pt b28 3), (Fl r7), (Fd r53), (Pt b35 3), (Fl r17), (Fd r58), (Bo (sameF (cf .f64 r53) (cf .f64 r58))), (Bo (!(sameF (cf .f64 r53) (cf .f64 r58)))), (Pt b28 4), (Iv A_a.x), (Pt b35 4), (Iv A_b.x), (Bo (icmp .neq A_a.x A_b.x)), (Pt b28 5), (Iv A_a.y), (Pt b35 5), (Iv A_b.y), (Bo (icmp .neq A_a.y A_b.y)), (Pt b28 6), (Iv A_a.z), (Pt b35 6), (Iv A_b.z), (Bo (icmp .neq A_a.z A_b.z)), (Pt b28 7), Ud, Ud, Ud, Ud, Ud]) rfl rfl (does_fieldAddr (ev rfl) fa32_5) rfl ?_
  refine q_is (l' := [(.agg #[(Fl r1), (Fl r3), (Fl r5), (Fl r7), (Iv A_a.x), (Iv A_a.y), (Iv A_a.z), (.slice p21 A_a.vals.length q22)]), (.agg #[(Fl r11), (Fl r13), (Fl r15), (Fl r17), (Iv A_b.x), (Iv A_b.y), (Iv A_b.z), (.slice p24 A_b.vals.length q25)]), (Pt b28 0), (Pt b35 0), (Bo false), (Pt b28 0), (.agg #[(Fl r1), (Fl r3), (Fl r5)]), (Pt b35 0), (.agg #[(Fl r11), (Fl r13), (Fl r15)]), (Bo (sameV A_a.low A_b.low)), (Bo (!(sameV A_a.low A_b.low))), (Pt b28 3), (Fl r7), (Fd r53), (Pt b35 3), (Fl r17), (Fd r58), (Bo (sameF (cf .f64 r53) (cf .f64 r58))), (Bo (!(sameF (cf .f64 r53) (cf .f64 r58)))), (Pt b28 4), (Iv A_a.x), (Pt b35 4), (Iv A_b.x), (Bo (icmp .neq A_a.x A_b.x)), (Pt b28 5), (Iv A_a.y), (Pt b35 5), (Iv A_b.y), (Bo (icmp .neq A_a.y A_b.y)), (Pt b28 6), (Iv A_a.z), (Pt b35 6), (Iv A_b.z), (Bo (icmp .neq A_a.z A_b.z)), (Pt b28 7), (.slice p21 A_a.vals.length q22), Ud, Ud, Ud, Ud]) rfl rfl (does_load (u := (.slice p21 A_a.vals.length q22)) (ev rfl) Try.isAgg25 (Cells.at (Blk.cells (((((hB30.ext E38).ext E45).ext E55).ext E60).ext E63)) 7 rfl)) rfl ?_
  refine q_is (l' := [(.agg #[(Fl r1), (Fl r3), (Fl r5), (Fl r7), (Iv A_a.x), (Iv A_a.y), (Iv A_a.z), (.slice p21 A_a.vals.length q22)]), (.agg #[(Fl r11), (Fl r13), (Fl r15), (Fl r17), (Iv A_b.x), (Iv A_b.y), (Iv A_b.z), (.slice p24 A_b.vals.length q25)]), (Pt b28 0), (Pt b35 0), (Bo false), (Pt b28 0), (.agg #[(Fl r1), (Fl r3), (Fl r5)]), (Pt b35 0), (.agg #[(Fl r11), (Fl r13), (Fl r15)]), (Bo (sameV A_a.low A_b.low)), (Bo (!(sameV A_a.low A_b.low))), (Pt b28 3), (Fl r7), (Fd r53), (Pt b35 3), (Fl r17), (Fd r58), (Bo (sameF (cf .f64 r53) (cf .f64 r58))), (Bo (!(sameF (cf .f64 r53) (cf .f64 r58)))), (Pt b28 4), (Iv A_a.x), (Pt b35 4), (Iv A_b.x), (Bo (icmp .neq A_a.x A_b.x)), (Pt b28 5), (Iv A_a.y), (Pt b35 5), (Iv A_b.y), (Bo (icmp .neq A_a.y A_b.y)), (Pt b28 6), (Iv A_a.z), (Pt b35 6), (Iv A_b.z), (Bo (icmp .neq A_a.z A_b.z)), (Pt b28 7), (.slice p21 A_a.vals.length q22), (Pt b35 7), Ud, Ud, Ud]) rfl rfl (does_fieldAddr (ev rfl) fa32_5) rfl ?_
  refine q_is (l' := [(.agg #[(Fl r1), (Fl r3), (Fl r5), (Fl r7), (Iv A_a.x), (Iv A_a.y), (Iv A_a.z), (.slice p21 A_a.vals.length q22)]), (.agg #[(Fl r11), (Fl r13), (Fl r15), (Fl r17), (Iv A_b.x), (Iv A_b.y), (Iv A_b.z), (.slice p24 A_b.vals.length q25)]), (Pt b28 0), (Pt b35 0), (Bo false), (Pt b28 0), (.agg #[(Fl r1), (Fl r3), (Fl r5)]), (Pt b35 0), (.agg #[(Fl r11), (Fl r13), (Fl r15)]), (Bo (sameV A_a.low A_b.low)), (Bo (!(sameV A_a.low A_b.low))), (Pt b28 3), (Fl r7), (Fd r53), (Pt b35 3), (Fl r17), (Fd r58), (Bo (sameF (cf .f64 r53) (cf .f64 r58))), (Bo (!(sameF (cf .f64 r53) (cf .f64 r58)))), (Pt b28 4), (Iv A_a.x), (Pt b35 4), (Iv A_b.x), (Bo (icmp .neq A_a.x A_b.x)), (Pt b28 5), (Iv A_a.y), (Pt b35 5), (Iv A_b.y), (Bo (icmp .neq A_a.y A_b.y)), (Pt b28 6), (Iv A_a.z), (Pt b35 6), (Iv A_b.z), (Bo (icmp .neq A_a.z A_b.z)), (Pt b28 7), (.slice p21 A_a.vals.length q22), (Pt b35 7), (.slice p24 A_b.vals.length q25), Ud, Ud]) rfl rfl (does_load (u := (.slice p24 A_b.vals.length q25)) (ev rfl) Try.isAgg25 (Cells.at (Blk.cells ((((hB37.ext E45).ext E55).ext E60).ext E63)) 7 rfl)) rfl ?_
  refine seqd rfl rfl (does_call (args := #[(.slice p21 A_a.vals.length q22), (.slice p24 A_b.vals.length q25)]) cal67 (evs rfl) (c_laws_eqFloat32S (.slice p21 A_a.vals.length q22) A_a.vals (.slice p24 A_b.vals.length q25) A_b.vals _ (Sl.ext hs23 RF.mono X65) (Sl.ext hs26 RF.mono X65))) ?_; rintro _ w87 ⟨E86, rfl⟩
  have X88 := Ext.gr X65 E86
  show wpList _ _ _ _ (fr [(.agg #[(Fl r1), (Fl r3), (Fl r5), (Fl r7), (Iv A_a.x), (Iv A_a.y), (Iv A_a.z), (.slice p21 A_a.vals.length q22)]), (.agg #[(Fl r11), (Fl r13), (Fl r15), (Fl r17), (Iv A_b.x), (Iv A_b.y), (Iv A_b.z), (.slice p24 A_b.vals.length q25)]), (Pt b28 0), (Pt b35 0), (Bo false), (Pt b28 0), (.agg #[(Fl r1), (Fl r3), (Fl r5)]), (Pt b35 0), (.agg #[(Fl r11), (Fl r13), (Fl r15)]), (Bo (sameV A_a.low A_b.low)), (Bo (!(sameV A_a.low A_b.low))), (Pt b28 3), (Fl r7), (Fd r53), (Pt b35 3), (Fl r17), (Fd r58), (Bo (sameF (cf .f64 r53) (cf .f64 r58))), (Bo (!(sameF (cf .f64 r53) (cf .f64 r58)))), (Pt b28 4), (Iv A_a.x), (Pt b35 4), (Iv A_b.x), (Bo (icmp .neq A_a.x A_b.x)), (Pt b28 5), (Iv A_a.y), (Pt b35 5), (Iv A_b.y), (Bo (icmp .neq A_a.y A_b.y)), (Pt b28 6), (Iv A_a.z), (Pt b35 6), (Iv A_b.z), (Bo (icmp .neq A_a.z A_b.z)), (Pt b28 7), (.slice p21 A_a.vals.length q22), (Pt b35 7), (.slice p24 A_b.vals.length q25), (Bo (sameL A_a.vals A_b.vals)), Ud]) _
  refine q_is (l' := [(.agg #[(Fl r1), (Fl r3), (Fl r5), (Fl r7), (Iv A_a.x), (Iv A_a.y), (Iv A_a.z), (.slice p21 A_a.vals.length q22)]), (.agg #[(Fl r11), (Fl r13), (Fl r15), (Fl r17), (Iv A_b.x), (Iv A_b.y), (Iv A_b.z), (.slice p24 A_b.vals.length q25)]), (Pt b28 0), (Pt b35 0), (Bo false), (Pt b28 0), (.agg #[(Fl r1), (Fl r3), (Fl r5)]), (Pt b35 0), (.agg #[(Fl r11), (Fl r13), (Fl r15)]), (Bo (sameV A_a.low A_b.low)), (Bo (!(sameV A_a.low A_b.low))), (Pt b28 3), (Fl r7), (Fd r53), (Pt b35 3), (Fl r17), (Fd r58), (Bo (sameF (cf .f64 r53) (cf .f64 r58))), (Bo (!(sameF (cf .f64 r53) (cf .f64 r58)))), (Pt b28 4), (Iv A_a.x), (Pt b35 4), (Iv A_b.x), (Bo (icmp .neq A_a.x A_b.x)), (Pt b28 5), (Iv A_a.y), (Pt b35 5), (Iv A_b.y), (Bo (icmp .neq A_a.y A_b.y)), (Pt b28 6), (Iv A_a.z), (Pt b35 6), (Iv A_b.z), (Bo (icmp .neq A_a.z A_b.z)), (Pt b28 7), (.slice p21 A_a.vals.length q22), (Pt b35 7), (.slice p24 A_b.vals.length q25), (Bo (sameL A_a.vals A_b.vals)), (Bo (!(sameL A_a.vals A_b.vals)))]) rfl rfl (does_not (ev rfl)) rfl ?_
  refine wpList_nil (hK85 _ _ ?_)
  refine wp_cond_split (t := !(sameL A_a.vals A_b.vals)) (ev rfl) (fun c89 => ?_) (fun c89 => ?_)
  · rw [Bool.not_eq_true'] at c89
    have c89' := c89
    refine wp_seq_k fun K90 hK90 => ?_
    refine wp_region_lit ?_
    refine q_is (l' := [(.agg #[(Fl r1), (Fl r3), (Fl r5), (Fl r7), (Iv A_a.x), (Iv A_a.y), (Iv A_a.z), (.slice p21 A_a.vals.length q22)]), (.agg #[(Fl r11), (Fl r13), (Fl r15), (Fl r17), (Iv A_b.x), (Iv A_b.y), (Iv A_b.z), (.slice p24 A_b.vals.length q25)]), (Pt b28 0), (Pt b35 0), (Bo false), (Pt b28 0), (.agg #[(Fl r1), (Fl r3), (Fl r5)]), (Pt b35 0), (.agg #[(Fl r11), (Fl r13), (Fl r15)]), (Bo (sameV A_a.low A_b.low)), (Bo (!(sameV A_a.low A_b.low))), (Pt b28 3), (Fl r7), (Fd r53), (Pt b35 3), (Fl r17), (Fd r58), (Bo (sameF (cf .f64 r53) (cf .f64 r58))), (Bo (!(sameF (cf .f64 r53) (cf .f64 r58)))), (Pt b28 4), (Iv A_a.x), (Pt b35 4), (Iv A_b.x), (Bo (icmp .neq A_a.x A_b.x)), (Pt b28 5), (Iv A_a.y), (Pt b35 5), (Iv A_b.y), (Bo (icmp .neq A_a.y A_b.y)), (Pt b28 6), (Iv A_a.z), (Pt b35 6), (Iv A_b.z), (Bo (icmp .neq A_a.z A_b.z)), (Pt b28 7), (.slice p21 A_a.vals.length q22), (Pt b35 7), (.slice p24 A_b.vals.length q25), (Bo (sameL A_a.vals A_b.vals)), (Bo (!(sameL A_a.vals A_b.vals)))]) rfl rfl (does_assign (u := (Bo false)) (ev rfl)) rfl ?_
    refine wpList_nil (hK90 _ _ ?_)
    refine wp_ret ?_
    dsimp only [Exit.then, Exit.inBlock]
    refine ret_val (v := (Bo false)) (res_T rfl (slot rfl)) X88 ?_
    try simp only [h2, h4, h6, h8, h12, h14, h16, h18, h54, h59] at c48 c66 c71 c76 c81 c89
    have x91 : (sameG A_a A_b) = false := by first | rfl | (simp only [sameG, icmp, h2, h4, h6, h8, h12, h14, h16, h18, h54, h59, c48, c66, c71, c76, c81, c89]; done) | (simp [sameG, icmp, h2, h4, h6, h8, h12, h14, h16, h18, h54, h59, c48, c66, c71, c76, c81, c89]; done) | (revert c48 c66 c71 c76 c81 c89; simp +contextual [sameG, icmp, h2, h4, h6, h8, h12, h14, h16, h18, h54, h59]; done) | (rcases c48' with hh | hh <;> simp only [hh, sameG, icmp, h2, h4, h6, h8, h12, h14, h16, h18, h54, h59, c48, c66, c71, c76, c81, c89]; done) | (rcases c66' with hh | hh <;> simp only [hh, sameG, icmp, h2, h4, h6, h8, h12, h14, h16, h18, h54, h59, c48, c66, c71, c76, c81, c89]; done) | (rcases c71' with hh | hh <;> simp only [hh, sameG, icmp, h2, h4, h6, h8, h12, h14, h16, h18, h54, h59, c48, c66, c71, c76, c81, c89]; done) | (rcases c76' with hh | hh <;> simp only [hh, sameG, icmp, h2, h4, h6, h8, h12, h14, h16, h18, h54, h59, c48, c66, c71, c76, c81, c89]; done) | (rcases c81' with hh | hh <;> simp only [hh, sameG, icmp, h2, h4, h6, h8, h12, h14, h16, h18, h54, h59, c48, c66, c71, c76, c81, c89]; done) | (rcases c89' with hh | hh <;> simp only [hh, sameG, icmp, h2, h4, h6, h8, h12, h14, h16, h18, h54, h59, c48, c66, c71, c76, c81, c89]; done) | (rcases c89' with hh | hh <;> simp_all [sameG, icmp]; done) | (rcases c89' with hh | hh | hh <;> simp_all [sameG, icmp]; done) | (rcases c89' with hh | hh | hh | hh <;> simp_all [sameG, icmp]; done) | (simp_all [sameG, icmp]; done)
    exact (by first | rfl | rw [x91])
  rw [Bool.not_eq_false'] at c89
  have c89' := c89
  refine wp_skip (hK84 _ _ ?_)
  refine wp_seq_k fun K92 hK92 => ?_
  refine wp_region_lit ?_
  refine q_is (l' := [(.agg #[(Fl r1), (Fl r3), (Fl r5), (Fl r7), (Iv A_a.x), (Iv A_a.y), (Iv A_a.z), (.slice p21 A_a.vals.length q22)]), (.agg #[(Fl r11), (Fl r13), (Fl r15), (Fl r17), (Iv A_b.x), (Iv A_b.y), (Iv A_b.z), (.slice p24 A_b.vals.length q25)]), (Pt b28 0), (Pt b35 0), (Bo true), (Pt b28 0), (.agg #[(Fl r1), (Fl r3), (Fl r5)]), (Pt b35 0), (.agg #[(Fl r11), (Fl r13), (Fl r15)]), (Bo (sameV A_a.low A_b.low)), (Bo (!(sameV A_a.low A_b.low))), (Pt b28 3), (Fl r7), (Fd r53), (Pt b35 3), (Fl r17), (Fd r58), (Bo (sameF (cf .f64 r53) (cf .f64 r58))), (Bo (!(sameF (cf .f64 r53) (cf .f64 r58)))), (Pt b28 4), (Iv A_a.x), (Pt b35 4), (Iv A_b.x), (Bo (icmp .neq A_a.x A_b.x)), (Pt b28 5), (Iv A_a.y), (Pt b35 5), (Iv A_b.y), (Bo (icmp .neq A_a.y A_b.y)), (Pt b28 6), (Iv A_a.z), (Pt b35 6), (Iv A_b.z), (Bo (icmp .neq A_a.z A_b.z)), (Pt b28 7), (.slice p21 A_a.vals.length q22), (Pt b35 7), (.slice p24 A_b.vals.length q25), (Bo (sameL A_a.vals A_b.vals)), (Bo (!(sameL A_a.vals A_b.vals)))]) rfl rfl (does_assign (u := (Bo true)) (ev rfl)) rfl ?_
  refine wpList_nil (hK92 _ _ ?_)
  refine wp_ret ?_
  refine ret_val (v := (Bo true)) (res_T rfl (slot rfl)) X88 ?_
  try simp only [h2, h4, h6, h8, h12, h14, h16, h18, h54, h59] at c48 c66 c71 c76 c81 c89
  have x93 : (sameG A_a A_b) = true := by first | rfl | (simp only [sameG, icmp, h2, h4, h6, h8, h12, h14, h16, h18, h54, h59, c48, c66, c71, c76, c81, c89]; done) | (simp [sameG, icmp, h2, h4, h6, h8, h12, h14, h16, h18, h54, h59, c48, c66, c71, c76, c81, c89]; done) | (revert c48 c66 c71 c76 c81 c89; simp +contextual [sameG, icmp, h2, h4, h6, h8, h12, h14, h16, h18, h54, h59]; done) | (rcases c48' with hh | hh <;> simp only [hh, sameG, icmp, h2, h4, h6, h8, h12, h14, h16, h18, h54, h59, c48, c66, c71, c76, c81, c89]; done) | (rcases c66' with hh | hh <;> simp only [hh, sameG, icmp, h2, h4, h6, h8, h12, h14, h16, h18, h54, h59, c48, c66, c71, c76, c81, c89]; done) | (rcases c71' with hh | hh <;> simp only [hh, sameG, icmp, h2, h4, h6, h8, h12, h14, h16, h18, h54, h59, c48, c66, c71, c76, c81, c89]; done) | (rcases c76' with hh | hh <;> simp only [hh, sameG, icmp, h2, h4, h6, h8, h12, h14, h16, h18, h54, h59, c48, c66, c71, c76, c81, c89]; done) | (rcases c81' with hh | hh <;> simp only [hh, sameG, icmp, h2, h4, h6, h8, h12, h14, h16, h18, h54, h59, c48, c66, c71, c76, c81, c89]; done) | (rcases c89' with hh | hh <;> simp only [hh, sameG, icmp, h2, h4, h6, h8, h12, h14, h16, h18, h54, h59, c48, c66, c71, c76, c81, c89]; done) | (rcases c89' with hh | hh <;> simp_all [sameG, icmp]; done) | (rcases c89' with hh | hh | hh <;> simp_all [sameG, icmp]; done) | (rcases c89' with hh | hh | hh | hh <;> simp_all [sameG, icmp]; done) | (simp_all [sameG, icmp]; done)
  exact (by first | rfl | rw [x93])

/- laws.FnExactValidGrid -/
theorem c_laws_FnExactValidGrid (g : List Value) (A_g : GridT) (w : World) (hv_g : RGridT w A_g g) : Gives Try.prog 3 #[(.agg g.toArray)] w (fun v w' => v = (Bo true)) := by
  obtain ⟨r1, r3, r5, r7, y9, rfl, h2, h4, h6, h8, h10⟩ := hv_g
  have hs13 := h10; have hs13l := Sl.len h10; obtain ⟨p11, q12, rfl⟩ := Sl.shape h10
  refine enter [(.agg #[(Fl r1), (Fl r3), (Fl r5), (Fl r7), (Iv A_g.x), (Iv A_g.y), (Iv A_g.z), (.slice p11 A_g.vals.length q12)]), Ud, Ud, Ud, Ud, Ud, Ud, Ud, Ud, Ud, Ud, Ud, Ud, Ud, Ud, Ud, Ud, Ud, Ud, Ud, Ud, Ud, Ud, Ud, Ud, Ud, Ud] Try.func3 rfl Try.ntmps3 rfl ?_
  refine wp_seq_k fun K14 hK14 => ?_
  refine wp_region_lit ?_
  refine seqd rfl rfl (does_box (u := (.agg #[(Fl r1), (Fl r3), (Fl r5), (Fl r7), (Iv A_g.x), (Iv A_g.y), (Iv A_g.z), (.slice p11 A_g.vals.length q12)])) (ev rfl)) ?_; rintro _ w19 ⟨b15, rfl, hb16, hB17, E18⟩
  have g20 : w.heap.size ≤ b15 := Nat.le_trans (Below.size (Ext.refl w)) hb16
  change Blk _ _ [(Fl r1), (Fl r3), (Fl r5), (Fl r7), (Iv A_g.x), (Iv A_g.y), (Iv A_g.z), (.slice p11 A_g.vals.length q12)] at hB17
  have X21 := Ext.gr (Ext.refl w) E18
  show wpList _ _ _ _ (fr [(.agg #[(Fl r1), (Fl r3), (Fl r5), (Fl r7), (Iv A_g.x), (Iv A_g.y), (Iv A_g.z), (.slice p11 A_g.vals.length q12)]), (Pt b15 0), Ud, Ud, Ud, Ud, Ud, Ud, Ud, Ud, Ud, Ud, Ud, Ud, Ud, Ud, Ud, Ud, Ud, Ud, Ud, Ud, Ud, Ud, Ud, Ud, Ud]) _
  refine q_is (l' := [(.agg #[(Fl r1), (Fl r3), (Fl r5), (Fl r7), (Iv A_g.x), (Iv A_g.y), (Iv A_g.z), (.slice p11 A_g.vals.length q12)]), (Pt b15 0), (Bo false), Ud, Ud, Ud, Ud, Ud, Ud, Ud, Ud, Ud, Ud, Ud, Ud, Ud, Ud, Ud, Ud, Ud, Ud, Ud, Ud, Ud, Ud, Ud, Ud]) rfl rfl (does_assign (u := (Bo false)) (ev rfl)) rfl ?_
  refine wpList_nil (hK14 _ _ ?_)
  refine wp_seq_k fun K22 hK22 => ?_
  refine wp_region_lit ?_
  refine q_is (l' := [(.agg #[(Fl r1), (Fl r3), (Fl r5), (Fl r7), (Iv A_g.x), (Iv A_g.y), (Iv A_g.z), (.slice p11 A_g.vals.length q12)]), (Pt b15 0), (Bo false), (Iv 1048576), Ud, Ud, Ud, Ud, Ud, Ud, Ud, Ud, Ud, Ud, Ud, Ud, Ud, Ud, Ud, Ud, Ud, Ud, Ud, Ud, Ud, Ud, Ud]) rfl rfl (does_assign (u := (Iv 1048576)) (ev rfl)) rfl ?_
  refine wpList_nil (hK22 _ _ ?_)
  refine wp_seq_k fun K23 hK23 => ?_
  refine wp_region_lit ?_
  refine q_is (l' := [(.agg #[(Fl r1), (Fl r3), (Fl r5), (Fl r7), (Iv A_g.x), (Iv A_g.y), (Iv A_g.z), (.slice p11 A_g.vals.length q12)]), (Pt b15 0), (Bo false), (Iv 1048576), Ud, Ud, Ud, (.agg #[(Fl r1), (Fl r3), (Fl r5), (Fl r7), (Iv A_g.x), (Iv A_g.y), (Iv A_g.z), (.slice p11 A_g.vals.length q12)]), Ud, Ud, Ud, Ud, Ud, Ud, Ud, Ud, Ud, Ud, Ud, Ud, Ud, Ud, Ud, Ud, Ud, Ud, Ud]) rfl rfl (does_loadAgg (cs := [(Fl r1), (Fl r3), (Fl r5), (Fl r7), (Iv A_g.x), (Iv A_g.y), (Iv A_g.z), (.slice p11 A_g.vals.length q12)]) (ev rfl) Try.isAgg27 Try.sizeOf27 (Blk.cells hB17) rfl) rfl ?_
  refine q_is (l' := [(.agg #[(Fl r1), (Fl r3), (Fl r5), (Fl r7), (Iv A_g.x), (Iv A_g.y), (Iv A_g.z), (.slice p11 A_g.vals.length q12)]), (Pt b15 0), (Bo false), (Iv 1048576), Ud, Ud, Ud, (.agg #[(Fl r1), (Fl r3), (Fl r5), (Fl r7), (Iv A_g.x), (Iv A_g.y), (Iv A_g.z), (.slice p11 A_g.vals.length q12)]), (Iv 1048576), Ud, Ud, Ud, Ud, Ud, Ud, Ud, Ud, Ud, Ud, Ud, Ud, Ud, Ud, Ud, Ud, Ud, Ud]) rfl rfl (does_move (u := (Iv 1048576)) (ev rfl)) rfl ?_
  refine seqd rfl rfl (does_call (args := #[(.agg #[(Fl r1), (Fl r3), (Fl r5), (Fl r7), (Iv A_g.x), (Iv A_g.y), (Iv A_g.z), (.slice p11 A_g.vals.length q12)]), (Iv 1048576)]) cal17 (evs rfl) (c_laws_szGrid [(Fl r1), (Fl r3), (Fl r5), (Fl r7), (Iv A_g.x), (Iv A_g.y), (Iv A_g.z), (.slice p11 A_g.vals.length q12)] A_g 1048576 _ ⟨r1, r3, r5, r7, (.slice p11 A_g.vals.length q12), rfl, h2, h4, h6, h8, (Sl.ext hs13 RF.mono X21)⟩ (by omega) (by omega))) ?_; rintro _ w25 ⟨E24, ⟨i26, rfl, h27⟩⟩
  have X28 := Ext.gr X21 E24
  show wpList _ _ _ _ (fr [(.agg #[(Fl r1), (Fl r3), (Fl r5), (Fl r7), (Iv A_g.x), (Iv A_g.y), (Iv A_g.z), (.slice p11 A_g.vals.length q12)]), (Pt b15 0), (Bo false), (Iv 1048576), Ud, Ud, Ud, (.agg #[(Fl r1), (Fl r3), (Fl r5), (Fl r7), (Iv A_g.x), (Iv A_g.y), (Iv A_g.z), (.slice p11 A_g.vals.length q12)]), (Iv 1048576), (Iv i26), Ud, Ud, Ud, Ud, Ud, Ud, Ud, Ud, Ud, Ud, Ud, Ud, Ud, Ud, Ud, Ud, Ud]) _
  refine q_is (l' := [(.agg #[(Fl r1), (Fl r3), (Fl r5), (Fl r7), (Iv A_g.x), (Iv A_g.y), (Iv A_g.z), (.slice p11 A_g.vals.length q12)]), (Pt b15 0), (Bo false), (Iv i26), Ud, Ud, Ud, (.agg #[(Fl r1), (Fl r3), (Fl r5), (Fl r7), (Iv A_g.x), (Iv A_g.y), (Iv A_g.z), (.slice p11 A_g.vals.length q12)]), (Iv 1048576), (Iv i26), Ud, Ud, Ud, Ud, Ud, Ud, Ud, Ud, Ud, Ud, Ud, Ud, Ud, Ud, Ud, Ud, Ud]) rfl rfl (does_assign (u := (Iv i26)) (ev rfl)) rfl ?_
  refine wpList_nil (hK23 _ _ ?_)
  refine wp_seq_k fun K29 hK29 => ?_
  refine wp_seq_k fun K30 hK30 => ?_
  refine wp_region_lit ?_
  refine q_is (l' := [(.agg #[(Fl r1), (Fl r3), (Fl r5), (Fl r7), (Iv A_g.x), (Iv A_g.y), (Iv A_g.z), (.slice p11 A_g.vals.length q12)]), (Pt b15 0), (Bo false), (Iv i26), Ud, Ud, Ud, (.agg #[(Fl r1), (Fl r3), (Fl r5), (Fl r7), (Iv A_g.x), (Iv A_g.y), (Iv A_g.z), (.slice p11 A_g.vals.length q12)]), (Iv 1048576), (Iv i26), (Iv i26), Ud, Ud, Ud, Ud, Ud, Ud, Ud, Ud, Ud, Ud, Ud, Ud, Ud, Ud, Ud, Ud]) rfl rfl (does_move (u := (Iv i26)) (ev rfl)) rfl ?_
  refine q_is (l' := [(.agg #[(Fl r1), (Fl r3), (Fl r5), (Fl r7), (Iv A_g.x), (Iv A_g.y), (Iv A_g.z), (.slice p11 A_g.vals.length q12)]), (Pt b15 0), (Bo false), (Iv i26), Ud, Ud, Ud, (.agg #[(Fl r1), (Fl r3), (Fl r5), (Fl r7), (Iv A_g.x), (Iv A_g.y), (Iv A_g.z), (.slice p11 A_g.vals.length q12)]), (Iv 1048576), (Iv i26), (Iv i26), (Bo (icmp .lss i26 0)), Ud, Ud, Ud, Ud, Ud, Ud, Ud, Ud, Ud, Ud, Ud, Ud, Ud, Ud, Ud]) rfl rfl (does_icmp (p := i26) (q := 0) (.inr (.inr (.inl rfl))) (ev rfl) (ev rfl)) rfl ?_
  refine wpList_nil (hK30 _ _ ?_)
  refine wp_cond_split (t := icmp .lss i26 0) (ev rfl) (fun c31 => ?_) (fun c31 => ?_)
  · have c31' := c31
    (try simp only [icmp, Bool.and_eq_true, Bool.or_eq_true, Bool.and_eq_false_iff, Bool.or_eq_false_iff, Bool.not_eq_true', Bool.not_eq_false', decide_eq_true_eq, decide_eq_false_iff_not, beq_iff_eq, bne_iff_ne, beq_eq_false_iff_ne, bne_eq_false_iff_eq] at c31')
    refine wp_seq_k fun K32 hK32 => ?_
    refine wp_region_lit ?_
    refine q_is (l' := [(.agg #[(Fl r1), (Fl r3), (Fl r5), (Fl r7), (Iv A_g.x), (Iv A_g.y), (Iv A_g.z), (.slice p11 A_g.vals.length q12)]), (Pt b15 0), (Bo true), (Iv i26), Ud, Ud, Ud, (.agg #[(Fl r1), (Fl r3), (Fl r5), (Fl r7), (Iv A_g.x), (Iv A_g.y), (Iv A_g.z), (.slice p11 A_g.vals.length q12)]), (Iv 1048576), (Iv i26), (Iv i26), (Bo (icmp .lss i26 0)), Ud, Ud, Ud, Ud, Ud, Ud, Ud, Ud, Ud, Ud, Ud, Ud, Ud, Ud, Ud]) rfl rfl (does_assign (u := (Bo true)) (ev rfl)) rfl ?_
    refine wpList_nil (hK32 _ _ ?_)
    refine wp_ret ?_
    dsimp only [Exit.then, Exit.inBlock]
    refine ret_val (v := (Bo true)) (res_T rfl (slot rfl)) X28 ?_
    try simp only [h2, h4, h6, h8] at c31
    exact rfl
  have c31' := c31
  (try simp only [icmp, Bool.and_eq_true, Bool.or_eq_true, Bool.and_eq_false_iff, Bool.or_eq_false_iff, Bool.not_eq_true', Bool.not_eq_false', decide_eq_true_eq, decide_eq_false_iff_not, beq_iff_eq, bne_iff_ne, beq_eq_false_iff_ne, bne_eq_false_iff_eq] at c31')
  refine wp_skip (hK29 _ _ ?_)
  refine wp_seq_k fun K33 hK33 => ?_
  refine wp_region_lit ?_
  refine q_is (l' := [(.agg #[(Fl r1), (Fl r3), (Fl r5), (Fl r7), (Iv A_g.x), (Iv A_g.y), (Iv A_g.z), (.slice p11 A_g.vals.length q12)]), (Pt b15 0), (Bo false), (Iv i26), Ud, Ud, Ud, (.agg #[(Fl r1), (Fl r3), (Fl r5), (Fl r7), (Iv A_g.x), (Iv A_g.y), (Iv A_g.z), (.slice p11 A_g.vals.length q12)]), (Iv 1048576), (Iv i26), (Iv i26), (Bo (icmp .lss i26 0)), (.agg #[(Fl r1), (Fl r3), (Fl r5), (Fl r7), (Iv A_g.x), (Iv A_g.y), (Iv A_g.z), (.slice p11 A_g.vals.length q12)]), Ud, Ud, Ud, Ud, Ud, Ud, Ud, Ud, Ud, Ud, Ud, Ud, Ud, Ud]) rfl rfl (does_loadAgg (cs := [(Fl r1), (Fl r3), (Fl r5), (Fl r7), (Iv A_g.x), (Iv A_g.y), (Iv A_g.z), (.slice p11 A_g.vals.length q12)]) (ev rfl) Try.isAgg27 Try.sizeOf27 (Blk.cells (hB17.ext E24)) rfl) rfl ?_
  refine seqd rfl rfl (does_call (args := #[(.agg #[(Fl r1), (Fl r3), (Fl r5), (Fl r7), (Iv A_g.x), (Iv A_g.y), (Iv A_g.z), (.slice p11 A_g.vals.length q12)])]) cal19 (evs rfl) (c_laws_toGrid [(Fl r1), (Fl r3), (Fl r5), (Fl r7), (Iv A_g.x), (Iv A_g.y), (Iv A_g.z), (.slice p11 A_g.vals.length q12)] A_g _ ⟨r1, r3, r5, r7, (.slice p11 A_g.vals.length q12), rfl, h2, h4, h6, h8, (Sl.ext hs13 RF.mono X28)⟩ (by omega))) ?_; rintro _ w35 ⟨E34, ⟨cs37, rfl, hh36⟩⟩
  have X38 := Ext.gr X28 E34
  have n39 : b15 < w25.heap.size := Blk.lt (hB17.ext E24)
  obtain ⟨r40, r42, r44, r46, y48, rfl, h41, h43, h45, h47, h49⟩ := hh36.get
  have h49l := Sl.len h49; obtain ⟨p50, q51, rfl⟩ := Sl.shape h49
  have hh52 : Hang w25.heap.size w35 (fun u => Sl RF 1 u (.slice p50 A_g.vals.length q51) A_g.vals) := fun u hu => by obtain ⟨_, _, _, _, _, hq, _, _, _, _, _⟩ := hh36 u hu; cases hq; assumption
  show wpList _ _ _ _ (fr [(.agg #[(Fl r1), (Fl r3), (Fl r5), (Fl r7), (Iv A_g.x), (Iv A_g.y), (Iv A_g.z), (.slice p11 A_g.vals.length q12)]), (Pt b15 0), (Bo false), (Iv i26), Ud, Ud, Ud, (.agg #[(Fl r1), (Fl r3), (Fl r5), (Fl r7), (Iv A_g.x), (Iv A_g.y), (Iv A_g.z), (.slice p11 A_g.vals.length q12)]), (Iv 1048576), (Iv i26), (Iv i26), (Bo (icmp .lss i26 0)), (.agg #[(Fl r1), (Fl r3), (Fl r5), (Fl r7), (Iv A_g.x), (Iv A_g.y), (Iv A_g.z), (.slice p11 A_g.vals.length q12)]), (.agg #[(Fl r40), (Fl r42), (Fl r44), (Fl r46), (Iv A_g.x), (Iv A_g.y), (Iv A_g.z), (.slice p50 A_g.vals.length q51)]), Ud, Ud, Ud, Ud, Ud, Ud, Ud, Ud, Ud, Ud, Ud, Ud, Ud]) _
  refine seqd rfl rfl (does_call (args := #[(.agg #[(Fl r40), (Fl r42), (Fl r44), (Fl r46), (Iv A_g.x), (Iv A_g.y), (Iv A_g.z), (.slice p50 A_g.vals.length q51)])]) cal18 (evs rfl) (c_spec_ValidGrid [(Fl r40), (Fl r42), (Fl r44), (Fl r46), (Iv A_g.x), (Iv A_g.y), (Iv A_g.z), (.slice p50 A_g.vals.length q51)] A_g _ ⟨r40, r42, r44, r46, (.slice p50 A_g.vals.length q51), rfl, h41, h43, h45, h47, hh52.get⟩)) ?_; rintro _ w54 ⟨E53, rfl⟩
  have X55 := Ext.gr X38 E53
  show wpList _ _ _ _ (fr [(.agg #[(Fl r1), (Fl r3), (Fl r5), (Fl r7), (Iv A_g.x), (Iv A_g.y), (Iv A_g.z), (.slice p11 A_g.vals.length q12)]), (Pt b15 0), (Bo false), (Iv i26), Ud, Ud, Ud, (.agg #[(Fl r1), (Fl r3), (Fl r5), (Fl r7), (Iv A_g.x), (Iv A_g.y), (Iv A_g.z), (.slice p11 A_g.vals.length q12)]), (Iv 1048576), (Iv i26), (Iv i26), (Bo (icmp .lss i26 0)), (.agg #[(Fl r1), (Fl r3), (Fl r5), (Fl r7), (Iv A_g.x), (Iv A_g.y), (Iv A_g.z), (.slice p11 A_g.vals.length q12)]), (.agg #[(Fl r40), (Fl r42), (Fl r44), (Fl r46), (Iv A_g.x), (Iv A_g.y), (Iv A_g.z), (.slice p50 A_g.vals.length q51)]), (Bo (isGrid A_g)), Ud, Ud, Ud, Ud, Ud, Ud, Ud, Ud, Ud, Ud, Ud, Ud]) _
  refine q_is (l' := [(.agg #[(Fl r1), (Fl r3), (Fl r5), (Fl r7), (Iv A_g.x), (Iv A_g.y), (Iv A_g.z), (.slice p11 A_g.vals.length q12)]), (Pt b15 0), (Bo false), (Iv i26), (Bo (isGrid A_g)), Ud, Ud, (.agg #[(Fl r1), (Fl r3), (Fl r5), (Fl r7), (Iv A_g.x), (Iv A_g.y), (Iv A_g.z), (.slice p11 A_g.vals.length q12)]), (Iv 1048576), (Iv i26), (Iv i26), (Bo (icmp .lss i26 0)), (.agg #[(Fl r1), (Fl r3), (Fl r5), (Fl r7), (Iv A_g.x), (Iv A_g.y), (Iv A_g.z), (.slice p11 A_g.vals.length q12)]), (.agg #[(Fl r40), (Fl r42), (Fl r44), (Fl r46), (Iv A_g.x), (Iv A_g.y), (Iv A_g.z), (.slice p50 A_g.vals.length q51)]), (Bo (isGrid A_g)), Ud, Ud, Ud, Ud, Ud, Ud, Ud, Ud, Ud, Ud, Ud, Ud]) rfl rfl (does_assign (u := (Bo (isGrid A_g))) (ev rfl)) rfl ?_
  refine wpList_nil (hK33 _ _ ?_)
  refine wp_seq_k fun K56 hK56 => ?_
  refine wp_region_lit ?_
  refine q_is (l' := [(.agg #[(Fl r1), (Fl r3), (Fl r5), (Fl r7), (Iv A_g.x), (Iv A_g.y), (Iv A_g.z), (.slice p11 A_g.vals.length q12)]), (Pt b15 0), (Bo false), (Iv i26), (Bo (isGrid A_g)), Ud, Ud, (.agg #[(Fl r1), (Fl r3), (Fl r5), (Fl r7), (Iv A_g.x), (Iv A_g.y), (Iv A_g.z), (.slice p11 A_g.vals.length q12)]), (Iv 1048576), (Iv i26), (Iv i26), (Bo (icmp .lss i26 0)), (.agg #[(Fl r1), (Fl r3), (Fl r5), (Fl r7), (Iv A_g.x), (Iv A_g.y), (Iv A_g.z), (.slice p11 A_g.vals.length q12)]), (.agg #[(Fl r40), (Fl r42), (Fl r44), (Fl r46), (Iv A_g.x), (Iv A_g.y), (Iv A_g.z), (.slice p50 A_g.vals.length q51)]), (Bo (isGrid A_g)), (.agg #[(Fl r1), (Fl r3), (Fl r5), (Fl r7), (Iv A_g.x), (Iv A_g.y), (Iv A_g.z), (.slice p11 A_g.vals.length q12)]), Ud, Ud, Ud, Ud, Ud, Ud, Ud, Ud, Ud, Ud, Ud]) rfl rfl (does_loadAgg (cs := [(Fl r1), (Fl r3), (Fl r5), (Fl r7), (Iv A_g.x), (Iv A_g.y), (Iv A_g.z), (.slice p11 A_g.vals.length q12)]) (ev rfl) Try.isAgg27 Try.sizeOf27 (Blk.cells (((hB17.ext E24).ext E34).ext E53)) rfl) rfl ?_
  refine seqd rfl rfl (does_call (args := #[(.agg #[(Fl r1), (Fl r3), (Fl r5), (Fl r7), (Iv A_g.x), (Iv A_g.y), (Iv A_g.z), (.slice p11 A_g.vals.length q12)])]) cal19 (evs rfl) (c_laws_toGrid [(Fl r1), (Fl r3), (Fl r5), (Fl r7), (Iv A_g.x), (Iv A_g.y), (Iv A_g.z), (.slice p11 A_g.vals.length q12)] A_g _ ⟨r1, r3, r5, r7, (.slice p11 A_g.vals.length q12), rfl, h2, h4, h6, h8, (Sl.ext hs13 RF.mono X55)⟩ (by omega))) ?_; rintro _ w58 ⟨E57, ⟨cs60, rfl, hh59⟩⟩
  have X61 := Ext.gr X55 E57
  have n62 : b15 < w54.heap.size := Blk.lt (((hB17.ext E24).ext E34).ext E53)
  obtain ⟨r63, r65, r67, r69, y71, rfl, h64, h66, h68, h70, h72⟩ := hh59.get
  have h72l := Sl.len h72; obtain ⟨p73, q74, rfl⟩ := Sl.shape h72
  have hh75 : Hang w54.heap.size w58 (fun u => Sl RF 1 u (.slice p73 A_g.vals.length q74) A_g.vals) := fun u hu => by obtain ⟨_, _, _, _, _, hq, _, _, _, _, _⟩ := hh59 u hu; cases hq; assumption
  show wpList _ _ _ _ (fr [(.agg #[(Fl r1), (Fl r3), (Fl r5), (Fl r7), (Iv A_g.x), (Iv A_g.y), (Iv A_g.z), (.slice p11 A_g.vals.length q12)]), (Pt b15 0), (Bo false), (Iv i26), (Bo (isGrid A_g)), Ud, Ud, (.agg #[(Fl r1), (Fl r3), (Fl r5), (Fl r7), (Iv A_g.x), (Iv A_g.y), (Iv A_g.z), (.slice p11 A_g.vals.length q12)]), (Iv 1048576), (Iv i26), (Iv i26), (Bo (icmp .lss i26 0)), (.agg #[(Fl r1), (Fl r3), (Fl r5), (Fl r7), (Iv A_g.x), (Iv A_g.y), (Iv A_g.z), (.slice p11 A_g.vals.length q12)]), (.agg #[(Fl r40), (Fl r42), (Fl r44), (Fl r46), (Iv A_g.x), (Iv A_g.y), (Iv A_g.z), (.slice p50 A_g.vals.length q51)]), (Bo (isGrid A_g)), (.agg #[(Fl r1), (Fl r3), (Fl r5), (Fl r7), (Iv A_g.x), (Iv A_g.y), (Iv A_g.z), (.slice p11 A_g.vals.length q12)]), (.agg #[(Fl r63), (Fl r65), (Fl r67), (Fl r69), (Iv A_g.x), (Iv A_g.y), (Iv A_g.z), (.slice p73 A_g.vals.length q74)]), Ud, Ud, Ud, Ud, Ud, Ud, Ud, Ud, Ud, Ud]) _
  refine seqd rfl rfl (does_alloc z32) ?_; rintro _ w80 ⟨b76, rfl, hb77, hB78, E79⟩
  have n81 : b15 < b76 := Nat.lt_of_lt_of_le (Blk.lt ((((hB17.ext E24).ext E34).ext E53).ext E57)) hb77
  have g82 : w.heap.size ≤ b76 := Nat.le_trans (Below.size X61) hb77
  change Blk _ _ [(Fl 0), (Fl 0), (Fl 0), (Fl 0), (Iv 0), (Iv 0), (Iv 0), (.slice none 0 0)] at hB78
  have X83 := Ext.gr X61 E79
  show wpList _ _ _ _ (fr [(.agg #[(Fl r1), (Fl r3), (Fl r5), (Fl r7), (Iv A_g.x), (Iv A_g.y), (Iv A_g.z), (.slice p11 A_g.vals.length q12)]), (Pt b15 0), (Bo false), (Iv i26), (Bo (isGrid A_g)), (Pt b76 0), Ud, (.agg #[(Fl r1), (Fl r3), (Fl r5), (Fl r7), (Iv A_g.x), (Iv A_g.y), (Iv A_g.z), (.slice p11 A_g.vals.length q12)]), (Iv 1048576), (Iv i26), (Iv i26), (Bo (icmp .lss i26 0)), (.agg #[(Fl r1), (Fl r3), (Fl r5), (Fl r7), (Iv A_g.x), (Iv A_g.y), (Iv A_g.z), (.slice p11 A_g.vals.length q12)]), (.agg #[(Fl r40), (Fl r42), (Fl r44), (Fl r46), (Iv A_g.x), (Iv A_g.y), (Iv A_g.z), (.slice p50 A_g.vals.length q51)]), (Bo (isGrid A_g)), (.agg #[(Fl r1), (Fl r3), (Fl r5), (Fl r7), (Iv A_g.x), (Iv A_g.y), (Iv A_g.z), (.slice p11 A_g.vals.length q12)]), (.agg #[(Fl r63), (Fl r65), (Fl r67), (Fl r69), (Iv A_g.x), (Iv A_g.y), (Iv A_g.z), (.slice p73 A_g.vals.length q74)]), Ud, Ud, Ud, Ud, Ud, Ud, Ud, Ud, Ud, Ud]) _
  refine seqn rfl rfl (does_store (n := 8) (cs := [(Fl 0), (Fl 0), (Fl 0), (Fl 0), (Iv 0), (Iv 0), (Iv 0), (.slice none 0 0)]) (u := (.agg #[(Fl r63), (Fl r65), (Fl r67), (Fl r69), (Iv A_g.x), (Iv A_g.y), (Iv A_g.z), (.slice p73 A_g.vals.length q74)])) (ev rfl) (ev rfl) Try.sizeOf32 rfl hB78 (Nat.le_of_ble_eq_true rfl) rfl) ?_; rintro _ w86 ⟨rfl, W84, hB85⟩
  change Blk _ _ [(Fl r63), (Fl r65), (Fl r67), (Fl r69), (Iv A_g.x), (Iv A_g.y), (Iv A_g.z), (.slice p73 A_g.vals.length q74)] at hB85
  have X87 := Below.wr X83 W84 g82
  refine wpList_nil (hK56 _ _ ?_)
  refine wp_seq_k fun K88 hK88 => ?_
  refine wp_region_lit ?_
  refine q_is (l' := [(.agg #[(Fl r1), (Fl r3), (Fl r5), (Fl r7), (Iv A_g.x), (Iv A_g.y), (Iv A_g.z), (.slice p11 A_g.vals.length q12)]), (Pt b15 0), (Bo false), (Iv i26), (Bo (isGrid A_g)), (Pt b76 0), Ud, (.agg #[(Fl r1), (Fl r3), (Fl r5), (Fl r7), (Iv A_g.x), (Iv A_g.y), (Iv A_g.z), (.slice p11 A_g.vals.length q12)]), (Iv 1048576), (Iv i26), (Iv i26), (Bo (icmp .lss i26 0)), (.agg #[(Fl r1), (Fl r3), (Fl r5), (Fl r7), (Iv A_g.x), (Iv A_g.y), (Iv A_g.z), (.slice p11 A_g.vals.length q12)]), (.agg #[(Fl r40), (Fl r42), (Fl r44), (Fl r46), (Iv A_g.x), (Iv A_g.y), (Iv A_g.z), (.slice p50 A_g.vals.length q51)]), (Bo (isGrid A_g)), (.agg #[(Fl r1), (Fl r3), (Fl r5), (Fl r7), (Iv A_g.x), (Iv A_g.y), (Iv A_g.z), (.slice p11 A_g.vals.length q12)]), (.agg #[(Fl r63), (Fl r65), (Fl r67), (Fl r69), (Iv A_g.x), (Iv A_g.y), (Iv A_g.z), (.slice p73 A_g.vals.length q74)]), (.agg #[(Fl r63), (Fl r65), (Fl r67), (Fl r69), (Iv A_g.x), (Iv A_g.y), (Iv A_g.z), (.slice p73 A_g.vals.length q74)]), Ud, Ud, Ud, Ud, Ud, Ud, Ud, Ud, Ud]) rfl rfl (does_loadAgg (cs := [(Fl r63), (Fl r65), (Fl r67), (Fl r69), (Iv A_g.x), (Iv A_g.y), (Iv A_g.z), (.slice p73 A_g.vals.length q74)]) (ev rfl) Try.isAgg32 Try.sizeOf32 (Blk.cells hB85) rfl) rfl ?_
  refine seqd rfl rfl (does_call (args := #[(.agg #[(Fl r63), (Fl r65), (Fl r67), (Fl r69), (Iv A_g.x), (Iv A_g.y), (Iv A_g.z), (.slice p73 A_g.vals.length q74)])]) cal20 (evs rfl) (c_impl_ValidGrid [(Fl r63), (Fl r65), (Fl r67), (Fl r69), (Iv A_g.x), (Iv A_g.y), (Iv A_g.z), (.slice p73 A_g.vals.length q74)] A_g _ ⟨r63, r65, r67, r69, (.slice p73 A_g.vals.length q74), rfl, h64, h66, h68, h70, (hh75 _ (((Same.refl _ _).ext E79).wr W84 (.inr (Nat.le_trans (Below.size (Ext.refl _)) hb77))))⟩)) ?_; rintro _ w90 ⟨E89, rfl⟩
  have X91 := Ext.gr X87 E89
  show wpList _ _ _ _ (fr [(.agg #[(Fl r1), (Fl r3), (Fl r5), (Fl r7), (Iv A_g.x), (Iv A_g.y), (Iv A_g.z), (.slice p11 A_g.vals.length q12)]), (Pt b15 0), (Bo false), (Iv i26), (Bo (isGrid A_g)), (Pt b76 0), Ud, (.agg #[(Fl r1), (Fl r3), (Fl r5), (Fl r7), (Iv A_g.x), (Iv A_g.y), (Iv A_g.z), (.slice p11 A_g.vals.length q12)]), (Iv 1048576), (Iv i26), (Iv i26), (Bo (icmp .lss i26 0)), (.agg #[(Fl r1), (Fl r3), (Fl r5), (Fl r7), (Iv A_g.x), (Iv A_g.y), (Iv A_g.z), (.slice p11 A_g.vals.length q12)]), (.agg #[(Fl r40), (Fl r42), (Fl r44), (Fl r46), (Iv A_g.x), (Iv A_g.y), (Iv A_g.z), (.slice p50 A_g.vals.length q51)]), (Bo (isGrid A_g)), (.agg #[(Fl r1), (Fl r3), (Fl r5), (Fl r7), (Iv A_g.x), (Iv A_g.y), (Iv A_g.z), (.slice p11 A_g.vals.length q12)]), (.agg #[(Fl r63), (Fl r65), (Fl r67), (Fl r69), (Iv A_g.x), (Iv A_g.y), (Iv A_g.z), (.slice p73 A_g.vals.length q74)]), (.agg #[(Fl r63), (Fl r65), (Fl r67), (Fl r69), (Iv A_g.x), (Iv A_g.y), (Iv A_g.z), (.slice p73 A_g.vals.length q74)]), (Bo (isGrid A_g)), Ud, Ud, Ud, Ud, Ud, Ud, Ud, Ud]) _
  refine q_is (l' := [(.agg #[(Fl r1), (Fl r3), (Fl r5), (Fl r7), (Iv A_g.x), (Iv A_g.y), (Iv A_g.z), (.slice p11 A_g.vals.length q12)]), (Pt b15 0), (Bo false), (Iv i26), (Bo (isGrid A_g)), (Pt b76 0), (Bo (isGrid A_g)), (.agg #[(Fl r1), (Fl r3), (Fl r5), (Fl r7), (Iv A_g.x), (Iv A_g.y), (Iv A_g.z), (.slice p11 A_g.vals.length q12)]), (Iv 1048576), (Iv i26), (Iv i26), (Bo (icmp .lss i26 0)), (.agg #[(Fl r1), (Fl r3), (Fl r5), (Fl r7), (Iv A_g.x), (Iv A_g.y), (Iv A_g.z), (.slice p11 A_g.vals.length q12)]), (.agg #[(Fl r40), (Fl r42), (Fl r44), (Fl r46), (Iv A_g.x), (Iv A_g.y), (Iv A_g.z), (.slice p50 A_g.vals.length q51)]), (Bo (isGrid A_g)), (.agg #[(Fl r1), (Fl r3), (Fl r5), (Fl r7), (Iv A_g.x), (Iv A_g.y), (Iv A_g.z), (.slice p11 A_g.vals.length q12)]), (.agg #[(Fl r63), (Fl r65), (Fl r67), (Fl r69), (Iv A_g.x), (Iv A_g.y), (Iv A_g.z), (.slice p73 A_g.vals.length q74)]), (.agg #[(Fl r63), (Fl r65), (Fl r67), (Fl r69), (Iv A_g.x), (Iv A_g.y), (Iv A_g.z), (.slice p73 A_g.vals.length q74)]), (Bo (isGrid A_g)), Ud, Ud, Ud, Ud, Ud, Ud, Ud, Ud]) rfl rfl (does_assign (u := (Bo (isGrid A_g))) (ev rfl)) rfl ?_
  refine wpList_nil (hK88 _ _ ?_)
  refine wp_seq_k fun K92 hK92 => ?_
  refine wp_seq_k fun K93 hK93 => ?_
  refine wp_region_lit ?_
  refine q_is (l' := [(.agg #[(Fl r1), (Fl r3), (Fl r5), (Fl r7), (Iv A_g.x), (Iv A_g.y), (Iv A_g.z), (.slice p11 A_g.vals.length q12)]), (Pt b15 0), (Bo false), (Iv i26), (Bo (isGrid A_g)), (Pt b76 0), (Bo (isGrid A_g)), (.agg #[(Fl r1), (Fl r3), (Fl r5), (Fl r7), (Iv A_g.x), (Iv A_g.y), (Iv A_g.z), (.slice p11 A_g.vals.length q12)]), (Iv 1048576), (Iv i26), (Iv i26), (Bo (icmp .lss i26 0)), (.agg #[(Fl r1), (Fl r3), (Fl r5), (Fl r7), (Iv A_g.x), (Iv A_g.y), (Iv A_g.z), (.slice p11 A_g.vals.length q12)]), (.agg #[(Fl r40), (Fl r42), (Fl r44), (Fl r46), (Iv A_g.x), (Iv A_g.y), (Iv A_g.z), (.slice p50 A_g.vals.length q51)]), (Bo (isGrid A_g)), (.agg #[(Fl r1), (Fl r3), (Fl r5), (Fl r7), (Iv A_g.x), (Iv A_g.y), (Iv A_g.z), (.slice p11 A_g.vals.length q12)]), (.agg #[(Fl r63), (Fl r65), (Fl r67), (Fl r69), (Iv A_g.x), (Iv A_g.y), (Iv A_g.z), (.slice p73 A_g.vals.length q74)]), (.agg #[(Fl r63), (Fl r65), (Fl r67), (Fl r69), (Iv A_g.x), (Iv A_g.y), (Iv A_g.z), (.slice p73 A_g.vals.length q74)]), (Bo (isGrid A_g)), (Bo (isGrid A_g)), Ud, Ud, Ud, Ud, Ud, Ud, Ud]) rfl rfl (does_move (u := (Bo (isGrid A_g))) (ev rfl)) rfl ?_
  refine q_is (l' := [(.agg #[(Fl r1), (Fl r3), (Fl r5), (Fl r7), (Iv A_g.x), (Iv A_g.y), (Iv A_g.z), (.slice p11 A_g.vals.length q12)]), (Pt b15 0), (Bo false), (Iv i26), (Bo (isGrid A_g)), (Pt b76 0), (Bo (isGrid A_g)), (.agg #[(Fl r1), (Fl r3), (Fl r5), (Fl r7), (Iv A_g.x), (Iv A_g.y), (Iv A_g.z), (.slice p11 A_g.vals.length q12)]), (Iv 1048576), (Iv i26), (Iv i26), (Bo (icmp .lss i26 0)), (.agg #[(Fl r1), (Fl r3), (Fl r5), (Fl r7), (Iv A_g.x), (Iv A_g.y), (Iv A_g.z), (.slice p11 A_g.vals.length q12)]), (.agg #[(Fl r40), (Fl r42), (Fl r44), (Fl r46), (Iv A_g.x), (Iv A_g.y), (Iv A_g.z), (.slice p50 A_g.vals.length q51)]), (Bo (isGrid A_g)), (.agg #[(Fl r1), (Fl r3), (Fl r5), (Fl r7), (Iv A_g.x), (Iv A_g.y), (Iv A_g.z), (.slice p11 A_g.vals.length q12)]), (.agg #[(Fl r63), (Fl r65), (Fl r67), (Fl r69), (Iv A_g.x), (Iv A_g.y), (Iv A_g.z), (.slice p73 A_g.vals.length q74)]), (.agg #[(Fl r63), (Fl r65), (Fl r67), (Fl r69), (Iv A_g.x), (Iv A_g.y), (Iv A_g.z), (.slice p73 A_g.vals.length q74)]), (Bo (isGrid A_g)), (Bo (isGrid A_g)), (Bo (isGrid A_g)), Ud, Ud, Ud, Ud, Ud, Ud]) rfl rfl (does_move (u := (Bo (isGrid A_g))) (ev rfl)) rfl ?_
  refine q_is (l' := [(.agg #[(Fl r1), (Fl r3), (Fl r5), (Fl r7), (Iv A_g.x), (Iv A_g.y), (Iv A_g.z), (.slice p11 A_g.vals.length q12)]), (Pt b15 0), (Bo false), (Iv i26), (Bo (isGrid A_g)), (Pt b76 0), (Bo (isGrid A_g)), (.agg #[(Fl r1), (Fl r3), (Fl r5), (Fl r7), (Iv A_g.x), (Iv A_g.y), (Iv A_g.z), (.slice p11 A_g.vals.length q12)]), (Iv 1048576), (Iv i26), (Iv i26), (Bo (icmp .lss i26 0)), (.agg #[(Fl r1), (Fl r3), (Fl r5), (Fl r7), (Iv A_g.x), (Iv A_g.y), (Iv A_g.z), (.slice p11 A_g.vals.length q12)]), (.agg #[(Fl r40), (Fl r42), (Fl r44), (Fl r46), (Iv A_g.x), (Iv A_g.y), (Iv A_g.z), (.slice p50 A_g.vals.length q51)]), (Bo (isGrid A_g)), (.agg #[(Fl r1), (Fl r3), (Fl r5), (Fl r7), (Iv A_g.x), (Iv A_g.y), (Iv A_g.z), (.slice p11 A_g.vals.length q12)]), (.agg #[(Fl r63), (Fl r65), (Fl r67), (Fl r69), (Iv A_g.x), (Iv A_g.y), (Iv A_g.z), (.slice p73 A_g.vals.length q74)]), (.agg #[(Fl r63), (Fl r65), (Fl r67), (Fl r69), (Iv A_g.x), (Iv A_g.y), (Iv A_g.z), (.slice p73 A_g.vals.length q74)]), (Bo (isGrid A_g)), (Bo (isGrid A_g)), (Bo (isGrid A_g)), (Bo ((isGrid A_g) != (isGrid A_g))), Ud, Ud, Ud, Ud, Ud]) rfl rfl (does_bne (p := (isGrid A_g)) (q := (isGrid A_g)) Try.underlying4 (ev rfl) (ev rfl)) rfl ?_
  refine wpList_nil (hK93 _ _ ?_)
  refine wp_cond_split (t := (isGrid A_g) != (isGrid A_g)) (ev rfl) (fun c94 => ?_) (fun c94 => ?_)
  · have c94' := c94
    refine wp_seq_k fun K95 hK95 => ?_
    refine wp_region_lit ?_
    refine q_is (l' := [(.agg #[(Fl r1), (Fl r3), (Fl r5), (Fl r7), (Iv A_g.x), (Iv A_g.y), (Iv A_g.z), (.slice p11 A_g.vals.length q12)]), (Pt b15 0), (Bo false), (Iv i26), (Bo (isGrid A_g)), (Pt b76 0), (Bo (isGrid A_g)), (.agg #[(Fl r1), (Fl r3), (Fl r5), (Fl r7), (Iv A_g.x), (Iv A_g.y), (Iv A_g.z), (.slice p11 A_g.vals.length q12)]), (Iv 1048576), (Iv i26), (Iv i26), (Bo (icmp .lss i26 0)), (.agg #[(Fl r1), (Fl r3), (Fl r5), (Fl r7), (Iv A_g.x), (Iv A_g.y), (Iv A_g.z), (.slice p11 A_g.vals.length q12)]), (.agg #[(Fl r40), (Fl r42), (Fl r44), (Fl r46), (Iv A_g.x), (Iv A_g.y), (Iv A_g.z), (.slice p50 A_g.vals.length q51)]), (Bo (isGrid A_g)), (.agg #[(Fl r1), (Fl r3), (Fl r5), (Fl r7), (Iv A_g.x), (Iv A_g.y), (Iv A_g.z), (.slice p11 A_g.vals.length q12)]), (.agg #[(Fl r63), (Fl r65), (Fl r67), (Fl r69), (Iv A_g.x), (Iv A_g.y), (Iv A_g.z), (.slice p73 A_g.vals.length q74)]), (.agg #[(Fl r63), (Fl r65), (Fl r67), (Fl r69), (Iv A_g.x), (Iv A_g.y), (Iv A_g.z), (.slice p73 A_g.vals.length q74)]), (Bo (isGrid A_g)), (Bo (isGrid A_g)), (Bo (isGrid A_g)), (Bo ((isGrid A_g) != (isGrid A_g))), Ud, Ud, Ud, Ud, Ud]) rfl rfl (does_assign (u := (Bo false)) (ev rfl)) rfl ?_
    refine wpList_nil (hK95 _ _ ?_)
    refine wp_ret ?_
    dsimp only [Exit.then, Exit.inBlock]
    refine ret_val (v := (Bo false)) (res_T rfl (slot rfl)) X91 ?_
    try simp only [h2, h4, h6, h8, h41, h43, h45, h47, h64, h66, h68, h70] at c31 c94
    have x96 : true = false := by first | rfl | (simp only [sameG_self, sameL_self, sameF_self, sameV_self, sameB_self, sameR_self, bne_self_eq_false, h2, h4, h6, h8, h41, h43, h45, h47, h64, h66, h68, h70, c31, c94]; done) | (simp [sameG_self, sameL_self, sameF_self, sameV_self, sameB_self, sameR_self, bne_self_eq_false, h2, h4, h6, h8, h41, h43, h45, h47, h64, h66, h68, h70, c31, c94]; done) | (revert c31 c94; simp +contextual [sameG_self, sameL_self, sameF_self, sameV_self, sameB_self, sameR_self, bne_self_eq_false, h2, h4, h6, h8, h41, h43, h45, h47, h64, h66, h68, h70]; done) | (rcases c31' with hh | hh <;> simp only [hh, sameG_self, sameL_self, sameF_self, sameV_self, sameB_self, sameR_self, bne_self_eq_false, h2, h4, h6, h8, h41, h43, h45, h47, h64, h66, h68, h70, c31, c94]; done) | (rcases c94' with hh | hh <;> simp only [hh, sameG_self, sameL_self, sameF_self, sameV_self, sameB_self, sameR_self, bne_self_eq_false, h2, h4, h6, h8, h41, h43, h45, h47, h64, h66, h68, h70, c31, c94]; done) | (rcases c94' with hh | hh <;> simp_all [sameG_self, sameL_self, sameF_self, sameV_self, sameB_self, sameR_self, bne_self_eq_false]; done) | (rcases c94' with hh | hh | hh <;> simp_all [sameG_self, sameL_self, sameF_self, sameV_self, sameB_self, sameR_self, bne_self_eq_false]; done) | (rcases c94' with hh | hh | hh | hh <;> simp_all [sameG_self, sameL_self, sameF_self, sameV_self, sameB_self, sameR_self, bne_self_eq_false]; done) | (simp_all [sameG_self, sameL_self, sameF_self, sameV_self, sameB_self, sameR_self, bne_self_eq_false]; done)
    exact (by first | rfl | rw [x96])
  have c94' := c94
  refine wp_skip (hK92 _ _ ?_)
  refine wp_seq_k fun K97 hK97 => ?_
  refine wp_seq_k fun K98 hK98 => ?_
  refine region_draw (
    [Fact.pure [] (fun v => v = (.agg #[(Fl r63), (Fl r65), (Fl r67), (Fl r69), (Iv A_g.x), (Iv A_g.y), (Iv A_g.z), (.slice p73 A_g.vals.length q74)])),
    Fact.pure [] (fun v => v = (.agg #[(Fl r1), (Fl r3), (Fl r5), (Fl r7), (Iv A_g.x), (Iv A_g.y), (Iv A_g.z), (.slice p11 A_g.vals.length q12)])),
    Fact.mem [23] (fun v w' => ∃ cs_1 : List Value, v = (.agg cs_1.toArray) ∧ Hang w90.heap.size w' (fun u => RGridT u A_g cs_1)) (by rintro v w1 w2 hx ⟨z1, rfl, k0⟩; exact ⟨z1, rfl, (k0.ext hx)⟩),
    Fact.pure [22, 24] (fun v => v = (Bo (sameG A_g A_g))),
    Fact.pure [25] (fun v => v = (Bo (!(sameG A_g A_g))))]) mixed (by kernel_rfl) (by intro _ _ d _ _ h; cases d <;> exact h) ?_
  obtain ⟨w99, hw101⟩ : ∃ w', w' = World.drew w90 := ⟨_, rfl⟩; rw [← hw101]; have E100 : Ext w90 w99 := by rw [hw101]; exact Ext.draw _
  clear hw101
  have X102 := Ext.gr X91 E100
  refine RW_d (fun v103 => [(.agg #[(Fl r1), (Fl r3), (Fl r5), (Fl r7), (Iv A_g.x), (Iv A_g.y), (Iv A_g.z), (.slice p11 A_g.vals.length q12)]), (Pt b15 0), (Bo false), (Iv i26), (Bo (isGrid A_g)), (Pt b76 0), (Bo (isGrid A_g)), (.agg #[(Fl r1), (Fl r3), (Fl r5), (Fl r7), (Iv A_g.x), (Iv A_g.y), (Iv A_g.z), (.slice p11 A_g.vals.length q12)]), (Iv 1048576), (Iv i26), (Iv i26), (Bo (icmp .lss i26 0)), (.agg #[(Fl r1), (Fl r3), (Fl r5), (Fl r7), (Iv A_g.x), (Iv A_g.y), (Iv A_g.z), (.slice p11 A_g.vals.length q12)]), (.agg #[(Fl r40), (Fl r42), (Fl r44), (Fl r46), (Iv A_g.x), (Iv A_g.y), (Iv A_g.z), (.slice p50 A_g.vals.length q51)]), (Bo (isGrid A_g)), (.agg #[(Fl r1), (Fl r3), (Fl r5), (Fl r7), (Iv A_g.x), (Iv A_g.y), (Iv A_g.z), (.slice p11 A_g.vals.length q12)]), (.agg #[(Fl r63), (Fl r65), (Fl r67), (Fl r69), (Iv A_g.x), (Iv A_g.y), (Iv A_g.z), (.slice p73 A_g.vals.length q74)]), (.agg #[(Fl r63), (Fl r65), (Fl r67), (Fl r69), (Iv A_g.x), (Iv A_g.y), (Iv A_g.z), (.slice p73 A_g.vals.length q74)]), (Bo (isGrid A_g)), (Bo (isGrid A_g)), (Bo (isGrid A_g)), (Bo ((isGrid A_g) != (isGrid A_g))), v103, Ud, Ud, Ud, Ud]) rfl (fun _ => rfl) (fun u hu hF => ?_) (fun v103 => ?_)
  · clear hF
    refine doesG_un rfl ?_
    refine (does_loadAgg (cs := [(Fl r63), (Fl r65), (Fl r67), (Fl r69), (Iv A_g.x), (Iv A_g.y), (Iv A_g.z), (.slice p73 A_g.vals.length q74)]) (ev rfl) Try.isAgg32 Try.sizeOf32 (Blk.cells (((hB85.ext E89).ext E100).ext hu)) rfl).mono ?_; rintro _ _ ⟨rfl, rfl⟩
    exact ⟨rfl, Ext.refl _⟩
  refine RW_d (fun v104 => [(.agg #[(Fl r1), (Fl r3), (Fl r5), (Fl r7), (Iv A_g.x), (Iv A_g.y), (Iv A_g.z), (.slice p11 A_g.vals.length q12)]), (Pt b15 0), (Bo false), (Iv i26), (Bo (isGrid A_g)), (Pt b76 0), (Bo (isGrid A_g)), (.agg #[(Fl r1), (Fl r3), (Fl r5), (Fl r7), (Iv A_g.x), (Iv A_g.y), (Iv A_g.z), (.slice p11 A_g.vals.length q12)]), (Iv 1048576), (Iv i26), (Iv i26), (Bo (icmp .lss i26 0)), (.agg #[(Fl r1), (Fl r3), (Fl r5), (Fl r7), (Iv A_g.x), (Iv A_g.y), (Iv A_g.z), (.slice p11 A_g.vals.length q12)]), (.agg #[(Fl r40), (Fl r42), (Fl r44), (Fl r46), (Iv A_g.x), (Iv A_g.y), (Iv A_g.z), (.slice p50 A_g.vals.length q51)]), (Bo (isGrid A_g)), (.agg #[(Fl r1), (Fl r3), (Fl r5), (Fl r7), (Iv A_g.x), (Iv A_g.y), (Iv A_g.z), (.slice p11 A_g.vals.length q12)]), (.agg #[(Fl r63), (Fl r65), (Fl r67), (Fl r69), (Iv A_g.x), (Iv A_g.y), (Iv A_g.z), (.slice p73 A_g.vals.length q74)]), (.agg #[(Fl r63), (Fl r65), (Fl r67), (Fl r69), (Iv A_g.x), (Iv A_g.y), (Iv A_g.z), (.slice p73 A_g.vals.length q74)]), (Bo (isGrid A_g)), (Bo (isGrid A_g)), (Bo (isGrid A_g)), (Bo ((isGrid A_g) != (isGrid A_g))), v103, v104, Ud, Ud, Ud]) rfl (fun _ => rfl) (fun u hu hF => ?_) (fun v104 => ?_)
  · clear hF
    refine doesG_un rfl ?_
    refine (does_loadAgg (cs := [(Fl r1), (Fl r3), (Fl r5), (Fl r7), (Iv A_g.x), (Iv A_g.y), (Iv A_g.z), (.slice p11 A_g.vals.length q12)]) (ev rfl) Try.isAgg27 Try.sizeOf27 (Blk.cells (((((((((hB17.ext E24).ext E34).ext E53).ext E57).ext E79).wr W84 (Nat.ne_of_lt n81)).ext E89).ext E100).ext hu)) rfl).mono ?_; rintro _ _ ⟨rfl, rfl⟩
    exact ⟨rfl, Ext.refl _⟩
  refine RW_d (fun v105 => [(.agg #[(Fl r1), (Fl r3), (Fl r5), (Fl r7), (Iv A_g.x), (Iv A_g.y), (Iv A_g.z), (.slice p11 A_g.vals.length q12)]), (Pt b15 0), (Bo false), (Iv i26), (Bo (isGrid A_g)), (Pt b76 0), (Bo (isGrid A_g)), (.agg #[(Fl r1), (Fl r3), (Fl r5), (Fl r7), (Iv A_g.x), (Iv A_g.y), (Iv A_g.z), (.slice p11 A_g.vals.length q12)]), (Iv 1048576), (Iv i26), (Iv i26), (Bo (icmp .lss i26 0)), (.agg #[(Fl r1), (Fl r3), (Fl r5), (Fl r7), (Iv A_g.x), (Iv A_g.y), (Iv A_g.z), (.slice p11 A_g.vals.length q12)]), (.agg #[(Fl r40), (Fl r42), (Fl r44), (Fl r46), (Iv A_g.x), (Iv A_g.y), (Iv A_g.z), (.slice p50 A_g.vals.length q51)]), (Bo (isGrid A_g)), (.agg #[(Fl r1), (Fl r3), (Fl r5), (Fl r7), (Iv A_g.x), (Iv A_g.y), (Iv A_g.z), (.slice p11 A_g.vals.length q12)]), (.agg #[(Fl r63), (Fl r65), (Fl r67), (Fl r69), (Iv A_g.x), (Iv A_g.y), (Iv A_g.z), (.slice p73 A_g.vals.length q74)]), (.agg #[(Fl r63), (Fl r65), (Fl r67), (Fl r69), (Iv A_g.x), (Iv A_g.y), (Iv A_g.z), (.slice p73 A_g.vals.length q74)]), (Bo (isGrid A_g)), (Bo (isGrid A_g)), (Bo (isGrid A_g)), (Bo ((isGrid A_g) != (isGrid A_g))), v103, v104, v105, Ud, Ud]) rfl (fun _ => rfl) (fun u hu hF => ?_) (fun v105 => ?_)
  · have h23_ : v104 = (.agg #[(Fl r1), (Fl r3), (Fl r5), (Fl r7), (Iv A_g.x), (Iv A_g.y), (Iv A_g.z), (.slice p11 A_g.vals.length q12)]) := hF.1
    clear hF
    obtain rfl := h23_
    refine doesG_un rfl ?_
    refine (does_call (args := #[(.agg #[(Fl r1), (Fl r3), (Fl r5), (Fl r7), (Iv A_g.x), (Iv A_g.y), (Iv A_g.z), (.slice p11 A_g.vals.length q12)])]) cal19 (evs rfl) (c_laws_toGrid [(Fl r1), (Fl r3), (Fl r5), (Fl r7), (Iv A_g.x), (Iv A_g.y), (Iv A_g.z), (.slice p11 A_g.vals.length q12)] A_g _ ⟨r1, r3, r5, r7, (.slice p11 A_g.vals.length q12), rfl, h2, h4, h6, h8, (Sl.ext (Sl.ext hs13 RF.mono (Ext.gr X91 E100)) RF.mono hu)⟩ (by omega))).mono ?_; rintro v u' ⟨hx, ⟨csn1, hv, k0⟩⟩
    exact ⟨⟨csn1, hv, (Hang.le k0 (Nat.le_trans (Below.size E100) (Below.size hu)))⟩, hx⟩
  refine RW_d (fun v106 => [(.agg #[(Fl r1), (Fl r3), (Fl r5), (Fl r7), (Iv A_g.x), (Iv A_g.y), (Iv A_g.z), (.slice p11 A_g.vals.length q12)]), (Pt b15 0), (Bo false), (Iv i26), (Bo (isGrid A_g)), (Pt b76 0), (Bo (isGrid A_g)), (.agg #[(Fl r1), (Fl r3), (Fl r5), (Fl r7), (Iv A_g.x), (Iv A_g.y), (Iv A_g.z), (.slice p11 A_g.vals.length q12)]), (Iv 1048576), (Iv i26), (Iv i26), (Bo (icmp .lss i26 0)), (.agg #[(Fl r1), (Fl r3), (Fl r5), (Fl r7), (Iv A_g.x), (Iv A_g.y), (Iv A_g.z), (.slice p11 A_g.vals.length q12)]), (.agg #[(Fl r40), (Fl r42), (Fl r44), (Fl r46), (Iv A_g.x), (Iv A_g.y), (Iv A_g.z), (.slice p50 A_g.vals.length q51)]), (Bo (isGrid A_g)), (.agg #[(Fl r1), (Fl r3), (Fl r5), (Fl r7), (Iv A_g.x), (Iv A_g.y), (Iv A_g.z), (.slice p11 A_g.vals.length q12)]), (.agg #[(Fl r63), (Fl r65), (Fl r67), (Fl r69), (Iv A_g.x), (Iv A_g.y), (Iv A_g.z), (.slice p73 A_g.vals.length q74)]), (.agg #[(Fl r63), (Fl r65), (Fl r67), (Fl r69), (Iv A_g.x), (Iv A_g.y), (Iv A_g.z), (.slice p73 A_g.vals.length q74)]), (Bo (isGrid A_g)), (Bo (isGrid A_g)), (Bo (isGrid A_g)), (Bo ((isGrid A_g) != (isGrid A_g))), v103, v104, v105, v106, Ud]) rfl (fun _ => rfl) (fun u hu hF => ?_) (fun v106 => ?_)
  · have h22_ : v103 = (.agg #[(Fl r63), (Fl r65), (Fl r67), (Fl r69), (Iv A_g.x), (Iv A_g.y), (Iv A_g.z), (.slice p73 A_g.vals.length q74)]) := hF.1
    have h24_ : ∃ cs_1 : List Value, v105 = (.agg cs_1.toArray) ∧ Hang w90.heap.size u (fun u => RGridT u A_g cs_1) := hF.2.1
    clear hF
    obtain rfl := h22_
    obtain ⟨cs24_2, rfl, hh24_1⟩ := h24_
    obtain ⟨r24_3, r24_5, r24_7, r24_9, y24_11, rfl, h24_4, h24_6, h24_8, h24_10, h24_12⟩ := hh24_1.get
    have hh24_12 := h24_12; obtain ⟨p24_13, q24_14, rfl⟩ := Sl.shape h24_12
    refine doesG_un rfl ?_
    refine (does_call (args := #[(.agg #[(Fl r63), (Fl r65), (Fl r67), (Fl r69), (Iv A_g.x), (Iv A_g.y), (Iv A_g.z), (.slice p73 A_g.vals.length q74)]), (.agg #[(Fl r24_3), (Fl r24_5), (Fl r24_7), (Fl r24_9), (Iv A_g.x), (Iv A_g.y), (Iv A_g.z), (.slice p24_13 A_g.vals.length q24_14)])]) cal21 (evs rfl) (c_laws_eqGrid [(Fl r63), (Fl r65), (Fl r67), (Fl r69), (Iv A_g.x), (Iv A_g.y), (Iv A_g.z), (.slice p73 A_g.vals.length q74)] A_g [(Fl r24_3), (Fl r24_5), (Fl r24_7), (Fl r24_9), (Iv A_g.x), (Iv A_g.y), (Iv A_g.z), (.slice p24_13 A_g.vals.length q24_14)] A_g _ ⟨r63, r65, r67, r69, (.slice p73 A_g.vals.length q74), rfl, h64, h66, h68, h70, (Sl.ext (hh75 _ (((((Same.refl _ _).ext E79).wr W84 (.inr (Nat.le_trans (Below.size (Ext.refl _)) hb77))).ext E89).ext E100)) RF.mono hu)⟩ ⟨r24_3, r24_5, r24_7, r24_9, (.slice p24_13 A_g.vals.length q24_14), rfl, (by assumption), (by assumption), (by assumption), (by assumption), hh24_12⟩)).mono ?_; rintro v u' ⟨hx, hv⟩
    exact ⟨hv.trans (by simp only [h24_4, h24_6, h24_8, h24_10]), hx⟩
  refine RW_d (fun v107 => [(.agg #[(Fl r1), (Fl r3), (Fl r5), (Fl r7), (Iv A_g.x), (Iv A_g.y), (Iv A_g.z), (.slice p11 A_g.vals.length q12)]), (Pt b15 0), (Bo false), (Iv i26), (Bo (isGrid A_g)), (Pt b76 0), (Bo (isGrid A_g)), (.agg #[(Fl r1), (Fl r3), (Fl r5), (Fl r7), (Iv A_g.x), (Iv A_g.y), (Iv A_g.z), (.slice p11 A_g.vals.length q12)]), (Iv 1048576), (Iv i26), (Iv i26), (Bo (icmp .lss i26 0)), (.agg #[(Fl r1), (Fl r3), (Fl r5), (Fl r7), (Iv A_g.x), (Iv A_g.y), (Iv A_g.z), (.slice p11 A_g.vals.length q12)]), (.agg #[(Fl r40), (Fl r42), (Fl r44), (Fl r46), (Iv A_g.x), (Iv A_g.y), (Iv A_g.z), (.slice p50 A_g.vals.length q51)]), (Bo (isGrid A_g)), (.agg #[(Fl r1), (Fl r3), (Fl r5), (Fl r7), (Iv A_g.x), (Iv A_g.y), (Iv A_g.z), (.slice p11 A_g.vals.length q12)]), (.agg #[(Fl r63), (Fl r65), (Fl r67), (Fl r69), (Iv A_g.x), (Iv A_g.y), (Iv A_g.z), (.slice p73 A_g.vals.length q74)]), (.agg #[(Fl r63), (Fl r65), (Fl r67), (Fl r69), (Iv A_g.x), (Iv A_g.y), (Iv A_g.z), (.slice p73 A_g.vals.length q74)]), (Bo (isGrid A_g)), (Bo (isGrid A_g)), (Bo (isGrid A_g)), (Bo ((isGrid A_g) != (isGrid A_g))), v103, v104, v105, v106, v107]) rfl (fun _ => rfl) (fun u hu hF => ?_) (fun v107 => ?_)
  · have h25_ : v106 = (Bo (sameG A_g A_g)) := hF.1
    clear hF
    obtain rfl := h25_
    refine doesG_un rfl ?_
    refine (does_not (ev rfl)).mono ?_; rintro _ _ ⟨rfl, rfl⟩
    exact ⟨rfl, Ext.refl _⟩
  refine RW_fin ?_; intro w108 E109 hP110
  obtain ⟨⟨⟨⟨⟨-, -⟩, -⟩, -⟩, -⟩, q111⟩ := hP110
  have X112 := Ext.gr X102 E109
  have q111 : v107 = (Bo (!(sameG A_g A_g))) := q111
  obtain rfl := q111
  show wpList _ _ _ _ (fr [(.agg #[(Fl r1), (Fl r3), (Fl r5), (Fl r7), (Iv A_g.x), (Iv A_g.y), (Iv A_g.z), (.slice p11 A_g.vals.length q12)]), (Pt b15 0), (Bo false), (Iv i26), (Bo (isGrid A_g)), (Pt b76 0), (Bo (isGrid A_g)), (.agg #[(Fl r1), (Fl r3), (Fl r5), (Fl r7), (Iv A_g.x), (Iv A_g.y), (Iv A_g.z), (.slice p11 A_g.vals.length q12)]), (Iv 1048576), (Iv i26), (Iv i26), (Bo (icmp .lss i26 0)), (.agg #[(Fl r1), (Fl r3), (Fl r5), (Fl r7), (Iv A_g.x), (Iv A_g.y), (Iv A_g.z), (.slice p11 A_g.vals.length q12)]), (.agg #[(Fl r40), (Fl r42), (Fl r44), (Fl r46), (Iv A_g.x), (Iv A_g.y), (Iv A_g.z), (.slice p50 A_g.vals.length q51)]), (Bo (isGrid A_g)), (.agg #[(Fl r1), (Fl r3), (Fl r5), (Fl r7), (Iv A_g.x), (Iv A_g.y), (Iv A_g.z), (.slice p11 A_g.vals.length q12)]), (.agg #[(Fl r63), (Fl r65), (Fl r67), (Fl r69), (Iv A_g.x), (Iv A_g.y), (Iv A_g.z), (.slice p73 A_g.vals.length q74)]), (.agg #[(Fl r63), (Fl r65), (Fl r67), (Fl r69), (Iv A_g.x), (Iv A_g.y), (Iv A_g.z), (.slice p73 A_g.vals.length q74)]), (Bo (isGrid A_g)), (Bo (isGrid A_g)), (Bo (isGrid A_g)), (Bo ((isGrid A_g) != (isGrid A_g))), v103, v104, v105, v106, (Bo (!(sameG A_g A_g)))]) _
  refine wpList_nil (hK98 _ _ ?_)
  refine wp_cond_split (t := !(sameG A_g A_g)) (ev rfl) (fun c113 => ?_) (fun c113 => ?_)
  · rw [Bool.not_eq_true'] at c113
    have c113' := c113
    refine wp_seq_k fun K114 hK114 => ?_
    refine wp_region_lit ?_
    refine q_is (l' := [(.agg #[(Fl r1), (Fl r3), (Fl r5), (Fl r7), (Iv A_g.x), (Iv A_g.y), (Iv A_g.z), (.slice p11 A_g.vals.length q12)]), (Pt b15 0), (Bo false), (Iv i26), (Bo (isGrid A_g)), (Pt b76 0), (Bo (isGrid A_g)), (.agg #[(Fl r1), (Fl r3), (Fl r5), (Fl r7), (Iv A_g.x), (Iv A_g.y), (Iv A_g.z), (.slice p11 A_g.vals.length q12)]), (Iv 1048576), (Iv i26), (Iv i26), (Bo (icmp .lss i26 0)), (.agg #[(Fl r1), (Fl r3), (Fl r5), (Fl r7), (Iv A_g.x), (Iv A_g.y), (Iv A_g.z), (.slice p11 A_g.vals.length q12)]), (.agg #[(Fl r40), (Fl r42), (Fl r44), (Fl r46), (Iv A_g.x), (Iv A_g.y), (Iv A_g.z), (.slice p50 A_g.vals.length q51)]), (Bo (isGrid A_g)), (.agg #[(Fl r1), (Fl r3), (Fl r5), (Fl r7), (Iv A_g.x), (Iv A_g.y), (Iv A_g.z), (.slice p11 A_g.vals.length q12)]), (.agg #[(Fl r63), (Fl r65), (Fl r67), (Fl r69), (Iv A_g.x), (Iv A_g.y), (Iv A_g.z), (.slice p73 A_g.vals.length q74)]), (.agg #[(Fl r63), (Fl r65), (Fl r67), (Fl r69), (Iv A_g.x), (Iv A_g.y), (Iv A_g.z), (.slice p73 A_g.vals.length q74)]), (Bo (isGrid A_g)), (Bo (isGrid A_g)), (Bo (isGrid A_g)), (Bo ((isGrid A_g) != (isGrid A_g))), v103, v104, v105, v106, (Bo (!(sameG A_g A_g)))]) rfl rfl (does_assign (u := (Bo false)) (ev rfl)) rfl ?_
    refine wpList_nil (hK114 _ _ ?_)
    refine wp_ret ?_
    dsimp only [Exit.then, Exit.inBlock]
    refine ret_val (v := (Bo false)) (res_T rfl (slot rfl)) X112 ?_
    try simp only [h2, h4, h6, h8, h41, h43, h45, h47, h64, h66, h68, h70] at c31 c94 c113
    have x115 : true = false := by first | rfl | (simp only [sameG_self, sameL_self, sameF_self, sameV_self, sameB_self, sameR_self, bne_self_eq_false, h2, h4, h6, h8, h41, h43, h45, h47, h64, h66, h68, h70, c31, c94, c113]; done) | (simp [sameG_self, sameL_self, sameF_self, sameV_self, sameB_self, sameR_self, bne_self_eq_false, h2, h4, h6, h8, h41, h43, h45, h47, h64, h66, h68, h70, c31, c94, c113]; done) | (revert c31 c94 c113; simp +contextual [sameG_self, sameL_self, sameF_self, sameV_self, sameB_self, sameR_self, bne_self_eq_false, h2, h4, h6, h8, h41, h43, h45, h47, h64, h66, h68, h70]; done) | (rcases c31' with hh | hh <;> simp only [hh, sameG_self, sameL_self, sameF_self, sameV_self, sameB_self, sameR_self, bne_self_eq_false, h2, h4, h6, h8, h41, h43, h45, h47, h64, h66, h68, h70, c31, c94, c113]; done) | (rcases c94' with hh | hh <;> simp only [hh, sameG_self, sameL_self, sameF_self, sameV_self, sameB_self, sameR_self, bne_self_eq_false, h2, h4, h6, h8, h41, h43, h45, h47, h64, h66, h68, h70, c31, c94, c113]; done) | (rcases c113' with hh | hh <;> simp only [hh, sameG_self, sameL_self, sameF_self, sameV_self, sameB_self, sameR_self, bne_self_eq_false, h2, h4, h6, h8, h41, h43, h45, h47, h64, h66, h68, h70, c31, c94, c113]; done) | (rcases c113' with hh | hh <;> simp_all [sameG_self, sameL_self, sameF_self, sameV_self, sameB_self, sameR_self, bne_self_eq_false]; done) | (rcases c113' with hh | hh | hh <;> simp_all [sameG_self, sameL_self, sameF_self, sameV_self, sameB_self, sameR_self, bne_self_eq_false]; done) | (rcases c113' with hh | hh | hh | hh <;> simp_all [sameG_self, sameL_self, sameF_self, sameV_self, sameB_self, sameR_self, bne_self_eq_false]; done) | (simp_all [sameG_self, sameL_self, sameF_self, sameV_self, sameB_self, sameR_self, bne_self_eq_false]; done)
    exact (by first | rfl | rw [x115])
  rw [Bool.not_eq_false'] at c113
  have c113' := c113
  refine wp_skip (hK97 _ _ ?_)
  refine wp_seq_k fun K116 hK116 => ?_
  refine wp_region_lit ?_
  refine q_is (l' := [(.agg #[(Fl r1), (Fl r3), (Fl r5), (Fl r7), (Iv A_g.x), (Iv A_g.y), (Iv A_g.z), (.slice p11 A_g.vals.length q12)]), (Pt b15 0), (Bo true), (Iv i26), (Bo (isGrid A_g)), (Pt b76 0), (Bo (isGrid A_g)), (.agg #[(Fl r1), (Fl r3), (Fl r5), (Fl r7), (Iv A_g.x), (Iv A_g.y), (Iv A_g.z), (.slice p11 A_g.vals.length q12)]), (Iv 1048576), (Iv i26), (Iv i26), (Bo (icmp .lss i26 0)), (.agg #[(Fl r1), (Fl r3), (Fl r5), (Fl r7), (Iv A_g.x), (Iv A_g.y), (Iv A_g.z), (.slice p11 A_g.vals.length q12)]), (.agg #[(Fl r40), (Fl r42), (Fl r44), (Fl r46), (Iv A_g.x), (Iv A_g.y), (Iv A_g.z), (.slice p50 A_g.vals.length q51)]), (Bo (isGrid A_g)), (.agg #[(Fl r1), (Fl r3), (Fl r5), (Fl r7), (Iv A_g.x), (Iv A_g.y), (Iv A_g.z), (.slice p11 A_g.vals.length q12)]), (.agg #[(Fl r63), (Fl r65), (Fl r67), (Fl r69), (Iv A_g.x), (Iv A_g.y), (Iv A_g.z), (.slice p73 A_g.vals.length q74)]), (.agg #[(Fl r63), (Fl r65), (Fl r67), (Fl r69), (Iv A_g.x), (Iv A_g.y), (Iv A_g.z), (.slice p73 A_g.vals.length q74)]), (Bo (isGrid A_g)), (Bo (isGrid A_g)), (Bo (isGrid A_g)), (Bo ((isGrid A_g) != (isGrid A_g))), v103, v104, v105, v106, (Bo (!(sameG A_g A_g)))]) rfl rfl (does_assign (u := (Bo true)) (ev rfl)) rfl ?_
  refine wpList_nil (hK116 _ _ ?_)
  refine wp_ret ?_
  refine ret_val (v := (Bo true)) (res_T rfl (slot rfl)) X112 ?_
  try simp only [h2, h4, h6, h8, h41, h43, h45, h47, h64, h66, h68, h70] at c31 c94 c113
  exact rfl

end Go.Proofs.Ytibfpalicagadaa
