/- contracts of functions, each walked once -/
import Derived.Test.YtjopopmipdakkaaTy
import Derived.Test.YtjopopmipdakkaaMsy
import Derived.Test.YtjopopmipdakkaaKmp
import Derived.Test.YtjopopmipdakkaaPk
import Derived.Test.YtjopopmipdakkaaFlp
import Derived.Test.YtjopopmipdakkaaMap
namespace Go.Proofs.Ytjopopmipdakkaa
open Go Go.RowKit
set_option maxRecDepth 100000
set_option maxHeartbeats 3200000
set_option linter.unusedVariables false
set_option linter.unusedSimpArgs false

/- impl.corner -/
theorem c_impl_corner (x : Int) (y : Int) (z : Int) (c_ : Int) (w : World) (hxyz : (0 ≤ x ∧ x ≤ 100) ∧ (0 ≤ y ∧ y ≤ 100) ∧ (0 ≤ z ∧ z ≤ 100)) (hc : 0 ≤ c_ ∧ c_ ≤ 7) : Gives Try.prog 58 #[(.agg #[(Iv x), (Iv y), (Iv z)]), (Iv c_)] w (fun v w' => v = (.agg #[(Iv (x + c_ % 2)), (Iv (y + c_ / 2 % 2)), (Iv (z + c_ / 4))])) := by
  have e1 : c_ / 2 ^ (1 : Int).toNat = c_ / 2 := rfl
  have e2 : c_ / 2 ^ (2 : Int).toNat = c_ / 4 := rfl
  refine enter [(.agg #[(Iv x), (Iv y), (Iv z)]), (Iv c_), Ud, Ud, Ud, Ud, Ud, Ud, Ud, Ud, Ud, Ud, Ud, Ud, Ud, Ud, Ud, Ud, Ud, Ud, Ud, Ud] Try.func58 rfl Try.ntmps58 rfl ?_
  refine wr fun _ K1 => ?_
  refine sd (does_box (u := (.agg #[(Iv x), (Iv y), (Iv z)])) (ev rfl)) ?_; rintro _ w6 ⟨b2, rfl, hb3, hB4, E5⟩
  change Blk _ _ [(Iv x), (Iv y), (Iv z)] at hB4
  have X8 := Ext.gr (Ext.refl w) E5
  refine fz ?_
  refine sd (does_alloc z69) ?_; rintro _ w13 ⟨b9, rfl, hb10, hB11, E12⟩
  have g15 : w.heap.size ≤ b9 := Nat.le_trans (Below.size X8) hb10
  change Blk _ _ [(Iv 0), (Iv 0), (Iv 0)] at hB11
  have X16 := Ext.gr X8 E12
  refine fz ?_
  refine wn K1 ?_
  refine wr fun _ K17 => ?_
  refine jj (does_indexAt_run (r := (Pt b2 0)) (ev rfl) (ev rfl) (fun w => ia69_0 _ _ w)) ?_
  refine jj (does_load (u := (Iv x)) (ev rfl) Try.isAgg2 (Cells.at (Blk.cells (hB4.ext E12)) 0 rfl)) ?_
  refine jm (Iv c_) ?_
  refine jj (does_and1 (p := c_) (ev rfl) (ev rfl)) ?_
  refine jj (does_iarith (p := x) (q := c_ % 2) (r := x + (c_ % 2)) (ev rfl) (ev rfl) (.inl ⟨rfl, (in_i64 (by omega) (by omega)).symm⟩)) ?_
  refine jj (does_indexAt_run (r := (Pt b2 1)) (ev rfl) (ev rfl) (fun w => ia69_1 _ _ w)) ?_
  refine jj (does_load (u := (Iv y)) (ev rfl) Try.isAgg2 (Cells.at (Blk.cells (hB4.ext E12)) 1 rfl)) ?_
  refine jm (Iv c_) ?_
  refine jj (does_shr (p := c_) (c := 1) (ev rfl) (ev rfl) (by omega) (by omega)) ?_
  refine jj (does_and1 (p := c_ / 2 ^ (1 : Int).toNat) (ev rfl) (ev rfl)) ?_
  refine jj (does_iarith (p := y) (q := (c_ / 2 ^ (1 : Int).toNat) % 2) (r := y + ((c_ / 2 ^ (1 : Int).toNat) % 2)) (ev rfl) (ev rfl) (.inl ⟨rfl, (in_i64 (by omega) (by omega)).symm⟩)) ?_
  refine jj (does_indexAt_run (r := (Pt b2 2)) (ev rfl) (ev rfl) (fun w => ia69_2 _ _ w)) ?_
  refine jj (does_load (u := (Iv z)) (ev rfl) Try.isAgg2 (Cells.at (Blk.cells (hB4.ext E12)) 2 rfl)) ?_
  refine jm (Iv c_) ?_
  refine jj (does_shr (p := c_) (c := 2) (ev rfl) (ev rfl) (by omega) (by omega)) ?_
  refine jj (does_iarith (p := z) (q := c_ / 2 ^ (2 : Int).toNat) (r := z + (c_ / 2 ^ (2 : Int).toNat)) (ev rfl) (ev rfl) (.inl ⟨rfl, (in_i64 (by omega) (by omega)).symm⟩)) ?_
  refine jj (does_build (parts' := [(0, (Iv (x + (c_ % 2)))), (1, (Iv (y + ((c_ / 2 ^ (1 : Int).toNat) % 2)))), (2, (Iv (z + (c_ / 2 ^ (2 : Int).toNat))))]) (cells := #[(Iv (x + (c_ % 2))), (Iv (y + ((c_ / 2 ^ (1 : Int).toNat) % 2))), (Iv (z + (c_ / 2 ^ (2 : Int).toNat)))]) (evp rfl) (by kernel_rfl)) ?_
  refine sn (does_store (n := 3) (cs := [(Iv 0), (Iv 0), (Iv 0)]) (u := (.agg #[(Iv (x + (c_ % 2))), (Iv (y + ((c_ / 2 ^ (1 : Int).toNat) % 2))), (Iv (z + (c_ / 2 ^ (2 : Int).toNat)))])) (ev rfl) (ev rfl) Try.sizeOf69 rfl hB11 (Nat.le_of_ble_eq_true rfl) rfl) ?_; rintro _ w20 ⟨rfl, W18, hB19⟩
  change Blk _ _ [(Iv (x + (c_ % 2))), (Iv (y + ((c_ / 2 ^ (1 : Int).toNat) % 2))), (Iv (z + (c_ / 2 ^ (2 : Int).toNat)))] at hB19
  have X21 := Below.wr X16 W18 g15
  refine wn K17 ?_
  refine wp_ret ?_
  refine ret_val (v := (.agg #[(Iv (x + (c_ % 2))), (Iv (y + ((c_ / 2 ^ (1 : Int).toNat) % 2))), (Iv (z + (c_ / 2 ^ (2 : Int).toNat)))])) (res_C rfl (slot rfl) (run_loadAgg (cs := [(Iv (x + (c_ % 2))), (Iv (y + ((c_ / 2 ^ (1 : Int).toNat) % 2))), (Iv (z + (c_ / 2 ^ (2 : Int).toNat)))]) Try.isAgg69 Try.sizeOf69 (Blk.cells hB19) rfl)) X21 ?_
  have x22 : (x + c_ % 2 : Int) = (x + (c_ % 2)) := by rfl
  have x23 : (y + c_ / 2 % 2 : Int) = (y + ((c_ / 2 ^ (1 : Int).toNat) % 2)) := by rfl
  have x24 : (z + c_ / 4 : Int) = (z + (c_ / 2 ^ (2 : Int).toNat)) := by rfl
  exact (by first | with_reducible rfl | rw [x22, x23, x24] | rw [x24, x23, x22] | rfl)

/- impl.AddVectors -/
theorem c_impl_AddVectors (a : List Value) (A_a : V3) (b : List Value) (A_b : V3) (w : World) (hv_a : RV3 w A_a a) (hv_b : RV3 w A_b b) : Gives Try.prog 78 #[(.agg a.toArray), (.agg b.toArray)] w (fun v w' => ∃ cs_1 : List Value, v = (.agg cs_1.toArray) ∧ RV3 w (vadd A_a A_b) cs_1) := by
  obtain ⟨r1, r3, r5, rfl, h2, h4, h6⟩ := hv_a
  obtain ⟨r7, r9, r11, rfl, h8, h10, h12⟩ := hv_b
  refine enter [(.agg #[(Fl r1), (Fl r3), (Fl r5)]), (.agg #[(Fl r7), (Fl r9), (Fl r11)]), Ud, Ud, Ud, Ud, Ud, Ud, Ud, Ud, Ud, Ud, Ud, Ud, Ud, Ud, Ud, Ud, Ud, Ud, Ud] Try.func78 rfl Try.ntmps78 rfl ?_
  refine wr fun _ K13 => ?_
  refine sd (does_box (u := (.agg #[(Fl r1), (Fl r3), (Fl r5)])) (ev rfl)) ?_; rintro _ w18 ⟨b14, rfl, hb15, hB16, E17⟩
  change Blk _ _ [(Fl r1), (Fl r3), (Fl r5)] at hB16
  have X20 := Ext.gr (Ext.refl w) E17
  refine fz ?_
  refine sd (does_box (u := (.agg #[(Fl r7), (Fl r9), (Fl r11)])) (ev rfl)) ?_; rintro _ w25 ⟨b21, rfl, hb22, hB23, E24⟩
  change Blk _ _ [(Fl r7), (Fl r9), (Fl r11)] at hB23
  have X28 := Ext.gr X20 E24
  refine fz ?_
  refine sd (does_alloc z35) ?_; rintro _ w33 ⟨b29, rfl, hb30, hB31, E32⟩
  have g36 : w.heap.size ≤ b29 := Nat.le_trans (Below.size X28) hb30
  change Blk _ _ [(Fl 0), (Fl 0), (Fl 0)] at hB31
  have X37 := Ext.gr X28 E32
  refine fz ?_
  refine wn K13 ?_
  refine wr fun _ K38 => ?_
  refine jj (does_fieldAddr (ev rfl) fa35_0) ?_
  refine jj (does_load (u := (Fl r1)) (ev rfl) Try.isAgg22 (Cells.at (Blk.cells ((hB16.ext E24).ext E32)) 0 rfl)) ?_
  refine jj (does_fieldAddr (ev rfl) fa35_0) ?_
  refine jj (does_load (u := (Fl r7)) (ev rfl) Try.isAgg22 (Cells.at (Blk.cells (hB23.ext E32)) 0 rfl)) ?_
  refine sd (does_float (.inl rfl) (ev rfl) (ev rfl)) ?_; rintro _ w42 ⟨r39, rfl, h40, E41⟩
  have X43 := Ext.gr X37 E41
  refine fz ?_
  refine jj (does_fieldAddr (ev rfl) fa35_1) ?_
  refine jj (does_load (u := (Fl r3)) (ev rfl) Try.isAgg22 (Cells.at (Blk.cells (((hB16.ext E24).ext E32).ext E41)) 1 rfl)) ?_
  refine jj (does_fieldAddr (ev rfl) fa35_1) ?_
  refine jj (does_load (u := (Fl r9)) (ev rfl) Try.isAgg22 (Cells.at (Blk.cells ((hB23.ext E32).ext E41)) 1 rfl)) ?_
  refine sd (does_float (.inl rfl) (ev rfl) (ev rfl)) ?_; rintro _ w47 ⟨r44, rfl, h45, E46⟩
  have X48 := Ext.gr X43 E46
  refine fz ?_
  refine jj (does_fieldAddr (ev rfl) fa35_2) ?_
  refine jj (does_load (u := (Fl r5)) (ev rfl) Try.isAgg22 (Cells.at (Blk.cells ((((hB16.ext E24).ext E32).ext E41).ext E46)) 2 rfl)) ?_
  refine jj (does_fieldAddr (ev rfl) fa35_2) ?_
  refine jj (does_load (u := (Fl r11)) (ev rfl) Try.isAgg22 (Cells.at (Blk.cells (((hB23.ext E32).ext E41).ext E46)) 2 rfl)) ?_
  refine sd (does_float (.inl rfl) (ev rfl) (ev rfl)) ?_; rintro _ w52 ⟨r49, rfl, h50, E51⟩
  have X53 := Ext.gr X48 E51
  refine fz ?_
  refine jj (does_build (parts' := [(0, (Fl r39)), (1, (Fl r44)), (2, (Fl r49))]) (cells := #[(Fl r39), (Fl r44), (Fl r49)]) (evp rfl) (by kernel_rfl)) ?_
  refine sn (does_store (n := 3) (cs := [(Fl 0), (Fl 0), (Fl 0)]) (u := (.agg #[(Fl r39), (Fl r44), (Fl r49)])) (ev rfl) (ev rfl) Try.sizeOf35 rfl (((hB31.ext E41).ext E46).ext E51) (Nat.le_of_ble_eq_true rfl) rfl) ?_; rintro _ w56 ⟨rfl, W54, hB55⟩
  change Blk _ _ [(Fl r39), (Fl r44), (Fl r49)] at hB55
  have X57 := Below.wr X53 W54 g36
  refine wn K38 ?_
  refine wp_ret ?_
  refine ret_val (v := (.agg #[(Fl r39), (Fl r44), (Fl r49)])) (res_C rfl (slot rfl) (run_loadAgg (cs := [(Fl r39), (Fl r44), (Fl r49)]) Try.isAgg35 Try.sizeOf35 (Blk.cells hB55) rfl)) X57 ?_
  have x58 : cf .f32 r39 = (vadd A_a A_b).x := by first | with_reducible rfl | (simp only [vadd, h2, h4, h6, h8, h10, h12, h40, h45, h50]; done) | (simp [vadd, h2, h4, h6, h8, h10, h12, h40, h45, h50]; done) | rfl
  have x59 : cf .f32 r44 = (vadd A_a A_b).y := by first | with_reducible rfl | (simp only [vadd, h2, h4, h6, h8, h10, h12, h40, h45, h50]; done) | (simp [vadd, h2, h4, h6, h8, h10, h12, h40, h45, h50]; done) | rfl
  have x60 : cf .f32 r49 = (vadd A_a A_b).z := by first | with_reducible rfl | (simp only [vadd, h2, h4, h6, h8, h10, h12, h40, h45, h50]; done) | (simp [vadd, h2, h4, h6, h8, h10, h12, h40, h45, h50]; done) | rfl
  exact ⟨[(Fl r39), (Fl r44), (Fl r49)], rfl, ⟨r39, r44, r49, rfl, x58, x59, x60⟩⟩

/- impl.ScaleVector -/
theorem c_impl_ScaleVector (a : List Value) (A_a : V3) (b : Nat) (w : World) (hv_a : RV3 w A_a a) : Gives Try.prog 79 #[(.agg a.toArray), (Fl b)] w (fun v w' => ∃ cs_1 : List Value, v = (.agg cs_1.toArray) ∧ RV3 w (vscale A_a (cf .f32 b)) cs_1) := by
  obtain ⟨r1, r3, r5, rfl, h2, h4, h6⟩ := hv_a
  refine enter [(.agg #[(Fl r1), (Fl r3), (Fl r5)]), (Fl b), Ud, Ud, Ud, Ud, Ud, Ud, Ud, Ud, Ud, Ud, Ud, Ud, Ud, Ud, Ud, Ud] Try.func79 rfl Try.ntmps79 rfl ?_
  refine wr fun _ K7 => ?_
  refine sd (does_box (u := (.agg #[(Fl r1), (Fl r3), (Fl r5)])) (ev rfl)) ?_; rintro _ w12 ⟨b8, rfl, hb9, hB10, E11⟩
  change Blk _ _ [(Fl r1), (Fl r3), (Fl r5)] at hB10
  have X14 := Ext.gr (Ext.refl w) E11
  refine fz ?_
  refine sd (does_alloc z35) ?_; rintro _ w19 ⟨b15, rfl, hb16, hB17, E18⟩
  have g21 : w.heap.size ≤ b15 := Nat.le_trans (Below.size X14) hb16
  change Blk _ _ [(Fl 0), (Fl 0), (Fl 0)] at hB17
  have X22 := Ext.gr X14 E18
  refine fz ?_
  refine wn K7 ?_
  refine wr fun _ K23 => ?_
  refine jj (does_fieldAddr (ev rfl) fa35_0) ?_
  refine jj (does_load (u := (Fl r1)) (ev rfl) Try.isAgg22 (Cells.at (Blk.cells (hB10.ext E18)) 0 rfl)) ?_
  refine jm (Fl b) ?_
  refine sd (does_float (.inr (.inr (.inl rfl))) (ev rfl) (ev rfl)) ?_; rintro _ w27 ⟨r24, rfl, h25, E26⟩
  have X28 := Ext.gr X22 E26
  refine fz ?_
  refine jj (does_fieldAddr (ev rfl) fa35_1) ?_
  refine jj (does_load (u := (Fl r3)) (ev rfl) Try.isAgg22 (Cells.at (Blk.cells ((hB10.ext E18).ext E26)) 1 rfl)) ?_
  refine jm (Fl b) ?_
  refine sd (does_float (.inr (.inr (.inl rfl))) (ev rfl) (ev rfl)) ?_; rintro _ w32 ⟨r29, rfl, h30, E31⟩
  have X33 := Ext.gr X28 E31
  refine fz ?_
  refine jj (does_fieldAddr (ev rfl) fa35_2) ?_
  refine jj (does_load (u := (Fl r5)) (ev rfl) Try.isAgg22 (Cells.at (Blk.cells (((hB10.ext E18).ext E26).ext E31)) 2 rfl)) ?_
  refine jm (Fl b) ?_
  refine sd (does_float (.inr (.inr (.inl rfl))) (ev rfl) (ev rfl)) ?_; rintro _ w37 ⟨r34, rfl, h35, E36⟩
  have X38 := Ext.gr X33 E36
  refine fz ?_
  refine jj (does_build (parts' := [(0, (Fl r24)), (1, (Fl r29)), (2, (Fl r34))]) (cells := #[(Fl r24), (Fl r29), (Fl r34)]) (evp rfl) (by kernel_rfl)) ?_
  refine sn (does_store (n := 3) (cs := [(Fl 0), (Fl 0), (Fl 0)]) (u := (.agg #[(Fl r24), (Fl r29), (Fl r34)])) (ev rfl) (ev rfl) Try.sizeOf35 rfl (((hB17.ext E26).ext E31).ext E36) (Nat.le_of_ble_eq_true rfl) rfl) ?_; rintro _ w41 ⟨rfl, W39, hB40⟩
  change Blk _ _ [(Fl r24), (Fl r29), (Fl r34)] at hB40
  have X42 := Below.wr X38 W39 g21
  refine wn K23 ?_
  refine wp_ret ?_
  refine ret_val (v := (.agg #[(Fl r24), (Fl r29), (Fl r34)])) (res_C rfl (slot rfl) (run_loadAgg (cs := [(Fl r24), (Fl r29), (Fl r34)]) Try.isAgg35 Try.sizeOf35 (Blk.cells hB40) rfl)) X42 ?_
  have x43 : cf .f32 r24 = (vscale A_a (cf .f32 b)).x := by first | with_reducible rfl | (simp only [vscale, h2, h4, h6, h25, h30, h35]; done) | (simp [vscale, h2, h4, h6, h25, h30, h35]; done) | rfl
  have x44 : cf .f32 r29 = (vscale A_a (cf .f32 b)).y := by first | with_reducible rfl | (simp only [vscale, h2, h4, h6, h25, h30, h35]; done) | (simp [vscale, h2, h4, h6, h25, h30, h35]; done) | rfl
  have x45 : cf .f32 r34 = (vscale A_a (cf .f32 b)).z := by first | with_reducible rfl | (simp only [vscale, h2, h4, h6, h25, h30, h35]; done) | (simp [vscale, h2, h4, h6, h25, h30, h35]; done) | rfl
  exact ⟨[(Fl r24), (Fl r29), (Fl r34)], rfl, ⟨r24, r29, r34, rfl, x43, x44, x45⟩⟩

/- impl.LessVectors -/
theorem c_impl_LessVectors (a : List Value) (A_a : V3) (b : List Value) (A_b : V3) (w : World) (hv_a : RV3 w A_a a) (hv_b : RV3 w A_b b) : Gives Try.prog 80 #[(.agg a.toArray), (.agg b.toArray)] w (fun v w' => ∃ cs_1 : List Value, v = (.agg cs_1.toArray) ∧ RV3 w (vsub A_a A_b) cs_1) := by
  obtain ⟨r1, r3, r5, rfl, h2, h4, h6⟩ := hv_a
  obtain ⟨r7, r9, r11, rfl, h8, h10, h12⟩ := hv_b
  refine enter [(.agg #[(Fl r1), (Fl r3), (Fl r5)]), (.agg #[(Fl r7), (Fl r9), (Fl r11)]), Ud, Ud, Ud, Ud, Ud, Ud, Ud, Ud, Ud, Ud, Ud, Ud, Ud, Ud, Ud, Ud, Ud, Ud, Ud] Try.func80 rfl Try.ntmps80 rfl ?_
  refine wr fun _ K13 => ?_
  refine sd (does_box (u := (.agg #[(Fl r1), (Fl r3), (Fl r5)])) (ev rfl)) ?_; rintro _ w18 ⟨b14, rfl, hb15, hB16, E17⟩
  change Blk _ _ [(Fl r1), (Fl r3), (Fl r5)] at hB16
  have X20 := Ext.gr (Ext.refl w) E17
  refine fz ?_
  refine sd (does_box (u := (.agg #[(Fl r7), (Fl r9), (Fl r11)])) (ev rfl)) ?_; rintro _ w25 ⟨b21, rfl, hb22, hB23, E24⟩
  change Blk _ _ [(Fl r7), (Fl r9), (Fl r11)] at hB23
  have X28 := Ext.gr X20 E24
  refine fz ?_
  refine sd (does_alloc z35) ?_; rintro _ w33 ⟨b29, rfl, hb30, hB31, E32⟩
  have g36 : w.heap.size ≤ b29 := Nat.le_trans (Below.size X28) hb30
  change Blk _ _ [(Fl 0), (Fl 0), (Fl 0)] at hB31
  have X37 := Ext.gr X28 E32
  refine fz ?_
  refine wn K13 ?_
  refine wr fun _ K38 => ?_
  refine jj (does_fieldAddr (ev rfl) fa35_0) ?_
  refine jj (does_load (u := (Fl r1)) (ev rfl) Try.isAgg22 (Cells.at (Blk.cells ((hB16.ext E24).ext E32)) 0 rfl)) ?_
  refine jj (does_fieldAddr (ev rfl) fa35_0) ?_
  refine jj (does_load (u := (Fl r7)) (ev rfl) Try.isAgg22 (Cells.at (Blk.cells (hB23.ext E32)) 0 rfl)) ?_
  refine sd (does_float (.inr (.inl rfl)) (ev rfl) (ev rfl)) ?_; rintro _ w42 ⟨r39, rfl, h40, E41⟩
  have X43 := Ext.gr X37 E41
  refine fz ?_
  refine jj (does_fieldAddr (ev rfl) fa35_1) ?_
  refine jj (does_load (u := (Fl r3)) (ev rfl) Try.isAgg22 (Cells.at (Blk.cells (((hB16.ext E24).ext E32).ext E41)) 1 rfl)) ?_
  refine jj (does_fieldAddr (ev rfl) fa35_1) ?_
  refine jj (does_load (u := (Fl r9)) (ev rfl) Try.isAgg22 (Cells.at (Blk.cells ((hB23.ext E32).ext E41)) 1 rfl)) ?_
  refine sd (does_float (.inr (.inl rfl)) (ev rfl) (ev rfl)) ?_; rintro _ w47 ⟨r44, rfl, h45, E46⟩
  have X48 := Ext.gr X43 E46
  refine fz ?_
  refine jj (does_fieldAddr (ev rfl) fa35_2) ?_
  refine jj (does_load (u := (Fl r5)) (ev rfl) Try.isAgg22 (Cells.at (Blk.cells ((((hB16.ext E24).ext E32).ext E41).ext E46)) 2 rfl)) ?_
  refine jj (does_fieldAddr (ev rfl) fa35_2) ?_
  refine jj (does_load (u := (Fl r11)) (ev rfl) Try.isAgg22 (Cells.at (Blk.cells (((hB23.ext E32).ext E41).ext E46)) 2 rfl)) ?_
  refine sd (does_float (.inr (.inl rfl)) (ev rfl) (ev rfl)) ?_; rintro _ w52 ⟨r49, rfl, h50, E51⟩
  have X53 := Ext.gr X48 E51
  refine fz ?_
  refine jj (does_build (parts' := [(0, (Fl r39)), (1, (Fl r44)), (2, (Fl r49))]) (cells := #[(Fl r39), (Fl r44), (Fl r49)]) (evp rfl) (by kernel_rfl)) ?_
  refine sn (does_store (n := 3) (cs := [(Fl 0), (Fl 0), (Fl 0)]) (u := (.agg #[(Fl r39), (Fl r44), (Fl r49)])) (ev rfl) (ev rfl) Try.sizeOf35 rfl (((hB31.ext E41).ext E46).ext E51) (Nat.le_of_ble_eq_true rfl) rfl) ?_; rintro _ w56 ⟨rfl, W54, hB55⟩
  change Blk _ _ [(Fl r39), (Fl r44), (Fl r49)] at hB55
  have X57 := Below.wr X53 W54 g36
  refine wn K38 ?_
  refine wp_ret ?_
  refine ret_val (v := (.agg #[(Fl r39), (Fl r44), (Fl r49)])) (res_C rfl (slot rfl) (run_loadAgg (cs := [(Fl r39), (Fl r44), (Fl r49)]) Try.isAgg35 Try.sizeOf35 (Blk.cells hB55) rfl)) X57 ?_
  have x58 : cf .f32 r39 = (vsub A_a A_b).x := by first | with_reducible rfl | (simp only [vsub, h2, h4, h6, h8, h10, h12, h40, h45, h50]; done) | (simp [vsub, h2, h4, h6, h8, h10, h12, h40, h45, h50]; done) | rfl
  have x59 : cf .f32 r44 = (vsub A_a A_b).y := by first | with_reducible rfl | (simp only [vsub, h2, h4, h6, h8, h10, h12, h40, h45, h50]; done) | (simp [vsub, h2, h4, h6, h8, h10, h12, h40, h45, h50]; done) | rfl
  have x60 : cf .f32 r49 = (vsub A_a A_b).z := by first | with_reducible rfl | (simp only [vsub, h2, h4, h6, h8, h10, h12, h40, h45, h50]; done) | (simp [vsub, h2, h4, h6, h8, h10, h12, h40, h45, h50]; done) | rfl
  exact ⟨[(Fl r39), (Fl r44), (Fl r49)], rfl, ⟨r39, r44, r49, rfl, x58, x59, x60⟩⟩

/- impl.BetweenVectors -/
theorem c_impl_BetweenVectors (a : List Value) (A_a : V3) (b : List Value) (A_b : V3) (t_ : Nat) (w : World) (hv_a : RV3 w A_a a) (hv_b : RV3 w A_b b) : Gives Try.prog 70 #[(.agg a.toArray), (.agg b.toArray), (Fl t_)] w (fun v w' => ∃ cs_1 : List Value, v = (.agg cs_1.toArray) ∧ RV3 w (btwV A_a A_b (cf .f32 t_)) cs_1) := by
  obtain ⟨r1, r3, r5, rfl, h2, h4, h6⟩ := hv_a
  obtain ⟨r7, r9, r11, rfl, h8, h10, h12⟩ := hv_b
  refine enter [(.agg #[(Fl r1), (Fl r3), (Fl r5)]), (.agg #[(Fl r7), (Fl r9), (Fl r11)]), (Fl t_), Ud, Ud, Ud, Ud, Ud, Ud, Ud, Ud, Ud, Ud, Ud] Try.func70 rfl Try.ntmps70 rfl ?_
  refine wr fun _ K13 => ?_
  refine sd (does_box (u := (.agg #[(Fl r1), (Fl r3), (Fl r5)])) (ev rfl)) ?_; rintro _ w18 ⟨b14, rfl, hb15, hB16, E17⟩
  change Blk _ _ [(Fl r1), (Fl r3), (Fl r5)] at hB16
  have X20 := Ext.gr (Ext.refl w) E17
  refine fz ?_
  refine sd (does_box (u := (.agg #[(Fl r7), (Fl r9), (Fl r11)])) (ev rfl)) ?_; rintro _ w25 ⟨b21, rfl, hb22, hB23, E24⟩
  change Blk _ _ [(Fl r7), (Fl r9), (Fl r11)] at hB23
  have X28 := Ext.gr X20 E24
  refine fz ?_
  refine sd (does_alloc z35) ?_; rintro _ w33 ⟨b29, rfl, hb30, hB31, E32⟩
  have g36 : w.heap.size ≤ b29 := Nat.le_trans (Below.size X28) hb30
  change Blk _ _ [(Fl 0), (Fl 0), (Fl 0)] at hB31
  have X37 := Ext.gr X28 E32
  refine fz ?_
  refine wn K13 ?_
  refine ws fun _ K38 => ?_
  refine region_draw (
    [Fact.pure [] (fun v => v = (.agg #[(Fl r1), (Fl r3), (Fl r5)])),
    Fact.pure [] (fun v => v = (.agg #[(Fl r7), (Fl r9), (Fl r11)])),
    Fact.pure [] (fun v => v = (.agg #[(Fl r1), (Fl r3), (Fl r5)])),
    Fact.pure [8, 9] (fun v => ∃ cs_1 : List Value, v = (.agg cs_1.toArray) ∧ RV3 w (vsub A_b A_a) cs_1),
    Fact.pure [] (fun v => v = (Fl t_)),
    Fact.pure [10, 11] (fun v => ∃ cs_1 : List Value, v = (.agg cs_1.toArray) ∧ RV3 w (vscale (vsub A_b A_a) (cf .f32 t_)) cs_1),
    Fact.pure [7, 12] (fun v => ∃ cs_1 : List Value, v = (.agg cs_1.toArray) ∧ RV3 w (vadd A_a (vscale (vsub A_b A_a) (cf .f32 t_))) cs_1)]) mixed (by kernel_rfl) (by intro _ _ d _ _ h; cases d <;> exact h) ?_
  obtain ⟨w39, hw41⟩ : ∃ w', w' = World.drew w33 := ⟨_, rfl⟩; rw [← hw41]; have E40 : Ext w33 w39 := by rw [hw41]; exact Ext.draw _
  clear hw41
  have X42 := Ext.gr X37 E40
  refine R_p (fun u hu _ => does_loadAgg (cs := [(Fl r1), (Fl r3), (Fl r5)]) (ev rfl) Try.isAgg35 Try.sizeOf35 (Blk.cells ((((hB16.ext E24).ext E32).ext E40).ext hu)) rfl) fun v43 => ?_
  refine R_p (fun u hu _ => does_loadAgg (cs := [(Fl r7), (Fl r9), (Fl r11)]) (ev rfl) Try.isAgg35 Try.sizeOf35 (Blk.cells (((hB23.ext E32).ext E40).ext hu)) rfl) fun v44 => ?_
  refine R_p (fun u hu _ => does_loadAgg (cs := [(Fl r1), (Fl r3), (Fl r5)]) (ev rfl) Try.isAgg35 Try.sizeOf35 (Blk.cells ((((hB16.ext E24).ext E32).ext E40).ext hu)) rfl) fun v45 => ?_
  refine R_d (fun u hu hF => ?_) (fun v46 => ?_)
  · have h8_ : v44 = (.agg #[(Fl r7), (Fl r9), (Fl r11)]) := hF.1
    have h9_ : v45 = (.agg #[(Fl r1), (Fl r3), (Fl r5)]) := hF.2.1
    clear hF
    refine doesG_un rfl ?_
    obtain rfl := h8_
    obtain rfl := h9_
    refine (does_call (args := #[(.agg #[(Fl r7), (Fl r9), (Fl r11)]), (.agg #[(Fl r1), (Fl r3), (Fl r5)])]) cal80 (evs rfl) (c_impl_LessVectors [(Fl r7), (Fl r9), (Fl r11)] A_b [(Fl r1), (Fl r3), (Fl r5)] A_a _ ⟨r7, r9, r11, rfl, h8, h10, h12⟩ ⟨r1, r3, r5, rfl, h2, h4, h6⟩)).mono ?_; rintro v u' ⟨hx, ⟨csn1, hv, k0⟩⟩
    exact ⟨⟨csn1, hv, k0⟩, hx⟩
  refine R_p (fun u hu _ => does_move (u := (Fl t_)) (ev rfl)) fun v47 => ?_
  refine R_d (fun u hu hF => ?_) (fun v48 => ?_)
  · have h10_ : ∃ cs_1 : List Value, v46 = (.agg cs_1.toArray) ∧ RV3 w (vsub A_b A_a) cs_1 := hF.1
    have h11_ : v47 = (Fl t_) := hF.2.1
    clear hF
    refine doesG_un rfl ?_
    obtain ⟨_, rfl, ⟨r10_1, r10_3, r10_5, rfl, h10_2, h10_4, h10_6⟩⟩ := h10_
    obtain rfl := h11_
    refine (does_call (args := #[(.agg #[(Fl r10_1), (Fl r10_3), (Fl r10_5)]), (Fl t_)]) cal79 (evs rfl) (c_impl_ScaleVector [(Fl r10_1), (Fl r10_3), (Fl r10_5)] (vsub A_b A_a) t_ _ ⟨r10_1, r10_3, r10_5, rfl, (by assumption), (by assumption), (by assumption)⟩)).mono ?_; rintro v u' ⟨hx, ⟨csn1, hv, k0⟩⟩
    exact ⟨⟨csn1, hv.trans (by simp only [h10_2, h10_4, h10_6]), (by first | exact k0 | simpa only [h10_2, h10_4, h10_6] using RV3.any (w := w) k0)⟩, hx⟩
  refine R_d (fun u hu hF => ?_) (fun v49 => ?_)
  · have h7_ : v43 = (.agg #[(Fl r1), (Fl r3), (Fl r5)]) := hF.1
    have h12_ : ∃ cs_1 : List Value, v48 = (.agg cs_1.toArray) ∧ RV3 w (vscale (vsub A_b A_a) (cf .f32 t_)) cs_1 := hF.2.1
    clear hF
    refine doesG_un rfl ?_
    obtain rfl := h7_
    obtain ⟨_, rfl, ⟨r12_1, r12_3, r12_5, rfl, h12_2, h12_4, h12_6⟩⟩ := h12_
    refine (does_call (args := #[(.agg #[(Fl r1), (Fl r3), (Fl r5)]), (.agg #[(Fl r12_1), (Fl r12_3), (Fl r12_5)])]) cal78 (evs rfl) (c_impl_AddVectors [(Fl r1), (Fl r3), (Fl r5)] A_a [(Fl r12_1), (Fl r12_3), (Fl r12_5)] (vscale (vsub A_b A_a) (cf .f32 t_)) _ ⟨r1, r3, r5, rfl, h2, h4, h6⟩ ⟨r12_1, r12_3, r12_5, rfl, (by assumption), (by assumption), (by assumption)⟩)).mono ?_; rintro v u' ⟨hx, ⟨csn1, hv, k0⟩⟩
    exact ⟨⟨csn1, hv.trans (by simp only [h12_2, h12_4, h12_6]), (by first | exact k0 | simpa only [h12_2, h12_4, h12_6] using RV3.any (w := w) k0)⟩, hx⟩
  refine RW_fin ?_; intro w50 E51 hP52
  obtain ⟨⟨⟨⟨⟨⟨⟨-, -⟩, -⟩, -⟩, -⟩, -⟩, -⟩, q53⟩ := hP52
  have X54 := Ext.gr X42 E51
  have q53 : ∃ cs_1 : List Value, v49 = (.agg cs_1.toArray) ∧ RV3 w (vadd A_a (vscale (vsub A_b A_a) (cf .f32 t_))) cs_1 := q53
  obtain ⟨_, rfl, ⟨r55, r57, r59, rfl, h56, h58, h60⟩⟩ := q53
  refine fz ?_
  refine sn (does_store (n := 3) (cs := [(Fl 0), (Fl 0), (Fl 0)]) (u := (.agg #[(Fl r55), (Fl r57), (Fl r59)])) (ev rfl) (ev rfl) Try.sizeOf35 rfl ((hB31.ext E40).ext E51) (Nat.le_of_ble_eq_true rfl) rfl) ?_; rintro _ w63 ⟨rfl, W61, hB62⟩
  change Blk _ _ [(Fl r55), (Fl r57), (Fl r59)] at hB62
  have X64 := Below.wr X54 W61 g36
  refine wn K38 ?_
  refine wp_ret ?_
  refine ret_val (v := (.agg #[(Fl r55), (Fl r57), (Fl r59)])) (res_C rfl (slot rfl) (run_loadAgg (cs := [(Fl r55), (Fl r57), (Fl r59)]) Try.isAgg35 Try.sizeOf35 (Blk.cells hB62) rfl)) X64 ?_
  have x65 : cf .f32 r55 = (btwV A_a A_b (cf .f32 t_)).x := by first | with_reducible rfl | (simp only [btwV, h2, h4, h6, h8, h10, h12, h56, h58, h60]; done) | (simp [btwV, h2, h4, h6, h8, h10, h12, h56, h58, h60]; done) | rfl
  have x66 : cf .f32 r57 = (btwV A_a A_b (cf .f32 t_)).y := by first | with_reducible rfl | (simp only [btwV, h2, h4, h6, h8, h10, h12, h56, h58, h60]; done) | (simp [btwV, h2, h4, h6, h8, h10, h12, h56, h58, h60]; done) | rfl
  have x67 : cf .f32 r59 = (btwV A_a A_b (cf .f32 t_)).z := by first | with_reducible rfl | (simp only [btwV, h2, h4, h6, h8, h10, h12, h56, h58, h60]; done) | (simp [btwV, h2, h4, h6, h8, h10, h12, h56, h58, h60]; done) | rfl
  exact ⟨[(Fl r55), (Fl r57), (Fl r59)], rfl, ⟨r55, r57, r59, rfl, x65, x66, x67⟩⟩

/- (*impl.Grid).index -/
theorem c_impl_Grid_index (g_b : Nat) (g_o : Nat) (g : List Value) (A_g : GridT) (x : Int) (y : Int) (z : Int) (w : World) (hc_g : Cells w g_b g_o g) (hv_g : RGridT w A_g g) : Gives Try.prog 57 #[(Pt g_b g_o), (.agg #[(Iv x), (Iv y), (Iv z)])] w (fun v w' => v = (Iv (idxG A_g x y z))) := by
  obtain ⟨r1, r3, r5, r7, y9, rfl, h2, h4, h6, h8, h10⟩ := hv_g
  have hs13 := h10; have hs13l := Sl.len h10; obtain ⟨p11, q12, rfl⟩ := Sl.shape h10
  refine enter [(Pt g_b g_o), (.agg #[(Iv x), (Iv y), (Iv z)]), Ud, Ud, Ud, Ud, Ud, Ud, Ud, Ud, Ud, Ud, Ud, Ud, Ud, Ud, Ud, Ud, Ud, Ud, Ud, Ud, Ud] Try.func57 rfl Try.ntmps57 rfl ?_
  refine wr fun _ K14 => ?_
  refine sd (does_box (u := (.agg #[(Iv x), (Iv y), (Iv z)])) (ev rfl)) ?_; rintro _ w19 ⟨b15, rfl, hb16, hB17, E18⟩
  change Blk _ _ [(Iv x), (Iv y), (Iv z)] at hB17
  have X22 := Ext.gr (Ext.refl w) E18
  refine fz ?_
  refine ja (Iv 0) ?_
  refine wn K14 ?_
  refine ws fun _ K23 => ?_
  refine region_draw (
    [Fact.pure [] (fun v => v = (Pt b15 0)),
    Fact.pure [5] (fun v => v = (Iv x)),
    Fact.pure [] (fun v => v = (Pt g_b g_o)),
    Fact.pure [7] (fun v => v = (Pt g_b g_o)),
    Fact.pure [8] (fun v => v = (Pt g_b (g_o + 4))),
    Fact.pure [9] (fun v => v = (Iv A_g.x)),
    Fact.pure [] (fun v => v = (Pt b15 1)),
    Fact.pure [11] (fun v => v = (Iv y)),
    Fact.pure [] (fun v => v = (Pt g_b g_o)),
    Fact.pure [13] (fun v => v = (Pt g_b g_o)),
    Fact.pure [14] (fun v => v = (Pt g_b (g_o + 5))),
    Fact.pure [15] (fun v => v = (Iv A_g.y)),
    Fact.pure [] (fun v => v = (Pt b15 2)),
    Fact.pure [17] (fun v => v = (Iv z)),
    Fact.pure [16, 18] (fun v => v = (Iv (IntKind.i64.wrap (A_g.y * z)))),
    Fact.pure [12, 19] (fun v => v = (Iv (IntKind.i64.wrap (y + (IntKind.i64.wrap (A_g.y * z)))))),
    Fact.pure [10, 20] (fun v => v = (Iv (IntKind.i64.wrap (A_g.x * (IntKind.i64.wrap (y + (IntKind.i64.wrap (A_g.y * z)))))))),
    Fact.pure [6, 21] (fun v => v = (Iv (IntKind.i64.wrap (x + (IntKind.i64.wrap (A_g.x * (IntKind.i64.wrap (y + (IntKind.i64.wrap (A_g.y * z))))))))))]) mixed (by kernel_rfl) (by intro _ _ d _ _ h; cases d <;> exact h) ?_
  obtain ⟨w24, hw26⟩ : ∃ w', w' = World.drew w19 := ⟨_, rfl⟩; rw [← hw26]; have E25 : Ext w19 w24 := by rw [hw26]; exact Ext.draw _
  clear hw26
  have X27 := Ext.gr X22 E25
  refine R_p (fun u hu _ => does_indexAt_run (r := (Pt b15 0)) (ev rfl) (ev rfl) (fun w => ia69_0 _ _ w)) fun v28 => ?_
  refine R_p (fun u hu hF => ?_) fun v29 => ?_
  · have h5_ : v28 = (Pt b15 0) := hF.1
    clear hF; subst h5_
    exact does_load (u := (Iv x)) (ev rfl) Try.isAgg2 (Cells.at (Blk.cells ((hB17.ext E25).ext hu)) 0 rfl)
  refine R_p (fun u hu _ => does_move (u := (Pt g_b g_o)) (ev rfl)) fun v30 => ?_
  refine R_p (fun u hu hF => ?_) fun v31 => ?_
  · have h7_ : v30 = (Pt g_b g_o) := hF.1
    clear hF; subst h7_
    exact does_nilCheck (ev rfl)
  refine R_p (fun u hu hF => ?_) fun v32 => ?_
  · have h8_ : v31 = (Pt g_b g_o) := hF.1
    clear hF; subst h8_
    exact does_fieldAddr (ev rfl) fa37_2
  refine R_p (fun u hu hF => ?_) fun v33 => ?_
  · have h9_ : v32 = (Pt g_b (g_o + 4)) := hF.1
    clear hF; subst h9_
    exact does_load (u := (Iv A_g.x)) (ev rfl) Try.isAgg2 (Cells.at ((hc_g.ext (Ext.gr X22 E25)).ext hu) 4 rfl)
  refine R_p (fun u hu _ => does_indexAt_run (r := (Pt b15 1)) (ev rfl) (ev rfl) (fun w => ia69_1 _ _ w)) fun v34 => ?_
  refine R_p (fun u hu hF => ?_) fun v35 => ?_
  · have h11_ : v34 = (Pt b15 1) := hF.1
    clear hF; subst h11_
    exact does_load (u := (Iv y)) (ev rfl) Try.isAgg2 (Cells.at (Blk.cells ((hB17.ext E25).ext hu)) 1 rfl)
  refine R_p (fun u hu _ => does_move (u := (Pt g_b g_o)) (ev rfl)) fun v36 => ?_
  refine R_p (fun u hu hF => ?_) fun v37 => ?_
  · have h13_ : v36 = (Pt g_b g_o) := hF.1
    clear hF; subst h13_
    exact does_nilCheck (ev rfl)
  refine R_p (fun u hu hF => ?_) fun v38 => ?_
  · have h14_ : v37 = (Pt g_b g_o) := hF.1
    clear hF; subst h14_
    exact does_fieldAddr (ev rfl) fa37_3
  refine R_p (fun u hu hF => ?_) fun v39 => ?_
  · have h15_ : v38 = (Pt g_b (g_o + 5)) := hF.1
    clear hF; subst h15_
    exact does_load (u := (Iv A_g.y)) (ev rfl) Try.isAgg2 (Cells.at ((hc_g.ext (Ext.gr X22 E25)).ext hu) 5 rfl)
  refine R_p (fun u hu _ => does_indexAt_run (r := (Pt b15 2)) (ev rfl) (ev rfl) (fun w => ia69_2 _ _ w)) fun v40 => ?_
  refine R_p (fun u hu hF => ?_) fun v41 => ?_
  · have h17_ : v40 = (Pt b15 2) := hF.1
    clear hF; subst h17_
    exact does_load (u := (Iv z)) (ev rfl) Try.isAgg2 (Cells.at (Blk.cells ((hB17.ext E25).ext hu)) 2 rfl)
  refine R_p (fun u hu hF => ?_) fun v42 => ?_
  · have h16_ : v39 = (Iv A_g.y) := hF.1
    have h18_ : v41 = (Iv z) := hF.2.1
    clear hF; subst h16_ h18_
    exact does_iarith (p := A_g.y) (q := z) (r := IntKind.i64.wrap (A_g.y * z)) (ev rfl) (ev rfl) (.inr (.inr ⟨rfl, rfl⟩))
  refine R_p (fun u hu hF => ?_) fun v43 => ?_
  · have h12_ : v35 = (Iv y) := hF.1
    have h19_ : v42 = (Iv (IntKind.i64.wrap (A_g.y * z))) := hF.2.1
    clear hF; subst h12_ h19_
    exact does_iarith (p := y) (q := IntKind.i64.wrap (A_g.y * z)) (r := IntKind.i64.wrap (y + (IntKind.i64.wrap (A_g.y * z)))) (ev rfl) (ev rfl) (.inl ⟨rfl, rfl⟩)
  refine R_p (fun u hu hF => ?_) fun v44 => ?_
  · have h10_ : v33 = (Iv A_g.x) := hF.1
    have h20_ : v43 = (Iv (IntKind.i64.wrap (y + (IntKind.i64.wrap (A_g.y * z))))) := hF.2.1
    clear hF; subst h10_ h20_
    exact does_iarith (p := A_g.x) (q := IntKind.i64.wrap (y + (IntKind.i64.wrap (A_g.y * z)))) (r := IntKind.i64.wrap (A_g.x * (IntKind.i64.wrap (y + (IntKind.i64.wrap (A_g.y * z)))))) (ev rfl) (ev rfl) (.inr (.inr ⟨rfl, rfl⟩))
  refine R_p (fun u hu hF => ?_) fun v45 => ?_
  · have h6_ : v29 = (Iv x) := hF.1
    have h21_ : v44 = (Iv (IntKind.i64.wrap (A_g.x * (IntKind.i64.wrap (y + (IntKind.i64.wrap (A_g.y * z))))))) := hF.2.1
    clear hF; subst h6_ h21_
    exact does_iarith (p := x) (q := IntKind.i64.wrap (A_g.x * (IntKind.i64.wrap (y + (IntKind.i64.wrap (A_g.y * z)))))) (r := IntKind.i64.wrap (x + (IntKind.i64.wrap (A_g.x * (IntKind.i64.wrap (y + (IntKind.i64.wrap (A_g.y * z)))))))) (ev rfl) (ev rfl) (.inl ⟨rfl, rfl⟩)
  refine RW_fin ?_; intro w46 E47 hP48
  obtain ⟨⟨⟨⟨⟨⟨⟨⟨⟨⟨⟨⟨⟨⟨⟨⟨⟨⟨-, -⟩, -⟩, -⟩, -⟩, -⟩, -⟩, -⟩, -⟩, -⟩, -⟩, -⟩, -⟩, -⟩, -⟩, -⟩, -⟩, -⟩, q49⟩ := hP48
  have X50 := Ext.gr X27 E47
  have q49 : v45 = (Iv (IntKind.i64.wrap (x + (IntKind.i64.wrap (A_g.x * (IntKind.i64.wrap (y + (IntKind.i64.wrap (A_g.y * z))))))))) := q49
  obtain rfl := q49
  refine fz ?_
  refine ja (Iv (IntKind.i64.wrap (x + (IntKind.i64.wrap (A_g.x * (IntKind.i64.wrap (y + (IntKind.i64.wrap (A_g.y * z))))))))) ?_
  refine wn K23 ?_
  refine wp_ret ?_
  refine ret_val (v := (Iv (IntKind.i64.wrap (x + (IntKind.i64.wrap (A_g.x * (IntKind.i64.wrap (y + (IntKind.i64.wrap (A_g.y * z)))))))))) (res_T rfl (slot rfl)) X50 ?_
  have x51 : (idxG A_g x y z : Int) = (IntKind.i64.wrap (x + (IntKind.i64.wrap (A_g.x * (IntKind.i64.wrap (y + (IntKind.i64.wrap (A_g.y * z)))))))) := by first | with_reducible rfl | (simp only [idxG, h2, h4, h6, h8]; done) | (simp [idxG, h2, h4, h6, h8]; done) | rfl
  exact (by first | with_reducible rfl | rw [x51] | rfl)

/- (*impl.Grid).point -/
theorem c_impl_Grid_point (g_b : Nat) (g_o : Nat) (g : List Value) (A_g : GridT) (x : Int) (y : Int) (z : Int) (w : World) (hc_g : Cells w g_b g_o g) (hv_g : RGridT w A_g g) : Gives Try.prog 71 #[(Pt g_b g_o), (.agg #[(Iv x), (Iv y), (Iv z)])] w (fun v w' => ∃ cs_1 : List Value, v = (.agg cs_1.toArray) ∧ RV3 w (ptG A_g.low A_g.step x y z) cs_1) := by
  obtain ⟨r1, r3, r5, r7, y9, rfl, h2, h4, h6, h8, h10⟩ := hv_g
  have hs13 := h10; have hs13l := Sl.len h10; obtain ⟨p11, q12, rfl⟩ := Sl.shape h10
  refine enter [(Pt g_b g_o), (.agg #[(Iv x), (Iv y), (Iv z)]), Ud, Ud, Ud, Ud, Ud, Ud, Ud, Ud, Ud, Ud, Ud, Ud, Ud, Ud, Ud, Ud, Ud, Ud, Ud, Ud, Ud, Ud, Ud, Ud, Ud, Ud, Ud, Ud, Ud, Ud, Ud, Ud, Ud] Try.func71 rfl Try.ntmps71 rfl ?_
  refine wr fun _ K14 => ?_
  refine sd (does_box (u := (.agg #[(Iv x), (Iv y), (Iv z)])) (ev rfl)) ?_; rintro _ w19 ⟨b15, rfl, hb16, hB17, E18⟩
  change Blk _ _ [(Iv x), (Iv y), (Iv z)] at hB17
  have X22 := Ext.gr (Ext.refl w) E18
  refine fz ?_
  refine sd (does_alloc z35) ?_; rintro _ w27 ⟨b23, rfl, hb24, hB25, E26⟩
  have g30 : w.heap.size ≤ b23 := Nat.le_trans (Below.size X22) hb24
  change Blk _ _ [(Fl 0), (Fl 0), (Fl 0)] at hB25
  have X31 := Ext.gr X22 E26
  refine fz ?_
  refine wn K14 ?_
  refine ws fun _ K32 => ?_
  refine region_draw (
    [Fact.pure [] (fun v => v = (Pt g_b g_o)),
    Fact.pure [5] (fun v => v = (Pt g_b g_o)),
    Fact.pure [6] (fun v => v = (Pt g_b g_o)),
    Fact.pure [7] (fun v => v = (.agg #[(Fl r1), (Fl r3), (Fl r5)])),
    Fact.pure [] (fun v => v = (Pt g_b g_o)),
    Fact.pure [9] (fun v => v = (Pt g_b g_o)),
    Fact.pure [10] (fun v => v = (Pt g_b (g_o + 3))),
    Fact.pure [11] (fun v => v = (Fl r7)),
    Fact.pure [] (fun v => v = (Pt b15 0)),
    Fact.pure [13] (fun v => v = (Iv x)),
    Fact.pure [14] (fun v => v = (Fl (FloatKind.f32.nearest x))),
    Fact.pure [12, 15] (fun v => ∃ r_1 : Nat, v = (Fl r_1) ∧ cf .f32 r_1 = fop .mul .f32 (cf .f32 r7) (cf .f32 (FloatKind.f32.nearest x))),
    Fact.pure [] (fun v => v = (Pt g_b g_o)),
    Fact.pure [17] (fun v => v = (Pt g_b g_o)),
    Fact.pure [18] (fun v => v = (Pt g_b (g_o + 3))),
    Fact.pure [19] (fun v => v = (Fl r7)),
    Fact.pure [] (fun v => v = (Pt b15 1)),
    Fact.pure [21] (fun v => v = (Iv y)),
    Fact.pure [22] (fun v => v = (Fl (FloatKind.f32.nearest y))),
    Fact.pure [20, 23] (fun v => ∃ r_1 : Nat, v = (Fl r_1) ∧ cf .f32 r_1 = fop .mul .f32 (cf .f32 r7) (cf .f32 (FloatKind.f32.nearest y))),
    Fact.pure [] (fun v => v = (Pt g_b g_o)),
    Fact.pure [25] (fun v => v = (Pt g_b g_o)),
    Fact.pure [26] (fun v => v = (Pt g_b (g_o + 3))),
    Fact.pure [27] (fun v => v = (Fl r7)),
    Fact.pure [] (fun v => v = (Pt b15 2)),
    Fact.pure [29] (fun v => v = (Iv z)),
    Fact.pure [30] (fun v => v = (Fl (FloatKind.f32.nearest z))),
    Fact.pure [28, 31] (fun v => ∃ r_1 : Nat, v = (Fl r_1) ∧ cf .f32 r_1 = fop .mul .f32 (cf .f32 r7) (cf .f32 (FloatKind.f32.nearest z))),
    Fact.pure [16, 24, 32] (fun v => ∃ r_1 : Nat, ∃ r_2 : Nat, ∃ r_3 : Nat, v = (.agg #[(Fl r_1), (Fl r_2), (Fl r_3)]) ∧ cf .f32 r_1 = fop .mul .f32 (cf .f32 r7) (cf .f32 (FloatKind.f32.nearest x)) ∧ cf .f32 r_2 = fop .mul .f32 (cf .f32 r7) (cf .f32 (FloatKind.f32.nearest y)) ∧ cf .f32 r_3 = fop .mul .f32 (cf .f32 r7) (cf .f32 (FloatKind.f32.nearest z))),
    Fact.pure [8, 33] (fun v => ∃ cs_1 : List Value, v = (.agg cs_1.toArray) ∧ RV3 w (vadd A_g.low (V3.mk (fop .mul .f32 (cf .f32 r7) (cf .f32 (FloatKind.f32.nearest x))) (fop .mul .f32 (cf .f32 r7) (cf .f32 (FloatKind.f32.nearest y))) (fop .mul .f32 (cf .f32 r7) (cf .f32 (FloatKind.f32.nearest z))))) cs_1)]) mixed (by kernel_rfl) (by intro _ _ d _ _ h; cases d <;> exact h) ?_
  obtain ⟨w33, hw35⟩ : ∃ w', w' = World.drew w27 := ⟨_, rfl⟩; rw [← hw35]; have E34 : Ext w27 w33 := by rw [hw35]; exact Ext.draw _
  clear hw35
  have X36 := Ext.gr X31 E34
  refine R_p (fun u hu _ => does_move (u := (Pt g_b g_o)) (ev rfl)) fun v37 => ?_
  refine R_p (fun u hu hF => ?_) fun v38 => ?_
  · have h5_ : v37 = (Pt g_b g_o) := hF.1
    clear hF; subst h5_
    exact does_nilCheck (ev rfl)
  refine R_p (fun u hu hF => ?_) fun v39 => ?_
  · have h6_ : v38 = (Pt g_b g_o) := hF.1
    clear hF; subst h6_
    exact does_fieldAddr (ev rfl) fa37_0
  refine R_p (fun u hu hF => ?_) fun v40 => ?_
  · have h7_ : v39 = (Pt g_b g_o) := hF.1
    clear hF; subst h7_
    exact does_loadAgg (cs := [(Fl r1), (Fl r3), (Fl r5)]) (ev rfl) Try.isAgg35 Try.sizeOf35 (Cells.sub ((hc_g.ext (Ext.gr X31 E34)).ext hu) 0 3) rfl
  refine R_p (fun u hu _ => does_move (u := (Pt g_b g_o)) (ev rfl)) fun v41 => ?_
  refine R_p (fun u hu hF => ?_) fun v42 => ?_
  · have h9_ : v41 = (Pt g_b g_o) := hF.1
    clear hF; subst h9_
    exact does_nilCheck (ev rfl)
  refine R_p (fun u hu hF => ?_) fun v43 => ?_
  · have h10_ : v42 = (Pt g_b g_o) := hF.1
    clear hF; subst h10_
    exact does_fieldAddr (ev rfl) fa37_1
  refine R_p (fun u hu hF => ?_) fun v44 => ?_
  · have h11_ : v43 = (Pt g_b (g_o + 3)) := hF.1
    clear hF; subst h11_
    exact does_load (u := (Fl r7)) (ev rfl) Try.isAgg22 (Cells.at ((hc_g.ext (Ext.gr X31 E34)).ext hu) 3 rfl)
  refine R_p (fun u hu _ => does_indexAt_run (r := (Pt b15 0)) (ev rfl) (ev rfl) (fun w => ia69_0 _ _ w)) fun v45 => ?_
  refine R_p (fun u hu hF => ?_) fun v46 => ?_
  · have h13_ : v45 = (Pt b15 0) := hF.1
    clear hF; subst h13_
    exact does_load (u := (Iv x)) (ev rfl) Try.isAgg2 (Cells.at (Blk.cells (((hB17.ext E26).ext E34).ext hu)) 0 rfl)
  refine R_p (fun u hu hF => ?_) fun v47 => ?_
  · have h14_ : v46 = (Iv x) := hF.1
    clear hF; subst h14_
    exact does_conv_if (k := .f32) Try.underlying2 Try.underlying22 (ev rfl)
  refine R_d (fun u hu hF => ?_) (fun v48 => ?_)
  · have h12_ : v44 = (Fl r7) := hF.1
    have h15_ : v47 = (Fl (FloatKind.f32.nearest x)) := hF.2.1
    clear hF
    refine doesG_un rfl ?_
    obtain rfl := h12_
    obtain rfl := h15_
    refine (does_float (.inr (.inr (.inl rfl))) (ev rfl) (ev rfl)).mono ?_; rintro _ _ ⟨r, rfl, hr, hx⟩
    exact ⟨⟨r, rfl, (by simp only [hr])⟩, hx⟩
  refine R_p (fun u hu _ => does_move (u := (Pt g_b g_o)) (ev rfl)) fun v49 => ?_
  refine R_p (fun u hu hF => ?_) fun v50 => ?_
  · have h17_ : v49 = (Pt g_b g_o) := hF.1
    clear hF; subst h17_
    exact does_nilCheck (ev rfl)
  refine R_p (fun u hu hF => ?_) fun v51 => ?_
  · have h18_ : v50 = (Pt g_b g_o) := hF.1
    clear hF; subst h18_
    exact does_fieldAddr (ev rfl) fa37_1
  refine R_p (fun u hu hF => ?_) fun v52 => ?_
  · have h19_ : v51 = (Pt g_b (g_o + 3)) := hF.1
    clear hF; subst h19_
    exact does_load (u := (Fl r7)) (ev rfl) Try.isAgg22 (Cells.at ((hc_g.ext (Ext.gr X31 E34)).ext hu) 3 rfl)
  refine R_p (fun u hu _ => does_indexAt_run (r := (Pt b15 1)) (ev rfl) (ev rfl) (fun w => ia69_1 _ _ w)) fun v53 => ?_
  refine R_p (fun u hu hF => ?_) fun v54 => ?_
  · have h21_ : v53 = (Pt b15 1) := hF.1
    clear hF; subst h21_
    exact does_load (u := (Iv y)) (ev rfl) Try.isAgg2 (Cells.at (Blk.cells (((hB17.ext E26).ext E34).ext hu)) 1 rfl)
  refine R_p (fun u hu hF => ?_) fun v55 => ?_
  · have h22_ : v54 = (Iv y) := hF.1
    clear hF; subst h22_
    exact does_conv_if (k := .f32) Try.underlying2 Try.underlying22 (ev rfl)
  refine R_d (fun u hu hF => ?_) (fun v56 => ?_)
  · have h20_ : v52 = (Fl r7) := hF.1
    have h23_ : v55 = (Fl (FloatKind.f32.nearest y)) := hF.2.1
    clear hF
    refine doesG_un rfl ?_
    obtain rfl := h20_
    obtain rfl := h23_
    refine (does_float (.inr (.inr (.inl rfl))) (ev rfl) (ev rfl)).mono ?_; rintro _ _ ⟨r, rfl, hr, hx⟩
    exact ⟨⟨r, rfl, (by simp only [hr])⟩, hx⟩
  refine R_p (fun u hu _ => does_move (u := (Pt g_b g_o)) (ev rfl)) fun v57 => ?_
  refine R_p (fun u hu hF => ?_) fun v58 => ?_
  · have h25_ : v57 = (Pt g_b g_o) := hF.1
    clear hF; subst h25_
    exact does_nilCheck (ev rfl)
  refine R_p (fun u hu hF => ?_) fun v59 => ?_
  · have h26_ : v58 = (Pt g_b g_o) := hF.1
    clear hF; subst h26_
    exact does_fieldAddr (ev rfl) fa37_1
  refine R_p (fun u hu hF => ?_) fun v60 => ?_
  · have h27_ : v59 = (Pt g_b (g_o + 3)) := hF.1
    clear hF; subst h27_
    exact does_load (u := (Fl r7)) (ev rfl) Try.isAgg22 (Cells.at ((hc_g.ext (Ext.gr X31 E34)).ext hu) 3 rfl)
  refine R_p (fun u hu _ => does_indexAt_run (r := (Pt b15 2)) (ev rfl) (ev rfl) (fun w => ia69_2 _ _ w)) fun v61 => ?_
  refine R_p (fun u hu hF => ?_) fun v62 => ?_
  · have h29_ : v61 = (Pt b15 2) := hF.1
    clear hF; subst h29_
    exact does_load (u := (Iv z)) (ev rfl) Try.isAgg2 (Cells.at (Blk.cells (((hB17.ext E26).ext E34).ext hu)) 2 rfl)
  refine R_p (fun u hu hF => ?_) fun v63 => ?_
  · have h30_ : v62 = (Iv z) := hF.1
    clear hF; subst h30_
    exact does_conv_if (k := .f32) Try.underlying2 Try.underlying22 (ev rfl)
  refine R_d (fun u hu hF => ?_) (fun v64 => ?_)
  · have h28_ : v60 = (Fl r7) := hF.1
    have h31_ : v63 = (Fl (FloatKind.f32.nearest z)) := hF.2.1
    clear hF
    refine doesG_un rfl ?_
    obtain rfl := h28_
    obtain rfl := h31_
    refine (does_float (.inr (.inr (.inl rfl))) (ev rfl) (ev rfl)).mono ?_; rintro _ _ ⟨r, rfl, hr, hx⟩
    exact ⟨⟨r, rfl, (by simp only [hr])⟩, hx⟩
  refine R_d (fun u hu hF => ?_) (fun v65 => ?_)
  · have h16_ : ∃ r_1 : Nat, v48 = (Fl r_1) ∧ cf .f32 r_1 = fop .mul .f32 (cf .f32 r7) (cf .f32 (FloatKind.f32.nearest x)) := hF.1
    have h24_ : ∃ r_1 : Nat, v56 = (Fl r_1) ∧ cf .f32 r_1 = fop .mul .f32 (cf .f32 r7) (cf .f32 (FloatKind.f32.nearest y)) := hF.2.1
    have h32_ : ∃ r_1 : Nat, v64 = (Fl r_1) ∧ cf .f32 r_1 = fop .mul .f32 (cf .f32 r7) (cf .f32 (FloatKind.f32.nearest z)) := hF.2.2.1
    clear hF
    refine doesG_un rfl ?_
    obtain ⟨r16_1, rfl, h16_2⟩ := h16_
    obtain ⟨r24_1, rfl, h24_2⟩ := h24_
    obtain ⟨r32_1, rfl, h32_2⟩ := h32_
    refine (does_build (parts' := [(0, (Fl r16_1)), (1, (Fl r24_1)), (2, (Fl r32_1))]) (cells := #[(Fl r16_1), (Fl r24_1), (Fl r32_1)]) (evp rfl) (by kernel_rfl)).mono ?_; rintro _ _ ⟨rfl, rfl⟩
    exact ⟨⟨r16_1, r24_1, r32_1, rfl, (by simp only [h16_2, h24_2, h32_2]), (by simp only [h16_2, h24_2, h32_2]), (by simp only [h16_2, h24_2, h32_2])⟩, Ext.refl _⟩
  refine R_d (fun u hu hF => ?_) (fun v66 => ?_)
  · have h8_ : v40 = (.agg #[(Fl r1), (Fl r3), (Fl r5)]) := hF.1
    have h33_ : ∃ r_1 : Nat, ∃ r_2 : Nat, ∃ r_3 : Nat, v65 = (.agg #[(Fl r_1), (Fl r_2), (Fl r_3)]) ∧ cf .f32 r_1 = fop .mul .f32 (cf .f32 r7) (cf .f32 (FloatKind.f32.nearest x)) ∧ cf .f32 r_2 = fop .mul .f32 (cf .f32 r7) (cf .f32 (FloatKind.f32.nearest y)) ∧ cf .f32 r_3 = fop .mul .f32 (cf .f32 r7) (cf .f32 (FloatKind.f32.nearest z)) := hF.2.1
    clear hF
    refine doesG_un rfl ?_
    obtain rfl := h8_
    obtain ⟨r33_1, r33_3, r33_5, rfl, h33_2, h33_4, h33_6⟩ := h33_
    refine (does_call (args := #[(.agg #[(Fl r1), (Fl r3), (Fl r5)]), (.agg #[(Fl r33_1), (Fl r33_3), (Fl r33_5)])]) cal78 (evs rfl) (c_impl_AddVectors [(Fl r1), (Fl r3), (Fl r5)] A_g.low [(Fl r33_1), (Fl r33_3), (Fl r33_5)] (V3.mk (fop .mul .f32 (cf .f32 r7) (cf .f32 (FloatKind.f32.nearest x))) (fop .mul .f32 (cf .f32 r7) (cf .f32 (FloatKind.f32.nearest y))) (fop .mul .f32 (cf .f32 r7) (cf .f32 (FloatKind.f32.nearest z)))) _ ⟨r1, r3, r5, rfl, h2, h4, h6⟩ ⟨r33_1, r33_3, r33_5, rfl, (by assumption), (by assumption), (by assumption)⟩)).mono ?_; rintro v u' ⟨hx, ⟨csn1, hv, k0⟩⟩
    exact ⟨⟨csn1, hv.trans (by simp only [h33_2, h33_4, h33_6]), (by first | exact k0 | simpa only [h33_2, h33_4, h33_6] using RV3.any (w := w) k0)⟩, hx⟩
  refine RW_fin ?_; intro w67 E68 hP69
  obtain ⟨⟨⟨⟨⟨⟨⟨⟨⟨⟨⟨⟨⟨⟨⟨⟨⟨⟨⟨⟨⟨⟨⟨⟨⟨⟨⟨⟨⟨⟨-, -⟩, -⟩, -⟩, -⟩, -⟩, -⟩, -⟩, -⟩, -⟩, -⟩, -⟩, -⟩, -⟩, -⟩, -⟩, -⟩, -⟩, -⟩, -⟩, -⟩, -⟩, -⟩, -⟩, -⟩, -⟩, -⟩, -⟩, -⟩, -⟩, q70⟩ := hP69
  have X71 := Ext.gr X36 E68
  have q70 : ∃ cs_1 : List Value, v66 = (.agg cs_1.toArray) ∧ RV3 w (vadd A_g.low (V3.mk (fop .mul .f32 (cf .f32 r7) (cf .f32 (FloatKind.f32.nearest x))) (fop .mul .f32 (cf .f32 r7) (cf .f32 (FloatKind.f32.nearest y))) (fop .mul .f32 (cf .f32 r7) (cf .f32 (FloatKind.f32.nearest z))))) cs_1 := q70
  obtain ⟨_, rfl, ⟨r72, r74, r76, rfl, h73, h75, h77⟩⟩ := q70
  refine fz ?_
  refine sn (does_store (n := 3) (cs := [(Fl 0), (Fl 0), (Fl 0)]) (u := (.agg #[(Fl r72), (Fl r74), (Fl r76)])) (ev rfl) (ev rfl) Try.sizeOf35 rfl ((hB25.ext E34).ext E68) (Nat.le_of_ble_eq_true rfl) rfl) ?_; rintro _ w80 ⟨rfl, W78, hB79⟩
  change Blk _ _ [(Fl r72), (Fl r74), (Fl r76)] at hB79
  have X81 := Below.wr X71 W78 g30
  refine wn K32 ?_
  refine wp_ret ?_
  refine ret_val (v := (.agg #[(Fl r72), (Fl r74), (Fl r76)])) (res_C rfl (slot rfl) (run_loadAgg (cs := [(Fl r72), (Fl r74), (Fl r76)]) Try.isAgg35 Try.sizeOf35 (Blk.cells hB79) rfl)) X81 ?_
  have x82 : cf .f32 r72 = (ptG A_g.low A_g.step x y z).x := by first | with_reducible rfl | (simp only [ptG, nrF, h2, h4, h6, h8, h73, h75, h77]; done) | (simp [ptG, nrF, h2, h4, h6, h8, h73, h75, h77]; done) | rfl
  have x83 : cf .f32 r74 = (ptG A_g.low A_g.step x y z).y := by first | with_reducible rfl | (simp only [ptG, nrF, h2, h4, h6, h8, h73, h75, h77]; done) | (simp [ptG, nrF, h2, h4, h6, h8, h73, h75, h77]; done) | rfl
  have x84 : cf .f32 r76 = (ptG A_g.low A_g.step x y z).z := by first | with_reducible rfl | (simp only [ptG, nrF, h2, h4, h6, h8, h73, h75, h77]; done) | (simp [ptG, nrF, h2, h4, h6, h8, h73, h75, h77]; done) | rfl
  exact ⟨[(Fl r72), (Fl r74), (Fl r76)], rfl, ⟨r72, r74, r76, rfl, x82, x83, x84⟩⟩

/- spec.l06Index -/
theorem c_spec_l06Index (g_b : Nat) (g_o : Nat) (g : List Value) (A_g : GridT) (x : Int) (y : Int) (z : Int) (w : World) (hc_g : Cells w g_b g_o g) (hv_g : RGridT w A_g g) : Gives Try.prog 64 #[(Pt g_b g_o), (Iv x), (Iv y), (Iv z)] w (fun v w' => v = (Iv (idxG A_g x y z))) := by
  obtain ⟨r1, r3, r5, r7, y9, rfl, h2, h4, h6, h8, h10⟩ := hv_g
  have hs13 := h10; have hs13l := Sl.len h10; obtain ⟨p11, q12, rfl⟩ := Sl.shape h10
  refine enter [(Pt g_b g_o), (Iv x), (Iv y), (Iv z), Ud, Ud, Ud, Ud, Ud, Ud, Ud, Ud, Ud, Ud, Ud, Ud, Ud, Ud, Ud, Ud, Ud, Ud, Ud, Ud] Try.func64 rfl Try.ntmps64 rfl ?_
  refine wr fun _ K14 => ?_
  refine ja (Iv 0) ?_
  refine wn K14 ?_
  refine ws fun _ K15 => ?_
  refine region_draw (
    [Fact.pure [] (fun v => v = (Iv x)),
    Fact.pure [] (fun v => v = (Pt g_b g_o)),
    Fact.pure [10] (fun v => v = (Pt g_b g_o)),
    Fact.pure [11] (fun v => v = (Pt g_b (g_o + 4))),
    Fact.pure [12] (fun v => v = (Iv A_g.x)),
    Fact.pure [] (fun v => v = (Iv y)),
    Fact.pure [] (fun v => v = (Pt g_b g_o)),
    Fact.pure [15] (fun v => v = (Pt g_b g_o)),
    Fact.pure [16] (fun v => v = (Pt g_b (g_o + 5))),
    Fact.pure [17] (fun v => v = (Iv A_g.y)),
    Fact.pure [] (fun v => v = (Iv z)),
    Fact.pure [18, 19] (fun v => v = (Iv (IntKind.i64.wrap (A_g.y * z)))),
    Fact.pure [14, 20] (fun v => v = (Iv (IntKind.i64.wrap (y + (IntKind.i64.wrap (A_g.y * z)))))),
    Fact.pure [13, 21] (fun v => v = (Iv (IntKind.i64.wrap (A_g.x * (IntKind.i64.wrap (y + (IntKind.i64.wrap (A_g.y * z)))))))),
    Fact.pure [9, 22] (fun v => v = (Iv (IntKind.i64.wrap (x + (IntKind.i64.wrap (A_g.x * (IntKind.i64.wrap (y + (IntKind.i64.wrap (A_g.y * z))))))))))]) mixed (by kernel_rfl) (by intro _ _ d _ _ h; cases d <;> exact h) ?_
  obtain ⟨w16, hw18⟩ : ∃ w', w' = World.drew w := ⟨_, rfl⟩; rw [← hw18]; have E17 : Ext w w16 := by rw [hw18]; exact Ext.draw _
  clear hw18
  have X19 := Ext.gr (Ext.refl w) E17
  refine R_p (fun u hu _ => does_move (u := (Iv x)) (ev rfl)) fun v20 => ?_
  refine R_p (fun u hu _ => does_move (u := (Pt g_b g_o)) (ev rfl)) fun v21 => ?_
  refine R_p (fun u hu hF => ?_) fun v22 => ?_
  · have h10_ : v21 = (Pt g_b g_o) := hF.1
    clear hF; subst h10_
    exact does_nilCheck (ev rfl)
  refine R_p (fun u hu hF => ?_) fun v23 => ?_
  · have h11_ : v22 = (Pt g_b g_o) := hF.1
    clear hF; subst h11_
    exact does_fieldAddr (ev rfl) fa37_2
  refine R_p (fun u hu hF => ?_) fun v24 => ?_
  · have h12_ : v23 = (Pt g_b (g_o + 4)) := hF.1
    clear hF; subst h12_
    exact does_load (u := (Iv A_g.x)) (ev rfl) Try.isAgg2 (Cells.at ((hc_g.ext (Ext.gr (Ext.refl w) E17)).ext hu) 4 rfl)
  refine R_p (fun u hu _ => does_move (u := (Iv y)) (ev rfl)) fun v25 => ?_
  refine R_p (fun u hu _ => does_move (u := (Pt g_b g_o)) (ev rfl)) fun v26 => ?_
  refine R_p (fun u hu hF => ?_) fun v27 => ?_
  · have h15_ : v26 = (Pt g_b g_o) := hF.1
    clear hF; subst h15_
    exact does_nilCheck (ev rfl)
  refine R_p (fun u hu hF => ?_) fun v28 => ?_
  · have h16_ : v27 = (Pt g_b g_o) := hF.1
    clear hF; subst h16_
    exact does_fieldAddr (ev rfl) fa37_3
  refine R_p (fun u hu hF => ?_) fun v29 => ?_
  · have h17_ : v28 = (Pt g_b (g_o + 5)) := hF.1
    clear hF; subst h17_
    exact does_load (u := (Iv A_g.y)) (ev rfl) Try.isAgg2 (Cells.at ((hc_g.ext (Ext.gr (Ext.refl w) E17)).ext hu) 5 rfl)
  refine R_p (fun u hu _ => does_move (u := (Iv z)) (ev rfl)) fun v30 => ?_
  refine R_p (fun u hu hF => ?_) fun v31 => ?_
  · have h18_ : v29 = (Iv A_g.y) := hF.1
    have h19_ : v30 = (Iv z) := hF.2.1
    clear hF; subst h18_ h19_
    exact does_iarith (p := A_g.y) (q := z) (r := IntKind.i64.wrap (A_g.y * z)) (ev rfl) (ev rfl) (.inr (.inr ⟨rfl, rfl⟩))
  refine R_p (fun u hu hF => ?_) fun v32 => ?_
  · have h14_ : v25 = (Iv y) := hF.1
    have h20_ : v31 = (Iv (IntKind.i64.wrap (A_g.y * z))) := hF.2.1
    clear hF; subst h14_ h20_
    exact does_iarith (p := y) (q := IntKind.i64.wrap (A_g.y * z)) (r := IntKind.i64.wrap (y + (IntKind.i64.wrap (A_g.y * z)))) (ev rfl) (ev rfl) (.inl ⟨rfl, rfl⟩)
  refine R_p (fun u hu hF => ?_) fun v33 => ?_
  · have h13_ : v24 = (Iv A_g.x) := hF.1
    have h21_ : v32 = (Iv (IntKind.i64.wrap (y + (IntKind.i64.wrap (A_g.y * z))))) := hF.2.1
    clear hF; subst h13_ h21_
    exact does_iarith (p := A_g.x) (q := IntKind.i64.wrap (y + (IntKind.i64.wrap (A_g.y * z)))) (r := IntKind.i64.wrap (A_g.x * (IntKind.i64.wrap (y + (IntKind.i64.wrap (A_g.y * z)))))) (ev rfl) (ev rfl) (.inr (.inr ⟨rfl, rfl⟩))
  refine R_p (fun u hu hF => ?_) fun v34 => ?_
  · have h9_ : v20 = (Iv x) := hF.1
    have h22_ : v33 = (Iv (IntKind.i64.wrap (A_g.x * (IntKind.i64.wrap (y + (IntKind.i64.wrap (A_g.y * z))))))) := hF.2.1
    clear hF; subst h9_ h22_
    exact does_iarith (p := x) (q := IntKind.i64.wrap (A_g.x * (IntKind.i64.wrap (y + (IntKind.i64.wrap (A_g.y * z)))))) (r := IntKind.i64.wrap (x + (IntKind.i64.wrap (A_g.x * (IntKind.i64.wrap (y + (IntKind.i64.wrap (A_g.y * z)))))))) (ev rfl) (ev rfl) (.inl ⟨rfl, rfl⟩)
  refine RW_fin ?_; intro w35 E36 hP37
  obtain ⟨⟨⟨⟨⟨⟨⟨⟨⟨⟨⟨⟨⟨⟨⟨-, -⟩, -⟩, -⟩, -⟩, -⟩, -⟩, -⟩, -⟩, -⟩, -⟩, -⟩, -⟩, -⟩, -⟩, q38⟩ := hP37
  have X39 := Ext.gr X19 E36
  have q38 : v34 = (Iv (IntKind.i64.wrap (x + (IntKind.i64.wrap (A_g.x * (IntKind.i64.wrap (y + (IntKind.i64.wrap (A_g.y * z))))))))) := q38
  obtain rfl := q38
  refine fz ?_
  refine ja (Iv (IntKind.i64.wrap (x + (IntKind.i64.wrap (A_g.x * (IntKind.i64.wrap (y + (IntKind.i64.wrap (A_g.y * z))))))))) ?_
  refine wn K15 ?_
  refine wp_ret ?_
  refine ret_val (v := (Iv (IntKind.i64.wrap (x + (IntKind.i64.wrap (A_g.x * (IntKind.i64.wrap (y + (IntKind.i64.wrap (A_g.y * z)))))))))) (res_T rfl (slot rfl)) X39 ?_
  have x40 : (idxG A_g x y z : Int) = (IntKind.i64.wrap (x + (IntKind.i64.wrap (A_g.x * (IntKind.i64.wrap (y + (IntKind.i64.wrap (A_g.y * z)))))))) := by first | with_reducible rfl | (simp only [idxG, h2, h4, h6, h8]; done) | (simp [idxG, h2, h4, h6, h8]; done) | rfl
  exact (by first | with_reducible rfl | rw [x40] | rfl)

/- spec.l07Corner -/
theorem c_spec_l07Corner (g_b : Nat) (g_o : Nat) (g : List Value) (A_g : GridT) (x : Int) (y : Int) (z : Int) (c_ : Int) (w : World) (hc_g : Cells w g_b g_o g) (hv_g : RGridT w A_g g) (hxyz : (0 ≤ x ∧ x ≤ 100) ∧ (0 ≤ y ∧ y ≤ 100) ∧ (0 ≤ z ∧ z ≤ 100)) (hc : 0 ≤ c_ ∧ c_ ≤ 7) : Gives Try.prog 49 #[(Pt g_b g_o), (Iv x), (Iv y), (Iv z), (Iv c_)] w (fun v w' => v = (Iv (crnI A_g x y z c_))) := by
  obtain ⟨r1, r3, r5, r7, y9, rfl, h2, h4, h6, h8, h10⟩ := hv_g
  have hs13 := h10; have hs13l := Sl.len h10; obtain ⟨p11, q12, rfl⟩ := Sl.shape h10
  refine enter [(Pt g_b g_o), (Iv x), (Iv y), (Iv z), (Iv c_), Ud, Ud, Ud, Ud, Ud, Ud, Ud, Ud, Ud, Ud, Ud, Ud, Ud, Ud, Ud, Ud, Ud, Ud, Ud, Ud, Ud] Try.func49 rfl Try.ntmps49 rfl ?_
  refine wr fun _ K14 => ?_
  refine ja (Iv 0) ?_
  refine wn K14 ?_
  refine wr fun _ K15 => ?_
  refine jm (Pt g_b g_o) ?_
  refine jm (Iv x) ?_
  refine jm (Iv c_) ?_
  refine jj (does_irem (p := c_) (q := 2) (ev rfl) (ev rfl) (by first | omega | assumption) (by first | omega | assumption) (by first | omega | assumption)) ?_
  refine jj (does_iarith (p := x) (q := c_ % 2) (r := x + (c_ % 2)) (ev rfl) (ev rfl) (.inl ⟨rfl, (in_i64 (by omega) (by omega)).symm⟩)) ?_
  refine jm (Iv y) ?_
  refine jm (Iv c_) ?_
  refine jj (does_iquo (p := c_) (q := 2) (ev rfl) (ev rfl) (by first | omega | assumption) (by first | omega | assumption) (by first | omega | assumption)) ?_
  refine jj (does_irem (p := c_ / 2) (q := 2) (ev rfl) (ev rfl) (by first | omega | assumption) (by first | omega | assumption) (by first | omega | assumption)) ?_
  refine jj (does_iarith (p := y) (q := (c_ / 2) % 2) (r := y + ((c_ / 2) % 2)) (ev rfl) (ev rfl) (.inl ⟨rfl, (in_i64 (by omega) (by omega)).symm⟩)) ?_
  refine jm (Iv z) ?_
  refine jm (Iv c_) ?_
  refine jj (does_iquo (p := c_) (q := 4) (ev rfl) (ev rfl) (by first | omega | assumption) (by first | omega | assumption) (by first | omega | assumption)) ?_
  refine jj (does_iarith (p := z) (q := c_ / 4) (r := z + (c_ / 4)) (ev rfl) (ev rfl) (.inl ⟨rfl, (in_i64 (by omega) (by omega)).symm⟩)) ?_
  refine sd (does_call (args := #[(Pt g_b g_o), (Iv (x + (c_ % 2))), (Iv (y + ((c_ / 2) % 2))), (Iv (z + (c_ / 4)))]) cal64 (evs rfl) (c_spec_l06Index g_b g_o [(Fl r1), (Fl r3), (Fl r5), (Fl r7), (Iv A_g.x), (Iv A_g.y), (Iv A_g.z), (.slice p11 A_g.vals.length q12)] A_g (x + (c_ % 2)) (y + ((c_ / 2) % 2)) (z + (c_ / 4)) _ hc_g ⟨r1, r3, r5, r7, (.slice p11 A_g.vals.length q12), rfl, h2, h4, h6, h8, hs13⟩)) ?_; rintro _ w17 ⟨E16, rfl⟩
  have X18 := Ext.gr (Ext.refl w) E16
  refine fz ?_
  refine ja (Iv (idxG A_g (x + (c_ % 2)) (y + ((c_ / 2) % 2)) (z + (c_ / 4)))) ?_
  refine wn K15 ?_
  refine wp_ret ?_
  refine ret_val (v := (Iv (idxG A_g (x + (c_ % 2)) (y + ((c_ / 2) % 2)) (z + (c_ / 4))))) (res_T rfl (slot rfl)) X18 ?_
  have x19 : (crnI A_g x y z c_ : Int) = (idxG A_g (x + (c_ % 2)) (y + ((c_ / 2) % 2)) (z + (c_ / 4))) := by rfl
  exact (by first | with_reducible rfl | rw [x19] | rfl)

/- spec.l01Add -/
theorem c_spec_l01Add (a : List Value) (A_a : V3) (b : List Value) (A_b : V3) (w : World) (hv_a : RV3 w A_a a) (hv_b : RV3 w A_b b) : Gives Try.prog 73 #[(.agg a.toArray), (.agg b.toArray)] w (fun v w' => ∃ cs_1 : List Value, v = (.agg cs_1.toArray) ∧ RV3 w (vadd A_a A_b) cs_1) := by
  obtain ⟨r1, r3, r5, rfl, h2, h4, h6⟩ := hv_a
  obtain ⟨r7, r9, r11, rfl, h8, h10, h12⟩ := hv_b
  refine enter [(.agg #[(Fl r1), (Fl r3), (Fl r5)]), (.agg #[(Fl r7), (Fl r9), (Fl r11)]), Ud, Ud, Ud, Ud, Ud, Ud, Ud, Ud, Ud, Ud, Ud, Ud, Ud, Ud, Ud, Ud, Ud, Ud, Ud] Try.func73 rfl Try.ntmps73 rfl ?_
  refine wr fun _ K13 => ?_
  refine sd (does_box (u := (.agg #[(Fl r1), (Fl r3), (Fl r5)])) (ev rfl)) ?_; rintro _ w18 ⟨b14, rfl, hb15, hB16, E17⟩
  change Blk _ _ [(Fl r1), (Fl r3), (Fl r5)] at hB16
  have X20 := Ext.gr (Ext.refl w) E17
  refine fz ?_
  refine sd (does_box (u := (.agg #[(Fl r7), (Fl r9), (Fl r11)])) (ev rfl)) ?_; rintro _ w25 ⟨b21, rfl, hb22, hB23, E24⟩
  change Blk _ _ [(Fl r7), (Fl r9), (Fl r11)] at hB23
  have X28 := Ext.gr X20 E24
  refine fz ?_
  refine sd (does_alloc z35) ?_; rintro _ w33 ⟨b29, rfl, hb30, hB31, E32⟩
  have g36 : w.heap.size ≤ b29 := Nat.le_trans (Below.size X28) hb30
  change Blk _ _ [(Fl 0), (Fl 0), (Fl 0)] at hB31
  have X37 := Ext.gr X28 E32
  refine fz ?_
  refine wn K13 ?_
  refine wr fun _ K38 => ?_
  refine jj (does_fieldAddr (ev rfl) fa35_0) ?_
  refine jj (does_load (u := (Fl r1)) (ev rfl) Try.isAgg22 (Cells.at (Blk.cells ((hB16.ext E24).ext E32)) 0 rfl)) ?_
  refine jj (does_fieldAddr (ev rfl) fa35_0) ?_
  refine jj (does_load (u := (Fl r7)) (ev rfl) Try.isAgg22 (Cells.at (Blk.cells (hB23.ext E32)) 0 rfl)) ?_
  refine sd (does_float (.inl rfl) (ev rfl) (ev rfl)) ?_; rintro _ w42 ⟨r39, rfl, h40, E41⟩
  have X43 := Ext.gr X37 E41
  refine fz ?_
  refine jj (does_fieldAddr (ev rfl) fa35_1) ?_
  refine jj (does_load (u := (Fl r3)) (ev rfl) Try.isAgg22 (Cells.at (Blk.cells (((hB16.ext E24).ext E32).ext E41)) 1 rfl)) ?_
  refine jj (does_fieldAddr (ev rfl) fa35_1) ?_
  refine jj (does_load (u := (Fl r9)) (ev rfl) Try.isAgg22 (Cells.at (Blk.cells ((hB23.ext E32).ext E41)) 1 rfl)) ?_
  refine sd (does_float (.inl rfl) (ev rfl) (ev rfl)) ?_; rintro _ w47 ⟨r44, rfl, h45, E46⟩
  have X48 := Ext.gr X43 E46
  refine fz ?_
  refine jj (does_fieldAddr (ev rfl) fa35_2) ?_
  refine jj (does_load (u := (Fl r5)) (ev rfl) Try.isAgg22 (Cells.at (Blk.cells ((((hB16.ext E24).ext E32).ext E41).ext E46)) 2 rfl)) ?_
  refine jj (does_fieldAddr (ev rfl) fa35_2) ?_
  refine jj (does_load (u := (Fl r11)) (ev rfl) Try.isAgg22 (Cells.at (Blk.cells (((hB23.ext E32).ext E41).ext E46)) 2 rfl)) ?_
  refine sd (does_float (.inl rfl) (ev rfl) (ev rfl)) ?_; rintro _ w52 ⟨r49, rfl, h50, E51⟩
  have X53 := Ext.gr X48 E51
  refine fz ?_
  refine jj (does_build (parts' := [(0, (Fl r39)), (1, (Fl r44)), (2, (Fl r49))]) (cells := #[(Fl r39), (Fl r44), (Fl r49)]) (evp rfl) (by kernel_rfl)) ?_
  refine sn (does_store (n := 3) (cs := [(Fl 0), (Fl 0), (Fl 0)]) (u := (.agg #[(Fl r39), (Fl r44), (Fl r49)])) (ev rfl) (ev rfl) Try.sizeOf35 rfl (((hB31.ext E41).ext E46).ext E51) (Nat.le_of_ble_eq_true rfl) rfl) ?_; rintro _ w56 ⟨rfl, W54, hB55⟩
  change Blk _ _ [(Fl r39), (Fl r44), (Fl r49)] at hB55
  have X57 := Below.wr X53 W54 g36
  refine wn K38 ?_
  refine wp_ret ?_
  refine ret_val (v := (.agg #[(Fl r39), (Fl r44), (Fl r49)])) (res_C rfl (slot rfl) (run_loadAgg (cs := [(Fl r39), (Fl r44), (Fl r49)]) Try.isAgg35 Try.sizeOf35 (Blk.cells hB55) rfl)) X57 ?_
  have x58 : cf .f32 r39 = (vadd A_a A_b).x := by first | with_reducible rfl | (simp only [vadd, h2, h4, h6, h8, h10, h12, h40, h45, h50]; done) | (simp [vadd, h2, h4, h6, h8, h10, h12, h40, h45, h50]; done) | rfl
  have x59 : cf .f32 r44 = (vadd A_a A_b).y := by first | with_reducible rfl | (simp only [vadd, h2, h4, h6, h8, h10, h12, h40, h45, h50]; done) | (simp [vadd, h2, h4, h6, h8, h10, h12, h40, h45, h50]; done) | rfl
  have x60 : cf .f32 r49 = (vadd A_a A_b).z := by first | with_reducible rfl | (simp only [vadd, h2, h4, h6, h8, h10, h12, h40, h45, h50]; done) | (simp [vadd, h2, h4, h6, h8, h10, h12, h40, h45, h50]; done) | rfl
  exact ⟨[(Fl r39), (Fl r44), (Fl r49)], rfl, ⟨r39, r44, r49, rfl, x58, x59, x60⟩⟩

/- spec.l06Point -/
theorem c_spec_l06Point (low : List Value) (A_low : V3) (step : Nat) (x : Int) (y : Int) (z : Int) (w : World) (hv_low : RV3 w A_low low) : Gives Try.prog 76 #[(.agg low.toArray), (Fl step), (Iv x), (Iv y), (Iv z)] w (fun v w' => ∃ cs_1 : List Value, v = (.agg cs_1.toArray) ∧ RV3 w (ptG A_low (cf .f32 step) x y z) cs_1) := by
  obtain ⟨r1, r3, r5, rfl, h2, h4, h6⟩ := hv_low
  refine enter [(.agg #[(Fl r1), (Fl r3), (Fl r5)]), (Fl step), (Iv x), (Iv y), (Iv z), Ud, Ud, Ud, Ud, Ud, Ud, Ud, Ud, Ud, Ud, Ud, Ud, Ud, Ud, Ud, Ud, Ud, Ud, Ud, Ud, Ud, Ud, Ud] Try.func76 rfl Try.ntmps76 rfl ?_
  refine wr fun _ K7 => ?_
  refine sd (does_box (u := (.agg #[(Fl r1), (Fl r3), (Fl r5)])) (ev rfl)) ?_; rintro _ w12 ⟨b8, rfl, hb9, hB10, E11⟩
  change Blk _ _ [(Fl r1), (Fl r3), (Fl r5)] at hB10
  have X14 := Ext.gr (Ext.refl w) E11
  refine fz ?_
  refine sd (does_alloc z35) ?_; rintro _ w19 ⟨b15, rfl, hb16, hB17, E18⟩
  have g21 : w.heap.size ≤ b15 := Nat.le_trans (Below.size X14) hb16
  change Blk _ _ [(Fl 0), (Fl 0), (Fl 0)] at hB17
  have X22 := Ext.gr X14 E18
  refine fz ?_
  refine wn K7 ?_
  refine wr fun _ K23 => ?_
  refine jm (Fl step) ?_
  refine jm (Iv x) ?_
  refine jj (does_conv_if (k := .f32) Try.underlying2 Try.underlying22 (ev rfl)) ?_
  refine sd (does_float (.inr (.inr (.inl rfl))) (ev rfl) (ev rfl)) ?_; rintro _ w27 ⟨r24, rfl, h25, E26⟩
  have X28 := Ext.gr X22 E26
  refine fz ?_
  refine jm (Fl step) ?_
  refine jm (Iv y) ?_
  refine jj (does_conv_if (k := .f32) Try.underlying2 Try.underlying22 (ev rfl)) ?_
  refine sd (does_float (.inr (.inr (.inl rfl))) (ev rfl) (ev rfl)) ?_; rintro _ w32 ⟨r29, rfl, h30, E31⟩
  have X33 := Ext.gr X28 E31
  refine fz ?_
  refine jm (Fl step) ?_
  refine jm (Iv z) ?_
  refine jj (does_conv_if (k := .f32) Try.underlying2 Try.underlying22 (ev rfl)) ?_
  refine sd (does_float (.inr (.inr (.inl rfl))) (ev rfl) (ev rfl)) ?_; rintro _ w37 ⟨r34, rfl, h35, E36⟩
  have X38 := Ext.gr X33 E36
  refine fz ?_
  refine jj (does_build (parts' := [(0, (Fl r24)), (1, (Fl r29)), (2, (Fl r34))]) (cells := #[(Fl r24), (Fl r29), (Fl r34)]) (evp rfl) (by kernel_rfl)) ?_
  refine sd (does_alloc z35) ?_; rintro _ w43 ⟨b39, rfl, hb40, hB41, E42⟩
  have n44 : b8 < b39 := Nat.lt_of_lt_of_le (Blk.lt ((((hB10.ext E18).ext E26).ext E31).ext E36)) hb40
  have n45 : b15 < b39 := Nat.lt_of_lt_of_le (Blk.lt (((hB17.ext E26).ext E31).ext E36)) hb40
  have g46 : w.heap.size ≤ b39 := Nat.le_trans (Below.size X38) hb40
  change Blk _ _ [(Fl 0), (Fl 0), (Fl 0)] at hB41
  have X47 := Ext.gr X38 E42
  refine fz ?_
  refine sn (does_store (n := 3) (cs := [(Fl 0), (Fl 0), (Fl 0)]) (u := (.agg #[(Fl r24), (Fl r29), (Fl r34)])) (ev rfl) (ev rfl) Try.sizeOf35 rfl hB41 (Nat.le_of_ble_eq_true rfl) rfl) ?_; rintro _ w50 ⟨rfl, W48, hB49⟩
  change Blk _ _ [(Fl r24), (Fl r29), (Fl r34)] at hB49
  have X51 := Below.wr X47 W48 g46
  refine wn K23 ?_
  refine wr fun _ K52 => ?_
  refine jj (does_loadAgg (cs := [(Fl r1), (Fl r3), (Fl r5)]) (ev rfl) Try.isAgg35 Try.sizeOf35 (Blk.cells ((((((hB10.ext E18).ext E26).ext E31).ext E36).ext E42).wr W48 (Nat.ne_of_lt n44))) rfl) ?_
  refine jj (does_loadAgg (cs := [(Fl r24), (Fl r29), (Fl r34)]) (ev rfl) Try.isAgg35 Try.sizeOf35 (Blk.cells hB49) rfl) ?_
  refine sd (does_call (args := #[(.agg #[(Fl r1), (Fl r3), (Fl r5)]), (.agg #[(Fl r24), (Fl r29), (Fl r34)])]) cal73 (evs rfl) (c_spec_l01Add [(Fl r1), (Fl r3), (Fl r5)] A_low [(Fl r24), (Fl r29), (Fl r34)] (V3.mk (cf .f32 r24) (cf .f32 r29) (cf .f32 r34)) _ ⟨r1, r3, r5, rfl, h2, h4, h6⟩ ⟨r24, r29, r34, rfl, rfl, rfl, rfl⟩)) ?_; rintro _ w54 ⟨E53, ⟨_, rfl, ⟨r55, r57, r59, rfl, h56, h58, h60⟩⟩⟩
  have X61 := Ext.gr X51 E53
  refine fz ?_
  refine sn (does_store (n := 3) (cs := [(Fl 0), (Fl 0), (Fl 0)]) (u := (.agg #[(Fl r55), (Fl r57), (Fl r59)])) (ev rfl) (ev rfl) Try.sizeOf35 rfl ((((((hB17.ext E26).ext E31).ext E36).ext E42).wr W48 (Nat.ne_of_lt n45)).ext E53) (Nat.le_of_ble_eq_true rfl) rfl) ?_; rintro _ w64 ⟨rfl, W62, hB63⟩
  change Blk _ _ [(Fl r55), (Fl r57), (Fl r59)] at hB63
  have X65 := Below.wr X61 W62 g21
  refine wn K52 ?_
  refine wp_ret ?_
  refine ret_val (v := (.agg #[(Fl r55), (Fl r57), (Fl r59)])) (res_C rfl (slot rfl) (run_loadAgg (cs := [(Fl r55), (Fl r57), (Fl r59)]) Try.isAgg35 Try.sizeOf35 (Blk.cells hB63) rfl)) X65 ?_
  have x66 : cf .f32 r55 = (ptG A_low (cf .f32 step) x y z).x := by first | with_reducible rfl | (simp only [ptG, nrF, h2, h4, h6, h25, h30, h35, h56, h58, h60]; done) | (simp [ptG, nrF, h2, h4, h6, h25, h30, h35, h56, h58, h60]; done) | rfl
  have x67 : cf .f32 r57 = (ptG A_low (cf .f32 step) x y z).y := by first | with_reducible rfl | (simp only [ptG, nrF, h2, h4, h6, h25, h30, h35, h56, h58, h60]; done) | (simp [ptG, nrF, h2, h4, h6, h25, h30, h35, h56, h58, h60]; done) | rfl
  have x68 : cf .f32 r59 = (ptG A_low (cf .f32 step) x y z).z := by first | with_reducible rfl | (simp only [ptG, nrF, h2, h4, h6, h25, h30, h35, h56, h58, h60]; done) | (simp [ptG, nrF, h2, h4, h6, h25, h30, h35, h56, h58, h60]; done) | rfl
  exact ⟨[(Fl r55), (Fl r57), (Fl r59)], rfl, ⟨r55, r57, r59, rfl, x66, x67, x68⟩⟩

/- spec.l07At -/
theorem c_spec_l07At (g_b : Nat) (g_o : Nat) (g : List Value) (A_g : GridT) (ix : Int) (w : World) (hc_g : Cells w g_b g_o g) (hv_g : RGridT w A_g g) (hpx : 1 ≤ A_g.x) (hpy : 1 ≤ A_g.y) (hpi : 0 ≤ ix ∧ ix ≤ 9223372036854775807) : Gives Try.prog 67 #[(Pt g_b g_o), (Iv ix)] w (fun v w' => ∃ cs_1 : List Value, v = (.agg cs_1.toArray) ∧ RV3 w (atG A_g ix) cs_1) := by
  obtain ⟨r1, r3, r5, r7, y9, rfl, h2, h4, h6, h8, h10⟩ := hv_g
  have hs13 := h10; have hs13l := Sl.len h10; obtain ⟨p11, q12, rfl⟩ := Sl.shape h10
  have hq1 := Int.ediv_nonneg hpi.1 (show 0 ≤ A_g.x by omega)
  have hq2 := Int.ediv_le_self A_g.x hpi.1
  refine enter [(Pt g_b g_o), (Iv ix), Ud, Ud, Ud, Ud, Ud, Ud, Ud, Ud, Ud, Ud, Ud, Ud, Ud, Ud, Ud, Ud, Ud, Ud, Ud, Ud, Ud, Ud, Ud, Ud, Ud, Ud, Ud, Ud, Ud, Ud, Ud, Ud, Ud, Ud, Ud, Ud, Ud, Ud, Ud, Ud] Try.func67 rfl Try.ntmps67 rfl ?_
  refine wr fun _ K14 => ?_
  refine sd (does_alloc z35) ?_; rintro _ w19 ⟨b15, rfl, hb16, hB17, E18⟩
  have g21 : w.heap.size ≤ b15 := Nat.le_trans (Below.size (Ext.refl w)) hb16
  change Blk _ _ [(Fl 0), (Fl 0), (Fl 0)] at hB17
  have X22 := Ext.gr (Ext.refl w) E18
  refine fz ?_
  refine wn K14 ?_
  refine ws fun _ K23 => ?_
  refine region_draw (
    [Fact.pure [] (fun v => v = (Pt g_b g_o)),
    Fact.pure [5] (fun v => v = (Pt g_b g_o)),
    Fact.pure [6] (fun v => v = (Pt g_b g_o)),
    Fact.pure [7] (fun v => v = (.agg #[(Fl r1), (Fl r3), (Fl r5)])),
    Fact.pure [] (fun v => v = (Pt g_b g_o)),
    Fact.pure [9] (fun v => v = (Pt g_b g_o)),
    Fact.pure [10] (fun v => v = (Pt g_b (g_o + 3))),
    Fact.pure [11] (fun v => v = (Fl r7)),
    Fact.pure [] (fun v => v = (Iv ix)),
    Fact.pure [] (fun v => v = (Pt g_b g_o)),
    Fact.pure [14] (fun v => v = (Pt g_b g_o)),
    Fact.pure [15] (fun v => v = (Pt g_b (g_o + 4))),
    Fact.pure [16] (fun v => v = (Iv A_g.x)),
    Fact.pure [13, 17] (fun v => v = (Iv (ix % A_g.x))),
    Fact.pure [] (fun v => v = (Iv ix)),
    Fact.pure [] (fun v => v = (Pt g_b g_o)),
    Fact.pure [20] (fun v => v = (Pt g_b g_o)),
    Fact.pure [21] (fun v => v = (Pt g_b (g_o + 4))),
    Fact.pure [22] (fun v => v = (Iv A_g.x)),
    Fact.pure [19, 23] (fun v => v = (Iv (ix / A_g.x))),
    Fact.pure [] (fun v => v = (Pt g_b g_o)),
    Fact.pure [25] (fun v => v = (Pt g_b g_o)),
    Fact.pure [26] (fun v => v = (Pt g_b (g_o + 5))),
    Fact.pure [27] (fun v => v = (Iv A_g.y)),
    Fact.pure [24, 28] (fun v => v = (Iv ((ix / A_g.x) % A_g.y))),
    Fact.pure [] (fun v => v = (Iv ix)),
    Fact.pure [] (fun v => v = (Pt g_b g_o)),
    Fact.pure [31] (fun v => v = (Pt g_b g_o)),
    Fact.pure [32] (fun v => v = (Pt g_b (g_o + 4))),
    Fact.pure [33] (fun v => v = (Iv A_g.x)),
    Fact.pure [30, 34] (fun v => v = (Iv (ix / A_g.x))),
    Fact.pure [] (fun v => v = (Pt g_b g_o)),
    Fact.pure [36] (fun v => v = (Pt g_b g_o)),
    Fact.pure [37] (fun v => v = (Pt g_b (g_o + 5))),
    Fact.pure [38] (fun v => v = (Iv A_g.y)),
    Fact.pure [35, 39] (fun v => v = (Iv ((ix / A_g.x) / A_g.y))),
    Fact.pure [8, 12, 18, 29, 40] (fun v => ∃ cs_1 : List Value, v = (.agg cs_1.toArray) ∧ RV3 w (ptG A_g.low (cf .f32 r7) (ix % A_g.x) ((ix / A_g.x) % A_g.y) ((ix / A_g.x) / A_g.y)) cs_1)]) mixed (by kernel_rfl) (by intro _ _ d _ _ h; cases d <;> exact h) ?_
  obtain ⟨w24, hw26⟩ : ∃ w', w' = World.drew w19 := ⟨_, rfl⟩; rw [← hw26]; have E25 : Ext w19 w24 := by rw [hw26]; exact Ext.draw _
  clear hw26
  have X27 := Ext.gr X22 E25
  refine R_p (fun u hu _ => does_move (u := (Pt g_b g_o)) (ev rfl)) fun v28 => ?_
  refine R_p (fun u hu hF => ?_) fun v29 => ?_
  · have h5_ : v28 = (Pt g_b g_o) := hF.1
    clear hF; subst h5_
    exact does_nilCheck (ev rfl)
  refine R_p (fun u hu hF => ?_) fun v30 => ?_
  · have h6_ : v29 = (Pt g_b g_o) := hF.1
    clear hF; subst h6_
    exact does_fieldAddr (ev rfl) fa37_0
  refine R_p (fun u hu hF => ?_) fun v31 => ?_
  · have h7_ : v30 = (Pt g_b g_o) := hF.1
    clear hF; subst h7_
    exact does_loadAgg (cs := [(Fl r1), (Fl r3), (Fl r5)]) (ev rfl) Try.isAgg35 Try.sizeOf35 (Cells.sub ((hc_g.ext (Ext.gr X22 E25)).ext hu) 0 3) rfl
  refine R_p (fun u hu _ => does_move (u := (Pt g_b g_o)) (ev rfl)) fun v32 => ?_
  refine R_p (fun u hu hF => ?_) fun v33 => ?_
  · have h9_ : v32 = (Pt g_b g_o) := hF.1
    clear hF; subst h9_
    exact does_nilCheck (ev rfl)
  refine R_p (fun u hu hF => ?_) fun v34 => ?_
  · have h10_ : v33 = (Pt g_b g_o) := hF.1
    clear hF; subst h10_
    exact does_fieldAddr (ev rfl) fa37_1
  refine R_p (fun u hu hF => ?_) fun v35 => ?_
  · have h11_ : v34 = (Pt g_b (g_o + 3)) := hF.1
    clear hF; subst h11_
    exact does_load (u := (Fl r7)) (ev rfl) Try.isAgg22 (Cells.at ((hc_g.ext (Ext.gr X22 E25)).ext hu) 3 rfl)
  refine R_p (fun u hu _ => does_move (u := (Iv ix)) (ev rfl)) fun v36 => ?_
  refine R_p (fun u hu _ => does_move (u := (Pt g_b g_o)) (ev rfl)) fun v37 => ?_
  refine R_p (fun u hu hF => ?_) fun v38 => ?_
  · have h14_ : v37 = (Pt g_b g_o) := hF.1
    clear hF; subst h14_
    exact does_nilCheck (ev rfl)
  refine R_p (fun u hu hF => ?_) fun v39 => ?_
  · have h15_ : v38 = (Pt g_b g_o) := hF.1
    clear hF; subst h15_
    exact does_fieldAddr (ev rfl) fa37_2
  refine R_p (fun u hu hF => ?_) fun v40 => ?_
  · have h16_ : v39 = (Pt g_b (g_o + 4)) := hF.1
    clear hF; subst h16_
    exact does_load (u := (Iv A_g.x)) (ev rfl) Try.isAgg2 (Cells.at ((hc_g.ext (Ext.gr X22 E25)).ext hu) 4 rfl)
  refine R_p (fun u hu hF => ?_) fun v41 => ?_
  · have h13_ : v36 = (Iv ix) := hF.1
    have h17_ : v40 = (Iv A_g.x) := hF.2.1
    clear hF; subst h13_ h17_
    exact does_irem (p := ix) (q := A_g.x) (ev rfl) (ev rfl) (by first | omega | assumption) (by first | omega | assumption) (by first | omega | assumption)
  refine R_p (fun u hu _ => does_move (u := (Iv ix)) (ev rfl)) fun v42 => ?_
  refine R_p (fun u hu _ => does_move (u := (Pt g_b g_o)) (ev rfl)) fun v43 => ?_
  refine R_p (fun u hu hF => ?_) fun v44 => ?_
  · have h20_ : v43 = (Pt g_b g_o) := hF.1
    clear hF; subst h20_
    exact does_nilCheck (ev rfl)
  refine R_p (fun u hu hF => ?_) fun v45 => ?_
  · have h21_ : v44 = (Pt g_b g_o) := hF.1
    clear hF; subst h21_
    exact does_fieldAddr (ev rfl) fa37_2
  refine R_p (fun u hu hF => ?_) fun v46 => ?_
  · have h22_ : v45 = (Pt g_b (g_o + 4)) := hF.1
    clear hF; subst h22_
    exact does_load (u := (Iv A_g.x)) (ev rfl) Try.isAgg2 (Cells.at ((hc_g.ext (Ext.gr X22 E25)).ext hu) 4 rfl)
  refine R_p (fun u hu hF => ?_) fun v47 => ?_
  · have h19_ : v42 = (Iv ix) := hF.1
    have h23_ : v46 = (Iv A_g.x) := hF.2.1
    clear hF; subst h19_ h23_
    exact does_iquo (p := ix) (q := A_g.x) (ev rfl) (ev rfl) (by first | omega | assumption) (by first | omega | assumption) (by first | omega | assumption)
  refine R_p (fun u hu _ => does_move (u := (Pt g_b g_o)) (ev rfl)) fun v48 => ?_
  refine R_p (fun u hu hF => ?_) fun v49 => ?_
  · have h25_ : v48 = (Pt g_b g_o) := hF.1
    clear hF; subst h25_
    exact does_nilCheck (ev rfl)
  refine R_p (fun u hu hF => ?_) fun v50 => ?_
  · have h26_ : v49 = (Pt g_b g_o) := hF.1
    clear hF; subst h26_
    exact does_fieldAddr (ev rfl) fa37_3
  refine R_p (fun u hu hF => ?_) fun v51 => ?_
  · have h27_ : v50 = (Pt g_b (g_o + 5)) := hF.1
    clear hF; subst h27_
    exact does_load (u := (Iv A_g.y)) (ev rfl) Try.isAgg2 (Cells.at ((hc_g.ext (Ext.gr X22 E25)).ext hu) 5 rfl)
  refine R_p (fun u hu hF => ?_) fun v52 => ?_
  · have h24_ : v47 = (Iv (ix / A_g.x)) := hF.1
    have h28_ : v51 = (Iv A_g.y) := hF.2.1
    clear hF; subst h24_ h28_
    exact does_irem (p := ix / A_g.x) (q := A_g.y) (ev rfl) (ev rfl) (by first | omega | assumption) (by first | omega | assumption) (by first | omega | assumption)
  refine R_p (fun u hu _ => does_move (u := (Iv ix)) (ev rfl)) fun v53 => ?_
  refine R_p (fun u hu _ => does_move (u := (Pt g_b g_o)) (ev rfl)) fun v54 => ?_
  refine R_p (fun u hu hF => ?_) fun v55 => ?_
  · have h31_ : v54 = (Pt g_b g_o) := hF.1
    clear hF; subst h31_
    exact does_nilCheck (ev rfl)
  refine R_p (fun u hu hF => ?_) fun v56 => ?_
  · have h32_ : v55 = (Pt g_b g_o) := hF.1
    clear hF; subst h32_
    exact does_fieldAddr (ev rfl) fa37_2
  refine R_p (fun u hu hF => ?_) fun v57 => ?_
  · have h33_ : v56 = (Pt g_b (g_o + 4)) := hF.1
    clear hF; subst h33_
    exact does_load (u := (Iv A_g.x)) (ev rfl) Try.isAgg2 (Cells.at ((hc_g.ext (Ext.gr X22 E25)).ext hu) 4 rfl)
  refine R_p (fun u hu hF => ?_) fun v58 => ?_
  · have h30_ : v53 = (Iv ix) := hF.1
    have h34_ : v57 = (Iv A_g.x) := hF.2.1
    clear hF; subst h30_ h34_
    exact does_iquo (p := ix) (q := A_g.x) (ev rfl) (ev rfl) (by first | omega | assumption) (by first | omega | assumption) (by first | omega | assumption)
  refine R_p (fun u hu _ => does_move (u := (Pt g_b g_o)) (ev rfl)) fun v59 => ?_
  refine R_p (fun u hu hF => ?_) fun v60 => ?_
  · have h36_ : v59 = (Pt g_b g_o) := hF.1
    clear hF; subst h36_
    exact does_nilCheck (ev rfl)
  refine R_p (fun u hu hF => ?_) fun v61 => ?_
  · have h37_ : v60 = (Pt g_b g_o) := hF.1
    clear hF; subst h37_
    exact does_fieldAddr (ev rfl) fa37_3
  refine R_p (fun u hu hF => ?_) fun v62 => ?_
  · have h38_ : v61 = (Pt g_b (g_o + 5)) := hF.1
    clear hF; subst h38_
    exact does_load (u := (Iv A_g.y)) (ev rfl) Try.isAgg2 (Cells.at ((hc_g.ext (Ext.gr X22 E25)).ext hu) 5 rfl)
  refine R_p (fun u hu hF => ?_) fun v63 => ?_
  · have h35_ : v58 = (Iv (ix / A_g.x)) := hF.1
    have h39_ : v62 = (Iv A_g.y) := hF.2.1
    clear hF; subst h35_ h39_
    exact does_iquo (p := ix / A_g.x) (q := A_g.y) (ev rfl) (ev rfl) (by first | omega | assumption) (by first | omega | assumption) (by first | omega | assumption)
  refine R_d (fun u hu hF => ?_) (fun v64 => ?_)
  · have h8_ : v31 = (.agg #[(Fl r1), (Fl r3), (Fl r5)]) := hF.1
    have h12_ : v35 = (Fl r7) := hF.2.1
    have h18_ : v41 = (Iv (ix % A_g.x)) := hF.2.2.1
    have h29_ : v52 = (Iv ((ix / A_g.x) % A_g.y)) := hF.2.2.2.1
    have h40_ : v63 = (Iv ((ix / A_g.x) / A_g.y)) := hF.2.2.2.2.1
    clear hF
    refine doesG_un rfl ?_
    obtain rfl := h8_
    obtain rfl := h12_
    obtain rfl := h18_
    obtain rfl := h29_
    obtain rfl := h40_
    refine (does_call (args := #[(.agg #[(Fl r1), (Fl r3), (Fl r5)]), (Fl r7), (Iv (ix % A_g.x)), (Iv ((ix / A_g.x) % A_g.y)), (Iv ((ix / A_g.x) / A_g.y))]) cal76 (evs rfl) (c_spec_l06Point [(Fl r1), (Fl r3), (Fl r5)] A_g.low r7 (ix % A_g.x) ((ix / A_g.x) % A_g.y) ((ix / A_g.x) / A_g.y) _ ⟨r1, r3, r5, rfl, h2, h4, h6⟩)).mono ?_; rintro v u' ⟨hx, ⟨csn1, hv, k0⟩⟩
    exact ⟨⟨csn1, hv, k0⟩, hx⟩
  refine RW_fin ?_; intro w65 E66 hP67
  obtain ⟨⟨⟨⟨⟨⟨⟨⟨⟨⟨⟨⟨⟨⟨⟨⟨⟨⟨⟨⟨⟨⟨⟨⟨⟨⟨⟨⟨⟨⟨⟨⟨⟨⟨⟨⟨⟨-, -⟩, -⟩, -⟩, -⟩, -⟩, -⟩, -⟩, -⟩, -⟩, -⟩, -⟩, -⟩, -⟩, -⟩, -⟩, -⟩, -⟩, -⟩, -⟩, -⟩, -⟩, -⟩, -⟩, -⟩, -⟩, -⟩, -⟩, -⟩, -⟩, -⟩, -⟩, -⟩, -⟩, -⟩, -⟩, -⟩, q68⟩ := hP67
  have X69 := Ext.gr X27 E66
  have q68 : ∃ cs_1 : List Value, v64 = (.agg cs_1.toArray) ∧ RV3 w (ptG A_g.low (cf .f32 r7) (ix % A_g.x) ((ix / A_g.x) % A_g.y) ((ix / A_g.x) / A_g.y)) cs_1 := q68
  obtain ⟨_, rfl, ⟨r70, r72, r74, rfl, h71, h73, h75⟩⟩ := q68
  refine fz ?_
  refine sn (does_store (n := 3) (cs := [(Fl 0), (Fl 0), (Fl 0)]) (u := (.agg #[(Fl r70), (Fl r72), (Fl r74)])) (ev rfl) (ev rfl) Try.sizeOf35 rfl ((hB17.ext E25).ext E66) (Nat.le_of_ble_eq_true rfl) rfl) ?_; rintro _ w78 ⟨rfl, W76, hB77⟩
  change Blk _ _ [(Fl r70), (Fl r72), (Fl r74)] at hB77
  have X79 := Below.wr X69 W76 g21
  refine wn K23 ?_
  refine wp_ret ?_
  refine ret_val (v := (.agg #[(Fl r70), (Fl r72), (Fl r74)])) (res_C rfl (slot rfl) (run_loadAgg (cs := [(Fl r70), (Fl r72), (Fl r74)]) Try.isAgg35 Try.sizeOf35 (Blk.cells hB77) rfl)) X79 ?_
  have x80 : cf .f32 r70 = (atG A_g ix).x := by first | with_reducible rfl | (simp only [atG, xI, yI, zI, h2, h4, h6, h8, h71, h73, h75]; done) | (simp [atG, xI, yI, zI, h2, h4, h6, h8, h71, h73, h75]; done) | rfl
  have x81 : cf .f32 r72 = (atG A_g ix).y := by first | with_reducible rfl | (simp only [atG, xI, yI, zI, h2, h4, h6, h8, h71, h73, h75]; done) | (simp [atG, xI, yI, zI, h2, h4, h6, h8, h71, h73, h75]; done) | rfl
  have x82 : cf .f32 r74 = (atG A_g ix).z := by first | with_reducible rfl | (simp only [atG, xI, yI, zI, h2, h4, h6, h8, h71, h73, h75]; done) | (simp [atG, xI, yI, zI, h2, h4, h6, h8, h71, h73, h75]; done) | rfl
  exact ⟨[(Fl r70), (Fl r72), (Fl r74)], rfl, ⟨r70, r72, r74, rfl, x80, x81, x82⟩⟩

/- spec.l01Scale -/
theorem c_spec_l01Scale (a : List Value) (A_a : V3) (b : Nat) (w : World) (hv_a : RV3 w A_a a) : Gives Try.prog 74 #[(.agg a.toArray), (Fl b)] w (fun v w' => ∃ cs_1 : List Value, v = (.agg cs_1.toArray) ∧ RV3 w (vscale A_a (cf .f32 b)) cs_1) := by
  obtain ⟨r1, r3, r5, rfl, h2, h4, h6⟩ := hv_a
  refine enter [(.agg #[(Fl r1), (Fl r3), (Fl r5)]), (Fl b), Ud, Ud, Ud, Ud, Ud, Ud, Ud, Ud, Ud, Ud, Ud, Ud, Ud, Ud, Ud, Ud] Try.func74 rfl Try.ntmps74 rfl ?_
  refine wr fun _ K7 => ?_
  refine sd (does_box (u := (.agg #[(Fl r1), (Fl r3), (Fl r5)])) (ev rfl)) ?_; rintro _ w12 ⟨b8, rfl, hb9, hB10, E11⟩
  change Blk _ _ [(Fl r1), (Fl r3), (Fl r5)] at hB10
  have X14 := Ext.gr (Ext.refl w) E11
  refine fz ?_
  refine sd (does_alloc z35) ?_; rintro _ w19 ⟨b15, rfl, hb16, hB17, E18⟩
  have g21 : w.heap.size ≤ b15 := Nat.le_trans (Below.size X14) hb16
  change Blk _ _ [(Fl 0), (Fl 0), (Fl 0)] at hB17
  have X22 := Ext.gr X14 E18
  refine fz ?_
  refine wn K7 ?_
  refine wr fun _ K23 => ?_
  refine jj (does_fieldAddr (ev rfl) fa35_0) ?_
  refine jj (does_load (u := (Fl r1)) (ev rfl) Try.isAgg22 (Cells.at (Blk.cells (hB10.ext E18)) 0 rfl)) ?_
  refine jm (Fl b) ?_
  refine sd (does_float (.inr (.inr (.inl rfl))) (ev rfl) (ev rfl)) ?_; rintro _ w27 ⟨r24, rfl, h25, E26⟩
  have X28 := Ext.gr X22 E26
  refine fz ?_
  refine jj (does_fieldAddr (ev rfl) fa35_1) ?_
  refine jj (does_load (u := (Fl r3)) (ev rfl) Try.isAgg22 (Cells.at (Blk.cells ((hB10.ext E18).ext E26)) 1 rfl)) ?_
  refine jm (Fl b) ?_
  refine sd (does_float (.inr (.inr (.inl rfl))) (ev rfl) (ev rfl)) ?_; rintro _ w32 ⟨r29, rfl, h30, E31⟩
  have X33 := Ext.gr X28 E31
  refine fz ?_
  refine jj (does_fieldAddr (ev rfl) fa35_2) ?_
  refine jj (does_load (u := (Fl r5)) (ev rfl) Try.isAgg22 (Cells.at (Blk.cells (((hB10.ext E18).ext E26).ext E31)) 2 rfl)) ?_
  refine jm (Fl b) ?_
  refine sd (does_float (.inr (.inr (.inl rfl))) (ev rfl) (ev rfl)) ?_; rintro _ w37 ⟨r34, rfl, h35, E36⟩
  have X38 := Ext.gr X33 E36
  refine fz ?_
  refine jj (does_build (parts' := [(0, (Fl r24)), (1, (Fl r29)), (2, (Fl r34))]) (cells := #[(Fl r24), (Fl r29), (Fl r34)]) (evp rfl) (by kernel_rfl)) ?_
  refine sn (does_store (n := 3) (cs := [(Fl 0), (Fl 0), (Fl 0)]) (u := (.agg #[(Fl r24), (Fl r29), (Fl r34)])) (ev rfl) (ev rfl) Try.sizeOf35 rfl (((hB17.ext E26).ext E31).ext E36) (Nat.le_of_ble_eq_true rfl) rfl) ?_; rintro _ w41 ⟨rfl, W39, hB40⟩
  change Blk _ _ [(Fl r24), (Fl r29), (Fl r34)] at hB40
  have X42 := Below.wr X38 W39 g21
  refine wn K23 ?_
  refine wp_ret ?_
  refine ret_val (v := (.agg #[(Fl r24), (Fl r29), (Fl r34)])) (res_C rfl (slot rfl) (run_loadAgg (cs := [(Fl r24), (Fl r29), (Fl r34)]) Try.isAgg35 Try.sizeOf35 (Blk.cells hB40) rfl)) X42 ?_
  have x43 : cf .f32 r24 = (vscale A_a (cf .f32 b)).x := by first | with_reducible rfl | (simp only [vscale, h2, h4, h6, h25, h30, h35]; done) | (simp [vscale, h2, h4, h6, h25, h30, h35]; done) | rfl
  have x44 : cf .f32 r29 = (vscale A_a (cf .f32 b)).y := by first | with_reducible rfl | (simp only [vscale, h2, h4, h6, h25, h30, h35]; done) | (simp [vscale, h2, h4, h6, h25, h30, h35]; done) | rfl
  have x45 : cf .f32 r34 = (vscale A_a (cf .f32 b)).z := by first | with_reducible rfl | (simp only [vscale, h2, h4, h6, h25, h30, h35]; done) | (simp [vscale, h2, h4, h6, h25, h30, h35]; done) | rfl
  exact ⟨[(Fl r24), (Fl r29), (Fl r34)], rfl, ⟨r24, r29, r34, rfl, x43, x44, x45⟩⟩

/- spec.l01Less -/
theorem c_spec_l01Less (a : List Value) (A_a : V3) (b : List Value) (A_b : V3) (w : World) (hv_a : RV3 w A_a a) (hv_b : RV3 w A_b b) : Gives Try.prog 75 #[(.agg a.toArray), (.agg b.toArray)] w (fun v w' => ∃ cs_1 : List Value, v = (.agg cs_1.toArray) ∧ RV3 w (vsub A_a A_b) cs_1) := by
  obtain ⟨r1, r3, r5, rfl, h2, h4, h6⟩ := hv_a
  obtain ⟨r7, r9, r11, rfl, h8, h10, h12⟩ := hv_b
  refine enter [(.agg #[(Fl r1), (Fl r3), (Fl r5)]), (.agg #[(Fl r7), (Fl r9), (Fl r11)]), Ud, Ud, Ud, Ud, Ud, Ud, Ud, Ud, Ud, Ud, Ud, Ud, Ud, Ud, Ud, Ud, Ud, Ud, Ud] Try.func75 rfl Try.ntmps75 rfl ?_
  refine wr fun _ K13 => ?_
  refine sd (does_box (u := (.agg #[(Fl r1), (Fl r3), (Fl r5)])) (ev rfl)) ?_; rintro _ w18 ⟨b14, rfl, hb15, hB16, E17⟩
  change Blk _ _ [(Fl r1), (Fl r3), (Fl r5)] at hB16
  have X20 := Ext.gr (Ext.refl w) E17
  refine fz ?_
  refine sd (does_box (u := (.agg #[(Fl r7), (Fl r9), (Fl r11)])) (ev rfl)) ?_; rintro _ w25 ⟨b21, rfl, hb22, hB23, E24⟩
  change Blk _ _ [(Fl r7), (Fl r9), (Fl r11)] at hB23
  have X28 := Ext.gr X20 E24
  refine fz ?_
  refine sd (does_alloc z35) ?_; rintro _ w33 ⟨b29, rfl, hb30, hB31, E32⟩
  have g36 : w.heap.size ≤ b29 := Nat.le_trans (Below.size X28) hb30
  change Blk _ _ [(Fl 0), (Fl 0), (Fl 0)] at hB31
  have X37 := Ext.gr X28 E32
  refine fz ?_
  refine wn K13 ?_
  refine wr fun _ K38 => ?_
  refine jj (does_fieldAddr (ev rfl) fa35_0) ?_
  refine jj (does_load (u := (Fl r1)) (ev rfl) Try.isAgg22 (Cells.at (Blk.cells ((hB16.ext E24).ext E32)) 0 rfl)) ?_
  refine jj (does_fieldAddr (ev rfl) fa35_0) ?_
  refine jj (does_load (u := (Fl r7)) (ev rfl) Try.isAgg22 (Cells.at (Blk.cells (hB23.ext E32)) 0 rfl)) ?_
  refine sd (does_float (.inr (.inl rfl)) (ev rfl) (ev rfl)) ?_; rintro _ w42 ⟨r39, rfl, h40, E41⟩
  have X43 := Ext.gr X37 E41
  refine fz ?_
  refine jj (does_fieldAddr (ev rfl) fa35_1) ?_
  refine jj (does_load (u := (Fl r3)) (ev rfl) Try.isAgg22 (Cells.at (Blk.cells (((hB16.ext E24).ext E32).ext E41)) 1 rfl)) ?_
  refine jj (does_fieldAddr (ev rfl) fa35_1) ?_
  refine jj (does_load (u := (Fl r9)) (ev rfl) Try.isAgg22 (Cells.at (Blk.cells ((hB23.ext E32).ext E41)) 1 rfl)) ?_
  refine sd (does_float (.inr (.inl rfl)) (ev rfl) (ev rfl)) ?_; rintro _ w47 ⟨r44, rfl, h45, E46⟩
  have X48 := Ext.gr X43 E46
  refine fz ?_
  refine jj (does_fieldAddr (ev rfl) fa35_2) ?_
  refine jj (does_load (u := (Fl r5)) (ev rfl) Try.isAgg22 (Cells.at (Blk.cells ((((hB16.ext E24).ext E32).ext E41).ext E46)) 2 rfl)) ?_
  refine jj (does_fieldAddr (ev rfl) fa35_2) ?_
  refine jj (does_load (u := (Fl r11)) (ev rfl) Try.isAgg22 (Cells.at (Blk.cells (((hB23.ext E32).ext E41).ext E46)) 2 rfl)) ?_
  refine sd (does_float (.inr (.inl rfl)) (ev rfl) (ev rfl)) ?_; rintro _ w52 ⟨r49, rfl, h50, E51⟩
  have X53 := Ext.gr X48 E51
  refine fz ?_
  refine jj (does_build (parts' := [(0, (Fl r39)), (1, (Fl r44)), (2, (Fl r49))]) (cells := #[(Fl r39), (Fl r44), (Fl r49)]) (evp rfl) (by kernel_rfl)) ?_
  refine sn (does_store (n := 3) (cs := [(Fl 0), (Fl 0), (Fl 0)]) (u := (.agg #[(Fl r39), (Fl r44), (Fl r49)])) (ev rfl) (ev rfl) Try.sizeOf35 rfl (((hB31.ext E41).ext E46).ext E51) (Nat.le_of_ble_eq_true rfl) rfl) ?_; rintro _ w56 ⟨rfl, W54, hB55⟩
  change Blk _ _ [(Fl r39), (Fl r44), (Fl r49)] at hB55
  have X57 := Below.wr X53 W54 g36
  refine wn K38 ?_
  refine wp_ret ?_
  refine ret_val (v := (.agg #[(Fl r39), (Fl r44), (Fl r49)])) (res_C rfl (slot rfl) (run_loadAgg (cs := [(Fl r39), (Fl r44), (Fl r49)]) Try.isAgg35 Try.sizeOf35 (Blk.cells hB55) rfl)) X57 ?_
  have x58 : cf .f32 r39 = (vsub A_a A_b).x := by first | with_reducible rfl | (simp only [vsub, h2, h4, h6, h8, h10, h12, h40, h45, h50]; done) | (simp [vsub, h2, h4, h6, h8, h10, h12, h40, h45, h50]; done) | rfl
  have x59 : cf .f32 r44 = (vsub A_a A_b).y := by first | with_reducible rfl | (simp only [vsub, h2, h4, h6, h8, h10, h12, h40, h45, h50]; done) | (simp [vsub, h2, h4, h6, h8, h10, h12, h40, h45, h50]; done) | rfl
  have x60 : cf .f32 r49 = (vsub A_a A_b).z := by first | with_reducible rfl | (simp only [vsub, h2, h4, h6, h8, h10, h12, h40, h45, h50]; done) | (simp [vsub, h2, h4, h6, h8, h10, h12, h40, h45, h50]; done) | rfl
  exact ⟨[(Fl r39), (Fl r44), (Fl r49)], rfl, ⟨r39, r44, r49, rfl, x58, x59, x60⟩⟩

/- spec.l01Between -/
theorem c_spec_l01Between (a : List Value) (A_a : V3) (b : List Value) (A_b : V3) (t_ : Nat) (w : World) (hv_a : RV3 w A_a a) (hv_b : RV3 w A_b b) : Gives Try.prog 66 #[(.agg a.toArray), (.agg b.toArray), (Fl t_)] w (fun v w' => ∃ cs_1 : List Value, v = (.agg cs_1.toArray) ∧ RV3 w (btwV A_a A_b (cf .f32 t_)) cs_1) := by
  obtain ⟨r1, r3, r5, rfl, h2, h4, h6⟩ := hv_a
  obtain ⟨r7, r9, r11, rfl, h8, h10, h12⟩ := hv_b
  refine enter [(.agg #[(Fl r1), (Fl r3), (Fl r5)]), (.agg #[(Fl r7), (Fl r9), (Fl r11)]), (Fl t_), Ud, Ud, Ud, Ud, Ud, Ud, Ud, Ud, Ud, Ud, Ud] Try.func66 rfl Try.ntmps66 rfl ?_
  refine wr fun _ K13 => ?_
  refine sd (does_box (u := (.agg #[(Fl r1), (Fl r3), (Fl r5)])) (ev rfl)) ?_; rintro _ w18 ⟨b14, rfl, hb15, hB16, E17⟩
  change Blk _ _ [(Fl r1), (Fl r3), (Fl r5)] at hB16
  have X20 := Ext.gr (Ext.refl w) E17
  refine fz ?_
  refine sd (does_box (u := (.agg #[(Fl r7), (Fl r9), (Fl r11)])) (ev rfl)) ?_; rintro _ w25 ⟨b21, rfl, hb22, hB23, E24⟩
  change Blk _ _ [(Fl r7), (Fl r9), (Fl r11)] at hB23
  have X28 := Ext.gr X20 E24
  refine fz ?_
  refine sd (does_alloc z35) ?_; rintro _ w33 ⟨b29, rfl, hb30, hB31, E32⟩
  have g36 : w.heap.size ≤ b29 := Nat.le_trans (Below.size X28) hb30
  change Blk _ _ [(Fl 0), (Fl 0), (Fl 0)] at hB31
  have X37 := Ext.gr X28 E32
  refine fz ?_
  refine wn K13 ?_
  refine ws fun _ K38 => ?_
  refine region_draw (
    [Fact.pure [] (fun v => v = (.agg #[(Fl r1), (Fl r3), (Fl r5)])),
    Fact.pure [] (fun v => v = (.agg #[(Fl r7), (Fl r9), (Fl r11)])),
    Fact.pure [] (fun v => v = (.agg #[(Fl r1), (Fl r3), (Fl r5)])),
    Fact.pure [8, 9] (fun v => ∃ cs_1 : List Value, v = (.agg cs_1.toArray) ∧ RV3 w (vsub A_b A_a) cs_1),
    Fact.pure [] (fun v => v = (Fl t_)),
    Fact.pure [10, 11] (fun v => ∃ cs_1 : List Value, v = (.agg cs_1.toArray) ∧ RV3 w (vscale (vsub A_b A_a) (cf .f32 t_)) cs_1),
    Fact.pure [7, 12] (fun v => ∃ cs_1 : List Value, v = (.agg cs_1.toArray) ∧ RV3 w (vadd A_a (vscale (vsub A_b A_a) (cf .f32 t_))) cs_1)]) mixed (by kernel_rfl) (by intro _ _ d _ _ h; cases d <;> exact h) ?_
  obtain ⟨w39, hw41⟩ : ∃ w', w' = World.drew w33 := ⟨_, rfl⟩; rw [← hw41]; have E40 : Ext w33 w39 := by rw [hw41]; exact Ext.draw _
  clear hw41
  have X42 := Ext.gr X37 E40
  refine R_p (fun u hu _ => does_loadAgg (cs := [(Fl r1), (Fl r3), (Fl r5)]) (ev rfl) Try.isAgg35 Try.sizeOf35 (Blk.cells ((((hB16.ext E24).ext E32).ext E40).ext hu)) rfl) fun v43 => ?_
  refine R_p (fun u hu _ => does_loadAgg (cs := [(Fl r7), (Fl r9), (Fl r11)]) (ev rfl) Try.isAgg35 Try.sizeOf35 (Blk.cells (((hB23.ext E32).ext E40).ext hu)) rfl) fun v44 => ?_
  refine R_p (fun u hu _ => does_loadAgg (cs := [(Fl r1), (Fl r3), (Fl r5)]) (ev rfl) Try.isAgg35 Try.sizeOf35 (Blk.cells ((((hB16.ext E24).ext E32).ext E40).ext hu)) rfl) fun v45 => ?_
  refine R_d (fun u hu hF => ?_) (fun v46 => ?_)
  · have h8_ : v44 = (.agg #[(Fl r7), (Fl r9), (Fl r11)]) := hF.1
    have h9_ : v45 = (.agg #[(Fl r1), (Fl r3), (Fl r5)]) := hF.2.1
    clear hF
    refine doesG_un rfl ?_
    obtain rfl := h8_
    obtain rfl := h9_
    refine (does_call (args := #[(.agg #[(Fl r7), (Fl r9), (Fl r11)]), (.agg #[(Fl r1), (Fl r3), (Fl r5)])]) cal75 (evs rfl) (c_spec_l01Less [(Fl r7), (Fl r9), (Fl r11)] A_b [(Fl r1), (Fl r3), (Fl r5)] A_a _ ⟨r7, r9, r11, rfl, h8, h10, h12⟩ ⟨r1, r3, r5, rfl, h2, h4, h6⟩)).mono ?_; rintro v u' ⟨hx, ⟨csn1, hv, k0⟩⟩
    exact ⟨⟨csn1, hv, k0⟩, hx⟩
  refine R_p (fun u hu _ => does_move (u := (Fl t_)) (ev rfl)) fun v47 => ?_
  refine R_d (fun u hu hF => ?_) (fun v48 => ?_)
  · have h10_ : ∃ cs_1 : List Value, v46 = (.agg cs_1.toArray) ∧ RV3 w (vsub A_b A_a) cs_1 := hF.1
    have h11_ : v47 = (Fl t_) := hF.2.1
    clear hF
    refine doesG_un rfl ?_
    obtain ⟨_, rfl, ⟨r10_1, r10_3, r10_5, rfl, h10_2, h10_4, h10_6⟩⟩ := h10_
    obtain rfl := h11_
    refine (does_call (args := #[(.agg #[(Fl r10_1), (Fl r10_3), (Fl r10_5)]), (Fl t_)]) cal74 (evs rfl) (c_spec_l01Scale [(Fl r10_1), (Fl r10_3), (Fl r10_5)] (vsub A_b A_a) t_ _ ⟨r10_1, r10_3, r10_5, rfl, (by assumption), (by assumption), (by assumption)⟩)).mono ?_; rintro v u' ⟨hx, ⟨csn1, hv, k0⟩⟩
    exact ⟨⟨csn1, hv.trans (by simp only [h10_2, h10_4, h10_6]), (by first | exact k0 | simpa only [h10_2, h10_4, h10_6] using RV3.any (w := w) k0)⟩, hx⟩
  refine R_d (fun u hu hF => ?_) (fun v49 => ?_)
  · have h7_ : v43 = (.agg #[(Fl r1), (Fl r3), (Fl r5)]) := hF.1
    have h12_ : ∃ cs_1 : List Value, v48 = (.agg cs_1.toArray) ∧ RV3 w (vscale (vsub A_b A_a) (cf .f32 t_)) cs_1 := hF.2.1
    clear hF
    refine doesG_un rfl ?_
    obtain rfl := h7_
    obtain ⟨_, rfl, ⟨r12_1, r12_3, r12_5, rfl, h12_2, h12_4, h12_6⟩⟩ := h12_
    refine (does_call (args := #[(.agg #[(Fl r1), (Fl r3), (Fl r5)]), (.agg #[(Fl r12_1), (Fl r12_3), (Fl r12_5)])]) cal73 (evs rfl) (c_spec_l01Add [(Fl r1), (Fl r3), (Fl r5)] A_a [(Fl r12_1), (Fl r12_3), (Fl r12_5)] (vscale (vsub A_b A_a) (cf .f32 t_)) _ ⟨r1, r3, r5, rfl, h2, h4, h6⟩ ⟨r12_1, r12_3, r12_5, rfl, (by assumption), (by assumption), (by assumption)⟩)).mono ?_; rintro v u' ⟨hx, ⟨csn1, hv, k0⟩⟩
    exact ⟨⟨csn1, hv.trans (by simp only [h12_2, h12_4, h12_6]), (by first | exact k0 | simpa only [h12_2, h12_4, h12_6] using RV3.any (w := w) k0)⟩, hx⟩
  refine RW_fin ?_; intro w50 E51 hP52
  obtain ⟨⟨⟨⟨⟨⟨⟨-, -⟩, -⟩, -⟩, -⟩, -⟩, -⟩, q53⟩ := hP52
  have X54 := Ext.gr X42 E51
  have q53 : ∃ cs_1 : List Value, v49 = (.agg cs_1.toArray) ∧ RV3 w (vadd A_a (vscale (vsub A_b A_a) (cf .f32 t_))) cs_1 := q53
  obtain ⟨_, rfl, ⟨r55, r57, r59, rfl, h56, h58, h60⟩⟩ := q53
  refine fz ?_
  refine sn (does_store (n := 3) (cs := [(Fl 0), (Fl 0), (Fl 0)]) (u := (.agg #[(Fl r55), (Fl r57), (Fl r59)])) (ev rfl) (ev rfl) Try.sizeOf35 rfl ((hB31.ext E40).ext E51) (Nat.le_of_ble_eq_true rfl) rfl) ?_; rintro _ w63 ⟨rfl, W61, hB62⟩
  change Blk _ _ [(Fl r55), (Fl r57), (Fl r59)] at hB62
  have X64 := Below.wr X54 W61 g36
  refine wn K38 ?_
  refine wp_ret ?_
  refine ret_val (v := (.agg #[(Fl r55), (Fl r57), (Fl r59)])) (res_C rfl (slot rfl) (run_loadAgg (cs := [(Fl r55), (Fl r57), (Fl r59)]) Try.isAgg35 Try.sizeOf35 (Blk.cells hB62) rfl)) X64 ?_
  have x65 : cf .f32 r55 = (btwV A_a A_b (cf .f32 t_)).x := by first | with_reducible rfl | (simp only [btwV, h2, h4, h6, h8, h10, h12, h56, h58, h60]; done) | (simp [btwV, h2, h4, h6, h8, h10, h12, h56, h58, h60]; done) | rfl
  have x66 : cf .f32 r57 = (btwV A_a A_b (cf .f32 t_)).y := by first | with_reducible rfl | (simp only [btwV, h2, h4, h6, h8, h10, h12, h56, h58, h60]; done) | (simp [btwV, h2, h4, h6, h8, h10, h12, h56, h58, h60]; done) | rfl
  have x67 : cf .f32 r59 = (btwV A_a A_b (cf .f32 t_)).z := by first | with_reducible rfl | (simp only [btwV, h2, h4, h6, h8, h10, h12, h56, h58, h60]; done) | (simp [btwV, h2, h4, h6, h8, h10, h12, h56, h58, h60]; done) | rfl
  exact ⟨[(Fl r55), (Fl r57), (Fl r59)], rfl, ⟨r55, r57, r59, rfl, x65, x66, x67⟩⟩

/- (*impl.Grid).place -/
theorem c_impl_Grid_place (g_b : Nat) (g_o : Nat) (g : List Value) (A_g : GridT) (ix : Int) (w : World) (hc_g : Cells w g_b g_o g) (hv_g : RGridT w A_g g) (hpx : 1 ≤ A_g.x) (hpy : 1 ≤ A_g.y) (hpi : 0 ≤ ix ∧ ix ≤ 9223372036854775807) : Gives Try.prog 39 #[(Pt g_b g_o), (Iv ix)] w (fun v w' => v = (.agg #[(Iv (ix % A_g.x)), (Iv (ix / A_g.x % A_g.y)), (Iv (ix / A_g.x / A_g.y))])) := by
  obtain ⟨r1, r3, r5, r7, y9, rfl, h2, h4, h6, h8, h10⟩ := hv_g
  have hs13 := h10; have hs13l := Sl.len h10; obtain ⟨p11, q12, rfl⟩ := Sl.shape h10
  have hq1 := Int.ediv_nonneg hpi.1 (show 0 ≤ A_g.x by omega)
  have hq2 := Int.ediv_le_self A_g.x hpi.1
  refine enter [(Pt g_b g_o), (Iv ix), Ud, Ud, Ud, Ud, Ud, Ud, Ud, Ud, Ud, Ud, Ud, Ud, Ud, Ud, Ud, Ud, Ud, Ud, Ud, Ud, Ud, Ud, Ud, Ud, Ud, Ud, Ud, Ud, Ud, Ud, Ud, Ud] Try.func39 rfl Try.ntmps39 rfl ?_
  refine wr fun _ K14 => ?_
  refine sd (does_alloc z69) ?_; rintro _ w19 ⟨b15, rfl, hb16, hB17, E18⟩
  have g21 : w.heap.size ≤ b15 := Nat.le_trans (Below.size (Ext.refl w)) hb16
  change Blk _ _ [(Iv 0), (Iv 0), (Iv 0)] at hB17
  have X22 := Ext.gr (Ext.refl w) E18
  refine fz ?_
  refine wn K14 ?_
  refine ws fun _ K23 => ?_
  refine region_draw (
    [Fact.pure [] (fun v => v = (Iv ix)),
    Fact.pure [] (fun v => v = (Pt g_b g_o)),
    Fact.pure [6] (fun v => v = (Pt g_b g_o)),
    Fact.pure [7] (fun v => v = (Pt g_b (g_o + 4))),
    Fact.pure [8] (fun v => v = (Iv A_g.x)),
    Fact.pure [5, 9] (fun v => v = (Iv (ix % A_g.x))),
    Fact.pure [] (fun v => v = (Iv ix)),
    Fact.pure [] (fun v => v = (Pt g_b g_o)),
    Fact.pure [12] (fun v => v = (Pt g_b g_o)),
    Fact.pure [13] (fun v => v = (Pt g_b (g_o + 4))),
    Fact.pure [14] (fun v => v = (Iv A_g.x)),
    Fact.pure [11, 15] (fun v => v = (Iv (ix / A_g.x))),
    Fact.pure [] (fun v => v = (Pt g_b g_o)),
    Fact.pure [17] (fun v => v = (Pt g_b g_o)),
    Fact.pure [18] (fun v => v = (Pt g_b (g_o + 5))),
    Fact.pure [19] (fun v => v = (Iv A_g.y)),
    Fact.pure [16, 20] (fun v => v = (Iv ((ix / A_g.x) % A_g.y))),
    Fact.pure [] (fun v => v = (Iv ix)),
    Fact.pure [] (fun v => v = (Pt g_b g_o)),
    Fact.pure [23] (fun v => v = (Pt g_b g_o)),
    Fact.pure [24] (fun v => v = (Pt g_b (g_o + 4))),
    Fact.pure [25] (fun v => v = (Iv A_g.x)),
    Fact.pure [22, 26] (fun v => v = (Iv (ix / A_g.x))),
    Fact.pure [] (fun v => v = (Pt g_b g_o)),
    Fact.pure [28] (fun v => v = (Pt g_b g_o)),
    Fact.pure [29] (fun v => v = (Pt g_b (g_o + 5))),
    Fact.pure [30] (fun v => v = (Iv A_g.y)),
    Fact.pure [27, 31] (fun v => v = (Iv ((ix / A_g.x) / A_g.y))),
    Fact.pure [10, 21, 32] (fun v => v = (.agg #[(Iv (ix % A_g.x)), (Iv ((ix / A_g.x) % A_g.y)), (Iv ((ix / A_g.x) / A_g.y))]))]) mixed (by kernel_rfl) (by intro _ _ d _ _ h; cases d <;> exact h) ?_
  obtain ⟨w24, hw26⟩ : ∃ w', w' = World.drew w19 := ⟨_, rfl⟩; rw [← hw26]; have E25 : Ext w19 w24 := by rw [hw26]; exact Ext.draw _
  clear hw26
  have X27 := Ext.gr X22 E25
  refine R_p (fun u hu _ => does_move (u := (Iv ix)) (ev rfl)) fun v28 => ?_
  refine R_p (fun u hu _ => does_move (u := (Pt g_b g_o)) (ev rfl)) fun v29 => ?_
  refine R_p (fun u hu hF => ?_) fun v30 => ?_
  · have h6_ : v29 = (Pt g_b g_o) := hF.1
    clear hF; subst h6_
    exact does_nilCheck (ev rfl)
  refine R_p (fun u hu hF => ?_) fun v31 => ?_
  · have h7_ : v30 = (Pt g_b g_o) := hF.1
    clear hF; subst h7_
    exact does_fieldAddr (ev rfl) fa37_2
  refine R_p (fun u hu hF => ?_) fun v32 => ?_
  · have h8_ : v31 = (Pt g_b (g_o + 4)) := hF.1
    clear hF; subst h8_
    exact does_load (u := (Iv A_g.x)) (ev rfl) Try.isAgg2 (Cells.at ((hc_g.ext (Ext.gr X22 E25)).ext hu) 4 rfl)
  refine R_p (fun u hu hF => ?_) fun v33 => ?_
  · have h5_ : v28 = (Iv ix) := hF.1
    have h9_ : v32 = (Iv A_g.x) := hF.2.1
    clear hF; subst h5_ h9_
    exact does_irem (p := ix) (q := A_g.x) (ev rfl) (ev rfl) (by first | omega | assumption) (by first | omega | assumption) (by first | omega | assumption)
  refine R_p (fun u hu _ => does_move (u := (Iv ix)) (ev rfl)) fun v34 => ?_
  refine R_p (fun u hu _ => does_move (u := (Pt g_b g_o)) (ev rfl)) fun v35 => ?_
  refine R_p (fun u hu hF => ?_) fun v36 => ?_
  · have h12_ : v35 = (Pt g_b g_o) := hF.1
    clear hF; subst h12_
    exact does_nilCheck (ev rfl)
  refine R_p (fun u hu hF => ?_) fun v37 => ?_
  · have h13_ : v36 = (Pt g_b g_o) := hF.1
    clear hF; subst h13_
    exact does_fieldAddr (ev rfl) fa37_2
  refine R_p (fun u hu hF => ?_) fun v38 => ?_
  · have h14_ : v37 = (Pt g_b (g_o + 4)) := hF.1
    clear hF; subst h14_
    exact does_load (u := (Iv A_g.x)) (ev rfl) Try.isAgg2 (Cells.at ((hc_g.ext (Ext.gr X22 E25)).ext hu) 4 rfl)
  refine R_p (fun u hu hF => ?_) fun v39 => ?_
  · have h11_ : v34 = (Iv ix) := hF.1
    have h15_ : v38 = (Iv A_g.x) := hF.2.1
    clear hF; subst h11_ h15_
    exact does_iquo (p := ix) (q := A_g.x) (ev rfl) (ev rfl) (by first | omega | assumption) (by first | omega | assumption) (by first | omega | assumption)
  refine R_p (fun u hu _ => does_move (u := (Pt g_b g_o)) (ev rfl)) fun v40 => ?_
  refine R_p (fun u hu hF => ?_) fun v41 => ?_
  · have h17_ : v40 = (Pt g_b g_o) := hF.1
    clear hF; subst h17_
    exact does_nilCheck (ev rfl)
  refine R_p (fun u hu hF => ?_) fun v42 => ?_
  · have h18_ : v41 = (Pt g_b g_o) := hF.1
    clear hF; subst h18_
    exact does_fieldAddr (ev rfl) fa37_3
  refine R_p (fun u hu hF => ?_) fun v43 => ?_
  · have h19_ : v42 = (Pt g_b (g_o + 5)) := hF.1
    clear hF; subst h19_
    exact does_load (u := (Iv A_g.y)) (ev rfl) Try.isAgg2 (Cells.at ((hc_g.ext (Ext.gr X22 E25)).ext hu) 5 rfl)
  refine R_p (fun u hu hF => ?_) fun v44 => ?_
  · have h16_ : v39 = (Iv (ix / A_g.x)) := hF.1
    have h20_ : v43 = (Iv A_g.y) := hF.2.1
    clear hF; subst h16_ h20_
    exact does_irem (p := ix / A_g.x) (q := A_g.y) (ev rfl) (ev rfl) (by first | omega | assumption) (by first | omega | assumption) (by first | omega | assumption)
  refine R_p (fun u hu _ => does_move (u := (Iv ix)) (ev rfl)) fun v45 => ?_
  refine R_p (fun u hu _ => does_move (u := (Pt g_b g_o)) (ev rfl)) fun v46 => ?_
  refine R_p (fun u hu hF => ?_) fun v47 => ?_
  · have h23_ : v46 = (Pt g_b g_o) := hF.1
    clear hF; subst h23_
    exact does_nilCheck (ev rfl)
  refine R_p (fun u hu hF => ?_) fun v48 => ?_
  · have h24_ : v47 = (Pt g_b g_o) := hF.1
    clear hF; subst h24_
    exact does_fieldAddr (ev rfl) fa37_2
  refine R_p (fun u hu hF => ?_) fun v49 => ?_
  · have h25_ : v48 = (Pt g_b (g_o + 4)) := hF.1
    clear hF; subst h25_
    exact does_load (u := (Iv A_g.x)) (ev rfl) Try.isAgg2 (Cells.at ((hc_g.ext (Ext.gr X22 E25)).ext hu) 4 rfl)
  refine R_p (fun u hu hF => ?_) fun v50 => ?_
  · have h22_ : v45 = (Iv ix) := hF.1
    have h26_ : v49 = (Iv A_g.x) := hF.2.1
    clear hF; subst h22_ h26_
    exact does_iquo (p := ix) (q := A_g.x) (ev rfl) (ev rfl) (by first | omega | assumption) (by first | omega | assumption) (by first | omega | assumption)
  refine R_p (fun u hu _ => does_move (u := (Pt g_b g_o)) (ev rfl)) fun v51 => ?_
  refine R_p (fun u hu hF => ?_) fun v52 => ?_
  · have h28_ : v51 = (Pt g_b g_o) := hF.1
    clear hF; subst h28_
    exact does_nilCheck (ev rfl)
  refine R_p (fun u hu hF => ?_) fun v53 => ?_
  · have h29_ : v52 = (Pt g_b g_o) := hF.1
    clear hF; subst h29_
    exact does_fieldAddr (ev rfl) fa37_3
  refine R_p (fun u hu hF => ?_) fun v54 => ?_
  · have h30_ : v53 = (Pt g_b (g_o + 5)) := hF.1
    clear hF; subst h30_
    exact does_load (u := (Iv A_g.y)) (ev rfl) Try.isAgg2 (Cells.at ((hc_g.ext (Ext.gr X22 E25)).ext hu) 5 rfl)
  refine R_p (fun u hu hF => ?_) fun v55 => ?_
  · have h27_ : v50 = (Iv (ix / A_g.x)) := hF.1
    have h31_ : v54 = (Iv A_g.y) := hF.2.1
    clear hF; subst h27_ h31_
    exact does_iquo (p := ix / A_g.x) (q := A_g.y) (ev rfl) (ev rfl) (by first | omega | assumption) (by first | omega | assumption) (by first | omega | assumption)
  refine R_p (fun u hu hF => ?_) fun v56 => ?_
  · have h10_ : v33 = (Iv (ix % A_g.x)) := hF.1
    have h21_ : v44 = (Iv ((ix / A_g.x) % A_g.y)) := hF.2.1
    have h32_ : v55 = (Iv ((ix / A_g.x) / A_g.y)) := hF.2.2.1
    clear hF; subst h10_ h21_ h32_
    exact does_build (parts' := [(0, (Iv (ix % A_g.x))), (1, (Iv ((ix / A_g.x) % A_g.y))), (2, (Iv ((ix / A_g.x) / A_g.y)))]) (cells := #[(Iv (ix % A_g.x)), (Iv ((ix / A_g.x) % A_g.y)), (Iv ((ix / A_g.x) / A_g.y))]) (evp rfl) (by kernel_rfl)
  refine RW_fin ?_; intro w57 E58 hP59
  obtain ⟨⟨⟨⟨⟨⟨⟨⟨⟨⟨⟨⟨⟨⟨⟨⟨⟨⟨⟨⟨⟨⟨⟨⟨⟨⟨⟨⟨⟨-, -⟩, -⟩, -⟩, -⟩, -⟩, -⟩, -⟩, -⟩, -⟩, -⟩, -⟩, -⟩, -⟩, -⟩, -⟩, -⟩, -⟩, -⟩, -⟩, -⟩, -⟩, -⟩, -⟩, -⟩, -⟩, -⟩, -⟩, -⟩, q60⟩ := hP59
  have X61 := Ext.gr X27 E58
  have q60 : v56 = (.agg #[(Iv (ix % A_g.x)), (Iv ((ix / A_g.x) % A_g.y)), (Iv ((ix / A_g.x) / A_g.y))]) := q60
  obtain rfl := q60
  refine fz ?_
  refine sn (does_store (n := 3) (cs := [(Iv 0), (Iv 0), (Iv 0)]) (u := (.agg #[(Iv (ix % A_g.x)), (Iv ((ix / A_g.x) % A_g.y)), (Iv ((ix / A_g.x) / A_g.y))])) (ev rfl) (ev rfl) Try.sizeOf69 rfl ((hB17.ext E25).ext E58) (Nat.le_of_ble_eq_true rfl) rfl) ?_; rintro _ w64 ⟨rfl, W62, hB63⟩
  change Blk _ _ [(Iv (ix % A_g.x)), (Iv ((ix / A_g.x) % A_g.y)), (Iv ((ix / A_g.x) / A_g.y))] at hB63
  have X65 := Below.wr X61 W62 g21
  refine wn K23 ?_
  refine wp_ret ?_
  refine ret_val (v := (.agg #[(Iv (ix % A_g.x)), (Iv ((ix / A_g.x) % A_g.y)), (Iv ((ix / A_g.x) / A_g.y))])) (res_C rfl (slot rfl) (run_loadAgg (cs := [(Iv (ix % A_g.x)), (Iv ((ix / A_g.x) % A_g.y)), (Iv ((ix / A_g.x) / A_g.y))]) Try.isAgg69 Try.sizeOf69 (Blk.cells hB63) rfl)) X65 ?_
  have x66 : (ix % A_g.x : Int) = (ix % A_g.x) := by first | with_reducible rfl | (simp only [h2, h4, h6, h8]; done) | (simp [h2, h4, h6, h8]; done) | rfl
  have x67 : (ix / A_g.x % A_g.y : Int) = ((ix / A_g.x) % A_g.y) := by first | with_reducible rfl | (simp only [h2, h4, h6, h8]; done) | (simp [h2, h4, h6, h8]; done) | rfl
  have x68 : (ix / A_g.x / A_g.y : Int) = ((ix / A_g.x) / A_g.y) := by first | with_reducible rfl | (simp only [h2, h4, h6, h8]; done) | (simp [h2, h4, h6, h8]; done) | rfl
  exact (by first | with_reducible rfl | rw [x66, x67, x68] | rw [x68, x67, x66] | rfl)

/- spec.l07Corners -/
theorem c_spec_l07Corners (q_ : Int) (w : World) (hq : 0 ≤ q_ ∧ q_ ≤ 5) : Gives Try.prog 48 #[(Iv q_)] w (fun v w' => ∃ y_1 : Value, v = (.tuple #[y_1, (Bo (tuQ q_.toNat))]) ∧ Hang w.heap.size w' (fun u => Sl RI 1 u y_1 (cnQ q_.toNat))) := by
  refine enter [(Iv q_), Ud, Ud, Ud, Ud, Ud, Ud, Ud, Ud, Ud, Ud, Ud, Ud, Ud, Ud, Ud, Ud, Ud, Ud, Ud, Ud] Try.func48 rfl Try.ntmps48 rfl ?_
  refine wr fun _ K1 => ?_
  refine ja (.slice none 0 0) ?_
  refine ja (Bo false) ?_
  refine wn K1 ?_
  refine ws fun _ K2 => ?_
  refine wr fun _ K3 => ?_
  refine jm (Iv q_) ?_
  refine wn K3 ?_
  refine wp_block ?_
  refine wr fun _ K4 => ?_
  refine jj (does_icmp (p := q_) (q := 0) (.inl rfl) (ev rfl) (ev rfl)) ?_
  refine ja (Bo (icmp .eql q_ 0)) ?_
  refine wn K4 ?_
  refine wp_cond_split (t := icmp .eql q_ 0) (ev rfl) (fun c5 => ?_) (fun c5 => ?_)
  · have c5' := c5
    (try simp only [icmp, bs] at c5')
    refine wr fun _ K6 => ?_
    refine sd (does_buildSlice (e := 2) (parts' := [(0, (Iv 0)), (1, (Iv 1)), (2, (Iv 3)), (3, (Iv 7))]) (cells := [(Iv 0), (Iv 1), (Iv 3), (Iv 7)]) (evp rfl) (fun _ => by kernel_rfl)) ?_; rintro _ w11 ⟨b7, rfl, hb8, hB9, E10⟩
    have g12 : w.heap.size ≤ b7 := Nat.le_trans (Below.size (Ext.refl w)) hb8
    have X13 := Ext.gr (Ext.refl w) E10
    refine fz ?_
    refine ja (.slice (some ⟨b7, 0, none⟩) 4 4) ?_
    refine ja (Bo false) ?_
    refine wn K6 ?_
    refine wp_ret ?_
    dsimp only [Exit.then, Exit.inBlock]
    refine ret_val (v := (.tuple #[(.slice (some ⟨b7, 0, none⟩) 4 4), (Bo false)])) (res_TT rfl (slot rfl) (slot rfl)) X13 ?_
    have x14 : (tuQ q_.toNat) = false := by (have hqc : q_ = 0 ∨ q_ = 1 ∨ q_ = 2 ∨ q_ = 3 ∨ q_ = 4 ∨ q_ = 5 := by omega); rcases hqc with rfl | rfl | rfl | rfl | rfl | rfl <;> first | rfl | (exfalso; simp [icmp] at *)
    have x15 : ([0, 1, 3, 7]) = (cnQ q_.toNat) := by (have hqc : q_ = 0 ∨ q_ = 1 ∨ q_ = 2 ∨ q_ = 3 ∨ q_ = 4 ∨ q_ = 5 := by omega); rcases hqc with rfl | rfl | rfl | rfl | rfl | rfl <;> first | rfl | (exfalso; simp [icmp] at *)
    exact ⟨(.slice (some ⟨b7, 0, none⟩) 4 4), (by first | with_reducible rfl | rw [x14] | rfl), (Hang.castL (fun u hu => Sl_lit4 (Blk.hang hB9 g12 u hu) rfl rfl rfl rfl) x15)⟩
  have c5' := c5
  (try simp only [icmp, bs] at c5')
  refine wr fun _ K16 => ?_
  refine jj (does_icmp (p := q_) (q := 1) (.inl rfl) (ev rfl) (ev rfl)) ?_
  refine ja (Bo (icmp .eql q_ 1)) ?_
  refine wn K16 ?_
  refine wp_cond_split (t := icmp .eql q_ 1) (ev rfl) (fun c17 => ?_) (fun c17 => ?_)
  · have c17' := c17
    (try simp only [icmp, bs] at c17')
    refine wr fun _ K18 => ?_
    refine sd (does_buildSlice (e := 2) (parts' := [(0, (Iv 0)), (1, (Iv 1)), (2, (Iv 5)), (3, (Iv 7))]) (cells := [(Iv 0), (Iv 1), (Iv 5), (Iv 7)]) (evp rfl) (fun _ => by kernel_rfl)) ?_; rintro _ w23 ⟨b19, rfl, hb20, hB21, E22⟩
    have g24 : w.heap.size ≤ b19 := Nat.le_trans (Below.size (Ext.refl w)) hb20
    have X25 := Ext.gr (Ext.refl w) E22
    refine fz ?_
    refine ja (.slice (some ⟨b19, 0, none⟩) 4 4) ?_
    refine ja (Bo true) ?_
    refine wn K18 ?_
    refine wp_ret ?_
    dsimp only [Exit.then, Exit.inBlock]
    refine ret_val (v := (.tuple #[(.slice (some ⟨b19, 0, none⟩) 4 4), (Bo true)])) (res_TT rfl (slot rfl) (slot rfl)) X25 ?_
    have x26 : (tuQ q_.toNat) = true := by (have hqc : q_ = 0 ∨ q_ = 1 ∨ q_ = 2 ∨ q_ = 3 ∨ q_ = 4 ∨ q_ = 5 := by omega); rcases hqc with rfl | rfl | rfl | rfl | rfl | rfl <;> first | rfl | (exfalso; simp [icmp] at *)
    have x27 : ([0, 1, 5, 7]) = (cnQ q_.toNat) := by (have hqc : q_ = 0 ∨ q_ = 1 ∨ q_ = 2 ∨ q_ = 3 ∨ q_ = 4 ∨ q_ = 5 := by omega); rcases hqc with rfl | rfl | rfl | rfl | rfl | rfl <;> first | rfl | (exfalso; simp [icmp] at *)
    exact ⟨(.slice (some ⟨b19, 0, none⟩) 4 4), (by first | with_reducible rfl | rw [x26] | rfl), (Hang.castL (fun u hu => Sl_lit4 (Blk.hang hB21 g24 u hu) rfl rfl rfl rfl) x27)⟩
  have c17' := c17
  (try simp only [icmp, bs] at c17')
  refine wr fun _ K28 => ?_
  refine jj (does_icmp (p := q_) (q := 2) (.inl rfl) (ev rfl) (ev rfl)) ?_
  refine ja (Bo (icmp .eql q_ 2)) ?_
  refine wn K28 ?_
  refine wp_cond_split (t := icmp .eql q_ 2) (ev rfl) (fun c29 => ?_) (fun c29 => ?_)
  · have c29' := c29
    (try simp only [icmp, bs] at c29')
    refine wr fun _ K30 => ?_
    refine sd (does_buildSlice (e := 2) (parts' := [(0, (Iv 0)), (1, (Iv 2)), (2, (Iv 3)), (3, (Iv 7))]) (cells := [(Iv 0), (Iv 2), (Iv 3), (Iv 7)]) (evp rfl) (fun _ => by kernel_rfl)) ?_; rintro _ w35 ⟨b31, rfl, hb32, hB33, E34⟩
    have g36 : w.heap.size ≤ b31 := Nat.le_trans (Below.size (Ext.refl w)) hb32
    have X37 := Ext.gr (Ext.refl w) E34
    refine fz ?_
    refine ja (.slice (some ⟨b31, 0, none⟩) 4 4) ?_
    refine ja (Bo true) ?_
    refine wn K30 ?_
    refine wp_ret ?_
    dsimp only [Exit.then, Exit.inBlock]
    refine ret_val (v := (.tuple #[(.slice (some ⟨b31, 0, none⟩) 4 4), (Bo true)])) (res_TT rfl (slot rfl) (slot rfl)) X37 ?_
    have x38 : (tuQ q_.toNat) = true := by (have hqc : q_ = 0 ∨ q_ = 1 ∨ q_ = 2 ∨ q_ = 3 ∨ q_ = 4 ∨ q_ = 5 := by omega); rcases hqc with rfl | rfl | rfl | rfl | rfl | rfl <;> first | rfl | (exfalso; simp [icmp] at *)
    have x39 : ([0, 2, 3, 7]) = (cnQ q_.toNat) := by (have hqc : q_ = 0 ∨ q_ = 1 ∨ q_ = 2 ∨ q_ = 3 ∨ q_ = 4 ∨ q_ = 5 := by omega); rcases hqc with rfl | rfl | rfl | rfl | rfl | rfl <;> first | rfl | (exfalso; simp [icmp] at *)
    exact ⟨(.slice (some ⟨b31, 0, none⟩) 4 4), (by first | with_reducible rfl | rw [x38] | rfl), (Hang.castL (fun u hu => Sl_lit4 (Blk.hang hB33 g36 u hu) rfl rfl rfl rfl) x39)⟩
  have c29' := c29
  (try simp only [icmp, bs] at c29')
  refine wr fun _ K40 => ?_
  refine jj (does_icmp (p := q_) (q := 3) (.inl rfl) (ev rfl) (ev rfl)) ?_
  refine ja (Bo (icmp .eql q_ 3)) ?_
  refine wn K40 ?_
  refine wp_cond_split (t := icmp .eql q_ 3) (ev rfl) (fun c41 => ?_) (fun c41 => ?_)
  · have c41' := c41
    (try simp only [icmp, bs] at c41')
    refine wr fun _ K42 => ?_
    refine sd (does_buildSlice (e := 2) (parts' := [(0, (Iv 0)), (1, (Iv 2)), (2, (Iv 6)), (3, (Iv 7))]) (cells := [(Iv 0), (Iv 2), (Iv 6), (Iv 7)]) (evp rfl) (fun _ => by kernel_rfl)) ?_; rintro _ w47 ⟨b43, rfl, hb44, hB45, E46⟩
    have g48 : w.heap.size ≤ b43 := Nat.le_trans (Below.size (Ext.refl w)) hb44
    have X49 := Ext.gr (Ext.refl w) E46
    refine fz ?_
    refine ja (.slice (some ⟨b43, 0, none⟩) 4 4) ?_
    refine ja (Bo false) ?_
    refine wn K42 ?_
    refine wp_ret ?_
    dsimp only [Exit.then, Exit.inBlock]
    refine ret_val (v := (.tuple #[(.slice (some ⟨b43, 0, none⟩) 4 4), (Bo false)])) (res_TT rfl (slot rfl) (slot rfl)) X49 ?_
    have x50 : (tuQ q_.toNat) = false := by (have hqc : q_ = 0 ∨ q_ = 1 ∨ q_ = 2 ∨ q_ = 3 ∨ q_ = 4 ∨ q_ = 5 := by omega); rcases hqc with rfl | rfl | rfl | rfl | rfl | rfl <;> first | rfl | (exfalso; simp [icmp] at *)
    have x51 : ([0, 2, 6, 7]) = (cnQ q_.toNat) := by (have hqc : q_ = 0 ∨ q_ = 1 ∨ q_ = 2 ∨ q_ = 3 ∨ q_ = 4 ∨ q_ = 5 := by omega); rcases hqc with rfl | rfl | rfl | rfl | rfl | rfl <;> first | rfl | (exfalso; simp [icmp] at *)
    exact ⟨(.slice (some ⟨b43, 0, none⟩) 4 4), (by first | with_reducible rfl | rw [x50] | rfl), (Hang.castL (fun u hu => Sl_lit4 (Blk.hang hB45 g48 u hu) rfl rfl rfl rfl) x51)⟩
  have c41' := c41
  (try simp only [icmp, bs] at c41')
  refine wr fun _ K52 => ?_
  refine jj (does_icmp (p := q_) (q := 4) (.inl rfl) (ev rfl) (ev rfl)) ?_
  refine ja (Bo (icmp .eql q_ 4)) ?_
  refine wn K52 ?_
  refine wp_cond_split (t := icmp .eql q_ 4) (ev rfl) (fun c53 => ?_) (fun c53 => ?_)
  · have c53' := c53
    (try simp only [icmp, bs] at c53')
    refine wr fun _ K54 => ?_
    refine sd (does_buildSlice (e := 2) (parts' := [(0, (Iv 0)), (1, (Iv 4)), (2, (Iv 5)), (3, (Iv 7))]) (cells := [(Iv 0), (Iv 4), (Iv 5), (Iv 7)]) (evp rfl) (fun _ => by kernel_rfl)) ?_; rintro _ w59 ⟨b55, rfl, hb56, hB57, E58⟩
    have g60 : w.heap.size ≤ b55 := Nat.le_trans (Below.size (Ext.refl w)) hb56
    have X61 := Ext.gr (Ext.refl w) E58
    refine fz ?_
    refine ja (.slice (some ⟨b55, 0, none⟩) 4 4) ?_
    refine ja (Bo false) ?_
    refine wn K54 ?_
    refine wp_ret ?_
    dsimp only [Exit.then, Exit.inBlock]
    refine ret_val (v := (.tuple #[(.slice (some ⟨b55, 0, none⟩) 4 4), (Bo false)])) (res_TT rfl (slot rfl) (slot rfl)) X61 ?_
    have x62 : (tuQ q_.toNat) = false := by (have hqc : q_ = 0 ∨ q_ = 1 ∨ q_ = 2 ∨ q_ = 3 ∨ q_ = 4 ∨ q_ = 5 := by omega); rcases hqc with rfl | rfl | rfl | rfl | rfl | rfl <;> first | rfl | (exfalso; simp [icmp] at *)
    have x63 : ([0, 4, 5, 7]) = (cnQ q_.toNat) := by (have hqc : q_ = 0 ∨ q_ = 1 ∨ q_ = 2 ∨ q_ = 3 ∨ q_ = 4 ∨ q_ = 5 := by omega); rcases hqc with rfl | rfl | rfl | rfl | rfl | rfl <;> first | rfl | (exfalso; simp [icmp] at *)
    exact ⟨(.slice (some ⟨b55, 0, none⟩) 4 4), (by first | with_reducible rfl | rw [x62] | rfl), (Hang.castL (fun u hu => Sl_lit4 (Blk.hang hB57 g60 u hu) rfl rfl rfl rfl) x63)⟩
  have c53' := c53
  (try simp only [icmp, bs] at c53')
  refine wp_skip (K2 _ _ ?_)
  refine wr fun _ K64 => ?_
  refine sd (does_buildSlice (e := 2) (parts' := [(0, (Iv 0)), (1, (Iv 4)), (2, (Iv 6)), (3, (Iv 7))]) (cells := [(Iv 0), (Iv 4), (Iv 6), (Iv 7)]) (evp rfl) (fun _ => by kernel_rfl)) ?_; rintro _ w69 ⟨b65, rfl, hb66, hB67, E68⟩
  have g70 : w.heap.size ≤ b65 := Nat.le_trans (Below.size (Ext.refl w)) hb66
  have X71 := Ext.gr (Ext.refl w) E68
  refine fz ?_
  refine ja (.slice (some ⟨b65, 0, none⟩) 4 4) ?_
  refine ja (Bo true) ?_
  refine wn K64 ?_
  refine wp_ret ?_
  refine ret_val (v := (.tuple #[(.slice (some ⟨b65, 0, none⟩) 4 4), (Bo true)])) (res_TT rfl (slot rfl) (slot rfl)) X71 ?_
  have x72 : (tuQ q_.toNat) = true := by (have hqc : q_ = 0 ∨ q_ = 1 ∨ q_ = 2 ∨ q_ = 3 ∨ q_ = 4 ∨ q_ = 5 := by omega); rcases hqc with rfl | rfl | rfl | rfl | rfl | rfl <;> first | rfl | (exfalso; simp [icmp] at *)
  have x73 : ([0, 4, 6, 7]) = (cnQ q_.toNat) := by (have hqc : q_ = 0 ∨ q_ = 1 ∨ q_ = 2 ∨ q_ = 3 ∨ q_ = 4 ∨ q_ = 5 := by omega); rcases hqc with rfl | rfl | rfl | rfl | rfl | rfl <;> first | rfl | (exfalso; simp [icmp] at *)
  exact ⟨(.slice (some ⟨b65, 0, none⟩) 4 4), (by first | with_reducible rfl | rw [x72] | rfl), (Hang.castL (fun u hu => Sl_lit4 (Blk.hang hB67 g70 u hu) rfl rfl rfl rfl) x73)⟩

/- spec.l00Min -/
theorem c_spec_l00Min (m_ : Int) (n_ : Int) (w : World) : Gives Try.prog 52 #[(Iv m_), (Iv n_)] w (fun v w' => v = (Iv (min m_ n_))) := by
  refine enter [(Iv m_), (Iv n_), Ud, Ud, Ud, Ud, Ud, Ud, Ud, Ud] Try.func52 rfl Try.ntmps52 rfl ?_
  refine wr fun _ K1 => ?_
  refine ja (Iv 0) ?_
  refine wn K1 ?_
  refine ws fun _ K2 => ?_
  refine wr fun _ K3 => ?_
  refine jm (Iv m_) ?_
  refine jm (Iv n_) ?_
  refine jj (does_icmp (p := m_) (q := n_) (.inr (.inr (.inl rfl))) (ev rfl) (ev rfl)) ?_
  refine wn K3 ?_
  refine wp_cond_split (t := icmp .lss m_ n_) (ev rfl) (fun c4 => ?_) (fun c4 => ?_)
  · have c4' := c4
    (try simp only [icmp, bs] at c4')
    refine wr fun _ K5 => ?_
    refine jm (Iv m_) ?_
    refine ja (Iv m_) ?_
    refine wn K5 ?_
    refine wp_ret ?_
    dsimp only [Exit.then, Exit.inBlock]
    refine ret_val (v := (Iv m_)) (res_T rfl (slot rfl)) (Ext.refl w) ?_
    have x6 : (min m_ n_ : Int) = m_ := by omega
    exact (by first | with_reducible rfl | rw [x6] | rfl)
  have c4' := c4
  (try simp only [icmp, bs] at c4')
  refine wp_skip (K2 _ _ ?_)
  refine wr fun _ K7 => ?_
  refine jm (Iv n_) ?_
  refine ja (Iv n_) ?_
  refine wn K7 ?_
  refine wp_ret ?_
  refine ret_val (v := (Iv n_)) (res_T rfl (slot rfl)) (Ext.refl w) ?_
  have x8 : (min m_ n_ : Int) = n_ := by omega
  exact (by first | with_reducible rfl | rw [x8] | rfl)

/- spec.l00Max -/
theorem c_spec_l00Max (m_ : Int) (n_ : Int) (w : World) : Gives Try.prog 53 #[(Iv m_), (Iv n_)] w (fun v w' => v = (Iv (max n_ m_))) := by
  refine enter [(Iv m_), (Iv n_), Ud, Ud, Ud, Ud, Ud, Ud, Ud, Ud] Try.func53 rfl Try.ntmps53 rfl ?_
  refine wr fun _ K1 => ?_
  refine ja (Iv 0) ?_
  refine wn K1 ?_
  refine ws fun _ K2 => ?_
  refine wr fun _ K3 => ?_
  refine jm (Iv m_) ?_
  refine jm (Iv n_) ?_
  refine jj (does_icmp (p := m_) (q := n_) (.inr (.inr (.inr (.inr (.inl rfl))))) (ev rfl) (ev rfl)) ?_
  refine wn K3 ?_
  refine wp_cond_split (t := icmp .gtr m_ n_) (ev rfl) (fun c4 => ?_) (fun c4 => ?_)
  · have c4' := c4
    (try simp only [icmp, bs] at c4')
    refine wr fun _ K5 => ?_
    refine jm (Iv m_) ?_
    refine ja (Iv m_) ?_
    refine wn K5 ?_
    refine wp_ret ?_
    dsimp only [Exit.then, Exit.inBlock]
    refine ret_val (v := (Iv m_)) (res_T rfl (slot rfl)) (Ext.refl w) ?_
    have x6 : (max n_ m_ : Int) = m_ := by omega
    exact (by first | with_reducible rfl | rw [x6] | rfl)
  have c4' := c4
  (try simp only [icmp, bs] at c4')
  refine wp_skip (K2 _ _ ?_)
  refine wr fun _ K7 => ?_
  refine jm (Iv n_) ?_
  refine ja (Iv n_) ?_
  refine wn K7 ?_
  refine wp_ret ?_
  refine ret_val (v := (Iv n_)) (res_T rfl (slot rfl)) (Ext.refl w) ?_
  have x8 : (max n_ m_ : Int) = n_ := by omega
  exact (by first | with_reducible rfl | rw [x8] | rfl)

/- impl.quarters -/
theorem c_impl_quarters (w : World) : Gives Try.prog 56 #[] w (fun v w' => ∃ y_1 : Value, v = y_1 ∧ Hang w.heap.size w' (fun u => Sl RQuaT 5 u y_1 quaL)) := by
  refine enter [Ud, Ud, Ud, Ud, Ud, Ud, Ud, Ud, Ud, Ud, Ud, Ud, Ud, Ud] Try.func56 rfl Try.ntmps56 rfl ?_
  refine wr fun _ K1 => ?_
  refine ja (.slice none 0 0) ?_
  refine wn K1 ?_
  refine wr fun _ K2 => ?_
  refine jj (does_build (parts' := [(0, (Iv 0)), (1, (Iv 1)), (2, (Iv 3)), (3, (Iv 7))]) (cells := #[(Iv 0), (Iv 1), (Iv 3), (Iv 7)]) (evp rfl) (by kernel_rfl)) ?_
  refine jj (does_build (parts' := [(0, (.agg #[(Iv 0), (Iv 1), (Iv 3), (Iv 7)])), (1, (Bo false))]) (cells := #[(Iv 0), (Iv 1), (Iv 3), (Iv 7), (Bo false)]) (evp rfl) (by kernel_rfl)) ?_
  refine jj (does_build (parts' := [(0, (Iv 0)), (1, (Iv 1)), (2, (Iv 5)), (3, (Iv 7))]) (cells := #[(Iv 0), (Iv 1), (Iv 5), (Iv 7)]) (evp rfl) (by kernel_rfl)) ?_
  refine jj (does_build (parts' := [(0, (.agg #[(Iv 0), (Iv 1), (Iv 5), (Iv 7)])), (1, (Bo true))]) (cells := #[(Iv 0), (Iv 1), (Iv 5), (Iv 7), (Bo true)]) (evp rfl) (by kernel_rfl)) ?_
  refine jj (does_build (parts' := [(0, (Iv 0)), (1, (Iv 2)), (2, (Iv 3)), (3, (Iv 7))]) (cells := #[(Iv 0), (Iv 2), (Iv 3), (Iv 7)]) (evp rfl) (by kernel_rfl)) ?_
  refine jj (does_build (parts' := [(0, (.agg #[(Iv 0), (Iv 2), (Iv 3), (Iv 7)])), (1, (Bo true))]) (cells := #[(Iv 0), (Iv 2), (Iv 3), (Iv 7), (Bo true)]) (evp rfl) (by kernel_rfl)) ?_
  refine jj (does_build (parts' := [(0, (Iv 0)), (1, (Iv 2)), (2, (Iv 6)), (3, (Iv 7))]) (cells := #[(Iv 0), (Iv 2), (Iv 6), (Iv 7)]) (evp rfl) (by kernel_rfl)) ?_
  refine jj (does_build (parts' := [(0, (.agg #[(Iv 0), (Iv 2), (Iv 6), (Iv 7)])), (1, (Bo false))]) (cells := #[(Iv 0), (Iv 2), (Iv 6), (Iv 7), (Bo false)]) (evp rfl) (by kernel_rfl)) ?_
  refine jj (does_build (parts' := [(0, (Iv 0)), (1, (Iv 4)), (2, (Iv 5)), (3, (Iv 7))]) (cells := #[(Iv 0), (Iv 4), (Iv 5), (Iv 7)]) (evp rfl) (by kernel_rfl)) ?_
  refine jj (does_build (parts' := [(0, (.agg #[(Iv 0), (Iv 4), (Iv 5), (Iv 7)])), (1, (Bo false))]) (cells := #[(Iv 0), (Iv 4), (Iv 5), (Iv 7), (Bo false)]) (evp rfl) (by kernel_rfl)) ?_
  refine jj (does_build (parts' := [(0, (Iv 0)), (1, (Iv 4)), (2, (Iv 6)), (3, (Iv 7))]) (cells := #[(Iv 0), (Iv 4), (Iv 6), (Iv 7)]) (evp rfl) (by kernel_rfl)) ?_
  refine jj (does_build (parts' := [(0, (.agg #[(Iv 0), (Iv 4), (Iv 6), (Iv 7)])), (1, (Bo true))]) (cells := #[(Iv 0), (Iv 4), (Iv 6), (Iv 7), (Bo true)]) (evp rfl) (by kernel_rfl)) ?_
  refine sd (does_buildSlice (e := 96) (parts' := [(0, (.agg #[(Iv 0), (Iv 1), (Iv 3), (Iv 7), (Bo false)])), (1, (.agg #[(Iv 0), (Iv 1), (Iv 5), (Iv 7), (Bo true)])), (2, (.agg #[(Iv 0), (Iv 2), (Iv 3), (Iv 7), (Bo true)])), (3, (.agg #[(Iv 0), (Iv 2), (Iv 6), (Iv 7), (Bo false)])), (4, (.agg #[(Iv 0), (Iv 4), (Iv 5), (Iv 7), (Bo false)])), (5, (.agg #[(Iv 0), (Iv 4), (Iv 6), (Iv 7), (Bo true)]))]) (cells := [(Iv 0), (Iv 1), (Iv 3), (Iv 7), (Bo false), (Iv 0), (Iv 1), (Iv 5), (Iv 7), (Bo true), (Iv 0), (Iv 2), (Iv 3), (Iv 7), (Bo true), (Iv 0), (Iv 2), (Iv 6), (Iv 7), (Bo false), (Iv 0), (Iv 4), (Iv 5), (Iv 7), (Bo false), (Iv 0), (Iv 4), (Iv 6), (Iv 7), (Bo true)]) (evp rfl) (fun _ => by kernel_rfl)) ?_; rintro _ w7 ⟨b3, rfl, hb4, hB5, E6⟩
  have g8 : w.heap.size ≤ b3 := Nat.le_trans (Below.size (Ext.refl w)) hb4
  have X9 := Ext.gr (Ext.refl w) E6
  refine fz ?_
  refine ja (.slice (some ⟨b3, 0, none⟩) 6 6) ?_
  refine wn K2 ?_
  refine wp_ret ?_
  refine ret_val (v := (.slice (some ⟨b3, 0, none⟩) 6 6)) (res_T rfl (slot rfl)) X9 ?_
  have x10 : ([(QuaT.mk 0 1 3 7 false), (QuaT.mk 0 1 5 7 true), (QuaT.mk 0 2 3 7 true), (QuaT.mk 0 2 6 7 false), (QuaT.mk 0 4 5 7 false), (QuaT.mk 0 4 6 7 true)]) = quaL := by rfl
  exact ⟨(.slice (some ⟨b3, 0, none⟩) 6 6), rfl, (Hang.castL (fun u hu => Sl_lit (Blk.hang hB5 g8 u hu) (by decide) (by simp) (fun i x hi => by match i, hi with | 0, hi => cases hi; exact ⟨rfl, rfl⟩ | 1, hi => cases hi; exact ⟨rfl, rfl⟩ | 2, hi => cases hi; exact ⟨rfl, rfl⟩ | 3, hi => cases hi; exact ⟨rfl, rfl⟩ | 4, hi => cases hi; exact ⟨rfl, rfl⟩ | 5, hi => cases hi; exact ⟨rfl, rfl⟩ | _ + 6, hi => simp at hi)) x10)⟩

/- spec.l07Rest -/
theorem c_spec_l07Rest (i_ : Int) (w : World) : Gives Try.prog 65 #[(Iv i_)] w (fun v w' => ∃ y_1 : Value, v = y_1 ∧ Hang w.heap.size w' (fun u => Sl RI 1 u y_1 (restL i_))) := by
  refine enter [(Iv i_), Ud, Ud, Ud, Ud, Ud, Ud, Ud, Ud, Ud, Ud, Ud, Ud, Ud] Try.func65 rfl Try.ntmps65 rfl ?_
  refine wr fun _ K1 => ?_
  refine ja (.slice none 0 0) ?_
  refine wn K1 ?_
  refine ws fun _ K2 => ?_
  refine wr fun _ K3 => ?_
  refine jm (Iv i_) ?_
  refine wn K3 ?_
  refine wp_block ?_
  refine wr fun _ K4 => ?_
  refine jj (does_icmp (p := i_) (q := 0) (.inl rfl) (ev rfl) (ev rfl)) ?_
  refine ja (Bo (icmp .eql i_ 0)) ?_
  refine wn K4 ?_
  refine wp_cond_split (t := icmp .eql i_ 0) (ev rfl) (fun c5 => ?_) (fun c5 => ?_)
  · have c5' := c5
    (try simp only [icmp, bs] at c5')
    refine wr fun _ K6 => ?_
    refine sd (does_buildSlice (e := 3) (parts' := [(0, (Iv 1)), (1, (Iv 2)), (2, (Iv 3))]) (cells := [(Iv 1), (Iv 2), (Iv 3)]) (evp rfl) (fun _ => by kernel_rfl)) ?_; rintro _ w11 ⟨b7, rfl, hb8, hB9, E10⟩
    have g12 : w.heap.size ≤ b7 := Nat.le_trans (Below.size (Ext.refl w)) hb8
    have X13 := Ext.gr (Ext.refl w) E10
    refine fz ?_
    refine ja (.slice (some ⟨b7, 0, none⟩) 3 3) ?_
    refine wn K6 ?_
    refine wp_ret ?_
    dsimp only [Exit.then, Exit.inBlock]
    refine ret_val (v := (.slice (some ⟨b7, 0, none⟩) 3 3)) (res_T rfl (slot rfl)) X13 ?_
    have x14 : ([1, 2, 3]) = (restL i_) := by simp only [icmp, beq_iff_eq, decide_eq_true_eq, Bool.not_eq_true, beq_eq_false_iff_ne, decide_eq_false_iff_not] at *; simp [restL, *]
    exact ⟨(.slice (some ⟨b7, 0, none⟩) 3 3), rfl, (Hang.castL (fun u hu => Sl_lit3 (Blk.hang hB9 g12 u hu) rfl rfl rfl) x14)⟩
  have c5' := c5
  (try simp only [icmp, bs] at c5')
  refine wr fun _ K15 => ?_
  refine jj (does_icmp (p := i_) (q := 1) (.inl rfl) (ev rfl) (ev rfl)) ?_
  refine ja (Bo (icmp .eql i_ 1)) ?_
  refine wn K15 ?_
  refine wp_cond_split (t := icmp .eql i_ 1) (ev rfl) (fun c16 => ?_) (fun c16 => ?_)
  · have c16' := c16
    (try simp only [icmp, bs] at c16')
    refine wr fun _ K17 => ?_
    refine sd (does_buildSlice (e := 3) (parts' := [(0, (Iv 0)), (1, (Iv 3)), (2, (Iv 2))]) (cells := [(Iv 0), (Iv 3), (Iv 2)]) (evp rfl) (fun _ => by kernel_rfl)) ?_; rintro _ w22 ⟨b18, rfl, hb19, hB20, E21⟩
    have g23 : w.heap.size ≤ b18 := Nat.le_trans (Below.size (Ext.refl w)) hb19
    have X24 := Ext.gr (Ext.refl w) E21
    refine fz ?_
    refine ja (.slice (some ⟨b18, 0, none⟩) 3 3) ?_
    refine wn K17 ?_
    refine wp_ret ?_
    dsimp only [Exit.then, Exit.inBlock]
    refine ret_val (v := (.slice (some ⟨b18, 0, none⟩) 3 3)) (res_T rfl (slot rfl)) X24 ?_
    have x25 : ([0, 3, 2]) = (restL i_) := by simp only [icmp, beq_iff_eq, decide_eq_true_eq, Bool.not_eq_true, beq_eq_false_iff_ne, decide_eq_false_iff_not] at *; simp [restL, *]
    exact ⟨(.slice (some ⟨b18, 0, none⟩) 3 3), rfl, (Hang.castL (fun u hu => Sl_lit3 (Blk.hang hB20 g23 u hu) rfl rfl rfl) x25)⟩
  have c16' := c16
  (try simp only [icmp, bs] at c16')
  refine wr fun _ K26 => ?_
  refine jj (does_icmp (p := i_) (q := 2) (.inl rfl) (ev rfl) (ev rfl)) ?_
  refine ja (Bo (icmp .eql i_ 2)) ?_
  refine wn K26 ?_
  refine wp_cond_split (t := icmp .eql i_ 2) (ev rfl) (fun c27 => ?_) (fun c27 => ?_)
  · have c27' := c27
    (try simp only [icmp, bs] at c27')
    refine wr fun _ K28 => ?_
    refine sd (does_buildSlice (e := 3) (parts' := [(0, (Iv 0)), (1, (Iv 1)), (2, (Iv 3))]) (cells := [(Iv 0), (Iv 1), (Iv 3)]) (evp rfl) (fun _ => by kernel_rfl)) ?_; rintro _ w33 ⟨b29, rfl, hb30, hB31, E32⟩
    have g34 : w.heap.size ≤ b29 := Nat.le_trans (Below.size (Ext.refl w)) hb30
    have X35 := Ext.gr (Ext.refl w) E32
    refine fz ?_
    refine ja (.slice (some ⟨b29, 0, none⟩) 3 3) ?_
    refine wn K28 ?_
    refine wp_ret ?_
    dsimp only [Exit.then, Exit.inBlock]
    refine ret_val (v := (.slice (some ⟨b29, 0, none⟩) 3 3)) (res_T rfl (slot rfl)) X35 ?_
    have x36 : ([0, 1, 3]) = (restL i_) := by simp only [icmp, beq_iff_eq, decide_eq_true_eq, Bool.not_eq_true, beq_eq_false_iff_ne, decide_eq_false_iff_not] at *; simp [restL, *]
    exact ⟨(.slice (some ⟨b29, 0, none⟩) 3 3), rfl, (Hang.castL (fun u hu => Sl_lit3 (Blk.hang hB31 g34 u hu) rfl rfl rfl) x36)⟩
  have c27' := c27
  (try simp only [icmp, bs] at c27')
  refine wp_skip (K2 _ _ ?_)
  refine wr fun _ K37 => ?_
  refine sd (does_buildSlice (e := 3) (parts' := [(0, (Iv 0)), (1, (Iv 2)), (2, (Iv 1))]) (cells := [(Iv 0), (Iv 2), (Iv 1)]) (evp rfl) (fun _ => by kernel_rfl)) ?_; rintro _ w42 ⟨b38, rfl, hb39, hB40, E41⟩
  have g43 : w.heap.size ≤ b38 := Nat.le_trans (Below.size (Ext.refl w)) hb39
  have X44 := Ext.gr (Ext.refl w) E41
  refine fz ?_
  refine ja (.slice (some ⟨b38, 0, none⟩) 3 3) ?_
  refine wn K37 ?_
  refine wp_ret ?_
  refine ret_val (v := (.slice (some ⟨b38, 0, none⟩) 3 3)) (res_T rfl (slot rfl)) X44 ?_
  have x45 : ([0, 2, 1]) = (restL i_) := by simp only [icmp, beq_iff_eq, decide_eq_true_eq, Bool.not_eq_true, beq_eq_false_iff_ne, decide_eq_false_iff_not] at *; simp [restL, *]
  exact ⟨(.slice (some ⟨b38, 0, none⟩) 3 3), rfl, (Hang.castL (fun u hu => Sl_lit3 (Blk.hang hB40 g43 u hu) rfl rfl rfl) x45)⟩

end Go.Proofs.Ytjopopmipdakkaa
