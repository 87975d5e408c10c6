/- contracts of functions, each walked once -/
import Derived.Test.YthmejogjmjjmgaaTy
import Derived.Test.YthmejogjmjjmgaaMath
namespace Go.Proofs.Ythmejogjmjjmgaa
open Go Go.RowKit
set_option maxRecDepth 100000
set_option linter.unusedVariables false
set_option linter.unusedSimpArgs false

/- laws.toVector -/
theorem c_laws_toVector (a_x : Nat) (a_y : Nat) (a_z : Nat) (w : World) : Gives Try.prog 21 #[(.agg #[(.float .f32 a_x), (.float .f32 a_y), (.float .f32 a_z)])] w (fun v w' => ∃ r_1 : Nat, ∃ r_2 : Nat, ∃ r_3 : Nat, v = (.agg #[(.float .f32 r_1), (.float .f32 r_2), (.float .f32 r_3)]) ∧ cf .f32 r_1 = (cf .f32 a_x) ∧ cf .f32 r_2 = (cf .f32 a_y) ∧ cf .f32 r_3 = (cf .f32 a_z)) := by
  refine enter [(.agg #[(.float .f32 a_x), (.float .f32 a_y), (.float .f32 a_z)]), undef, undef, undef, undef, undef, undef, undef, undef, undef, undef, undef, undef, undef] Try.func21 rfl Try.ntmps21 rfl ?_
  refine wp_seq_k fun K1 hK1 => ?_
  refine wp_region_lit ?_
  refine seqd rfl rfl (does_box (u := (.agg #[(.float .f32 a_x), (.float .f32 a_y), (.float .f32 a_z)])) (ev rfl)) ?_; rintro _ w6 ⟨b2, rfl, hb3, hB4, E5⟩
  have g7 : w.heap.size ≤ b2 := Nat.le_trans (Below.size (Ext.refl w)) hb3
  change Blk _ _ [(.float .f32 a_x), (.float .f32 a_y), (.float .f32 a_z)] at hB4
  have X8 := Ext.gr (Ext.refl w) E5
  show wpList _ _ _ _ (fr [(.agg #[(.float .f32 a_x), (.float .f32 a_y), (.float .f32 a_z)]), (.pointer (some ⟨b2, 0, none⟩)), undef, undef, undef, undef, undef, undef, undef, undef, undef, undef, undef, undef]) _
  refine seqd rfl rfl (does_alloc z31) ?_; rintro _ w13 ⟨b9, rfl, hb10, hB11, E12⟩
  have n14 : b2 < b9 := Nat.lt_of_lt_of_le (Blk.lt hB4) hb10
  have g15 : w.heap.size ≤ b9 := Nat.le_trans (Below.size X8) hb10
  change Blk _ _ [(.float .f32 0), (.float .f32 0), (.float .f32 0)] at hB11
  have X16 := Ext.gr X8 E12
  show wpList _ _ _ _ (fr [(.agg #[(.float .f32 a_x), (.float .f32 a_y), (.float .f32 a_z)]), (.pointer (some ⟨b2, 0, none⟩)), (.pointer (some ⟨b9, 0, none⟩)), undef, undef, undef, undef, undef, undef, undef, undef, undef, undef, undef]) _
  refine wpList_nil (hK1 _ _ ?_)
  refine wp_seq_k fun K17 hK17 => ?_
  refine wp_region_lit ?_
  refine seqd rfl rfl (does_alloc z31) ?_; rintro _ w22 ⟨b18, rfl, hb19, hB20, E21⟩
  have n23 : b2 < b18 := Nat.lt_of_lt_of_le (Blk.lt (hB4.ext E12)) hb19
  have n24 : b9 < b18 := Nat.lt_of_lt_of_le (Blk.lt hB11) hb19
  have g25 : w.heap.size ≤ b18 := Nat.le_trans (Below.size X16) hb19
  change Blk _ _ [(.float .f32 0), (.float .f32 0), (.float .f32 0)] at hB20
  have X26 := Ext.gr X16 E21
  show wpList _ _ _ _ (fr [(.agg #[(.float .f32 a_x), (.float .f32 a_y), (.float .f32 a_z)]), (.pointer (some ⟨b2, 0, none⟩)), (.pointer (some ⟨b9, 0, none⟩)), (.pointer (some ⟨b18, 0, none⟩)), undef, undef, undef, undef, undef, undef, undef, undef, undef, undef]) _
  refine wpList_nil (hK17 _ _ ?_)
  refine wp_seq_k fun K27 hK27 => ?_
  refine wp_region_lit ?_
  refine q_is (l' := [(.agg #[(.float .f32 a_x), (.float .f32 a_y), (.float .f32 a_z)]), (.pointer (some ⟨b2, 0, none⟩)), (.pointer (some ⟨b9, 0, none⟩)), (.pointer (some ⟨b18, 0, none⟩)), (.pointer (some ⟨b2, 0, none⟩)), undef, undef, undef, undef, undef, undef, undef, undef, undef]) rfl rfl (does_fieldAddr (ev rfl) fa27_0) rfl ?_
  refine q_is (l' := [(.agg #[(.float .f32 a_x), (.float .f32 a_y), (.float .f32 a_z)]), (.pointer (some ⟨b2, 0, none⟩)), (.pointer (some ⟨b9, 0, none⟩)), (.pointer (some ⟨b18, 0, none⟩)), (.pointer (some ⟨b2, 0, none⟩)), (.float .f32 a_x), undef, undef, undef, undef, undef, undef, undef, undef]) rfl rfl (does_load (u := (.float .f32 a_x)) (ev rfl) Try.isAgg25 (Cells.at (Blk.cells ((hB4.ext E12).ext E21)) 0 rfl)) rfl ?_
  refine q_is (l' := [(.agg #[(.float .f32 a_x), (.float .f32 a_y), (.float .f32 a_z)]), (.pointer (some ⟨b2, 0, none⟩)), (.pointer (some ⟨b9, 0, none⟩)), (.pointer (some ⟨b18, 0, none⟩)), (.pointer (some ⟨b2, 0, none⟩)), (.float .f32 a_x), (.pointer (some ⟨b18, 0, none⟩)), undef, undef, undef, undef, undef, undef, undef]) rfl rfl (does_fieldAddr (ev rfl) fa31_0) rfl ?_
  refine seqn rfl rfl (does_store (n := 1) (cs := [(.float .f32 0), (.float .f32 0), (.float .f32 0)]) (u := (.float .f32 a_x)) (ev rfl) (ev rfl) Try.sizeOf25 rfl hB20 (Nat.le_of_ble_eq_true rfl) rfl) ?_; rintro _ w30 ⟨rfl, W28, hB29⟩
  change Blk _ _ [(.float .f32 a_x), (.float .f32 0), (.float .f32 0)] at hB29
  have X31 := Below.wr X26 W28 g25
  refine wpList_nil (hK27 _ _ ?_)
  refine wp_seq_k fun K32 hK32 => ?_
  refine wp_region_lit ?_
  refine q_is (l' := [(.agg #[(.float .f32 a_x), (.float .f32 a_y), (.float .f32 a_z)]), (.pointer (some ⟨b2, 0, none⟩)), (.pointer (some ⟨b9, 0, none⟩)), (.pointer (some ⟨b18, 0, none⟩)), (.pointer (some ⟨b2, 0, none⟩)), (.float .f32 a_x), (.pointer (some ⟨b18, 0, none⟩)), (.pointer (some ⟨b2, 1, none⟩)), undef, undef, undef, undef, undef, undef]) rfl rfl (does_fieldAddr (ev rfl) fa27_1) rfl ?_
  refine q_is (l' := [(.agg #[(.float .f32 a_x), (.float .f32 a_y), (.float .f32 a_z)]), (.pointer (some ⟨b2, 0, none⟩)), (.pointer (some ⟨b9, 0, none⟩)), (.pointer (some ⟨b18, 0, none⟩)), (.pointer (some ⟨b2, 0, none⟩)), (.float .f32 a_x), (.pointer (some ⟨b18, 0, none⟩)), (.pointer (some ⟨b2, 1, none⟩)), (.float .f32 a_y), undef, undef, undef, undef, undef]) rfl rfl (does_load (u := (.float .f32 a_y)) (ev rfl) Try.isAgg25 (Cells.at (Blk.cells (((hB4.ext E12).ext E21).wr W28 (Nat.ne_of_lt n23))) 1 rfl)) rfl ?_
  refine q_is (l' := [(.agg #[(.float .f32 a_x), (.float .f32 a_y), (.float .f32 a_z)]), (.pointer (some ⟨b2, 0, none⟩)), (.pointer (some ⟨b9, 0, none⟩)), (.pointer (some ⟨b18, 0, none⟩)), (.pointer (some ⟨b2, 0, none⟩)), (.float .f32 a_x), (.pointer (some ⟨b18, 0, none⟩)), (.pointer (some ⟨b2, 1, none⟩)), (.float .f32 a_y), (.pointer (some ⟨b18, 1, none⟩)), undef, undef, undef, undef]) rfl rfl (does_fieldAddr (ev rfl) fa31_1) rfl ?_
  refine seqn rfl rfl (does_store (n := 1) (cs := [(.float .f32 a_x), (.float .f32 0), (.float .f32 0)]) (u := (.float .f32 a_y)) (ev rfl) (ev rfl) Try.sizeOf25 rfl hB29 (Nat.le_of_ble_eq_true rfl) rfl) ?_; rintro _ w35 ⟨rfl, W33, hB34⟩
  change Blk _ _ [(.float .f32 a_x), (.float .f32 a_y), (.float .f32 0)] at hB34
  have X36 := Below.wr X31 W33 g25
  refine wpList_nil (hK32 _ _ ?_)
  refine wp_seq_k fun K37 hK37 => ?_
  refine wp_region_lit ?_
  refine q_is (l' := [(.agg #[(.float .f32 a_x), (.float .f32 a_y), (.float .f32 a_z)]), (.pointer (some ⟨b2, 0, none⟩)), (.pointer (some ⟨b9, 0, none⟩)), (.pointer (some ⟨b18, 0, none⟩)), (.pointer (some ⟨b2, 0, none⟩)), (.float .f32 a_x), (.pointer (some ⟨b18, 0, none⟩)), (.pointer (some ⟨b2, 1, none⟩)), (.float .f32 a_y), (.pointer (some ⟨b18, 1, none⟩)), (.pointer (some ⟨b2, 2, none⟩)), undef, undef, undef]) rfl rfl (does_fieldAddr (ev rfl) fa27_2) rfl ?_
  refine q_is (l' := [(.agg #[(.float .f32 a_x), (.float .f32 a_y), (.float .f32 a_z)]), (.pointer (some ⟨b2, 0, none⟩)), (.pointer (some ⟨b9, 0, none⟩)), (.pointer (some ⟨b18, 0, none⟩)), (.pointer (some ⟨b2, 0, none⟩)), (.float .f32 a_x), (.pointer (some ⟨b18, 0, none⟩)), (.pointer (some ⟨b2, 1, none⟩)), (.float .f32 a_y), (.pointer (some ⟨b18, 1, none⟩)), (.pointer (some ⟨b2, 2, none⟩)), (.float .f32 a_z), undef, undef]) rfl rfl (does_load (u := (.float .f32 a_z)) (ev rfl) Try.isAgg25 (Cells.at (Blk.cells ((((hB4.ext E12).ext E21).wr W28 (Nat.ne_of_lt n23)).wr W33 (Nat.ne_of_lt n23))) 2 rfl)) rfl ?_
  refine q_is (l' := [(.agg #[(.float .f32 a_x), (.float .f32 a_y), (.float .f32 a_z)]), (.pointer (some ⟨b2, 0, none⟩)), (.pointer (some ⟨b9, 0, none⟩)), (.pointer (some ⟨b18, 0, none⟩)), (.pointer (some ⟨b2, 0, none⟩)), (.float .f32 a_x), (.pointer (some ⟨b18, 0, none⟩)), (.pointer (some ⟨b2, 1, none⟩)), (.float .f32 a_y), (.pointer (some ⟨b18, 1, none⟩)), (.pointer (some ⟨b2, 2, none⟩)), (.float .f32 a_z), (.pointer (some ⟨b18, 2, none⟩)), undef]) rfl rfl (does_fieldAddr (ev rfl) fa31_2) rfl ?_
  refine seqn rfl rfl (does_store (n := 1) (cs := [(.float .f32 a_x), (.float .f32 a_y), (.float .f32 0)]) (u := (.float .f32 a_z)) (ev rfl) (ev rfl) Try.sizeOf25 rfl hB34 (Nat.le_of_ble_eq_true rfl) rfl) ?_; rintro _ w40 ⟨rfl, W38, hB39⟩
  change Blk _ _ [(.float .f32 a_x), (.float .f32 a_y), (.float .f32 a_z)] at hB39
  have X41 := Below.wr X36 W38 g25
  refine wpList_nil (hK37 _ _ ?_)
  refine wp_seq_k fun K42 hK42 => ?_
  refine wp_region_lit ?_
  refine q_is (l' := [(.agg #[(.float .f32 a_x), (.float .f32 a_y), (.float .f32 a_z)]), (.pointer (some ⟨b2, 0, none⟩)), (.pointer (some ⟨b9, 0, none⟩)), (.pointer (some ⟨b18, 0, none⟩)), (.pointer (some ⟨b2, 0, none⟩)), (.float .f32 a_x), (.pointer (some ⟨b18, 0, none⟩)), (.pointer (some ⟨b2, 1, none⟩)), (.float .f32 a_y), (.pointer (some ⟨b18, 1, none⟩)), (.pointer (some ⟨b2, 2, none⟩)), (.float .f32 a_z), (.pointer (some ⟨b18, 2, none⟩)), (.agg #[(.float .f32 a_x), (.float .f32 a_y), (.float .f32 a_z)])]) rfl rfl (does_loadAgg (cs := [(.float .f32 a_x), (.float .f32 a_y), (.float .f32 a_z)]) (ev rfl) Try.isAgg31 Try.sizeOf31 (Blk.cells hB39) rfl) rfl ?_
  refine seqn rfl rfl (does_store (n := 3) (cs := [(.float .f32 0), (.float .f32 0), (.float .f32 0)]) (u := (.agg #[(.float .f32 a_x), (.float .f32 a_y), (.float .f32 a_z)])) (ev rfl) (ev rfl) Try.sizeOf31 rfl ((((hB11.ext E21).wr W28 (Nat.ne_of_lt n24)).wr W33 (Nat.ne_of_lt n24)).wr W38 (Nat.ne_of_lt n24)) (Nat.le_of_ble_eq_true rfl) rfl) ?_; rintro _ w45 ⟨rfl, W43, hB44⟩
  change Blk _ _ [(.float .f32 a_x), (.float .f32 a_y), (.float .f32 a_z)] at hB44
  have X46 := Below.wr X41 W43 g15
  refine wpList_nil (hK42 _ _ ?_)
  refine wp_ret ?_
  refine ret_val (v := (.agg #[(.float .f32 a_x), (.float .f32 a_y), (.float .f32 a_z)])) (res_C rfl (slot rfl) (run_loadAgg (cs := [(.float .f32 a_x), (.float .f32 a_y), (.float .f32 a_z)]) Try.isAgg31 Try.sizeOf31 (Blk.cells hB44) rfl)) X46 ?_
  have x47 : cf .f32 a_x = (cf .f32 a_x) := by first | rfl | (simp only []; done) | (simp []; done)
  have x48 : cf .f32 a_y = (cf .f32 a_y) := by first | rfl | (simp only []; done) | (simp []; done)
  have x49 : cf .f32 a_z = (cf .f32 a_z) := by first | rfl | (simp only []; done) | (simp []; done)
  exact ⟨a_x, a_y, a_z, rfl, x47, x48, x49⟩

/- spec.l01Less -/
theorem c_spec_l01Less (a_x : Nat) (a_y : Nat) (a_z : Nat) (b_x : Nat) (b_y : Nat) (b_z : Nat) (w : World) : Gives Try.prog 78 #[(.agg #[(.float .f32 a_x), (.float .f32 a_y), (.float .f32 a_z)]), (.agg #[(.float .f32 b_x), (.float .f32 b_y), (.float .f32 b_z)])] w (fun v w' => ∃ r_1 : Nat, ∃ r_2 : Nat, ∃ r_3 : Nat, v = (.agg #[(.float .f32 r_1), (.float .f32 r_2), (.float .f32 r_3)]) ∧ cf .f32 r_1 = fop .sub .f32 (cf .f32 a_x) (cf .f32 b_x) ∧ cf .f32 r_2 = fop .sub .f32 (cf .f32 a_y) (cf .f32 b_y) ∧ cf .f32 r_3 = fop .sub .f32 (cf .f32 a_z) (cf .f32 b_z)) := by
  refine enter [(.agg #[(.float .f32 a_x), (.float .f32 a_y), (.float .f32 a_z)]), (.agg #[(.float .f32 b_x), (.float .f32 b_y), (.float .f32 b_z)]), undef, undef, undef, undef, undef, undef, undef, undef, undef, undef, undef, undef, undef, undef, undef, undef, undef, undef, undef] Try.func78 rfl Try.ntmps78 rfl ?_
  refine wp_seq_k fun K1 hK1 => ?_
  refine wp_region_lit ?_
  refine seqd rfl rfl (does_box (u := (.agg #[(.float .f32 a_x), (.float .f32 a_y), (.float .f32 a_z)])) (ev rfl)) ?_; rintro _ w6 ⟨b2, rfl, hb3, hB4, E5⟩
  have g7 : w.heap.size ≤ b2 := Nat.le_trans (Below.size (Ext.refl w)) hb3
  change Blk _ _ [(.float .f32 a_x), (.float .f32 a_y), (.float .f32 a_z)] at hB4
  have X8 := Ext.gr (Ext.refl w) E5
  show wpList _ _ _ _ (fr [(.agg #[(.float .f32 a_x), (.float .f32 a_y), (.float .f32 a_z)]), (.agg #[(.float .f32 b_x), (.float .f32 b_y), (.float .f32 b_z)]), (.pointer (some ⟨b2, 0, none⟩)), undef, undef, undef, undef, undef, undef, undef, undef, undef, undef, undef, undef, undef, undef, undef, undef, undef, undef]) _
  refine seqd rfl rfl (does_box (u := (.agg #[(.float .f32 b_x), (.float .f32 b_y), (.float .f32 b_z)])) (ev rfl)) ?_; rintro _ w13 ⟨b9, rfl, hb10, hB11, E12⟩
  have n14 : b2 < b9 := Nat.lt_of_lt_of_le (Blk.lt hB4) hb10
  have g15 : w.heap.size ≤ b9 := Nat.le_trans (Below.size X8) hb10
  change Blk _ _ [(.float .f32 b_x), (.float .f32 b_y), (.float .f32 b_z)] at hB11
  have X16 := Ext.gr X8 E12
  show wpList _ _ _ _ (fr [(.agg #[(.float .f32 a_x), (.float .f32 a_y), (.float .f32 a_z)]), (.agg #[(.float .f32 b_x), (.float .f32 b_y), (.float .f32 b_z)]), (.pointer (some ⟨b2, 0, none⟩)), (.pointer (some ⟨b9, 0, none⟩)), undef, undef, undef, undef, undef, undef, undef, undef, undef, undef, undef, undef, undef, undef, undef, undef, undef]) _
  refine seqd rfl rfl (does_alloc z31) ?_; rintro _ w21 ⟨b17, rfl, hb18, hB19, E20⟩
  have n22 : b2 < b17 := Nat.lt_of_lt_of_le (Blk.lt (hB4.ext E12)) hb18
  have n23 : b9 < b17 := Nat.lt_of_lt_of_le (Blk.lt hB11) hb18
  have g24 : w.heap.size ≤ b17 := Nat.le_trans (Below.size X16) hb18
  change Blk _ _ [(.float .f32 0), (.float .f32 0), (.float .f32 0)] at hB19
  have X25 := Ext.gr X16 E20
  show wpList _ _ _ _ (fr [(.agg #[(.float .f32 a_x), (.float .f32 a_y), (.float .f32 a_z)]), (.agg #[(.float .f32 b_x), (.float .f32 b_y), (.float .f32 b_z)]), (.pointer (some ⟨b2, 0, none⟩)), (.pointer (some ⟨b9, 0, none⟩)), (.pointer (some ⟨b17, 0, none⟩)), undef, undef, undef, undef, undef, undef, undef, undef, undef, undef, undef, undef, undef, undef, undef, undef]) _
  refine wpList_nil (hK1 _ _ ?_)
  refine wp_seq_k fun K26 hK26 => ?_
  refine wp_region_lit ?_
  refine q_is (l' := [(.agg #[(.float .f32 a_x), (.float .f32 a_y), (.float .f32 a_z)]), (.agg #[(.float .f32 b_x), (.float .f32 b_y), (.float .f32 b_z)]), (.pointer (some ⟨b2, 0, none⟩)), (.pointer (some ⟨b9, 0, none⟩)), (.pointer (some ⟨b17, 0, none⟩)), (.pointer (some ⟨b2, 0, none⟩)), undef, undef, undef, undef, undef, undef, undef, undef, undef, undef, undef, undef, undef, undef, undef]) rfl rfl (does_fieldAddr (ev rfl) fa31_0) rfl ?_
  refine q_is (l' := [(.agg #[(.float .f32 a_x), (.float .f32 a_y), (.float .f32 a_z)]), (.agg #[(.float .f32 b_x), (.float .f32 b_y), (.float .f32 b_z)]), (.pointer (some ⟨b2, 0, none⟩)), (.pointer (some ⟨b9, 0, none⟩)), (.pointer (some ⟨b17, 0, none⟩)), (.pointer (some ⟨b2, 0, none⟩)), (.float .f32 a_x), undef, undef, undef, undef, undef, undef, undef, undef, undef, undef, undef, undef, undef, undef]) rfl rfl (does_load (u := (.float .f32 a_x)) (ev rfl) Try.isAgg25 (Cells.at (Blk.cells ((hB4.ext E12).ext E20)) 0 rfl)) rfl ?_
  refine q_is (l' := [(.agg #[(.float .f32 a_x), (.float .f32 a_y), (.float .f32 a_z)]), (.agg #[(.float .f32 b_x), (.float .f32 b_y), (.float .f32 b_z)]), (.pointer (some ⟨b2, 0, none⟩)), (.pointer (some ⟨b9, 0, none⟩)), (.pointer (some ⟨b17, 0, none⟩)), (.pointer (some ⟨b2, 0, none⟩)), (.float .f32 a_x), (.pointer (some ⟨b9, 0, none⟩)), undef, undef, undef, undef, undef, undef, undef, undef, undef, undef, undef, undef, undef]) rfl rfl (does_fieldAddr (ev rfl) fa31_0) rfl ?_
  refine q_is (l' := [(.agg #[(.float .f32 a_x), (.float .f32 a_y), (.float .f32 a_z)]), (.agg #[(.float .f32 b_x), (.float .f32 b_y), (.float .f32 b_z)]), (.pointer (some ⟨b2, 0, none⟩)), (.pointer (some ⟨b9, 0, none⟩)), (.pointer (some ⟨b17, 0, none⟩)), (.pointer (some ⟨b2, 0, none⟩)), (.float .f32 a_x), (.pointer (some ⟨b9, 0, none⟩)), (.float .f32 b_x), undef, undef, undef, undef, undef, undef, undef, undef, undef, undef, undef, undef]) rfl rfl (does_load (u := (.float .f32 b_x)) (ev rfl) Try.isAgg25 (Cells.at (Blk.cells (hB11.ext E20)) 0 rfl)) rfl ?_
  refine seqd rfl rfl (does_float (.inr (.inl rfl)) (ev rfl) (ev rfl)) ?_; rintro _ w30 ⟨r27, rfl, h28, E29⟩
  have X31 := Ext.gr X25 E29
  show wpList _ _ _ _ (fr [(.agg #[(.float .f32 a_x), (.float .f32 a_y), (.float .f32 a_z)]), (.agg #[(.float .f32 b_x), (.float .f32 b_y), (.float .f32 b_z)]), (.pointer (some ⟨b2, 0, none⟩)), (.pointer (some ⟨b9, 0, none⟩)), (.pointer (some ⟨b17, 0, none⟩)), (.pointer (some ⟨b2, 0, none⟩)), (.float .f32 a_x), (.pointer (some ⟨b9, 0, none⟩)), (.float .f32 b_x), (.float .f32 r27), undef, undef, undef, undef, undef, undef, undef, undef, undef, undef, undef]) _
  refine q_is (l' := [(.agg #[(.float .f32 a_x), (.float .f32 a_y), (.float .f32 a_z)]), (.agg #[(.float .f32 b_x), (.float .f32 b_y), (.float .f32 b_z)]), (.pointer (some ⟨b2, 0, none⟩)), (.pointer (some ⟨b9, 0, none⟩)), (.pointer (some ⟨b17, 0, none⟩)), (.pointer (some ⟨b2, 0, none⟩)), (.float .f32 a_x), (.pointer (some ⟨b9, 0, none⟩)), (.float .f32 b_x), (.float .f32 r27), (.pointer (some ⟨b2, 1, none⟩)), undef, undef, undef, undef, undef, undef, undef, undef, undef, undef]) rfl rfl (does_fieldAddr (ev rfl) fa31_1) rfl ?_
  refine q_is (l' := [(.agg #[(.float .f32 a_x), (.float .f32 a_y), (.float .f32 a_z)]), (.agg #[(.float .f32 b_x), (.float .f32 b_y), (.float .f32 b_z)]), (.pointer (some ⟨b2, 0, none⟩)), (.pointer (some ⟨b9, 0, none⟩)), (.pointer (some ⟨b17, 0, none⟩)), (.pointer (some ⟨b2, 0, none⟩)), (.float .f32 a_x), (.pointer (some ⟨b9, 0, none⟩)), (.float .f32 b_x), (.float .f32 r27), (.pointer (some ⟨b2, 1, none⟩)), (.float .f32 a_y), undef, undef, undef, undef, undef, undef, undef, undef, undef]) rfl rfl (does_load (u := (.float .f32 a_y)) (ev rfl) Try.isAgg25 (Cells.at (Blk.cells (((hB4.ext E12).ext E20).ext E29)) 1 rfl)) rfl ?_
  refine q_is (l' := [(.agg #[(.float .f32 a_x), (.float .f32 a_y), (.float .f32 a_z)]), (.agg #[(.float .f32 b_x), (.float .f32 b_y), (.float .f32 b_z)]), (.pointer (some ⟨b2, 0, none⟩)), (.pointer (some ⟨b9, 0, none⟩)), (.pointer (some ⟨b17, 0, none⟩)), (.pointer (some ⟨b2, 0, none⟩)), (.float .f32 a_x), (.pointer (some ⟨b9, 0, none⟩)), (.float .f32 b_x), (.float .f32 r27), (.pointer (some ⟨b2, 1, none⟩)), (.float .f32 a_y), (.pointer (some ⟨b9, 1, none⟩)), undef, undef, undef, undef, undef, undef, undef, undef]) rfl rfl (does_fieldAddr (ev rfl) fa31_1) rfl ?_
  refine q_is (l' := [(.agg #[(.float .f32 a_x), (.float .f32 a_y), (.float .f32 a_z)]), (.agg #[(.float .f32 b_x), (.float .f32 b_y), (.float .f32 b_z)]), (.pointer (some ⟨b2, 0, none⟩)), (.pointer (some ⟨b9, 0, none⟩)), (.pointer (some ⟨b17, 0, none⟩)), (.pointer (some ⟨b2, 0, none⟩)), (.float .f32 a_x), (.pointer (some ⟨b9, 0, none⟩)), (.float .f32 b_x), (.float .f32 r27), (.pointer (some ⟨b2, 1, none⟩)), (.float .f32 a_y), (.pointer (some ⟨b9, 1, none⟩)), (.float .f32 b_y), undef, undef, undef, undef, undef, undef, undef]) rfl rfl (does_load (u := (.float .f32 b_y)) (ev rfl) Try.isAgg25 (Cells.at (Blk.cells ((hB11.ext E20).ext E29)) 1 rfl)) rfl ?_
  refine seqd rfl rfl (does_float (.inr (.inl rfl)) (ev rfl) (ev rfl)) ?_; rintro _ w35 ⟨r32, rfl, h33, E34⟩
  have X36 := Ext.gr X31 E34
  show wpList _ _ _ _ (fr [(.agg #[(.float .f32 a_x), (.float .f32 a_y), (.float .f32 a_z)]), (.agg #[(.float .f32 b_x), (.float .f32 b_y), (.float .f32 b_z)]), (.pointer (some ⟨b2, 0, none⟩)), (.pointer (some ⟨b9, 0, none⟩)), (.pointer (some ⟨b17, 0, none⟩)), (.pointer (some ⟨b2, 0, none⟩)), (.float .f32 a_x), (.pointer (some ⟨b9, 0, none⟩)), (.float .f32 b_x), (.float .f32 r27), (.pointer (some ⟨b2, 1, none⟩)), (.float .f32 a_y), (.pointer (some ⟨b9, 1, none⟩)), (.float .f32 b_y), (.float .f32 r32), undef, undef, undef, undef, undef, undef]) _
  refine q_is (l' := [(.agg #[(.float .f32 a_x), (.float .f32 a_y), (.float .f32 a_z)]), (.agg #[(.float .f32 b_x), (.float .f32 b_y), (.float .f32 b_z)]), (.pointer (some ⟨b2, 0, none⟩)), (.pointer (some ⟨b9, 0, none⟩)), (.pointer (some ⟨b17, 0, none⟩)), (.pointer (some ⟨b2, 0, none⟩)), (.float .f32 a_x), (.pointer (some ⟨b9, 0, none⟩)), (.float .f32 b_x), (.float .f32 r27), (.pointer (some ⟨b2, 1, none⟩)), (.float .f32 a_y), (.pointer (some ⟨b9, 1, none⟩)), (.float .f32 b_y), (.float .f32 r32), (.pointer (some ⟨b2, 2, none⟩)), undef, undef, undef, undef, undef]) rfl rfl (does_fieldAddr (ev rfl) fa31_2) rfl ?_
  refine q_is (l' := [(.agg #[(.float .f32 a_x), (.float .f32 a_y), (.float .f32 a_z)]), (.agg #[(.float .f32 b_x), (.float .f32 b_y), (.float .f32 b_z)]), (.pointer (some ⟨b2, 0, none⟩)), (.pointer (some ⟨b9, 0, none⟩)), (.pointer (some ⟨b17, 0, none⟩)), (.pointer (some ⟨b2, 0, none⟩)), (.float .f32 a_x), (.pointer (some ⟨b9, 0, none⟩)), (.float .f32 b_x), (.float .f32 r27), (.pointer (some ⟨b2, 1, none⟩)), (.float .f32 a_y), (.pointer (some ⟨b9, 1, none⟩)), (.float .f32 b_y), (.float .f32 r32), (.pointer (some ⟨b2, 2, none⟩)), (.float .f32 a_z), undef, undef, undef, undef]) rfl rfl (does_load (u := (.float .f32 a_z)) (ev rfl) Try.isAgg25 (Cells.at (Blk.cells ((((hB4.ext E12).ext E20).ext E29).ext E34)) 2 rfl)) rfl ?_
  refine q_is (l' := [(.agg #[(.float .f32 a_x), (.float .f32 a_y), (.float .f32 a_z)]), (.agg #[(.float .f32 b_x), (.float .f32 b_y), (.float .f32 b_z)]), (.pointer (some ⟨b2, 0, none⟩)), (.pointer (some ⟨b9, 0, none⟩)), (.pointer (some ⟨b17, 0, none⟩)), (.pointer (some ⟨b2, 0, none⟩)), (.float .f32 a_x), (.pointer (some ⟨b9, 0, none⟩)), (.float .f32 b_x), (.float .f32 r27), (.pointer (some ⟨b2, 1, none⟩)), (.float .f32 a_y), (.pointer (some ⟨b9, 1, none⟩)), (.float .f32 b_y), (.float .f32 r32), (.pointer (some ⟨b2, 2, none⟩)), (.float .f32 a_z), (.pointer (some ⟨b9, 2, none⟩)), undef, undef, undef]) rfl rfl (does_fieldAddr (ev rfl) fa31_2) rfl ?_
  refine q_is (l' := [(.agg #[(.float .f32 a_x), (.float .f32 a_y), (.float .f32 a_z)]), (.agg #[(.float .f32 b_x), (.float .f32 b_y), (.float .f32 b_z)]), (.pointer (some ⟨b2, 0, none⟩)), (.pointer (some ⟨b9, 0, none⟩)), (.pointer (some ⟨b17, 0, none⟩)), (.pointer (some ⟨b2, 0, none⟩)), (.float .f32 a_x), (.pointer (some ⟨b9, 0, none⟩)), (.float .f32 b_x), (.float .f32 r27), (.pointer (some ⟨b2, 1, none⟩)), (.float .f32 a_y), (.pointer (some ⟨b9, 1, none⟩)), (.float .f32 b_y), (.float .f32 r32), (.pointer (some ⟨b2, 2, none⟩)), (.float .f32 a_z), (.pointer (some ⟨b9, 2, none⟩)), (.float .f32 b_z), undef, undef]) rfl rfl (does_load (u := (.float .f32 b_z)) (ev rfl) Try.isAgg25 (Cells.at (Blk.cells (((hB11.ext E20).ext E29).ext E34)) 2 rfl)) rfl ?_
  refine seqd rfl rfl (does_float (.inr (.inl rfl)) (ev rfl) (ev rfl)) ?_; rintro _ w40 ⟨r37, rfl, h38, E39⟩
  have X41 := Ext.gr X36 E39
  show wpList _ _ _ _ (fr [(.agg #[(.float .f32 a_x), (.float .f32 a_y), (.float .f32 a_z)]), (.agg #[(.float .f32 b_x), (.float .f32 b_y), (.float .f32 b_z)]), (.pointer (some ⟨b2, 0, none⟩)), (.pointer (some ⟨b9, 0, none⟩)), (.pointer (some ⟨b17, 0, none⟩)), (.pointer (some ⟨b2, 0, none⟩)), (.float .f32 a_x), (.pointer (some ⟨b9, 0, none⟩)), (.float .f32 b_x), (.float .f32 r27), (.pointer (some ⟨b2, 1, none⟩)), (.float .f32 a_y), (.pointer (some ⟨b9, 1, none⟩)), (.float .f32 b_y), (.float .f32 r32), (.pointer (some ⟨b2, 2, none⟩)), (.float .f32 a_z), (.pointer (some ⟨b9, 2, none⟩)), (.float .f32 b_z), (.float .f32 r37), undef]) _
  refine q_is (l' := [(.agg #[(.float .f32 a_x), (.float .f32 a_y), (.float .f32 a_z)]), (.agg #[(.float .f32 b_x), (.float .f32 b_y), (.float .f32 b_z)]), (.pointer (some ⟨b2, 0, none⟩)), (.pointer (some ⟨b9, 0, none⟩)), (.pointer (some ⟨b17, 0, none⟩)), (.pointer (some ⟨b2, 0, none⟩)), (.float .f32 a_x), (.pointer (some ⟨b9, 0, none⟩)), (.float .f32 b_x), (.float .f32 r27), (.pointer (some ⟨b2, 1, none⟩)), (.float .f32 a_y), (.pointer (some ⟨b9, 1, none⟩)), (.float .f32 b_y), (.float .f32 r32), (.pointer (some ⟨b2, 2, none⟩)), (.float .f32 a_z), (.pointer (some ⟨b9, 2, none⟩)), (.float .f32 b_z), (.float .f32 r37), (.agg #[(.float .f32 r27), (.float .f32 r32), (.float .f32 r37)])]) rfl rfl (does_build (parts' := [(0, (.float .f32 r27)), (1, (.float .f32 r32)), (2, (.float .f32 r37))]) (cells := #[(.float .f32 r27), (.float .f32 r32), (.float .f32 r37)]) (evp rfl) (by kernel_rfl)) rfl ?_
  refine seqn rfl rfl (does_store (n := 3) (cs := [(.float .f32 0), (.float .f32 0), (.float .f32 0)]) (u := (.agg #[(.float .f32 r27), (.float .f32 r32), (.float .f32 r37)])) (ev rfl) (ev rfl) Try.sizeOf31 rfl (((hB19.ext E29).ext E34).ext E39) (Nat.le_of_ble_eq_true rfl) rfl) ?_; rintro _ w44 ⟨rfl, W42, hB43⟩
  change Blk _ _ [(.float .f32 r27), (.float .f32 r32), (.float .f32 r37)] at hB43
  have X45 := Below.wr X41 W42 g24
  refine wpList_nil (hK26 _ _ ?_)
  refine wp_ret ?_
  refine ret_val (v := (.agg #[(.float .f32 r27), (.float .f32 r32), (.float .f32 r37)])) (res_C rfl (slot rfl) (run_loadAgg (cs := [(.float .f32 r27), (.float .f32 r32), (.float .f32 r37)]) Try.isAgg31 Try.sizeOf31 (Blk.cells hB43) rfl)) X45 ?_
  have x46 : cf .f32 r27 = fop .sub .f32 (cf .f32 a_x) (cf .f32 b_x) := by first | rfl | (simp only [h28, h33, h38]; done) | (simp [h28, h33, h38]; done)
  have x47 : cf .f32 r32 = fop .sub .f32 (cf .f32 a_y) (cf .f32 b_y) := by first | rfl | (simp only [h28, h33, h38]; done) | (simp [h28, h33, h38]; done)
  have x48 : cf .f32 r37 = fop .sub .f32 (cf .f32 a_z) (cf .f32 b_z) := by first | rfl | (simp only [h28, h33, h38]; done) | (simp [h28, h33, h38]; done)
  exact ⟨r27, r32, r37, rfl, x46, x47, x48⟩

/- spec.l01Inner -/
theorem c_spec_l01Inner (a_x : Nat) (a_y : Nat) (a_z : Nat) (b_x : Nat) (b_y : Nat) (b_z : Nat) (w : World) : Gives Try.prog 99 #[(.agg #[(.float .f32 a_x), (.float .f32 a_y), (.float .f32 a_z)]), (.agg #[(.float .f32 b_x), (.float .f32 b_y), (.float .f32 b_z)])] w (fun v w' => ∃ r_1 : Nat, v = (.float .f32 r_1) ∧ cf .f32 r_1 = innerF (cf .f32 a_x) (cf .f32 a_y) (cf .f32 a_z) (cf .f32 b_x) (cf .f32 b_y) (cf .f32 b_z)) := by
  refine enter [(.agg #[(.float .f32 a_x), (.float .f32 a_y), (.float .f32 a_z)]), (.agg #[(.float .f32 b_x), (.float .f32 b_y), (.float .f32 b_z)]), undef, undef, undef, undef, undef, undef, undef, undef, undef, undef, undef, undef, undef, undef, undef, undef, undef, undef, undef, undef] Try.func99 rfl Try.ntmps99 rfl ?_
  refine wp_seq_k fun K1 hK1 => ?_
  refine wp_region_lit ?_
  refine seqd rfl rfl (does_box (u := (.agg #[(.float .f32 a_x), (.float .f32 a_y), (.float .f32 a_z)])) (ev rfl)) ?_; rintro _ w6 ⟨b2, rfl, hb3, hB4, E5⟩
  have g7 : w.heap.size ≤ b2 := Nat.le_trans (Below.size (Ext.refl w)) hb3
  change Blk _ _ [(.float .f32 a_x), (.float .f32 a_y), (.float .f32 a_z)] at hB4
  have X8 := Ext.gr (Ext.refl w) E5
  show wpList _ _ _ _ (fr [(.agg #[(.float .f32 a_x), (.float .f32 a_y), (.float .f32 a_z)]), (.agg #[(.float .f32 b_x), (.float .f32 b_y), (.float .f32 b_z)]), (.pointer (some ⟨b2, 0, none⟩)), undef, undef, undef, undef, undef, undef, undef, undef, undef, undef, undef, undef, undef, undef, undef, undef, undef, undef, undef]) _
  refine seqd rfl rfl (does_box (u := (.agg #[(.float .f32 b_x), (.float .f32 b_y), (.float .f32 b_z)])) (ev rfl)) ?_; rintro _ w13 ⟨b9, rfl, hb10, hB11, E12⟩
  have n14 : b2 < b9 := Nat.lt_of_lt_of_le (Blk.lt hB4) hb10
  have g15 : w.heap.size ≤ b9 := Nat.le_trans (Below.size X8) hb10
  change Blk _ _ [(.float .f32 b_x), (.float .f32 b_y), (.float .f32 b_z)] at hB11
  have X16 := Ext.gr X8 E12
  show wpList _ _ _ _ (fr [(.agg #[(.float .f32 a_x), (.float .f32 a_y), (.float .f32 a_z)]), (.agg #[(.float .f32 b_x), (.float .f32 b_y), (.float .f32 b_z)]), (.pointer (some ⟨b2, 0, none⟩)), (.pointer (some ⟨b9, 0, none⟩)), undef, undef, undef, undef, undef, undef, undef, undef, undef, undef, undef, undef, undef, undef, undef, undef, undef, undef]) _
  refine q_is (l' := [(.agg #[(.float .f32 a_x), (.float .f32 a_y), (.float .f32 a_z)]), (.agg #[(.float .f32 b_x), (.float .f32 b_y), (.float .f32 b_z)]), (.pointer (some ⟨b2, 0, none⟩)), (.pointer (some ⟨b9, 0, none⟩)), (.float .f32 0), undef, undef, undef, undef, undef, undef, undef, undef, undef, undef, undef, undef, undef, undef, undef, undef, undef]) rfl rfl (does_assign (u := (.float .f32 0)) (ev rfl)) rfl ?_
  refine wpList_nil (hK1 _ _ ?_)
  refine wp_seq_k fun K17 hK17 => ?_
  refine wp_region_lit ?_
  refine q_is (l' := [(.agg #[(.float .f32 a_x), (.float .f32 a_y), (.float .f32 a_z)]), (.agg #[(.float .f32 b_x), (.float .f32 b_y), (.float .f32 b_z)]), (.pointer (some ⟨b2, 0, none⟩)), (.pointer (some ⟨b9, 0, none⟩)), (.float .f32 0), (.pointer (some ⟨b2, 0, none⟩)), undef, undef, undef, undef, undef, undef, undef, undef, undef, undef, undef, undef, undef, undef, undef, undef]) rfl rfl (does_fieldAddr (ev rfl) fa31_0) rfl ?_
  refine q_is (l' := [(.agg #[(.float .f32 a_x), (.float .f32 a_y), (.float .f32 a_z)]), (.agg #[(.float .f32 b_x), (.float .f32 b_y), (.float .f32 b_z)]), (.pointer (some ⟨b2, 0, none⟩)), (.pointer (some ⟨b9, 0, none⟩)), (.float .f32 0), (.pointer (some ⟨b2, 0, none⟩)), (.float .f32 a_x), undef, undef, undef, undef, undef, undef, undef, undef, undef, undef, undef, undef, undef, undef, undef]) rfl rfl (does_load (u := (.float .f32 a_x)) (ev rfl) Try.isAgg25 (Cells.at (Blk.cells (hB4.ext E12)) 0 rfl)) rfl ?_
  refine q_is (l' := [(.agg #[(.float .f32 a_x), (.float .f32 a_y), (.float .f32 a_z)]), (.agg #[(.float .f32 b_x), (.float .f32 b_y), (.float .f32 b_z)]), (.pointer (some ⟨b2, 0, none⟩)), (.pointer (some ⟨b9, 0, none⟩)), (.float .f32 0), (.pointer (some ⟨b2, 0, none⟩)), (.float .f32 a_x), (.pointer (some ⟨b9, 0, none⟩)), undef, undef, undef, undef, undef, undef, undef, undef, undef, undef, undef, undef, undef, undef]) rfl rfl (does_fieldAddr (ev rfl) fa31_0) rfl ?_
  refine q_is (l' := [(.agg #[(.float .f32 a_x), (.float .f32 a_y), (.float .f32 a_z)]), (.agg #[(.float .f32 b_x), (.float .f32 b_y), (.float .f32 b_z)]), (.pointer (some ⟨b2, 0, none⟩)), (.pointer (some ⟨b9, 0, none⟩)), (.float .f32 0), (.pointer (some ⟨b2, 0, none⟩)), (.float .f32 a_x), (.pointer (some ⟨b9, 0, none⟩)), (.float .f32 b_x), undef, undef, undef, undef, undef, undef, undef, undef, undef, undef, undef, undef, undef]) rfl rfl (does_load (u := (.float .f32 b_x)) (ev rfl) Try.isAgg25 (Cells.at (Blk.cells hB11) 0 rfl)) rfl ?_
  refine seqd rfl rfl (does_float (.inr (.inr (.inl rfl))) (ev rfl) (ev rfl)) ?_; rintro _ w21 ⟨r18, rfl, h19, E20⟩
  have X22 := Ext.gr X16 E20
  show wpList _ _ _ _ (fr [(.agg #[(.float .f32 a_x), (.float .f32 a_y), (.float .f32 a_z)]), (.agg #[(.float .f32 b_x), (.float .f32 b_y), (.float .f32 b_z)]), (.pointer (some ⟨b2, 0, none⟩)), (.pointer (some ⟨b9, 0, none⟩)), (.float .f32 0), (.pointer (some ⟨b2, 0, none⟩)), (.float .f32 a_x), (.pointer (some ⟨b9, 0, none⟩)), (.float .f32 b_x), (.float .f32 r18), undef, undef, undef, undef, undef, undef, undef, undef, undef, undef, undef, undef]) _
  refine q_is (l' := [(.agg #[(.float .f32 a_x), (.float .f32 a_y), (.float .f32 a_z)]), (.agg #[(.float .f32 b_x), (.float .f32 b_y), (.float .f32 b_z)]), (.pointer (some ⟨b2, 0, none⟩)), (.pointer (some ⟨b9, 0, none⟩)), (.float .f32 0), (.pointer (some ⟨b2, 0, none⟩)), (.float .f32 a_x), (.pointer (some ⟨b9, 0, none⟩)), (.float .f32 b_x), (.float .f32 r18), (.pointer (some ⟨b2, 1, none⟩)), undef, undef, undef, undef, undef, undef, undef, undef, undef, undef, undef]) rfl rfl (does_fieldAddr (ev rfl) fa31_1) rfl ?_
  refine q_is (l' := [(.agg #[(.float .f32 a_x), (.float .f32 a_y), (.float .f32 a_z)]), (.agg #[(.float .f32 b_x), (.float .f32 b_y), (.float .f32 b_z)]), (.pointer (some ⟨b2, 0, none⟩)), (.pointer (some ⟨b9, 0, none⟩)), (.float .f32 0), (.pointer (some ⟨b2, 0, none⟩)), (.float .f32 a_x), (.pointer (some ⟨b9, 0, none⟩)), (.float .f32 b_x), (.float .f32 r18), (.pointer (some ⟨b2, 1, none⟩)), (.float .f32 a_y), undef, undef, undef, undef, undef, undef, undef, undef, undef, undef]) rfl rfl (does_load (u := (.float .f32 a_y)) (ev rfl) Try.isAgg25 (Cells.at (Blk.cells ((hB4.ext E12).ext E20)) 1 rfl)) rfl ?_
  refine q_is (l' := [(.agg #[(.float .f32 a_x), (.float .f32 a_y), (.float .f32 a_z)]), (.agg #[(.float .f32 b_x), (.float .f32 b_y), (.float .f32 b_z)]), (.pointer (some ⟨b2, 0, none⟩)), (.pointer (some ⟨b9, 0, none⟩)), (.float .f32 0), (.pointer (some ⟨b2, 0, none⟩)), (.float .f32 a_x), (.pointer (some ⟨b9, 0, none⟩)), (.float .f32 b_x), (.float .f32 r18), (.pointer (some ⟨b2, 1, none⟩)), (.float .f32 a_y), (.pointer (some ⟨b9, 1, none⟩)), undef, undef, undef, undef, undef, undef, undef, undef, undef]) rfl rfl (does_fieldAddr (ev rfl) fa31_1) rfl ?_
  refine q_is (l' := [(.agg #[(.float .f32 a_x), (.float .f32 a_y), (.float .f32 a_z)]), (.agg #[(.float .f32 b_x), (.float .f32 b_y), (.float .f32 b_z)]), (.pointer (some ⟨b2, 0, none⟩)), (.pointer (some ⟨b9, 0, none⟩)), (.float .f32 0), (.pointer (some ⟨b2, 0, none⟩)), (.float .f32 a_x), (.pointer (some ⟨b9, 0, none⟩)), (.float .f32 b_x), (.float .f32 r18), (.pointer (some ⟨b2, 1, none⟩)), (.float .f32 a_y), (.pointer (some ⟨b9, 1, none⟩)), (.float .f32 b_y), undef, undef, undef, undef, undef, undef, undef, undef]) rfl rfl (does_load (u := (.float .f32 b_y)) (ev rfl) Try.isAgg25 (Cells.at (Blk.cells (hB11.ext E20)) 1 rfl)) rfl ?_
  refine seqd rfl rfl (does_float (.inr (.inr (.inl rfl))) (ev rfl) (ev rfl)) ?_; rintro _ w26 ⟨r23, rfl, h24, E25⟩
  have X27 := Ext.gr X22 E25
  show wpList _ _ _ _ (fr [(.agg #[(.float .f32 a_x), (.float .f32 a_y), (.float .f32 a_z)]), (.agg #[(.float .f32 b_x), (.float .f32 b_y), (.float .f32 b_z)]), (.pointer (some ⟨b2, 0, none⟩)), (.pointer (some ⟨b9, 0, none⟩)), (.float .f32 0), (.pointer (some ⟨b2, 0, none⟩)), (.float .f32 a_x), (.pointer (some ⟨b9, 0, none⟩)), (.float .f32 b_x), (.float .f32 r18), (.pointer (some ⟨b2, 1, none⟩)), (.float .f32 a_y), (.pointer (some ⟨b9, 1, none⟩)), (.float .f32 b_y), (.float .f32 r23), undef, undef, undef, undef, undef, undef, undef]) _
  refine seqd rfl rfl (does_float (.inl rfl) (ev rfl) (ev rfl)) ?_; rintro _ w31 ⟨r28, rfl, h29, E30⟩
  have X32 := Ext.gr X27 E30
  show wpList _ _ _ _ (fr [(.agg #[(.float .f32 a_x), (.float .f32 a_y), (.float .f32 a_z)]), (.agg #[(.float .f32 b_x), (.float .f32 b_y), (.float .f32 b_z)]), (.pointer (some ⟨b2, 0, none⟩)), (.pointer (some ⟨b9, 0, none⟩)), (.float .f32 0), (.pointer (some ⟨b2, 0, none⟩)), (.float .f32 a_x), (.pointer (some ⟨b9, 0, none⟩)), (.float .f32 b_x), (.float .f32 r18), (.pointer (some ⟨b2, 1, none⟩)), (.float .f32 a_y), (.pointer (some ⟨b9, 1, none⟩)), (.float .f32 b_y), (.float .f32 r23), (.float .f32 r28), undef, undef, undef, undef, undef, undef]) _
  refine q_is (l' := [(.agg #[(.float .f32 a_x), (.float .f32 a_y), (.float .f32 a_z)]), (.agg #[(.float .f32 b_x), (.float .f32 b_y), (.float .f32 b_z)]), (.pointer (some ⟨b2, 0, none⟩)), (.pointer (some ⟨b9, 0, none⟩)), (.float .f32 0), (.pointer (some ⟨b2, 0, none⟩)), (.float .f32 a_x), (.pointer (some ⟨b9, 0, none⟩)), (.float .f32 b_x), (.float .f32 r18), (.pointer (some ⟨b2, 1, none⟩)), (.float .f32 a_y), (.pointer (some ⟨b9, 1, none⟩)), (.float .f32 b_y), (.float .f32 r23), (.float .f32 r28), (.pointer (some ⟨b2, 2, none⟩)), undef, undef, undef, undef, undef]) rfl rfl (does_fieldAddr (ev rfl) fa31_2) rfl ?_
  refine q_is (l' := [(.agg #[(.float .f32 a_x), (.float .f32 a_y), (.float .f32 a_z)]), (.agg #[(.float .f32 b_x), (.float .f32 b_y), (.float .f32 b_z)]), (.pointer (some ⟨b2, 0, none⟩)), (.pointer (some ⟨b9, 0, none⟩)), (.float .f32 0), (.pointer (some ⟨b2, 0, none⟩)), (.float .f32 a_x), (.pointer (some ⟨b9, 0, none⟩)), (.float .f32 b_x), (.float .f32 r18), (.pointer (some ⟨b2, 1, none⟩)), (.float .f32 a_y), (.pointer (some ⟨b9, 1, none⟩)), (.float .f32 b_y), (.float .f32 r23), (.float .f32 r28), (.pointer (some ⟨b2, 2, none⟩)), (.float .f32 a_z), undef, undef, undef, undef]) rfl rfl (does_load (u := (.float .f32 a_z)) (ev rfl) Try.isAgg25 (Cells.at (Blk.cells ((((hB4.ext E12).ext E20).ext E25).ext E30)) 2 rfl)) rfl ?_
  refine q_is (l' := [(.agg #[(.float .f32 a_x), (.float .f32 a_y), (.float .f32 a_z)]), (.agg #[(.float .f32 b_x), (.float .f32 b_y), (.float .f32 b_z)]), (.pointer (some ⟨b2, 0, none⟩)), (.pointer (some ⟨b9, 0, none⟩)), (.float .f32 0), (.pointer (some ⟨b2, 0, none⟩)), (.float .f32 a_x), (.pointer (some ⟨b9, 0, none⟩)), (.float .f32 b_x), (.float .f32 r18), (.pointer (some ⟨b2, 1, none⟩)), (.float .f32 a_y), (.pointer (some ⟨b9, 1, none⟩)), (.float .f32 b_y), (.float .f32 r23), (.float .f32 r28), (.pointer (some ⟨b2, 2, none⟩)), (.float .f32 a_z), (.pointer (some ⟨b9, 2, none⟩)), undef, undef, undef]) rfl rfl (does_fieldAddr (ev rfl) fa31_2) rfl ?_
  refine q_is (l' := [(.agg #[(.float .f32 a_x), (.float .f32 a_y), (.float .f32 a_z)]), (.agg #[(.float .f32 b_x), (.float .f32 b_y), (.float .f32 b_z)]), (.pointer (some ⟨b2, 0, none⟩)), (.pointer (some ⟨b9, 0, none⟩)), (.float .f32 0), (.pointer (some ⟨b2, 0, none⟩)), (.float .f32 a_x), (.pointer (some ⟨b9, 0, none⟩)), (.float .f32 b_x), (.float .f32 r18), (.pointer (some ⟨b2, 1, none⟩)), (.float .f32 a_y), (.pointer (some ⟨b9, 1, none⟩)), (.float .f32 b_y), (.float .f32 r23), (.float .f32 r28), (.pointer (some ⟨b2, 2, none⟩)), (.float .f32 a_z), (.pointer (some ⟨b9, 2, none⟩)), (.float .f32 b_z), undef, undef]) rfl rfl (does_load (u := (.float .f32 b_z)) (ev rfl) Try.isAgg25 (Cells.at (Blk.cells (((hB11.ext E20).ext E25).ext E30)) 2 rfl)) rfl ?_
  refine seqd rfl rfl (does_float (.inr (.inr (.inl rfl))) (ev rfl) (ev rfl)) ?_; rintro _ w36 ⟨r33, rfl, h34, E35⟩
  have X37 := Ext.gr X32 E35
  show wpList _ _ _ _ (fr [(.agg #[(.float .f32 a_x), (.float .f32 a_y), (.float .f32 a_z)]), (.agg #[(.float .f32 b_x), (.float .f32 b_y), (.float .f32 b_z)]), (.pointer (some ⟨b2, 0, none⟩)), (.pointer (some ⟨b9, 0, none⟩)), (.float .f32 0), (.pointer (some ⟨b2, 0, none⟩)), (.float .f32 a_x), (.pointer (some ⟨b9, 0, none⟩)), (.float .f32 b_x), (.float .f32 r18), (.pointer (some ⟨b2, 1, none⟩)), (.float .f32 a_y), (.pointer (some ⟨b9, 1, none⟩)), (.float .f32 b_y), (.float .f32 r23), (.float .f32 r28), (.pointer (some ⟨b2, 2, none⟩)), (.float .f32 a_z), (.pointer (some ⟨b9, 2, none⟩)), (.float .f32 b_z), (.float .f32 r33), undef]) _
  refine seqd rfl rfl (does_float (.inl rfl) (ev rfl) (ev rfl)) ?_; rintro _ w41 ⟨r38, rfl, h39, E40⟩
  have X42 := Ext.gr X37 E40
  show wpList _ _ _ _ (fr [(.agg #[(.float .f32 a_x), (.float .f32 a_y), (.float .f32 a_z)]), (.agg #[(.float .f32 b_x), (.float .f32 b_y), (.float .f32 b_z)]), (.pointer (some ⟨b2, 0, none⟩)), (.pointer (some ⟨b9, 0, none⟩)), (.float .f32 0), (.pointer (some ⟨b2, 0, none⟩)), (.float .f32 a_x), (.pointer (some ⟨b9, 0, none⟩)), (.float .f32 b_x), (.float .f32 r18), (.pointer (some ⟨b2, 1, none⟩)), (.float .f32 a_y), (.pointer (some ⟨b9, 1, none⟩)), (.float .f32 b_y), (.float .f32 r23), (.float .f32 r28), (.pointer (some ⟨b2, 2, none⟩)), (.float .f32 a_z), (.pointer (some ⟨b9, 2, none⟩)), (.float .f32 b_z), (.float .f32 r33), (.float .f32 r38)]) _
  refine q_is (l' := [(.agg #[(.float .f32 a_x), (.float .f32 a_y), (.float .f32 a_z)]), (.agg #[(.float .f32 b_x), (.float .f32 b_y), (.float .f32 b_z)]), (.pointer (some ⟨b2, 0, none⟩)), (.pointer (some ⟨b9, 0, none⟩)), (.float .f32 r38), (.pointer (some ⟨b2, 0, none⟩)), (.float .f32 a_x), (.pointer (some ⟨b9, 0, none⟩)), (.float .f32 b_x), (.float .f32 r18), (.pointer (some ⟨b2, 1, none⟩)), (.float .f32 a_y), (.pointer (some ⟨b9, 1, none⟩)), (.float .f32 b_y), (.float .f32 r23), (.float .f32 r28), (.pointer (some ⟨b2, 2, none⟩)), (.float .f32 a_z), (.pointer (some ⟨b9, 2, none⟩)), (.float .f32 b_z), (.float .f32 r33), (.float .f32 r38)]) rfl rfl (does_assign (u := (.float .f32 r38)) (ev rfl)) rfl ?_
  refine wpList_nil (hK17 _ _ ?_)
  refine wp_ret ?_
  refine ret_val (v := (.float .f32 r38)) (res_T rfl (slot rfl)) X42 ?_
  have x43 : cf .f32 r38 = innerF (cf .f32 a_x) (cf .f32 a_y) (cf .f32 a_z) (cf .f32 b_x) (cf .f32 b_y) (cf .f32 b_z) := by first | rfl | (simp only [innerF, h19, h24, h29, h34, h39]; done) | (simp [innerF, h19, h24, h29, h34, h39]; done)
  exact ⟨r38, rfl, x43⟩

/- spec.l01Scale -/
theorem c_spec_l01Scale (a_x : Nat) (a_y : Nat) (a_z : Nat) (k : Nat) (w : World) : Gives Try.prog 100 #[(.agg #[(.float .f32 a_x), (.float .f32 a_y), (.float .f32 a_z)]), (.float .f32 k)] w (fun v w' => ∃ r_1 : Nat, ∃ r_2 : Nat, ∃ r_3 : Nat, v = (.agg #[(.float .f32 r_1), (.float .f32 r_2), (.float .f32 r_3)]) ∧ cf .f32 r_1 = fop .mul .f32 (cf .f32 a_x) (cf .f32 k) ∧ cf .f32 r_2 = fop .mul .f32 (cf .f32 a_y) (cf .f32 k) ∧ cf .f32 r_3 = fop .mul .f32 (cf .f32 a_z) (cf .f32 k)) := by
  refine enter [(.agg #[(.float .f32 a_x), (.float .f32 a_y), (.float .f32 a_z)]), (.float .f32 k), undef, undef, undef, undef, undef, undef, undef, undef, undef, undef, undef, undef, undef, undef, undef, undef] Try.func100 rfl Try.ntmps100 rfl ?_
  refine wp_seq_k fun K1 hK1 => ?_
  refine wp_region_lit ?_
  refine seqd rfl rfl (does_box (u := (.agg #[(.float .f32 a_x), (.float .f32 a_y), (.float .f32 a_z)])) (ev rfl)) ?_; rintro _ w6 ⟨b2, rfl, hb3, hB4, E5⟩
  have g7 : w.heap.size ≤ b2 := Nat.le_trans (Below.size (Ext.refl w)) hb3
  change Blk _ _ [(.float .f32 a_x), (.float .f32 a_y), (.float .f32 a_z)] at hB4
  have X8 := Ext.gr (Ext.refl w) E5
  show wpList _ _ _ _ (fr [(.agg #[(.float .f32 a_x), (.float .f32 a_y), (.float .f32 a_z)]), (.float .f32 k), (.pointer (some ⟨b2, 0, none⟩)), undef, undef, undef, undef, undef, undef, undef, undef, undef, undef, undef, undef, undef, undef, undef]) _
  refine seqd rfl rfl (does_alloc z31) ?_; rintro _ w13 ⟨b9, rfl, hb10, hB11, E12⟩
  have n14 : b2 < b9 := Nat.lt_of_lt_of_le (Blk.lt hB4) hb10
  have g15 : w.heap.size ≤ b9 := Nat.le_trans (Below.size X8) hb10
  change Blk _ _ [(.float .f32 0), (.float .f32 0), (.float .f32 0)] at hB11
  have X16 := Ext.gr X8 E12
  show wpList _ _ _ _ (fr [(.agg #[(.float .f32 a_x), (.float .f32 a_y), (.float .f32 a_z)]), (.float .f32 k), (.pointer (some ⟨b2, 0, none⟩)), undef, (.pointer (some ⟨b9, 0, none⟩)), undef, undef, undef, undef, undef, undef, undef, undef, undef, undef, undef, undef, undef]) _
  refine wpList_nil (hK1 _ _ ?_)
  refine wp_seq_k fun K17 hK17 => ?_
  refine wp_region_lit ?_
  refine q_is (l' := [(.agg #[(.float .f32 a_x), (.float .f32 a_y), (.float .f32 a_z)]), (.float .f32 k), (.pointer (some ⟨b2, 0, none⟩)), undef, (.pointer (some ⟨b9, 0, none⟩)), (.pointer (some ⟨b2, 0, none⟩)), undef, undef, undef, undef, undef, undef, undef, undef, undef, undef, undef, undef]) rfl rfl (does_fieldAddr (ev rfl) fa31_0) rfl ?_
  refine q_is (l' := [(.agg #[(.float .f32 a_x), (.float .f32 a_y), (.float .f32 a_z)]), (.float .f32 k), (.pointer (some ⟨b2, 0, none⟩)), undef, (.pointer (some ⟨b9, 0, none⟩)), (.pointer (some ⟨b2, 0, none⟩)), (.float .f32 a_x), undef, undef, undef, undef, undef, undef, undef, undef, undef, undef, undef]) rfl rfl (does_load (u := (.float .f32 a_x)) (ev rfl) Try.isAgg25 (Cells.at (Blk.cells (hB4.ext E12)) 0 rfl)) rfl ?_
  refine q_is (l' := [(.agg #[(.float .f32 a_x), (.float .f32 a_y), (.float .f32 a_z)]), (.float .f32 k), (.pointer (some ⟨b2, 0, none⟩)), undef, (.pointer (some ⟨b9, 0, none⟩)), (.pointer (some ⟨b2, 0, none⟩)), (.float .f32 a_x), (.float .f32 k), undef, undef, undef, undef, undef, undef, undef, undef, undef, undef]) rfl rfl (does_move (u := (.float .f32 k)) (ev rfl)) rfl ?_
  refine seqd rfl rfl (does_float (.inr (.inr (.inl rfl))) (ev rfl) (ev rfl)) ?_; rintro _ w21 ⟨r18, rfl, h19, E20⟩
  have X22 := Ext.gr X16 E20
  show wpList _ _ _ _ (fr [(.agg #[(.float .f32 a_x), (.float .f32 a_y), (.float .f32 a_z)]), (.float .f32 k), (.pointer (some ⟨b2, 0, none⟩)), undef, (.pointer (some ⟨b9, 0, none⟩)), (.pointer (some ⟨b2, 0, none⟩)), (.float .f32 a_x), (.float .f32 k), (.float .f32 r18), undef, undef, undef, undef, undef, undef, undef, undef, undef]) _
  refine q_is (l' := [(.agg #[(.float .f32 a_x), (.float .f32 a_y), (.float .f32 a_z)]), (.float .f32 k), (.pointer (some ⟨b2, 0, none⟩)), undef, (.pointer (some ⟨b9, 0, none⟩)), (.pointer (some ⟨b2, 0, none⟩)), (.float .f32 a_x), (.float .f32 k), (.float .f32 r18), (.pointer (some ⟨b2, 1, none⟩)), undef, undef, undef, undef, undef, undef, undef, undef]) rfl rfl (does_fieldAddr (ev rfl) fa31_1) rfl ?_
  refine q_is (l' := [(.agg #[(.float .f32 a_x), (.float .f32 a_y), (.float .f32 a_z)]), (.float .f32 k), (.pointer (some ⟨b2, 0, none⟩)), undef, (.pointer (some ⟨b9, 0, none⟩)), (.pointer (some ⟨b2, 0, none⟩)), (.float .f32 a_x), (.float .f32 k), (.float .f32 r18), (.pointer (some ⟨b2, 1, none⟩)), (.float .f32 a_y), undef, undef, undef, undef, undef, undef, undef]) rfl rfl (does_load (u := (.float .f32 a_y)) (ev rfl) Try.isAgg25 (Cells.at (Blk.cells ((hB4.ext E12).ext E20)) 1 rfl)) rfl ?_
  refine q_is (l' := [(.agg #[(.float .f32 a_x), (.float .f32 a_y), (.float .f32 a_z)]), (.float .f32 k), (.pointer (some ⟨b2, 0, none⟩)), undef, (.pointer (some ⟨b9, 0, none⟩)), (.pointer (some ⟨b2, 0, none⟩)), (.float .f32 a_x), (.float .f32 k), (.float .f32 r18), (.pointer (some ⟨b2, 1, none⟩)), (.float .f32 a_y), (.float .f32 k), undef, undef, undef, undef, undef, undef]) rfl rfl (does_move (u := (.float .f32 k)) (ev rfl)) rfl ?_
  refine seqd rfl rfl (does_float (.inr (.inr (.inl rfl))) (ev rfl) (ev rfl)) ?_; rintro _ w26 ⟨r23, rfl, h24, E25⟩
  have X27 := Ext.gr X22 E25
  show wpList _ _ _ _ (fr [(.agg #[(.float .f32 a_x), (.float .f32 a_y), (.float .f32 a_z)]), (.float .f32 k), (.pointer (some ⟨b2, 0, none⟩)), undef, (.pointer (some ⟨b9, 0, none⟩)), (.pointer (some ⟨b2, 0, none⟩)), (.float .f32 a_x), (.float .f32 k), (.float .f32 r18), (.pointer (some ⟨b2, 1, none⟩)), (.float .f32 a_y), (.float .f32 k), (.float .f32 r23), undef, undef, undef, undef, undef]) _
  refine q_is (l' := [(.agg #[(.float .f32 a_x), (.float .f32 a_y), (.float .f32 a_z)]), (.float .f32 k), (.pointer (some ⟨b2, 0, none⟩)), undef, (.pointer (some ⟨b9, 0, none⟩)), (.pointer (some ⟨b2, 0, none⟩)), (.float .f32 a_x), (.float .f32 k), (.float .f32 r18), (.pointer (some ⟨b2, 1, none⟩)), (.float .f32 a_y), (.float .f32 k), (.float .f32 r23), (.pointer (some ⟨b2, 2, none⟩)), undef, undef, undef, undef]) rfl rfl (does_fieldAddr (ev rfl) fa31_2) rfl ?_
  refine q_is (l' := [(.agg #[(.float .f32 a_x), (.float .f32 a_y), (.float .f32 a_z)]), (.float .f32 k), (.pointer (some ⟨b2, 0, none⟩)), undef, (.pointer (some ⟨b9, 0, none⟩)), (.pointer (some ⟨b2, 0, none⟩)), (.float .f32 a_x), (.float .f32 k), (.float .f32 r18), (.pointer (some ⟨b2, 1, none⟩)), (.float .f32 a_y), (.float .f32 k), (.float .f32 r23), (.pointer (some ⟨b2, 2, none⟩)), (.float .f32 a_z), undef, undef, undef]) rfl rfl (does_load (u := (.float .f32 a_z)) (ev rfl) Try.isAgg25 (Cells.at (Blk.cells (((hB4.ext E12).ext E20).ext E25)) 2 rfl)) rfl ?_
  refine q_is (l' := [(.agg #[(.float .f32 a_x), (.float .f32 a_y), (.float .f32 a_z)]), (.float .f32 k), (.pointer (some ⟨b2, 0, none⟩)), undef, (.pointer (some ⟨b9, 0, none⟩)), (.pointer (some ⟨b2, 0, none⟩)), (.float .f32 a_x), (.float .f32 k), (.float .f32 r18), (.pointer (some ⟨b2, 1, none⟩)), (.float .f32 a_y), (.float .f32 k), (.float .f32 r23), (.pointer (some ⟨b2, 2, none⟩)), (.float .f32 a_z), (.float .f32 k), undef, undef]) rfl rfl (does_move (u := (.float .f32 k)) (ev rfl)) rfl ?_
  refine seqd rfl rfl (does_float (.inr (.inr (.inl rfl))) (ev rfl) (ev rfl)) ?_; rintro _ w31 ⟨r28, rfl, h29, E30⟩
  have X32 := Ext.gr X27 E30
  show wpList _ _ _ _ (fr [(.agg #[(.float .f32 a_x), (.float .f32 a_y), (.float .f32 a_z)]), (.float .f32 k), (.pointer (some ⟨b2, 0, none⟩)), undef, (.pointer (some ⟨b9, 0, none⟩)), (.pointer (some ⟨b2, 0, none⟩)), (.float .f32 a_x), (.float .f32 k), (.float .f32 r18), (.pointer (some ⟨b2, 1, none⟩)), (.float .f32 a_y), (.float .f32 k), (.float .f32 r23), (.pointer (some ⟨b2, 2, none⟩)), (.float .f32 a_z), (.float .f32 k), (.float .f32 r28), undef]) _
  refine q_is (l' := [(.agg #[(.float .f32 a_x), (.float .f32 a_y), (.float .f32 a_z)]), (.float .f32 k), (.pointer (some ⟨b2, 0, none⟩)), undef, (.pointer (some ⟨b9, 0, none⟩)), (.pointer (some ⟨b2, 0, none⟩)), (.float .f32 a_x), (.float .f32 k), (.float .f32 r18), (.pointer (some ⟨b2, 1, none⟩)), (.float .f32 a_y), (.float .f32 k), (.float .f32 r23), (.pointer (some ⟨b2, 2, none⟩)), (.float .f32 a_z), (.float .f32 k), (.float .f32 r28), (.agg #[(.float .f32 r18), (.float .f32 r23), (.float .f32 r28)])]) rfl rfl (does_build (parts' := [(0, (.float .f32 r18)), (1, (.float .f32 r23)), (2, (.float .f32 r28))]) (cells := #[(.float .f32 r18), (.float .f32 r23), (.float .f32 r28)]) (evp rfl) (by kernel_rfl)) rfl ?_
  refine seqn rfl rfl (does_store (n := 3) (cs := [(.float .f32 0), (.float .f32 0), (.float .f32 0)]) (u := (.agg #[(.float .f32 r18), (.float .f32 r23), (.float .f32 r28)])) (ev rfl) (ev rfl) Try.sizeOf31 rfl (((hB11.ext E20).ext E25).ext E30) (Nat.le_of_ble_eq_true rfl) rfl) ?_; rintro _ w35 ⟨rfl, W33, hB34⟩
  change Blk _ _ [(.float .f32 r18), (.float .f32 r23), (.float .f32 r28)] at hB34
  have X36 := Below.wr X32 W33 g15
  refine wpList_nil (hK17 _ _ ?_)
  refine wp_ret ?_
  refine ret_val (v := (.agg #[(.float .f32 r18), (.float .f32 r23), (.float .f32 r28)])) (res_C rfl (slot rfl) (run_loadAgg (cs := [(.float .f32 r18), (.float .f32 r23), (.float .f32 r28)]) Try.isAgg31 Try.sizeOf31 (Blk.cells hB34) rfl)) X36 ?_
  have x37 : cf .f32 r18 = fop .mul .f32 (cf .f32 a_x) (cf .f32 k) := by first | rfl | (simp only [h19, h24, h29]; done) | (simp [h19, h24, h29]; done)
  have x38 : cf .f32 r23 = fop .mul .f32 (cf .f32 a_y) (cf .f32 k) := by first | rfl | (simp only [h19, h24, h29]; done) | (simp [h19, h24, h29]; done)
  have x39 : cf .f32 r28 = fop .mul .f32 (cf .f32 a_z) (cf .f32 k) := by first | rfl | (simp only [h19, h24, h29]; done) | (simp [h19, h24, h29]; done)
  exact ⟨r18, r23, r28, rfl, x37, x38, x39⟩

/- spec.l08Away -/
theorem c_spec_l08Away (v_x : Nat) (v_y : Nat) (v_z : Nat) (n_x : Nat) (n_y : Nat) (n_z : Nat) (k : Nat) (w : World) : Gives Try.prog 57 #[(.agg #[(.float .f32 v_x), (.float .f32 v_y), (.float .f32 v_z)]), (.agg #[(.float .f32 n_x), (.float .f32 n_y), (.float .f32 n_z)]), (.float .f32 k)] w (fun v w' => ∃ r_1 : Nat, ∃ r_2 : Nat, ∃ r_3 : Nat, v = (.agg #[(.float .f32 r_1), (.float .f32 r_2), (.float .f32 r_3)]) ∧ cf .f32 r_1 = (awayF (cf .f32 v_x) (cf .f32 v_y) (cf .f32 v_z) (cf .f32 n_x) (cf .f32 n_y) (cf .f32 n_z) (cf .f32 k)).1 ∧ cf .f32 r_2 = (awayF (cf .f32 v_x) (cf .f32 v_y) (cf .f32 v_z) (cf .f32 n_x) (cf .f32 n_y) (cf .f32 n_z) (cf .f32 k)).2.1 ∧ cf .f32 r_3 = (awayF (cf .f32 v_x) (cf .f32 v_y) (cf .f32 v_z) (cf .f32 n_x) (cf .f32 n_y) (cf .f32 n_z) (cf .f32 k)).2.2) := by
  refine enter [(.agg #[(.float .f32 v_x), (.float .f32 v_y), (.float .f32 v_z)]), (.agg #[(.float .f32 n_x), (.float .f32 n_y), (.float .f32 n_z)]), (.float .f32 k), undef, undef, undef, undef, undef, undef, undef, undef, undef, undef, undef, undef, undef, undef, undef, undef, undef, undef, undef] Try.func57 rfl Try.ntmps57 rfl ?_
  refine wp_seq_k fun K1 hK1 => ?_
  refine wp_region_lit ?_
  refine seqd rfl rfl (does_box (u := (.agg #[(.float .f32 v_x), (.float .f32 v_y), (.float .f32 v_z)])) (ev rfl)) ?_; rintro _ w6 ⟨b2, rfl, hb3, hB4, E5⟩
  have g7 : w.heap.size ≤ b2 := Nat.le_trans (Below.size (Ext.refl w)) hb3
  change Blk _ _ [(.float .f32 v_x), (.float .f32 v_y), (.float .f32 v_z)] at hB4
  have X8 := Ext.gr (Ext.refl w) E5
  show wpList _ _ _ _ (fr [(.agg #[(.float .f32 v_x), (.float .f32 v_y), (.float .f32 v_z)]), (.agg #[(.float .f32 n_x), (.float .f32 n_y), (.float .f32 n_z)]), (.float .f32 k), (.pointer (some ⟨b2, 0, none⟩)), undef, undef, undef, undef, undef, undef, undef, undef, undef, undef, undef, undef, undef, undef, undef, undef, undef, undef]) _
  refine seqd rfl rfl (does_box (u := (.agg #[(.float .f32 n_x), (.float .f32 n_y), (.float .f32 n_z)])) (ev rfl)) ?_; rintro _ w13 ⟨b9, rfl, hb10, hB11, E12⟩
  have n14 : b2 < b9 := Nat.lt_of_lt_of_le (Blk.lt hB4) hb10
  have g15 : w.heap.size ≤ b9 := Nat.le_trans (Below.size X8) hb10
  change Blk _ _ [(.float .f32 n_x), (.float .f32 n_y), (.float .f32 n_z)] at hB11
  have X16 := Ext.gr X8 E12
  show wpList _ _ _ _ (fr [(.agg #[(.float .f32 v_x), (.float .f32 v_y), (.float .f32 v_z)]), (.agg #[(.float .f32 n_x), (.float .f32 n_y), (.float .f32 n_z)]), (.float .f32 k), (.pointer (some ⟨b2, 0, none⟩)), (.pointer (some ⟨b9, 0, none⟩)), undef, undef, undef, undef, undef, undef, undef, undef, undef, undef, undef, undef, undef, undef, undef, undef, undef]) _
  refine seqd rfl rfl (does_alloc z31) ?_; rintro _ w21 ⟨b17, rfl, hb18, hB19, E20⟩
  have n22 : b2 < b17 := Nat.lt_of_lt_of_le (Blk.lt (hB4.ext E12)) hb18
  have n23 : b9 < b17 := Nat.lt_of_lt_of_le (Blk.lt hB11) hb18
  have g24 : w.heap.size ≤ b17 := Nat.le_trans (Below.size X16) hb18
  change Blk _ _ [(.float .f32 0), (.float .f32 0), (.float .f32 0)] at hB19
  have X25 := Ext.gr X16 E20
  show wpList _ _ _ _ (fr [(.agg #[(.float .f32 v_x), (.float .f32 v_y), (.float .f32 v_z)]), (.agg #[(.float .f32 n_x), (.float .f32 n_y), (.float .f32 n_z)]), (.float .f32 k), (.pointer (some ⟨b2, 0, none⟩)), (.pointer (some ⟨b9, 0, none⟩)), undef, (.pointer (some ⟨b17, 0, none⟩)), undef, undef, undef, undef, undef, undef, undef, undef, undef, undef, undef, undef, undef, undef, undef]) _
  refine wpList_nil (hK1 _ _ ?_)
  refine wp_seq_k fun K26 hK26 => ?_
  refine wp_region_lit ?_
  refine q_is (l' := [(.agg #[(.float .f32 v_x), (.float .f32 v_y), (.float .f32 v_z)]), (.agg #[(.float .f32 n_x), (.float .f32 n_y), (.float .f32 n_z)]), (.float .f32 k), (.pointer (some ⟨b2, 0, none⟩)), (.pointer (some ⟨b9, 0, none⟩)), undef, (.pointer (some ⟨b17, 0, none⟩)), undef, (.agg #[(.float .f32 v_x), (.float .f32 v_y), (.float .f32 v_z)]), undef, undef, undef, undef, undef, undef, undef, undef, undef, undef, undef, undef, undef]) rfl rfl (does_loadAgg (cs := [(.float .f32 v_x), (.float .f32 v_y), (.float .f32 v_z)]) (ev rfl) Try.isAgg31 Try.sizeOf31 (Blk.cells ((hB4.ext E12).ext E20)) rfl) rfl ?_
  refine q_is (l' := [(.agg #[(.float .f32 v_x), (.float .f32 v_y), (.float .f32 v_z)]), (.agg #[(.float .f32 n_x), (.float .f32 n_y), (.float .f32 n_z)]), (.float .f32 k), (.pointer (some ⟨b2, 0, none⟩)), (.pointer (some ⟨b9, 0, none⟩)), undef, (.pointer (some ⟨b17, 0, none⟩)), undef, (.agg #[(.float .f32 v_x), (.float .f32 v_y), (.float .f32 v_z)]), (.agg #[(.float .f32 n_x), (.float .f32 n_y), (.float .f32 n_z)]), undef, undef, undef, undef, undef, undef, undef, undef, undef, undef, undef, undef]) rfl rfl (does_loadAgg (cs := [(.float .f32 n_x), (.float .f32 n_y), (.float .f32 n_z)]) (ev rfl) Try.isAgg31 Try.sizeOf31 (Blk.cells (hB11.ext E20)) rfl) rfl ?_
  refine seqd rfl rfl (does_call (args := #[(.agg #[(.float .f32 v_x), (.float .f32 v_y), (.float .f32 v_z)]), (.agg #[(.float .f32 n_x), (.float .f32 n_y), (.float .f32 n_z)])]) cal99 (evs rfl) (c_spec_l01Inner v_x v_y v_z n_x n_y n_z _)) ?_; rintro _ w28 ⟨E27, ⟨r29, rfl, h30⟩⟩
  have X31 := Ext.gr X25 E27
  show wpList _ _ _ _ (fr [(.agg #[(.float .f32 v_x), (.float .f32 v_y), (.float .f32 v_z)]), (.agg #[(.float .f32 n_x), (.float .f32 n_y), (.float .f32 n_z)]), (.float .f32 k), (.pointer (some ⟨b2, 0, none⟩)), (.pointer (some ⟨b9, 0, none⟩)), undef, (.pointer (some ⟨b17, 0, none⟩)), undef, (.agg #[(.float .f32 v_x), (.float .f32 v_y), (.float .f32 v_z)]), (.agg #[(.float .f32 n_x), (.float .f32 n_y), (.float .f32 n_z)]), (.float .f32 r29), undef, undef, undef, undef, undef, undef, undef, undef, undef, undef, undef]) _
  refine q_is (l' := [(.agg #[(.float .f32 v_x), (.float .f32 v_y), (.float .f32 v_z)]), (.agg #[(.float .f32 n_x), (.float .f32 n_y), (.float .f32 n_z)]), (.float .f32 k), (.pointer (some ⟨b2, 0, none⟩)), (.pointer (some ⟨b9, 0, none⟩)), undef, (.pointer (some ⟨b17, 0, none⟩)), (.float .f32 r29), (.agg #[(.float .f32 v_x), (.float .f32 v_y), (.float .f32 v_z)]), (.agg #[(.float .f32 n_x), (.float .f32 n_y), (.float .f32 n_z)]), (.float .f32 r29), undef, undef, undef, undef, undef, undef, undef, undef, undef, undef, undef]) rfl rfl (does_assign (u := (.float .f32 r29)) (ev rfl)) rfl ?_
  refine wpList_nil (hK26 _ _ ?_)
  refine wp_seq_k fun K32 hK32 => ?_
  refine wp_seq_k fun K33 hK33 => ?_
  refine wp_region_lit ?_
  refine q_is (l' := [(.agg #[(.float .f32 v_x), (.float .f32 v_y), (.float .f32 v_z)]), (.agg #[(.float .f32 n_x), (.float .f32 n_y), (.float .f32 n_z)]), (.float .f32 k), (.pointer (some ⟨b2, 0, none⟩)), (.pointer (some ⟨b9, 0, none⟩)), undef, (.pointer (some ⟨b17, 0, none⟩)), (.float .f32 r29), (.agg #[(.float .f32 v_x), (.float .f32 v_y), (.float .f32 v_z)]), (.agg #[(.float .f32 n_x), (.float .f32 n_y), (.float .f32 n_z)]), (.float .f32 r29), (.float .f32 r29), undef, undef, undef, undef, undef, undef, undef, undef, undef, undef]) rfl rfl (does_move (u := (.float .f32 r29)) (ev rfl)) rfl ?_
  refine q_is (l' := [(.agg #[(.float .f32 v_x), (.float .f32 v_y), (.float .f32 v_z)]), (.agg #[(.float .f32 n_x), (.float .f32 n_y), (.float .f32 n_z)]), (.float .f32 k), (.pointer (some ⟨b2, 0, none⟩)), (.pointer (some ⟨b9, 0, none⟩)), undef, (.pointer (some ⟨b17, 0, none⟩)), (.float .f32 r29), (.agg #[(.float .f32 v_x), (.float .f32 v_y), (.float .f32 v_z)]), (.agg #[(.float .f32 n_x), (.float .f32 n_y), (.float .f32 n_z)]), (.float .f32 r29), (.float .f32 r29), (.bool (fcmp .lss (ford .f32 (cf .f32 r29) (cf .f32 0)))), undef, undef, undef, undef, undef, undef, undef, undef, undef]) rfl rfl (does_fcmp (.inr (.inr (.inl rfl))) (ev rfl) (ev rfl)) rfl ?_
  refine q_is (l' := [(.agg #[(.float .f32 v_x), (.float .f32 v_y), (.float .f32 v_z)]), (.agg #[(.float .f32 n_x), (.float .f32 n_y), (.float .f32 n_z)]), (.float .f32 k), (.pointer (some ⟨b2, 0, none⟩)), (.pointer (some ⟨b9, 0, none⟩)), undef, (.pointer (some ⟨b17, 0, none⟩)), (.float .f32 r29), (.agg #[(.float .f32 v_x), (.float .f32 v_y), (.float .f32 v_z)]), (.agg #[(.float .f32 n_x), (.float .f32 n_y), (.float .f32 n_z)]), (.float .f32 r29), (.float .f32 r29), (.bool (fcmp .lss (ford .f32 (cf .f32 r29) (cf .f32 0)))), (.bool (!(fcmp .lss (ford .f32 (cf .f32 r29) (cf .f32 0))))), undef, undef, undef, undef, undef, undef, undef, undef]) rfl rfl (does_not (ev rfl)) rfl ?_
  refine wpList_nil (hK33 _ _ ?_)
  refine wp_cond_split (t := !(fcmp .lss (ford .f32 (cf .f32 r29) (cf .f32 0)))) (ev rfl) (fun c34 => ?_) (fun c34 => ?_)
  · rw [Bool.not_eq_true'] at c34
    have c34' := c34
    refine wp_seq_k fun K35 hK35 => ?_
    refine wp_region_lit ?_
    refine q_is (l' := [(.agg #[(.float .f32 v_x), (.float .f32 v_y), (.float .f32 v_z)]), (.agg #[(.float .f32 n_x), (.float .f32 n_y), (.float .f32 n_z)]), (.float .f32 k), (.pointer (some ⟨b2, 0, none⟩)), (.pointer (some ⟨b9, 0, none⟩)), undef, (.pointer (some ⟨b17, 0, none⟩)), (.float .f32 r29), (.agg #[(.float .f32 v_x), (.float .f32 v_y), (.float .f32 v_z)]), (.agg #[(.float .f32 n_x), (.float .f32 n_y), (.float .f32 n_z)]), (.float .f32 r29), (.float .f32 r29), (.bool (fcmp .lss (ford .f32 (cf .f32 r29) (cf .f32 0)))), (.bool (!(fcmp .lss (ford .f32 (cf .f32 r29) (cf .f32 0))))), (.agg #[(.float .f32 v_x), (.float .f32 v_y), (.float .f32 v_z)]), undef, undef, undef, undef, undef, undef, undef]) rfl rfl (does_loadAgg (cs := [(.float .f32 v_x), (.float .f32 v_y), (.float .f32 v_z)]) (ev rfl) Try.isAgg31 Try.sizeOf31 (Blk.cells (((hB4.ext E12).ext E20).ext E27)) rfl) rfl ?_
    refine seqn rfl rfl (does_store (n := 3) (cs := [(.float .f32 0), (.float .f32 0), (.float .f32 0)]) (u := (.agg #[(.float .f32 v_x), (.float .f32 v_y), (.float .f32 v_z)])) (ev rfl) (ev rfl) Try.sizeOf31 rfl (hB19.ext E27) (Nat.le_of_ble_eq_true rfl) rfl) ?_; rintro _ w38 ⟨rfl, W36, hB37⟩
    change Blk _ _ [(.float .f32 v_x), (.float .f32 v_y), (.float .f32 v_z)] at hB37
    have X39 := Below.wr X31 W36 g24
    refine wpList_nil (hK35 _ _ ?_)
    refine wp_ret ?_
    dsimp only [Exit.then, Exit.inBlock]
    refine ret_val (v := (.agg #[(.float .f32 v_x), (.float .f32 v_y), (.float .f32 v_z)])) (res_C rfl (slot rfl) (run_loadAgg (cs := [(.float .f32 v_x), (.float .f32 v_y), (.float .f32 v_z)]) Try.isAgg31 Try.sizeOf31 (Blk.cells hB37) rfl)) X39 ?_
    try simp only [h30] at c34
    have x40 : cf .f32 v_x = (awayF (cf .f32 v_x) (cf .f32 v_y) (cf .f32 v_z) (cf .f32 n_x) (cf .f32 n_y) (cf .f32 n_z) (cf .f32 k)).1 := by first | rfl | (simp only [awayF, h30, c34]; done) | (simp [awayF, h30, c34]; done) | (revert c34; simp +contextual [awayF, h30]; done)
    have x41 : cf .f32 v_y = (awayF (cf .f32 v_x) (cf .f32 v_y) (cf .f32 v_z) (cf .f32 n_x) (cf .f32 n_y) (cf .f32 n_z) (cf .f32 k)).2.1 := by first | rfl | (simp only [awayF, h30, c34]; done) | (simp [awayF, h30, c34]; done) | (revert c34; simp +contextual [awayF, h30]; done)
    have x42 : cf .f32 v_z = (awayF (cf .f32 v_x) (cf .f32 v_y) (cf .f32 v_z) (cf .f32 n_x) (cf .f32 n_y) (cf .f32 n_z) (cf .f32 k)).2.2 := by first | rfl | (simp only [awayF, h30, c34]; done) | (simp [awayF, h30, c34]; done) | (revert c34; simp +contextual [awayF, h30]; done)
    exact ⟨v_x, v_y, v_z, rfl, x40, x41, x42⟩
  rw [Bool.not_eq_false'] at c34
  have c34' := c34
  refine wp_skip (hK32 _ _ ?_)
  refine wp_seq_k fun K43 hK43 => ?_
  refine region_draw (
    [Fact.pure [] (fun v => v = (.agg #[(.float .f32 v_x), (.float .f32 v_y), (.float .f32 v_z)])),
    Fact.pure [] (fun v => v = (.agg #[(.float .f32 n_x), (.float .f32 n_y), (.float .f32 n_z)])),
    Fact.pure [] (fun v => v = (.float .f32 r29)),
    Fact.pure [] (fun v => v = (.float .f32 k)),
    Fact.pure [17, 18] (fun v => ∃ r_1 : Nat, v = (.float .f32 r_1) ∧ cf .f32 r_1 = fop .mul .f32 (cf .f32 r29) (cf .f32 k)),
    Fact.pure [16, 19] (fun v => ∃ r_1 : Nat, ∃ r_2 : Nat, ∃ r_3 : Nat, v = (.agg #[(.float .f32 r_1), (.float .f32 r_2), (.float .f32 r_3)]) ∧ cf .f32 r_1 = fop .mul .f32 (cf .f32 n_x) (fop .mul .f32 (cf .f32 r29) (cf .f32 k)) ∧ cf .f32 r_2 = fop .mul .f32 (cf .f32 n_y) (fop .mul .f32 (cf .f32 r29) (cf .f32 k)) ∧ cf .f32 r_3 = fop .mul .f32 (cf .f32 n_z) (fop .mul .f32 (cf .f32 r29) (cf .f32 k))),
    Fact.pure [15, 20] (fun v => ∃ r_1 : Nat, ∃ r_2 : Nat, ∃ r_3 : Nat, v = (.agg #[(.float .f32 r_1), (.float .f32 r_2), (.float .f32 r_3)]) ∧ cf .f32 r_1 = fop .sub .f32 (cf .f32 v_x) (fop .mul .f32 (cf .f32 n_x) (fop .mul .f32 (cf .f32 r29) (cf .f32 k))) ∧ cf .f32 r_2 = fop .sub .f32 (cf .f32 v_y) (fop .mul .f32 (cf .f32 n_y) (fop .mul .f32 (cf .f32 r29) (cf .f32 k))) ∧ cf .f32 r_3 = fop .sub .f32 (cf .f32 v_z) (fop .mul .f32 (cf .f32 n_z) (fop .mul .f32 (cf .f32 r29) (cf .f32 k))))]) mixed (by kernel_rfl) (by intro _ _ d _ _ h; cases d <;> exact h) ?_
  obtain ⟨w44, hw46⟩ : ∃ w', w' = World.drew w28 := ⟨_, rfl⟩; rw [← hw46]; have E45 : Ext w28 w44 := by rw [hw46]; exact Ext.draw _
  clear hw46
  have X47 := Ext.gr X31 E45
  refine RW_d (fun v48 => [(.agg #[(.float .f32 v_x), (.float .f32 v_y), (.float .f32 v_z)]), (.agg #[(.float .f32 n_x), (.float .f32 n_y), (.float .f32 n_z)]), (.float .f32 k), (.pointer (some ⟨b2, 0, none⟩)), (.pointer (some ⟨b9, 0, none⟩)), undef, (.pointer (some ⟨b17, 0, none⟩)), (.float .f32 r29), (.agg #[(.float .f32 v_x), (.float .f32 v_y), (.float .f32 v_z)]), (.agg #[(.float .f32 n_x), (.float .f32 n_y), (.float .f32 n_z)]), (.float .f32 r29), (.float .f32 r29), (.bool (fcmp .lss (ford .f32 (cf .f32 r29) (cf .f32 0)))), (.bool (!(fcmp .lss (ford .f32 (cf .f32 r29) (cf .f32 0))))), undef, v48, undef, undef, undef, undef, undef, undef]) rfl (fun _ => rfl) (fun u hu hF => ?_) (fun v48 => ?_)
  · clear hF
    refine doesG_un rfl ?_
    refine (does_loadAgg (cs := [(.float .f32 v_x), (.float .f32 v_y), (.float .f32 v_z)]) (ev rfl) Try.isAgg31 Try.sizeOf31 (Blk.cells (((((hB4.ext E12).ext E20).ext E27).ext E45).ext hu)) rfl).mono ?_; rintro _ _ ⟨rfl, rfl⟩
    exact ⟨rfl, Ext.refl _⟩
  refine RW_d (fun v49 => [(.agg #[(.float .f32 v_x), (.float .f32 v_y), (.float .f32 v_z)]), (.agg #[(.float .f32 n_x), (.float .f32 n_y), (.float .f32 n_z)]), (.float .f32 k), (.pointer (some ⟨b2, 0, none⟩)), (.pointer (some ⟨b9, 0, none⟩)), undef, (.pointer (some ⟨b17, 0, none⟩)), (.float .f32 r29), (.agg #[(.float .f32 v_x), (.float .f32 v_y), (.float .f32 v_z)]), (.agg #[(.float .f32 n_x), (.float .f32 n_y), (.float .f32 n_z)]), (.float .f32 r29), (.float .f32 r29), (.bool (fcmp .lss (ford .f32 (cf .f32 r29) (cf .f32 0)))), (.bool (!(fcmp .lss (ford .f32 (cf .f32 r29) (cf .f32 0))))), undef, v48, v49, undef, undef, undef, undef, undef]) rfl (fun _ => rfl) (fun u hu hF => ?_) (fun v49 => ?_)
  · clear hF
    refine doesG_un rfl ?_
    refine (does_loadAgg (cs := [(.float .f32 n_x), (.float .f32 n_y), (.float .f32 n_z)]) (ev rfl) Try.isAgg31 Try.sizeOf31 (Blk.cells ((((hB11.ext E20).ext E27).ext E45).ext hu)) rfl).mono ?_; rintro _ _ ⟨rfl, rfl⟩
    exact ⟨rfl, Ext.refl _⟩
  refine RW_d (fun v50 => [(.agg #[(.float .f32 v_x), (.float .f32 v_y), (.float .f32 v_z)]), (.agg #[(.float .f32 n_x), (.float .f32 n_y), (.float .f32 n_z)]), (.float .f32 k), (.pointer (some ⟨b2, 0, none⟩)), (.pointer (some ⟨b9, 0, none⟩)), undef, (.pointer (some ⟨b17, 0, none⟩)), (.float .f32 r29), (.agg #[(.float .f32 v_x), (.float .f32 v_y), (.float .f32 v_z)]), (.agg #[(.float .f32 n_x), (.float .f32 n_y), (.float .f32 n_z)]), (.float .f32 r29), (.float .f32 r29), (.bool (fcmp .lss (ford .f32 (cf .f32 r29) (cf .f32 0)))), (.bool (!(fcmp .lss (ford .f32 (cf .f32 r29) (cf .f32 0))))), undef, v48, v49, v50, undef, undef, undef, undef]) rfl (fun _ => rfl) (fun u hu hF => ?_) (fun v50 => ?_)
  · clear hF
    refine doesG_un rfl ?_
    refine (does_move (u := (.float .f32 r29)) (ev rfl)).mono ?_; rintro _ _ ⟨rfl, rfl⟩
    exact ⟨rfl, Ext.refl _⟩
  refine RW_d (fun v51 => [(.agg #[(.float .f32 v_x), (.float .f32 v_y), (.float .f32 v_z)]), (.agg #[(.float .f32 n_x), (.float .f32 n_y), (.float .f32 n_z)]), (.float .f32 k), (.pointer (some ⟨b2, 0, none⟩)), (.pointer (some ⟨b9, 0, none⟩)), undef, (.pointer (some ⟨b17, 0, none⟩)), (.float .f32 r29), (.agg #[(.float .f32 v_x), (.float .f32 v_y), (.float .f32 v_z)]), (.agg #[(.float .f32 n_x), (.float .f32 n_y), (.float .f32 n_z)]), (.float .f32 r29), (.float .f32 r29), (.bool (fcmp .lss (ford .f32 (cf .f32 r29) (cf .f32 0)))), (.bool (!(fcmp .lss (ford .f32 (cf .f32 r29) (cf .f32 0))))), undef, v48, v49, v50, v51, undef, undef, undef]) rfl (fun _ => rfl) (fun u hu hF => ?_) (fun v51 => ?_)
  · clear hF
    refine doesG_un rfl ?_
    refine (does_move (u := (.float .f32 k)) (ev rfl)).mono ?_; rintro _ _ ⟨rfl, rfl⟩
    exact ⟨rfl, Ext.refl _⟩
  refine RW_d (fun v52 => [(.agg #[(.float .f32 v_x), (.float .f32 v_y), (.float .f32 v_z)]), (.agg #[(.float .f32 n_x), (.float .f32 n_y), (.float .f32 n_z)]), (.float .f32 k), (.pointer (some ⟨b2, 0, none⟩)), (.pointer (some ⟨b9, 0, none⟩)), undef, (.pointer (some ⟨b17, 0, none⟩)), (.float .f32 r29), (.agg #[(.float .f32 v_x), (.float .f32 v_y), (.float .f32 v_z)]), (.agg #[(.float .f32 n_x), (.float .f32 n_y), (.float .f32 n_z)]), (.float .f32 r29), (.float .f32 r29), (.bool (fcmp .lss (ford .f32 (cf .f32 r29) (cf .f32 0)))), (.bool (!(fcmp .lss (ford .f32 (cf .f32 r29) (cf .f32 0))))), undef, v48, v49, v50, v51, v52, undef, undef]) rfl (fun _ => rfl) (fun u hu hF => ?_) (fun v52 => ?_)
  · have h17_ : v50 = (.float .f32 r29) := hF.1
    have h18_ : v51 = (.float .f32 k) := hF.2.1
    clear hF
    obtain rfl := h17_
    obtain rfl := h18_
    refine doesG_un rfl ?_
    refine (does_float (.inr (.inr (.inl rfl))) (ev rfl) (ev rfl)).mono ?_; rintro _ _ ⟨r, rfl, hr, hx⟩
    exact ⟨⟨r, rfl, (by simp only [hr])⟩, hx⟩
  refine RW_d (fun v53 => [(.agg #[(.float .f32 v_x), (.float .f32 v_y), (.float .f32 v_z)]), (.agg #[(.float .f32 n_x), (.float .f32 n_y), (.float .f32 n_z)]), (.float .f32 k), (.pointer (some ⟨b2, 0, none⟩)), (.pointer (some ⟨b9, 0, none⟩)), undef, (.pointer (some ⟨b17, 0, none⟩)), (.float .f32 r29), (.agg #[(.float .f32 v_x), (.float .f32 v_y), (.float .f32 v_z)]), (.agg #[(.float .f32 n_x), (.float .f32 n_y), (.float .f32 n_z)]), (.float .f32 r29), (.float .f32 r29), (.bool (fcmp .lss (ford .f32 (cf .f32 r29) (cf .f32 0)))), (.bool (!(fcmp .lss (ford .f32 (cf .f32 r29) (cf .f32 0))))), undef, v48, v49, v50, v51, v52, v53, undef]) rfl (fun _ => rfl) (fun u hu hF => ?_) (fun v53 => ?_)
  · have h16_ : v49 = (.agg #[(.float .f32 n_x), (.float .f32 n_y), (.float .f32 n_z)]) := hF.1
    have h19_ : ∃ r_1 : Nat, v52 = (.float .f32 r_1) ∧ cf .f32 r_1 = fop .mul .f32 (cf .f32 r29) (cf .f32 k) := hF.2.1
    clear hF
    obtain rfl := h16_
    obtain ⟨r19_1, rfl, e19_0⟩ := h19_
    refine doesG_un rfl ?_
    refine (does_call (args := #[(.agg #[(.float .f32 n_x), (.float .f32 n_y), (.float .f32 n_z)]), (.float .f32 r19_1)]) cal100 (evs rfl) (c_spec_l01Scale n_x n_y n_z r19_1 _)).mono ?_; rintro v u' ⟨hx, ⟨rn1, rn2, rn3, hv, k0, k1, k2⟩⟩
    exact ⟨⟨rn1, rn2, rn3, hv.trans (by simp only [e19_0]), (by simp only [k0, e19_0]), (by simp only [k1, e19_0]), (by simp only [k2, e19_0])⟩, hx⟩
  refine RW_d (fun v54 => [(.agg #[(.float .f32 v_x), (.float .f32 v_y), (.float .f32 v_z)]), (.agg #[(.float .f32 n_x), (.float .f32 n_y), (.float .f32 n_z)]), (.float .f32 k), (.pointer (some ⟨b2, 0, none⟩)), (.pointer (some ⟨b9, 0, none⟩)), undef, (.pointer (some ⟨b17, 0, none⟩)), (.float .f32 r29), (.agg #[(.float .f32 v_x), (.float .f32 v_y), (.float .f32 v_z)]), (.agg #[(.float .f32 n_x), (.float .f32 n_y), (.float .f32 n_z)]), (.float .f32 r29), (.float .f32 r29), (.bool (fcmp .lss (ford .f32 (cf .f32 r29) (cf .f32 0)))), (.bool (!(fcmp .lss (ford .f32 (cf .f32 r29) (cf .f32 0))))), undef, v48, v49, v50, v51, v52, v53, v54]) rfl (fun _ => rfl) (fun u hu hF => ?_) (fun v54 => ?_)
  · have h15_ : v48 = (.agg #[(.float .f32 v_x), (.float .f32 v_y), (.float .f32 v_z)]) := hF.1
    have h20_ : ∃ r_1 : Nat, ∃ r_2 : Nat, ∃ r_3 : Nat, v53 = (.agg #[(.float .f32 r_1), (.float .f32 r_2), (.float .f32 r_3)]) ∧ cf .f32 r_1 = fop .mul .f32 (cf .f32 n_x) (fop .mul .f32 (cf .f32 r29) (cf .f32 k)) ∧ cf .f32 r_2 = fop .mul .f32 (cf .f32 n_y) (fop .mul .f32 (cf .f32 r29) (cf .f32 k)) ∧ cf .f32 r_3 = fop .mul .f32 (cf .f32 n_z) (fop .mul .f32 (cf .f32 r29) (cf .f32 k)) := hF.2.1
    clear hF
    obtain rfl := h15_
    obtain ⟨r20_1, r20_2, r20_3, rfl, e20_0, e20_1, e20_2⟩ := h20_
    refine doesG_un rfl ?_
    refine (does_call (args := #[(.agg #[(.float .f32 v_x), (.float .f32 v_y), (.float .f32 v_z)]), (.agg #[(.float .f32 r20_1), (.float .f32 r20_2), (.float .f32 r20_3)])]) cal78 (evs rfl) (c_spec_l01Less v_x v_y v_z r20_1 r20_2 r20_3 _)).mono ?_; rintro v u' ⟨hx, ⟨rn1, rn2, rn3, hv, k0, k1, k2⟩⟩
    exact ⟨⟨rn1, rn2, rn3, hv.trans (by simp only [e20_0, e20_1, e20_2]), (by simp only [k0, e20_0, e20_1, e20_2]), (by simp only [k1, e20_0, e20_1, e20_2]), (by simp only [k2, e20_0, e20_1, e20_2])⟩, hx⟩
  refine RW_fin ?_; intro w55 E56 hP57
  obtain ⟨⟨⟨⟨⟨⟨⟨-, -⟩, -⟩, -⟩, -⟩, -⟩, -⟩, q58⟩ := hP57
  have X59 := Ext.gr X47 E56
  have q58 : ∃ r_1 : Nat, ∃ r_2 : Nat, ∃ r_3 : Nat, v54 = (.agg #[(.float .f32 r_1), (.float .f32 r_2), (.float .f32 r_3)]) ∧ cf .f32 r_1 = fop .sub .f32 (cf .f32 v_x) (fop .mul .f32 (cf .f32 n_x) (fop .mul .f32 (cf .f32 r29) (cf .f32 k))) ∧ cf .f32 r_2 = fop .sub .f32 (cf .f32 v_y) (fop .mul .f32 (cf .f32 n_y) (fop .mul .f32 (cf .f32 r29) (cf .f32 k))) ∧ cf .f32 r_3 = fop .sub .f32 (cf .f32 v_z) (fop .mul .f32 (cf .f32 n_z) (fop .mul .f32 (cf .f32 r29) (cf .f32 k))) := q58
  obtain ⟨r60, r61, r62, rfl, h63, h64, h65⟩ := q58
  show wpList _ _ _ _ (fr [(.agg #[(.float .f32 v_x), (.float .f32 v_y), (.float .f32 v_z)]), (.agg #[(.float .f32 n_x), (.float .f32 n_y), (.float .f32 n_z)]), (.float .f32 k), (.pointer (some ⟨b2, 0, none⟩)), (.pointer (some ⟨b9, 0, none⟩)), undef, (.pointer (some ⟨b17, 0, none⟩)), (.float .f32 r29), (.agg #[(.float .f32 v_x), (.float .f32 v_y), (.float .f32 v_z)]), (.agg #[(.float .f32 n_x), (.float .f32 n_y), (.float .f32 n_z)]), (.float .f32 r29), (.float .f32 r29), (.bool (fcmp .lss (ford .f32 (cf .f32 r29) (cf .f32 0)))), (.bool (!(fcmp .lss (ford .f32 (cf .f32 r29) (cf .f32 0))))), undef, v48, v49, v50, v51, v52, v53, (.agg #[(.float .f32 r60), (.float .f32 r61), (.float .f32 r62)])]) _
  refine seqn rfl rfl (does_store (n := 3) (cs := [(.float .f32 0), (.float .f32 0), (.float .f32 0)]) (u := (.agg #[(.float .f32 r60), (.float .f32 r61), (.float .f32 r62)])) (ev rfl) (ev rfl) Try.sizeOf31 rfl (((hB19.ext E27).ext E45).ext E56) (Nat.le_of_ble_eq_true rfl) rfl) ?_; rintro _ w68 ⟨rfl, W66, hB67⟩
  change Blk _ _ [(.float .f32 r60), (.float .f32 r61), (.float .f32 r62)] at hB67
  have X69 := Below.wr X59 W66 g24
  refine wpList_nil (hK43 _ _ ?_)
  refine wp_ret ?_
  refine ret_val (v := (.agg #[(.float .f32 r60), (.float .f32 r61), (.float .f32 r62)])) (res_C rfl (slot rfl) (run_loadAgg (cs := [(.float .f32 r60), (.float .f32 r61), (.float .f32 r62)]) Try.isAgg31 Try.sizeOf31 (Blk.cells hB67) rfl)) X69 ?_
  try simp only [h30, h63, h64, h65] at c34
  have x70 : cf .f32 r60 = (awayF (cf .f32 v_x) (cf .f32 v_y) (cf .f32 v_z) (cf .f32 n_x) (cf .f32 n_y) (cf .f32 n_z) (cf .f32 k)).1 := by first | rfl | (simp only [awayF, h30, h63, h64, h65, c34]; done) | (simp [awayF, h30, h63, h64, h65, c34]; done) | (revert c34; simp +contextual [awayF, h30, h63, h64, h65]; done)
  have x71 : cf .f32 r61 = (awayF (cf .f32 v_x) (cf .f32 v_y) (cf .f32 v_z) (cf .f32 n_x) (cf .f32 n_y) (cf .f32 n_z) (cf .f32 k)).2.1 := by first | rfl | (simp only [awayF, h30, h63, h64, h65, c34]; done) | (simp [awayF, h30, h63, h64, h65, c34]; done) | (revert c34; simp +contextual [awayF, h30, h63, h64, h65]; done)
  have x72 : cf .f32 r62 = (awayF (cf .f32 v_x) (cf .f32 v_y) (cf .f32 v_z) (cf .f32 n_x) (cf .f32 n_y) (cf .f32 n_z) (cf .f32 k)).2.2 := by first | rfl | (simp only [awayF, h30, h63, h64, h65, c34]; done) | (simp [awayF, h30, h63, h64, h65, c34]; done) | (revert c34; simp +contextual [awayF, h30, h63, h64, h65]; done)
  exact ⟨r60, r61, r62, rfl, x70, x71, x72⟩

/- spec.BounceOff -/
theorem c_spec_BounceOff (v_x : Nat) (v_y : Nat) (v_z : Nat) (n_x : Nat) (n_y : Nat) (n_z : Nat) (k : Nat) (w : World) : Gives Try.prog 27 #[(.agg #[(.float .f32 v_x), (.float .f32 v_y), (.float .f32 v_z)]), (.agg #[(.float .f32 n_x), (.float .f32 n_y), (.float .f32 n_z)]), (.float .f32 k)] w (fun v w' => ∃ r_1 : Nat, ∃ r_2 : Nat, ∃ r_3 : Nat, v = (.agg #[(.float .f32 r_1), (.float .f32 r_2), (.float .f32 r_3)]) ∧ cf .f32 r_1 = (awayF (cf .f32 v_x) (cf .f32 v_y) (cf .f32 v_z) (cf .f32 n_x) (cf .f32 n_y) (cf .f32 n_z) (fop .add .f32 (cf .f32 1065353216) (cf .f32 k))).1 ∧ cf .f32 r_2 = (awayF (cf .f32 v_x) (cf .f32 v_y) (cf .f32 v_z) (cf .f32 n_x) (cf .f32 n_y) (cf .f32 n_z) (fop .add .f32 (cf .f32 1065353216) (cf .f32 k))).2.1 ∧ cf .f32 r_3 = (awayF (cf .f32 v_x) (cf .f32 v_y) (cf .f32 v_z) (cf .f32 n_x) (cf .f32 n_y) (cf .f32 n_z) (fop .add .f32 (cf .f32 1065353216) (cf .f32 k))).2.2) := by
  refine enter [(.agg #[(.float .f32 v_x), (.float .f32 v_y), (.float .f32 v_z)]), (.agg #[(.float .f32 n_x), (.float .f32 n_y), (.float .f32 n_z)]), (.float .f32 k), undef, undef, undef, undef, undef, undef, undef, undef, undef] Try.func27 rfl Try.ntmps27 rfl ?_
  refine wp_seq_k fun K1 hK1 => ?_
  refine wp_region_lit ?_
  refine seqd rfl rfl (does_box (u := (.agg #[(.float .f32 v_x), (.float .f32 v_y), (.float .f32 v_z)])) (ev rfl)) ?_; rintro _ w6 ⟨b2, rfl, hb3, hB4, E5⟩
  have g7 : w.heap.size ≤ b2 := Nat.le_trans (Below.size (Ext.refl w)) hb3
  change Blk _ _ [(.float .f32 v_x), (.float .f32 v_y), (.float .f32 v_z)] at hB4
  have X8 := Ext.gr (Ext.refl w) E5
  show wpList _ _ _ _ (fr [(.agg #[(.float .f32 v_x), (.float .f32 v_y), (.float .f32 v_z)]), (.agg #[(.float .f32 n_x), (.float .f32 n_y), (.float .f32 n_z)]), (.float .f32 k), (.pointer (some ⟨b2, 0, none⟩)), undef, undef, undef, undef, undef, undef, undef, undef]) _
  refine seqd rfl rfl (does_box (u := (.agg #[(.float .f32 n_x), (.float .f32 n_y), (.float .f32 n_z)])) (ev rfl)) ?_; rintro _ w13 ⟨b9, rfl, hb10, hB11, E12⟩
  have n14 : b2 < b9 := Nat.lt_of_lt_of_le (Blk.lt hB4) hb10
  have g15 : w.heap.size ≤ b9 := Nat.le_trans (Below.size X8) hb10
  change Blk _ _ [(.float .f32 n_x), (.float .f32 n_y), (.float .f32 n_z)] at hB11
  have X16 := Ext.gr X8 E12
  show wpList _ _ _ _ (fr [(.agg #[(.float .f32 v_x), (.float .f32 v_y), (.float .f32 v_z)]), (.agg #[(.float .f32 n_x), (.float .f32 n_y), (.float .f32 n_z)]), (.float .f32 k), (.pointer (some ⟨b2, 0, none⟩)), (.pointer (some ⟨b9, 0, none⟩)), undef, undef, undef, undef, undef, undef, undef]) _
  refine seqd rfl rfl (does_alloc z31) ?_; rintro _ w21 ⟨b17, rfl, hb18, hB19, E20⟩
  have n22 : b2 < b17 := Nat.lt_of_lt_of_le (Blk.lt (hB4.ext E12)) hb18
  have n23 : b9 < b17 := Nat.lt_of_lt_of_le (Blk.lt hB11) hb18
  have g24 : w.heap.size ≤ b17 := Nat.le_trans (Below.size X16) hb18
  change Blk _ _ [(.float .f32 0), (.float .f32 0), (.float .f32 0)] at hB19
  have X25 := Ext.gr X16 E20
  show wpList _ _ _ _ (fr [(.agg #[(.float .f32 v_x), (.float .f32 v_y), (.float .f32 v_z)]), (.agg #[(.float .f32 n_x), (.float .f32 n_y), (.float .f32 n_z)]), (.float .f32 k), (.pointer (some ⟨b2, 0, none⟩)), (.pointer (some ⟨b9, 0, none⟩)), undef, (.pointer (some ⟨b17, 0, none⟩)), undef, undef, undef, undef, undef]) _
  refine wpList_nil (hK1 _ _ ?_)
  refine wp_seq_k fun K26 hK26 => ?_
  refine wp_region_lit ?_
  refine q_is (l' := [(.agg #[(.float .f32 v_x), (.float .f32 v_y), (.float .f32 v_z)]), (.agg #[(.float .f32 n_x), (.float .f32 n_y), (.float .f32 n_z)]), (.float .f32 k), (.pointer (some ⟨b2, 0, none⟩)), (.pointer (some ⟨b9, 0, none⟩)), undef, (.pointer (some ⟨b17, 0, none⟩)), (.agg #[(.float .f32 v_x), (.float .f32 v_y), (.float .f32 v_z)]), undef, undef, undef, undef]) rfl rfl (does_loadAgg (cs := [(.float .f32 v_x), (.float .f32 v_y), (.float .f32 v_z)]) (ev rfl) Try.isAgg31 Try.sizeOf31 (Blk.cells ((hB4.ext E12).ext E20)) rfl) rfl ?_
  refine q_is (l' := [(.agg #[(.float .f32 v_x), (.float .f32 v_y), (.float .f32 v_z)]), (.agg #[(.float .f32 n_x), (.float .f32 n_y), (.float .f32 n_z)]), (.float .f32 k), (.pointer (some ⟨b2, 0, none⟩)), (.pointer (some ⟨b9, 0, none⟩)), undef, (.pointer (some ⟨b17, 0, none⟩)), (.agg #[(.float .f32 v_x), (.float .f32 v_y), (.float .f32 v_z)]), (.agg #[(.float .f32 n_x), (.float .f32 n_y), (.float .f32 n_z)]), undef, undef, undef]) rfl rfl (does_loadAgg (cs := [(.float .f32 n_x), (.float .f32 n_y), (.float .f32 n_z)]) (ev rfl) Try.isAgg31 Try.sizeOf31 (Blk.cells (hB11.ext E20)) rfl) rfl ?_
  refine q_is (l' := [(.agg #[(.float .f32 v_x), (.float .f32 v_y), (.float .f32 v_z)]), (.agg #[(.float .f32 n_x), (.float .f32 n_y), (.float .f32 n_z)]), (.float .f32 k), (.pointer (some ⟨b2, 0, none⟩)), (.pointer (some ⟨b9, 0, none⟩)), undef, (.pointer (some ⟨b17, 0, none⟩)), (.agg #[(.float .f32 v_x), (.float .f32 v_y), (.float .f32 v_z)]), (.agg #[(.float .f32 n_x), (.float .f32 n_y), (.float .f32 n_z)]), (.float .f32 k), undef, undef]) rfl rfl (does_move (u := (.float .f32 k)) (ev rfl)) rfl ?_
  refine seqd rfl rfl (does_float (.inl rfl) (ev rfl) (ev rfl)) ?_; rintro _ w30 ⟨r27, rfl, h28, E29⟩
  have X31 := Ext.gr X25 E29
  show wpList _ _ _ _ (fr [(.agg #[(.float .f32 v_x), (.float .f32 v_y), (.float .f32 v_z)]), (.agg #[(.float .f32 n_x), (.float .f32 n_y), (.float .f32 n_z)]), (.float .f32 k), (.pointer (some ⟨b2, 0, none⟩)), (.pointer (some ⟨b9, 0, none⟩)), undef, (.pointer (some ⟨b17, 0, none⟩)), (.agg #[(.float .f32 v_x), (.float .f32 v_y), (.float .f32 v_z)]), (.agg #[(.float .f32 n_x), (.float .f32 n_y), (.float .f32 n_z)]), (.float .f32 k), (.float .f32 r27), undef]) _
  refine seqd rfl rfl (does_call (args := #[(.agg #[(.float .f32 v_x), (.float .f32 v_y), (.float .f32 v_z)]), (.agg #[(.float .f32 n_x), (.float .f32 n_y), (.float .f32 n_z)]), (.float .f32 r27)]) cal57 (evs rfl) (c_spec_l08Away v_x v_y v_z n_x n_y n_z r27 _)) ?_; rintro _ w33 ⟨E32, ⟨r34, r35, r36, rfl, h37, h38, h39⟩⟩
  have X40 := Ext.gr X31 E32
  show wpList _ _ _ _ (fr [(.agg #[(.float .f32 v_x), (.float .f32 v_y), (.float .f32 v_z)]), (.agg #[(.float .f32 n_x), (.float .f32 n_y), (.float .f32 n_z)]), (.float .f32 k), (.pointer (some ⟨b2, 0, none⟩)), (.pointer (some ⟨b9, 0, none⟩)), undef, (.pointer (some ⟨b17, 0, none⟩)), (.agg #[(.float .f32 v_x), (.float .f32 v_y), (.float .f32 v_z)]), (.agg #[(.float .f32 n_x), (.float .f32 n_y), (.float .f32 n_z)]), (.float .f32 k), (.float .f32 r27), (.agg #[(.float .f32 r34), (.float .f32 r35), (.float .f32 r36)])]) _
  refine seqn rfl rfl (does_store (n := 3) (cs := [(.float .f32 0), (.float .f32 0), (.float .f32 0)]) (u := (.agg #[(.float .f32 r34), (.float .f32 r35), (.float .f32 r36)])) (ev rfl) (ev rfl) Try.sizeOf31 rfl ((hB19.ext E29).ext E32) (Nat.le_of_ble_eq_true rfl) rfl) ?_; rintro _ w43 ⟨rfl, W41, hB42⟩
  change Blk _ _ [(.float .f32 r34), (.float .f32 r35), (.float .f32 r36)] at hB42
  have X44 := Below.wr X40 W41 g24
  refine wpList_nil (hK26 _ _ ?_)
  refine wp_ret ?_
  refine ret_val (v := (.agg #[(.float .f32 r34), (.float .f32 r35), (.float .f32 r36)])) (res_C rfl (slot rfl) (run_loadAgg (cs := [(.float .f32 r34), (.float .f32 r35), (.float .f32 r36)]) Try.isAgg31 Try.sizeOf31 (Blk.cells hB42) rfl)) X44 ?_
  have x45 : cf .f32 r34 = (awayF (cf .f32 v_x) (cf .f32 v_y) (cf .f32 v_z) (cf .f32 n_x) (cf .f32 n_y) (cf .f32 n_z) (fop .add .f32 (cf .f32 1065353216) (cf .f32 k))).1 := by first | rfl | (simp only [awayF, h28, h37, h38, h39]; done) | (simp [awayF, h28, h37, h38, h39]; done)
  have x46 : cf .f32 r35 = (awayF (cf .f32 v_x) (cf .f32 v_y) (cf .f32 v_z) (cf .f32 n_x) (cf .f32 n_y) (cf .f32 n_z) (fop .add .f32 (cf .f32 1065353216) (cf .f32 k))).2.1 := by first | rfl | (simp only [awayF, h28, h37, h38, h39]; done) | (simp [awayF, h28, h37, h38, h39]; done)
  have x47 : cf .f32 r36 = (awayF (cf .f32 v_x) (cf .f32 v_y) (cf .f32 v_z) (cf .f32 n_x) (cf .f32 n_y) (cf .f32 n_z) (fop .add .f32 (cf .f32 1065353216) (cf .f32 k))).2.2 := by first | rfl | (simp only [awayF, h28, h37, h38, h39]; done) | (simp [awayF, h28, h37, h38, h39]; done)
  exact ⟨r34, r35, r36, rfl, x45, x46, x47⟩

/- impl.InnerOf -/
theorem c_impl_InnerOf (a_x : Nat) (a_y : Nat) (a_z : Nat) (b_x : Nat) (b_y : Nat) (b_z : Nat) (w : World) : Gives Try.prog 58 #[(.agg #[(.float .f32 a_x), (.float .f32 a_y), (.float .f32 a_z)]), (.agg #[(.float .f32 b_x), (.float .f32 b_y), (.float .f32 b_z)])] w (fun v w' => ∃ r_1 : Nat, v = (.float .f32 r_1) ∧ cf .f32 r_1 = innerF (cf .f32 a_x) (cf .f32 a_y) (cf .f32 a_z) (cf .f32 b_x) (cf .f32 b_y) (cf .f32 b_z)) := by
  refine enter [(.agg #[(.float .f32 a_x), (.float .f32 a_y), (.float .f32 a_z)]), (.agg #[(.float .f32 b_x), (.float .f32 b_y), (.float .f32 b_z)]), undef, undef, undef, undef, undef, undef, undef, undef, undef, undef, undef, undef, undef, undef, undef, undef, undef, undef, undef, undef] Try.func58 rfl Try.ntmps58 rfl ?_
  refine wp_seq_k fun K1 hK1 => ?_
  refine wp_region_lit ?_
  refine seqd rfl rfl (does_box (u := (.agg #[(.float .f32 a_x), (.float .f32 a_y), (.float .f32 a_z)])) (ev rfl)) ?_; rintro _ w6 ⟨b2, rfl, hb3, hB4, E5⟩
  have g7 : w.heap.size ≤ b2 := Nat.le_trans (Below.size (Ext.refl w)) hb3
  change Blk _ _ [(.float .f32 a_x), (.float .f32 a_y), (.float .f32 a_z)] at hB4
  have X8 := Ext.gr (Ext.refl w) E5
  show wpList _ _ _ _ (fr [(.agg #[(.float .f32 a_x), (.float .f32 a_y), (.float .f32 a_z)]), (.agg #[(.float .f32 b_x), (.float .f32 b_y), (.float .f32 b_z)]), (.pointer (some ⟨b2, 0, none⟩)), undef, undef, undef, undef, undef, undef, undef, undef, undef, undef, undef, undef, undef, undef, undef, undef, undef, undef, undef]) _
  refine seqd rfl rfl (does_box (u := (.agg #[(.float .f32 b_x), (.float .f32 b_y), (.float .f32 b_z)])) (ev rfl)) ?_; rintro _ w13 ⟨b9, rfl, hb10, hB11, E12⟩
  have n14 : b2 < b9 := Nat.lt_of_lt_of_le (Blk.lt hB4) hb10
  have g15 : w.heap.size ≤ b9 := Nat.le_trans (Below.size X8) hb10
  change Blk _ _ [(.float .f32 b_x), (.float .f32 b_y), (.float .f32 b_z)] at hB11
  have X16 := Ext.gr X8 E12
  show wpList _ _ _ _ (fr [(.agg #[(.float .f32 a_x), (.float .f32 a_y), (.float .f32 a_z)]), (.agg #[(.float .f32 b_x), (.float .f32 b_y), (.float .f32 b_z)]), (.pointer (some ⟨b2, 0, none⟩)), (.pointer (some ⟨b9, 0, none⟩)), undef, undef, undef, undef, undef, undef, undef, undef, undef, undef, undef, undef, undef, undef, undef, undef, undef, undef]) _
  refine q_is (l' := [(.agg #[(.float .f32 a_x), (.float .f32 a_y), (.float .f32 a_z)]), (.agg #[(.float .f32 b_x), (.float .f32 b_y), (.float .f32 b_z)]), (.pointer (some ⟨b2, 0, none⟩)), (.pointer (some ⟨b9, 0, none⟩)), (.float .f32 0), undef, undef, undef, undef, undef, undef, undef, undef, undef, undef, undef, undef, undef, undef, undef, undef, undef]) rfl rfl (does_assign (u := (.float .f32 0)) (ev rfl)) rfl ?_
  refine wpList_nil (hK1 _ _ ?_)
  refine wp_seq_k fun K17 hK17 => ?_
  refine wp_region_lit ?_
  refine q_is (l' := [(.agg #[(.float .f32 a_x), (.float .f32 a_y), (.float .f32 a_z)]), (.agg #[(.float .f32 b_x), (.float .f32 b_y), (.float .f32 b_z)]), (.pointer (some ⟨b2, 0, none⟩)), (.pointer (some ⟨b9, 0, none⟩)), (.float .f32 0), (.pointer (some ⟨b2, 0, none⟩)), undef, undef, undef, undef, undef, undef, undef, undef, undef, undef, undef, undef, undef, undef, undef, undef]) rfl rfl (does_fieldAddr (ev rfl) fa31_0) rfl ?_
  refine q_is (l' := [(.agg #[(.float .f32 a_x), (.float .f32 a_y), (.float .f32 a_z)]), (.agg #[(.float .f32 b_x), (.float .f32 b_y), (.float .f32 b_z)]), (.pointer (some ⟨b2, 0, none⟩)), (.pointer (some ⟨b9, 0, none⟩)), (.float .f32 0), (.pointer (some ⟨b2, 0, none⟩)), (.float .f32 a_x), undef, undef, undef, undef, undef, undef, undef, undef, undef, undef, undef, undef, undef, undef, undef]) rfl rfl (does_load (u := (.float .f32 a_x)) (ev rfl) Try.isAgg25 (Cells.at (Blk.cells (hB4.ext E12)) 0 rfl)) rfl ?_
  refine q_is (l' := [(.agg #[(.float .f32 a_x), (.float .f32 a_y), (.float .f32 a_z)]), (.agg #[(.float .f32 b_x), (.float .f32 b_y), (.float .f32 b_z)]), (.pointer (some ⟨b2, 0, none⟩)), (.pointer (some ⟨b9, 0, none⟩)), (.float .f32 0), (.pointer (some ⟨b2, 0, none⟩)), (.float .f32 a_x), (.pointer (some ⟨b9, 0, none⟩)), undef, undef, undef, undef, undef, undef, undef, undef, undef, undef, undef, undef, undef, undef]) rfl rfl (does_fieldAddr (ev rfl) fa31_0) rfl ?_
  refine q_is (l' := [(.agg #[(.float .f32 a_x), (.float .f32 a_y), (.float .f32 a_z)]), (.agg #[(.float .f32 b_x), (.float .f32 b_y), (.float .f32 b_z)]), (.pointer (some ⟨b2, 0, none⟩)), (.pointer (some ⟨b9, 0, none⟩)), (.float .f32 0), (.pointer (some ⟨b2, 0, none⟩)), (.float .f32 a_x), (.pointer (some ⟨b9, 0, none⟩)), (.float .f32 b_x), undef, undef, undef, undef, undef, undef, undef, undef, undef, undef, undef, undef, undef]) rfl rfl (does_load (u := (.float .f32 b_x)) (ev rfl) Try.isAgg25 (Cells.at (Blk.cells hB11) 0 rfl)) rfl ?_
  refine seqd rfl rfl (does_float (.inr (.inr (.inl rfl))) (ev rfl) (ev rfl)) ?_; rintro _ w21 ⟨r18, rfl, h19, E20⟩
  have X22 := Ext.gr X16 E20
  show wpList _ _ _ _ (fr [(.agg #[(.float .f32 a_x), (.float .f32 a_y), (.float .f32 a_z)]), (.agg #[(.float .f32 b_x), (.float .f32 b_y), (.float .f32 b_z)]), (.pointer (some ⟨b2, 0, none⟩)), (.pointer (some ⟨b9, 0, none⟩)), (.float .f32 0), (.pointer (some ⟨b2, 0, none⟩)), (.float .f32 a_x), (.pointer (some ⟨b9, 0, none⟩)), (.float .f32 b_x), (.float .f32 r18), undef, undef, undef, undef, undef, undef, undef, undef, undef, undef, undef, undef]) _
  refine q_is (l' := [(.agg #[(.float .f32 a_x), (.float .f32 a_y), (.float .f32 a_z)]), (.agg #[(.float .f32 b_x), (.float .f32 b_y), (.float .f32 b_z)]), (.pointer (some ⟨b2, 0, none⟩)), (.pointer (some ⟨b9, 0, none⟩)), (.float .f32 0), (.pointer (some ⟨b2, 0, none⟩)), (.float .f32 a_x), (.pointer (some ⟨b9, 0, none⟩)), (.float .f32 b_x), (.float .f32 r18), (.pointer (some ⟨b2, 1, none⟩)), undef, undef, undef, undef, undef, undef, undef, undef, undef, undef, undef]) rfl rfl (does_fieldAddr (ev rfl) fa31_1) rfl ?_
  refine q_is (l' := [(.agg #[(.float .f32 a_x), (.float .f32 a_y), (.float .f32 a_z)]), (.agg #[(.float .f32 b_x), (.float .f32 b_y), (.float .f32 b_z)]), (.pointer (some ⟨b2, 0, none⟩)), (.pointer (some ⟨b9, 0, none⟩)), (.float .f32 0), (.pointer (some ⟨b2, 0, none⟩)), (.float .f32 a_x), (.pointer (some ⟨b9, 0, none⟩)), (.float .f32 b_x), (.float .f32 r18), (.pointer (some ⟨b2, 1, none⟩)), (.float .f32 a_y), undef, undef, undef, undef, undef, undef, undef, undef, undef, undef]) rfl rfl (does_load (u := (.float .f32 a_y)) (ev rfl) Try.isAgg25 (Cells.at (Blk.cells ((hB4.ext E12).ext E20)) 1 rfl)) rfl ?_
  refine q_is (l' := [(.agg #[(.float .f32 a_x), (.float .f32 a_y), (.float .f32 a_z)]), (.agg #[(.float .f32 b_x), (.float .f32 b_y), (.float .f32 b_z)]), (.pointer (some ⟨b2, 0, none⟩)), (.pointer (some ⟨b9, 0, none⟩)), (.float .f32 0), (.pointer (some ⟨b2, 0, none⟩)), (.float .f32 a_x), (.pointer (some ⟨b9, 0, none⟩)), (.float .f32 b_x), (.float .f32 r18), (.pointer (some ⟨b2, 1, none⟩)), (.float .f32 a_y), (.pointer (some ⟨b9, 1, none⟩)), undef, undef, undef, undef, undef, undef, undef, undef, undef]) rfl rfl (does_fieldAddr (ev rfl) fa31_1) rfl ?_
  refine q_is (l' := [(.agg #[(.float .f32 a_x), (.float .f32 a_y), (.float .f32 a_z)]), (.agg #[(.float .f32 b_x), (.float .f32 b_y), (.float .f32 b_z)]), (.pointer (some ⟨b2, 0, none⟩)), (.pointer (some ⟨b9, 0, none⟩)), (.float .f32 0), (.pointer (some ⟨b2, 0, none⟩)), (.float .f32 a_x), (.pointer (some ⟨b9, 0, none⟩)), (.float .f32 b_x), (.float .f32 r18), (.pointer (some ⟨b2, 1, none⟩)), (.float .f32 a_y), (.pointer (some ⟨b9, 1, none⟩)), (.float .f32 b_y), undef, undef, undef, undef, undef, undef, undef, undef]) rfl rfl (does_load (u := (.float .f32 b_y)) (ev rfl) Try.isAgg25 (Cells.at (Blk.cells (hB11.ext E20)) 1 rfl)) rfl ?_
  refine seqd rfl rfl (does_float (.inr (.inr (.inl rfl))) (ev rfl) (ev rfl)) ?_; rintro _ w26 ⟨r23, rfl, h24, E25⟩
  have X27 := Ext.gr X22 E25
  show wpList _ _ _ _ (fr [(.agg #[(.float .f32 a_x), (.float .f32 a_y), (.float .f32 a_z)]), (.agg #[(.float .f32 b_x), (.float .f32 b_y), (.float .f32 b_z)]), (.pointer (some ⟨b2, 0, none⟩)), (.pointer (some ⟨b9, 0, none⟩)), (.float .f32 0), (.pointer (some ⟨b2, 0, none⟩)), (.float .f32 a_x), (.pointer (some ⟨b9, 0, none⟩)), (.float .f32 b_x), (.float .f32 r18), (.pointer (some ⟨b2, 1, none⟩)), (.float .f32 a_y), (.pointer (some ⟨b9, 1, none⟩)), (.float .f32 b_y), (.float .f32 r23), undef, undef, undef, undef, undef, undef, undef]) _
  refine seqd rfl rfl (does_float (.inl rfl) (ev rfl) (ev rfl)) ?_; rintro _ w31 ⟨r28, rfl, h29, E30⟩
  have X32 := Ext.gr X27 E30
  show wpList _ _ _ _ (fr [(.agg #[(.float .f32 a_x), (.float .f32 a_y), (.float .f32 a_z)]), (.agg #[(.float .f32 b_x), (.float .f32 b_y), (.float .f32 b_z)]), (.pointer (some ⟨b2, 0, none⟩)), (.pointer (some ⟨b9, 0, none⟩)), (.float .f32 0), (.pointer (some ⟨b2, 0, none⟩)), (.float .f32 a_x), (.pointer (some ⟨b9, 0, none⟩)), (.float .f32 b_x), (.float .f32 r18), (.pointer (some ⟨b2, 1, none⟩)), (.float .f32 a_y), (.pointer (some ⟨b9, 1, none⟩)), (.float .f32 b_y), (.float .f32 r23), (.float .f32 r28), undef, undef, undef, undef, undef, undef]) _
  refine q_is (l' := [(.agg #[(.float .f32 a_x), (.float .f32 a_y), (.float .f32 a_z)]), (.agg #[(.float .f32 b_x), (.float .f32 b_y), (.float .f32 b_z)]), (.pointer (some ⟨b2, 0, none⟩)), (.pointer (some ⟨b9, 0, none⟩)), (.float .f32 0), (.pointer (some ⟨b2, 0, none⟩)), (.float .f32 a_x), (.pointer (some ⟨b9, 0, none⟩)), (.float .f32 b_x), (.float .f32 r18), (.pointer (some ⟨b2, 1, none⟩)), (.float .f32 a_y), (.pointer (some ⟨b9, 1, none⟩)), (.float .f32 b_y), (.float .f32 r23), (.float .f32 r28), (.pointer (some ⟨b2, 2, none⟩)), undef, undef, undef, undef, undef]) rfl rfl (does_fieldAddr (ev rfl) fa31_2) rfl ?_
  refine q_is (l' := [(.agg #[(.float .f32 a_x), (.float .f32 a_y), (.float .f32 a_z)]), (.agg #[(.float .f32 b_x), (.float .f32 b_y), (.float .f32 b_z)]), (.pointer (some ⟨b2, 0, none⟩)), (.pointer (some ⟨b9, 0, none⟩)), (.float .f32 0), (.pointer (some ⟨b2, 0, none⟩)), (.float .f32 a_x), (.pointer (some ⟨b9, 0, none⟩)), (.float .f32 b_x), (.float .f32 r18), (.pointer (some ⟨b2, 1, none⟩)), (.float .f32 a_y), (.pointer (some ⟨b9, 1, none⟩)), (.float .f32 b_y), (.float .f32 r23), (.float .f32 r28), (.pointer (some ⟨b2, 2, none⟩)), (.float .f32 a_z), undef, undef, undef, undef]) rfl rfl (does_load (u := (.float .f32 a_z)) (ev rfl) Try.isAgg25 (Cells.at (Blk.cells ((((hB4.ext E12).ext E20).ext E25).ext E30)) 2 rfl)) rfl ?_
  refine q_is (l' := [(.agg #[(.float .f32 a_x), (.float .f32 a_y), (.float .f32 a_z)]), (.agg #[(.float .f32 b_x), (.float .f32 b_y), (.float .f32 b_z)]), (.pointer (some ⟨b2, 0, none⟩)), (.pointer (some ⟨b9, 0, none⟩)), (.float .f32 0), (.pointer (some ⟨b2, 0, none⟩)), (.float .f32 a_x), (.pointer (some ⟨b9, 0, none⟩)), (.float .f32 b_x), (.float .f32 r18), (.pointer (some ⟨b2, 1, none⟩)), (.float .f32 a_y), (.pointer (some ⟨b9, 1, none⟩)), (.float .f32 b_y), (.float .f32 r23), (.float .f32 r28), (.pointer (some ⟨b2, 2, none⟩)), (.float .f32 a_z), (.pointer (some ⟨b9, 2, none⟩)), undef, undef, undef]) rfl rfl (does_fieldAddr (ev rfl) fa31_2) rfl ?_
  refine q_is (l' := [(.agg #[(.float .f32 a_x), (.float .f32 a_y), (.float .f32 a_z)]), (.agg #[(.float .f32 b_x), (.float .f32 b_y), (.float .f32 b_z)]), (.pointer (some ⟨b2, 0, none⟩)), (.pointer (some ⟨b9, 0, none⟩)), (.float .f32 0), (.pointer (some ⟨b2, 0, none⟩)), (.float .f32 a_x), (.pointer (some ⟨b9, 0, none⟩)), (.float .f32 b_x), (.float .f32 r18), (.pointer (some ⟨b2, 1, none⟩)), (.float .f32 a_y), (.pointer (some ⟨b9, 1, none⟩)), (.float .f32 b_y), (.float .f32 r23), (.float .f32 r28), (.pointer (some ⟨b2, 2, none⟩)), (.float .f32 a_z), (.pointer (some ⟨b9, 2, none⟩)), (.float .f32 b_z), undef, undef]) rfl rfl (does_load (u := (.float .f32 b_z)) (ev rfl) Try.isAgg25 (Cells.at (Blk.cells (((hB11.ext E20).ext E25).ext E30)) 2 rfl)) rfl ?_
  refine seqd rfl rfl (does_float (.inr (.inr (.inl rfl))) (ev rfl) (ev rfl)) ?_; rintro _ w36 ⟨r33, rfl, h34, E35⟩
  have X37 := Ext.gr X32 E35
  show wpList _ _ _ _ (fr [(.agg #[(.float .f32 a_x), (.float .f32 a_y), (.float .f32 a_z)]), (.agg #[(.float .f32 b_x), (.float .f32 b_y), (.float .f32 b_z)]), (.pointer (some ⟨b2, 0, none⟩)), (.pointer (some ⟨b9, 0, none⟩)), (.float .f32 0), (.pointer (some ⟨b2, 0, none⟩)), (.float .f32 a_x), (.pointer (some ⟨b9, 0, none⟩)), (.float .f32 b_x), (.float .f32 r18), (.pointer (some ⟨b2, 1, none⟩)), (.float .f32 a_y), (.pointer (some ⟨b9, 1, none⟩)), (.float .f32 b_y), (.float .f32 r23), (.float .f32 r28), (.pointer (some ⟨b2, 2, none⟩)), (.float .f32 a_z), (.pointer (some ⟨b9, 2, none⟩)), (.float .f32 b_z), (.float .f32 r33), undef]) _
  refine seqd rfl rfl (does_float (.inl rfl) (ev rfl) (ev rfl)) ?_; rintro _ w41 ⟨r38, rfl, h39, E40⟩
  have X42 := Ext.gr X37 E40
  show wpList _ _ _ _ (fr [(.agg #[(.float .f32 a_x), (.float .f32 a_y), (.float .f32 a_z)]), (.agg #[(.float .f32 b_x), (.float .f32 b_y), (.float .f32 b_z)]), (.pointer (some ⟨b2, 0, none⟩)), (.pointer (some ⟨b9, 0, none⟩)), (.float .f32 0), (.pointer (some ⟨b2, 0, none⟩)), (.float .f32 a_x), (.pointer (some ⟨b9, 0, none⟩)), (.float .f32 b_x), (.float .f32 r18), (.pointer (some ⟨b2, 1, none⟩)), (.float .f32 a_y), (.pointer (some ⟨b9, 1, none⟩)), (.float .f32 b_y), (.float .f32 r23), (.float .f32 r28), (.pointer (some ⟨b2, 2, none⟩)), (.float .f32 a_z), (.pointer (some ⟨b9, 2, none⟩)), (.float .f32 b_z), (.float .f32 r33), (.float .f32 r38)]) _
  refine q_is (l' := [(.agg #[(.float .f32 a_x), (.float .f32 a_y), (.float .f32 a_z)]), (.agg #[(.float .f32 b_x), (.float .f32 b_y), (.float .f32 b_z)]), (.pointer (some ⟨b2, 0, none⟩)), (.pointer (some ⟨b9, 0, none⟩)), (.float .f32 r38), (.pointer (some ⟨b2, 0, none⟩)), (.float .f32 a_x), (.pointer (some ⟨b9, 0, none⟩)), (.float .f32 b_x), (.float .f32 r18), (.pointer (some ⟨b2, 1, none⟩)), (.float .f32 a_y), (.pointer (some ⟨b9, 1, none⟩)), (.float .f32 b_y), (.float .f32 r23), (.float .f32 r28), (.pointer (some ⟨b2, 2, none⟩)), (.float .f32 a_z), (.pointer (some ⟨b9, 2, none⟩)), (.float .f32 b_z), (.float .f32 r33), (.float .f32 r38)]) rfl rfl (does_assign (u := (.float .f32 r38)) (ev rfl)) rfl ?_
  refine wpList_nil (hK17 _ _ ?_)
  refine wp_ret ?_
  refine ret_val (v := (.float .f32 r38)) (res_T rfl (slot rfl)) X42 ?_
  have x43 : cf .f32 r38 = innerF (cf .f32 a_x) (cf .f32 a_y) (cf .f32 a_z) (cf .f32 b_x) (cf .f32 b_y) (cf .f32 b_z) := by first | rfl | (simp only [innerF, h19, h24, h29, h34, h39]; done) | (simp [innerF, h19, h24, h29, h34, h39]; done)
  exact ⟨r38, rfl, x43⟩

/- impl.LessVectors -/
theorem c_impl_LessVectors (a_x : Nat) (a_y : Nat) (a_z : Nat) (b_x : Nat) (b_y : Nat) (b_z : Nat) (w : World) : Gives Try.prog 59 #[(.agg #[(.float .f32 a_x), (.float .f32 a_y), (.float .f32 a_z)]), (.agg #[(.float .f32 b_x), (.float .f32 b_y), (.float .f32 b_z)])] w (fun v w' => ∃ r_1 : Nat, ∃ r_2 : Nat, ∃ r_3 : Nat, v = (.agg #[(.float .f32 r_1), (.float .f32 r_2), (.float .f32 r_3)]) ∧ cf .f32 r_1 = fop .sub .f32 (cf .f32 a_x) (cf .f32 b_x) ∧ cf .f32 r_2 = fop .sub .f32 (cf .f32 a_y) (cf .f32 b_y) ∧ cf .f32 r_3 = fop .sub .f32 (cf .f32 a_z) (cf .f32 b_z)) := by
  refine enter [(.agg #[(.float .f32 a_x), (.float .f32 a_y), (.float .f32 a_z)]), (.agg #[(.float .f32 b_x), (.float .f32 b_y), (.float .f32 b_z)]), undef, undef, undef, undef, undef, undef, undef, undef, undef, undef, undef, undef, undef, undef, undef, undef, undef, undef, undef] Try.func59 rfl Try.ntmps59 rfl ?_
  refine wp_seq_k fun K1 hK1 => ?_
  refine wp_region_lit ?_
  refine seqd rfl rfl (does_box (u := (.agg #[(.float .f32 a_x), (.float .f32 a_y), (.float .f32 a_z)])) (ev rfl)) ?_; rintro _ w6 ⟨b2, rfl, hb3, hB4, E5⟩
  have g7 : w.heap.size ≤ b2 := Nat.le_trans (Below.size (Ext.refl w)) hb3
  change Blk _ _ [(.float .f32 a_x), (.float .f32 a_y), (.float .f32 a_z)] at hB4
  have X8 := Ext.gr (Ext.refl w) E5
  show wpList _ _ _ _ (fr [(.agg #[(.float .f32 a_x), (.float .f32 a_y), (.float .f32 a_z)]), (.agg #[(.float .f32 b_x), (.float .f32 b_y), (.float .f32 b_z)]), (.pointer (some ⟨b2, 0, none⟩)), undef, undef, undef, undef, undef, undef, undef, undef, undef, undef, undef, undef, undef, undef, undef, undef, undef, undef]) _
  refine seqd rfl rfl (does_box (u := (.agg #[(.float .f32 b_x), (.float .f32 b_y), (.float .f32 b_z)])) (ev rfl)) ?_; rintro _ w13 ⟨b9, rfl, hb10, hB11, E12⟩
  have n14 : b2 < b9 := Nat.lt_of_lt_of_le (Blk.lt hB4) hb10
  have g15 : w.heap.size ≤ b9 := Nat.le_trans (Below.size X8) hb10
  change Blk _ _ [(.float .f32 b_x), (.float .f32 b_y), (.float .f32 b_z)] at hB11
  have X16 := Ext.gr X8 E12
  show wpList _ _ _ _ (fr [(.agg #[(.float .f32 a_x), (.float .f32 a_y), (.float .f32 a_z)]), (.agg #[(.float .f32 b_x), (.float .f32 b_y), (.float .f32 b_z)]), (.pointer (some ⟨b2, 0, none⟩)), (.pointer (some ⟨b9, 0, none⟩)), undef, undef, undef, undef, undef, undef, undef, undef, undef, undef, undef, undef, undef, undef, undef, undef, undef]) _
  refine seqd rfl rfl (does_alloc z31) ?_; rintro _ w21 ⟨b17, rfl, hb18, hB19, E20⟩
  have n22 : b2 < b17 := Nat.lt_of_lt_of_le (Blk.lt (hB4.ext E12)) hb18
  have n23 : b9 < b17 := Nat.lt_of_lt_of_le (Blk.lt hB11) hb18
  have g24 : w.heap.size ≤ b17 := Nat.le_trans (Below.size X16) hb18
  change Blk _ _ [(.float .f32 0), (.float .f32 0), (.float .f32 0)] at hB19
  have X25 := Ext.gr X16 E20
  show wpList _ _ _ _ (fr [(.agg #[(.float .f32 a_x), (.float .f32 a_y), (.float .f32 a_z)]), (.agg #[(.float .f32 b_x), (.float .f32 b_y), (.float .f32 b_z)]), (.pointer (some ⟨b2, 0, none⟩)), (.pointer (some ⟨b9, 0, none⟩)), (.pointer (some ⟨b17, 0, none⟩)), undef, undef, undef, undef, undef, undef, undef, undef, undef, undef, undef, undef, undef, undef, undef, undef]) _
  refine wpList_nil (hK1 _ _ ?_)
  refine wp_seq_k fun K26 hK26 => ?_
  refine wp_region_lit ?_
  refine q_is (l' := [(.agg #[(.float .f32 a_x), (.float .f32 a_y), (.float .f32 a_z)]), (.agg #[(.float .f32 b_x), (.float .f32 b_y), (.float .f32 b_z)]), (.pointer (some ⟨b2, 0, none⟩)), (.pointer (some ⟨b9, 0, none⟩)), (.pointer (some ⟨b17, 0, none⟩)), (.pointer (some ⟨b2, 0, none⟩)), undef, undef, undef, undef, undef, undef, undef, undef, undef, undef, undef, undef, undef, undef, undef]) rfl rfl (does_fieldAddr (ev rfl) fa31_0) rfl ?_
  refine q_is (l' := [(.agg #[(.float .f32 a_x), (.float .f32 a_y), (.float .f32 a_z)]), (.agg #[(.float .f32 b_x), (.float .f32 b_y), (.float .f32 b_z)]), (.pointer (some ⟨b2, 0, none⟩)), (.pointer (some ⟨b9, 0, none⟩)), (.pointer (some ⟨b17, 0, none⟩)), (.pointer (some ⟨b2, 0, none⟩)), (.float .f32 a_x), undef, undef, undef, undef, undef, undef, undef, undef, undef, undef, undef, undef, undef, undef]) rfl rfl (does_load (u := (.float .f32 a_x)) (ev rfl) Try.isAgg25 (Cells.at (Blk.cells ((hB4.ext E12).ext E20)) 0 rfl)) rfl ?_
  refine q_is (l' := [(.agg #[(.float .f32 a_x), (.float .f32 a_y), (.float .f32 a_z)]), (.agg #[(.float .f32 b_x), (.float .f32 b_y), (.float .f32 b_z)]), (.pointer (some ⟨b2, 0, none⟩)), (.pointer (some ⟨b9, 0, none⟩)), (.pointer (some ⟨b17, 0, none⟩)), (.pointer (some ⟨b2, 0, none⟩)), (.float .f32 a_x), (.pointer (some ⟨b9, 0, none⟩)), undef, undef, undef, undef, undef, undef, undef, undef, undef, undef, undef, undef, undef]) rfl rfl (does_fieldAddr (ev rfl) fa31_0) rfl ?_
  refine q_is (l' := [(.agg #[(.float .f32 a_x), (.float .f32 a_y), (.float .f32 a_z)]), (.agg #[(.float .f32 b_x), (.float .f32 b_y), (.float .f32 b_z)]), (.pointer (some ⟨b2, 0, none⟩)), (.pointer (some ⟨b9, 0, none⟩)), (.pointer (some ⟨b17, 0, none⟩)), (.pointer (some ⟨b2, 0, none⟩)), (.float .f32 a_x), (.pointer (some ⟨b9, 0, none⟩)), (.float .f32 b_x), undef, undef, undef, undef, undef, undef, undef, undef, undef, undef, undef, undef]) rfl rfl (does_load (u := (.float .f32 b_x)) (ev rfl) Try.isAgg25 (Cells.at (Blk.cells (hB11.ext E20)) 0 rfl)) rfl ?_
  refine seqd rfl rfl (does_float (.inr (.inl rfl)) (ev rfl) (ev rfl)) ?_; rintro _ w30 ⟨r27, rfl, h28, E29⟩
  have X31 := Ext.gr X25 E29
  show wpList _ _ _ _ (fr [(.agg #[(.float .f32 a_x), (.float .f32 a_y), (.float .f32 a_z)]), (.agg #[(.float .f32 b_x), (.float .f32 b_y), (.float .f32 b_z)]), (.pointer (some ⟨b2, 0, none⟩)), (.pointer (some ⟨b9, 0, none⟩)), (.pointer (some ⟨b17, 0, none⟩)), (.pointer (some ⟨b2, 0, none⟩)), (.float .f32 a_x), (.pointer (some ⟨b9, 0, none⟩)), (.float .f32 b_x), (.float .f32 r27), undef, undef, undef, undef, undef, undef, undef, undef, undef, undef, undef]) _
  refine q_is (l' := [(.agg #[(.float .f32 a_x), (.float .f32 a_y), (.float .f32 a_z)]), (.agg #[(.float .f32 b_x), (.float .f32 b_y), (.float .f32 b_z)]), (.pointer (some ⟨b2, 0, none⟩)), (.pointer (some ⟨b9, 0, none⟩)), (.pointer (some ⟨b17, 0, none⟩)), (.pointer (some ⟨b2, 0, none⟩)), (.float .f32 a_x), (.pointer (some ⟨b9, 0, none⟩)), (.float .f32 b_x), (.float .f32 r27), (.pointer (some ⟨b2, 1, none⟩)), undef, undef, undef, undef, undef, undef, undef, undef, undef, undef]) rfl rfl (does_fieldAddr (ev rfl) fa31_1) rfl ?_
  refine q_is (l' := [(.agg #[(.float .f32 a_x), (.float .f32 a_y), (.float .f32 a_z)]), (.agg #[(.float .f32 b_x), (.float .f32 b_y), (.float .f32 b_z)]), (.pointer (some ⟨b2, 0, none⟩)), (.pointer (some ⟨b9, 0, none⟩)), (.pointer (some ⟨b17, 0, none⟩)), (.pointer (some ⟨b2, 0, none⟩)), (.float .f32 a_x), (.pointer (some ⟨b9, 0, none⟩)), (.float .f32 b_x), (.float .f32 r27), (.pointer (some ⟨b2, 1, none⟩)), (.float .f32 a_y), undef, undef, undef, undef, undef, undef, undef, undef, undef]) rfl rfl (does_load (u := (.float .f32 a_y)) (ev rfl) Try.isAgg25 (Cells.at (Blk.cells (((hB4.ext E12).ext E20).ext E29)) 1 rfl)) rfl ?_
  refine q_is (l' := [(.agg #[(.float .f32 a_x), (.float .f32 a_y), (.float .f32 a_z)]), (.agg #[(.float .f32 b_x), (.float .f32 b_y), (.float .f32 b_z)]), (.pointer (some ⟨b2, 0, none⟩)), (.pointer (some ⟨b9, 0, none⟩)), (.pointer (some ⟨b17, 0, none⟩)), (.pointer (some ⟨b2, 0, none⟩)), (.float .f32 a_x), (.pointer (some ⟨b9, 0, none⟩)), (.float .f32 b_x), (.float .f32 r27), (.pointer (some ⟨b2, 1, none⟩)), (.float .f32 a_y), (.pointer (some ⟨b9, 1, none⟩)), undef, undef, undef, undef, undef, undef, undef, undef]) rfl rfl (does_fieldAddr (ev rfl) fa31_1) rfl ?_
  refine q_is (l' := [(.agg #[(.float .f32 a_x), (.float .f32 a_y), (.float .f32 a_z)]), (.agg #[(.float .f32 b_x), (.float .f32 b_y), (.float .f32 b_z)]), (.pointer (some ⟨b2, 0, none⟩)), (.pointer (some ⟨b9, 0, none⟩)), (.pointer (some ⟨b17, 0, none⟩)), (.pointer (some ⟨b2, 0, none⟩)), (.float .f32 a_x), (.pointer (some ⟨b9, 0, none⟩)), (.float .f32 b_x), (.float .f32 r27), (.pointer (some ⟨b2, 1, none⟩)), (.float .f32 a_y), (.pointer (some ⟨b9, 1, none⟩)), (.float .f32 b_y), undef, undef, undef, undef, undef, undef, undef]) rfl rfl (does_load (u := (.float .f32 b_y)) (ev rfl) Try.isAgg25 (Cells.at (Blk.cells ((hB11.ext E20).ext E29)) 1 rfl)) rfl ?_
  refine seqd rfl rfl (does_float (.inr (.inl rfl)) (ev rfl) (ev rfl)) ?_; rintro _ w35 ⟨r32, rfl, h33, E34⟩
  have X36 := Ext.gr X31 E34
  show wpList _ _ _ _ (fr [(.agg #[(.float .f32 a_x), (.float .f32 a_y), (.float .f32 a_z)]), (.agg #[(.float .f32 b_x), (.float .f32 b_y), (.float .f32 b_z)]), (.pointer (some ⟨b2, 0, none⟩)), (.pointer (some ⟨b9, 0, none⟩)), (.pointer (some ⟨b17, 0, none⟩)), (.pointer (some ⟨b2, 0, none⟩)), (.float .f32 a_x), (.pointer (some ⟨b9, 0, none⟩)), (.float .f32 b_x), (.float .f32 r27), (.pointer (some ⟨b2, 1, none⟩)), (.float .f32 a_y), (.pointer (some ⟨b9, 1, none⟩)), (.float .f32 b_y), (.float .f32 r32), undef, undef, undef, undef, undef, undef]) _
  refine q_is (l' := [(.agg #[(.float .f32 a_x), (.float .f32 a_y), (.float .f32 a_z)]), (.agg #[(.float .f32 b_x), (.float .f32 b_y), (.float .f32 b_z)]), (.pointer (some ⟨b2, 0, none⟩)), (.pointer (some ⟨b9, 0, none⟩)), (.pointer (some ⟨b17, 0, none⟩)), (.pointer (some ⟨b2, 0, none⟩)), (.float .f32 a_x), (.pointer (some ⟨b9, 0, none⟩)), (.float .f32 b_x), (.float .f32 r27), (.pointer (some ⟨b2, 1, none⟩)), (.float .f32 a_y), (.pointer (some ⟨b9, 1, none⟩)), (.float .f32 b_y), (.float .f32 r32), (.pointer (some ⟨b2, 2, none⟩)), undef, undef, undef, undef, undef]) rfl rfl (does_fieldAddr (ev rfl) fa31_2) rfl ?_
  refine q_is (l' := [(.agg #[(.float .f32 a_x), (.float .f32 a_y), (.float .f32 a_z)]), (.agg #[(.float .f32 b_x), (.float .f32 b_y), (.float .f32 b_z)]), (.pointer (some ⟨b2, 0, none⟩)), (.pointer (some ⟨b9, 0, none⟩)), (.pointer (some ⟨b17, 0, none⟩)), (.pointer (some ⟨b2, 0, none⟩)), (.float .f32 a_x), (.pointer (some ⟨b9, 0, none⟩)), (.float .f32 b_x), (.float .f32 r27), (.pointer (some ⟨b2, 1, none⟩)), (.float .f32 a_y), (.pointer (some ⟨b9, 1, none⟩)), (.float .f32 b_y), (.float .f32 r32), (.pointer (some ⟨b2, 2, none⟩)), (.float .f32 a_z), undef, undef, undef, undef]) rfl rfl (does_load (u := (.float .f32 a_z)) (ev rfl) Try.isAgg25 (Cells.at (Blk.cells ((((hB4.ext E12).ext E20).ext E29).ext E34)) 2 rfl)) rfl ?_
  refine q_is (l' := [(.agg #[(.float .f32 a_x), (.float .f32 a_y), (.float .f32 a_z)]), (.agg #[(.float .f32 b_x), (.float .f32 b_y), (.float .f32 b_z)]), (.pointer (some ⟨b2, 0, none⟩)), (.pointer (some ⟨b9, 0, none⟩)), (.pointer (some ⟨b17, 0, none⟩)), (.pointer (some ⟨b2, 0, none⟩)), (.float .f32 a_x), (.pointer (some ⟨b9, 0, none⟩)), (.float .f32 b_x), (.float .f32 r27), (.pointer (some ⟨b2, 1, none⟩)), (.float .f32 a_y), (.pointer (some ⟨b9, 1, none⟩)), (.float .f32 b_y), (.float .f32 r32), (.pointer (some ⟨b2, 2, none⟩)), (.float .f32 a_z), (.pointer (some ⟨b9, 2, none⟩)), undef, undef, undef]) rfl rfl (does_fieldAddr (ev rfl) fa31_2) rfl ?_
  refine q_is (l' := [(.agg #[(.float .f32 a_x), (.float .f32 a_y), (.float .f32 a_z)]), (.agg #[(.float .f32 b_x), (.float .f32 b_y), (.float .f32 b_z)]), (.pointer (some ⟨b2, 0, none⟩)), (.pointer (some ⟨b9, 0, none⟩)), (.pointer (some ⟨b17, 0, none⟩)), (.pointer (some ⟨b2, 0, none⟩)), (.float .f32 a_x), (.pointer (some ⟨b9, 0, none⟩)), (.float .f32 b_x), (.float .f32 r27), (.pointer (some ⟨b2, 1, none⟩)), (.float .f32 a_y), (.pointer (some ⟨b9, 1, none⟩)), (.float .f32 b_y), (.float .f32 r32), (.pointer (some ⟨b2, 2, none⟩)), (.float .f32 a_z), (.pointer (some ⟨b9, 2, none⟩)), (.float .f32 b_z), undef, undef]) rfl rfl (does_load (u := (.float .f32 b_z)) (ev rfl) Try.isAgg25 (Cells.at (Blk.cells (((hB11.ext E20).ext E29).ext E34)) 2 rfl)) rfl ?_
  refine seqd rfl rfl (does_float (.inr (.inl rfl)) (ev rfl) (ev rfl)) ?_; rintro _ w40 ⟨r37, rfl, h38, E39⟩
  have X41 := Ext.gr X36 E39
  show wpList _ _ _ _ (fr [(.agg #[(.float .f32 a_x), (.float .f32 a_y), (.float .f32 a_z)]), (.agg #[(.float .f32 b_x), (.float .f32 b_y), (.float .f32 b_z)]), (.pointer (some ⟨b2, 0, none⟩)), (.pointer (some ⟨b9, 0, none⟩)), (.pointer (some ⟨b17, 0, none⟩)), (.pointer (some ⟨b2, 0, none⟩)), (.float .f32 a_x), (.pointer (some ⟨b9, 0, none⟩)), (.float .f32 b_x), (.float .f32 r27), (.pointer (some ⟨b2, 1, none⟩)), (.float .f32 a_y), (.pointer (some ⟨b9, 1, none⟩)), (.float .f32 b_y), (.float .f32 r32), (.pointer (some ⟨b2, 2, none⟩)), (.float .f32 a_z), (.pointer (some ⟨b9, 2, none⟩)), (.float .f32 b_z), (.float .f32 r37), undef]) _
  refine q_is (l' := [(.agg #[(.float .f32 a_x), (.float .f32 a_y), (.float .f32 a_z)]), (.agg #[(.float .f32 b_x), (.float .f32 b_y), (.float .f32 b_z)]), (.pointer (some ⟨b2, 0, none⟩)), (.pointer (some ⟨b9, 0, none⟩)), (.pointer (some ⟨b17, 0, none⟩)), (.pointer (some ⟨b2, 0, none⟩)), (.float .f32 a_x), (.pointer (some ⟨b9, 0, none⟩)), (.float .f32 b_x), (.float .f32 r27), (.pointer (some ⟨b2, 1, none⟩)), (.float .f32 a_y), (.pointer (some ⟨b9, 1, none⟩)), (.float .f32 b_y), (.float .f32 r32), (.pointer (some ⟨b2, 2, none⟩)), (.float .f32 a_z), (.pointer (some ⟨b9, 2, none⟩)), (.float .f32 b_z), (.float .f32 r37), (.agg #[(.float .f32 r27), (.float .f32 r32), (.float .f32 r37)])]) rfl rfl (does_build (parts' := [(0, (.float .f32 r27)), (1, (.float .f32 r32)), (2, (.float .f32 r37))]) (cells := #[(.float .f32 r27), (.float .f32 r32), (.float .f32 r37)]) (evp rfl) (by kernel_rfl)) rfl ?_
  refine seqn rfl rfl (does_store (n := 3) (cs := [(.float .f32 0), (.float .f32 0), (.float .f32 0)]) (u := (.agg #[(.float .f32 r27), (.float .f32 r32), (.float .f32 r37)])) (ev rfl) (ev rfl) Try.sizeOf31 rfl (((hB19.ext E29).ext E34).ext E39) (Nat.le_of_ble_eq_true rfl) rfl) ?_; rintro _ w44 ⟨rfl, W42, hB43⟩
  change Blk _ _ [(.float .f32 r27), (.float .f32 r32), (.float .f32 r37)] at hB43
  have X45 := Below.wr X41 W42 g24
  refine wpList_nil (hK26 _ _ ?_)
  refine wp_ret ?_
  refine ret_val (v := (.agg #[(.float .f32 r27), (.float .f32 r32), (.float .f32 r37)])) (res_C rfl (slot rfl) (run_loadAgg (cs := [(.float .f32 r27), (.float .f32 r32), (.float .f32 r37)]) Try.isAgg31 Try.sizeOf31 (Blk.cells hB43) rfl)) X45 ?_
  have x46 : cf .f32 r27 = fop .sub .f32 (cf .f32 a_x) (cf .f32 b_x) := by first | rfl | (simp only [h28, h33, h38]; done) | (simp [h28, h33, h38]; done)
  have x47 : cf .f32 r32 = fop .sub .f32 (cf .f32 a_y) (cf .f32 b_y) := by first | rfl | (simp only [h28, h33, h38]; done) | (simp [h28, h33, h38]; done)
  have x48 : cf .f32 r37 = fop .sub .f32 (cf .f32 a_z) (cf .f32 b_z) := by first | rfl | (simp only [h28, h33, h38]; done) | (simp [h28, h33, h38]; done)
  exact ⟨r27, r32, r37, rfl, x46, x47, x48⟩

/- impl.ScaleVector -/
theorem c_impl_ScaleVector (a_x : Nat) (a_y : Nat) (a_z : Nat) (k : Nat) (w : World) : Gives Try.prog 60 #[(.agg #[(.float .f32 a_x), (.float .f32 a_y), (.float .f32 a_z)]), (.float .f32 k)] w (fun v w' => ∃ r_1 : Nat, ∃ r_2 : Nat, ∃ r_3 : Nat, v = (.agg #[(.float .f32 r_1), (.float .f32 r_2), (.float .f32 r_3)]) ∧ cf .f32 r_1 = fop .mul .f32 (cf .f32 a_x) (cf .f32 k) ∧ cf .f32 r_2 = fop .mul .f32 (cf .f32 a_y) (cf .f32 k) ∧ cf .f32 r_3 = fop .mul .f32 (cf .f32 a_z) (cf .f32 k)) := by
  refine enter [(.agg #[(.float .f32 a_x), (.float .f32 a_y), (.float .f32 a_z)]), (.float .f32 k), undef, undef, undef, undef, undef, undef, undef, undef, undef, undef, undef, undef, undef, undef, undef, undef] Try.func60 rfl Try.ntmps60 rfl ?_
  refine wp_seq_k fun K1 hK1 => ?_
  refine wp_region_lit ?_
  refine seqd rfl rfl (does_box (u := (.agg #[(.float .f32 a_x), (.float .f32 a_y), (.float .f32 a_z)])) (ev rfl)) ?_; rintro _ w6 ⟨b2, rfl, hb3, hB4, E5⟩
  have g7 : w.heap.size ≤ b2 := Nat.le_trans (Below.size (Ext.refl w)) hb3
  change Blk _ _ [(.float .f32 a_x), (.float .f32 a_y), (.float .f32 a_z)] at hB4
  have X8 := Ext.gr (Ext.refl w) E5
  show wpList _ _ _ _ (fr [(.agg #[(.float .f32 a_x), (.float .f32 a_y), (.float .f32 a_z)]), (.float .f32 k), (.pointer (some ⟨b2, 0, none⟩)), undef, undef, undef, undef, undef, undef, undef, undef, undef, undef, undef, undef, undef, undef, undef]) _
  refine seqd rfl rfl (does_alloc z31) ?_; rintro _ w13 ⟨b9, rfl, hb10, hB11, E12⟩
  have n14 : b2 < b9 := Nat.lt_of_lt_of_le (Blk.lt hB4) hb10
  have g15 : w.heap.size ≤ b9 := Nat.le_trans (Below.size X8) hb10
  change Blk _ _ [(.float .f32 0), (.float .f32 0), (.float .f32 0)] at hB11
  have X16 := Ext.gr X8 E12
  show wpList _ _ _ _ (fr [(.agg #[(.float .f32 a_x), (.float .f32 a_y), (.float .f32 a_z)]), (.float .f32 k), (.pointer (some ⟨b2, 0, none⟩)), undef, (.pointer (some ⟨b9, 0, none⟩)), undef, undef, undef, undef, undef, undef, undef, undef, undef, undef, undef, undef, undef]) _
  refine wpList_nil (hK1 _ _ ?_)
  refine wp_seq_k fun K17 hK17 => ?_
  refine wp_region_lit ?_
  refine q_is (l' := [(.agg #[(.float .f32 a_x), (.float .f32 a_y), (.float .f32 a_z)]), (.float .f32 k), (.pointer (some ⟨b2, 0, none⟩)), undef, (.pointer (some ⟨b9, 0, none⟩)), (.pointer (some ⟨b2, 0, none⟩)), undef, undef, undef, undef, undef, undef, undef, undef, undef, undef, undef, undef]) rfl rfl (does_fieldAddr (ev rfl) fa31_0) rfl ?_
  refine q_is (l' := [(.agg #[(.float .f32 a_x), (.float .f32 a_y), (.float .f32 a_z)]), (.float .f32 k), (.pointer (some ⟨b2, 0, none⟩)), undef, (.pointer (some ⟨b9, 0, none⟩)), (.pointer (some ⟨b2, 0, none⟩)), (.float .f32 a_x), undef, undef, undef, undef, undef, undef, undef, undef, undef, undef, undef]) rfl rfl (does_load (u := (.float .f32 a_x)) (ev rfl) Try.isAgg25 (Cells.at (Blk.cells (hB4.ext E12)) 0 rfl)) rfl ?_
  refine q_is (l' := [(.agg #[(.float .f32 a_x), (.float .f32 a_y), (.float .f32 a_z)]), (.float .f32 k), (.pointer (some ⟨b2, 0, none⟩)), undef, (.pointer (some ⟨b9, 0, none⟩)), (.pointer (some ⟨b2, 0, none⟩)), (.float .f32 a_x), (.float .f32 k), undef, undef, undef, undef, undef, undef, undef, undef, undef, undef]) rfl rfl (does_move (u := (.float .f32 k)) (ev rfl)) rfl ?_
  refine seqd rfl rfl (does_float (.inr (.inr (.inl rfl))) (ev rfl) (ev rfl)) ?_; rintro _ w21 ⟨r18, rfl, h19, E20⟩
  have X22 := Ext.gr X16 E20
  show wpList _ _ _ _ (fr [(.agg #[(.float .f32 a_x), (.float .f32 a_y), (.float .f32 a_z)]), (.float .f32 k), (.pointer (some ⟨b2, 0, none⟩)), undef, (.pointer (some ⟨b9, 0, none⟩)), (.pointer (some ⟨b2, 0, none⟩)), (.float .f32 a_x), (.float .f32 k), (.float .f32 r18), undef, undef, undef, undef, undef, undef, undef, undef, undef]) _
  refine q_is (l' := [(.agg #[(.float .f32 a_x), (.float .f32 a_y), (.float .f32 a_z)]), (.float .f32 k), (.pointer (some ⟨b2, 0, none⟩)), undef, (.pointer (some ⟨b9, 0, none⟩)), (.pointer (some ⟨b2, 0, none⟩)), (.float .f32 a_x), (.float .f32 k), (.float .f32 r18), (.pointer (some ⟨b2, 1, none⟩)), undef, undef, undef, undef, undef, undef, undef, undef]) rfl rfl (does_fieldAddr (ev rfl) fa31_1) rfl ?_
  refine q_is (l' := [(.agg #[(.float .f32 a_x), (.float .f32 a_y), (.float .f32 a_z)]), (.float .f32 k), (.pointer (some ⟨b2, 0, none⟩)), undef, (.pointer (some ⟨b9, 0, none⟩)), (.pointer (some ⟨b2, 0, none⟩)), (.float .f32 a_x), (.float .f32 k), (.float .f32 r18), (.pointer (some ⟨b2, 1, none⟩)), (.float .f32 a_y), undef, undef, undef, undef, undef, undef, undef]) rfl rfl (does_load (u := (.float .f32 a_y)) (ev rfl) Try.isAgg25 (Cells.at (Blk.cells ((hB4.ext E12).ext E20)) 1 rfl)) rfl ?_
  refine q_is (l' := [(.agg #[(.float .f32 a_x), (.float .f32 a_y), (.float .f32 a_z)]), (.float .f32 k), (.pointer (some ⟨b2, 0, none⟩)), undef, (.pointer (some ⟨b9, 0, none⟩)), (.pointer (some ⟨b2, 0, none⟩)), (.float .f32 a_x), (.float .f32 k), (.float .f32 r18), (.pointer (some ⟨b2, 1, none⟩)), (.float .f32 a_y), (.float .f32 k), undef, undef, undef, undef, undef, undef]) rfl rfl (does_move (u := (.float .f32 k)) (ev rfl)) rfl ?_
  refine seqd rfl rfl (does_float (.inr (.inr (.inl rfl))) (ev rfl) (ev rfl)) ?_; rintro _ w26 ⟨r23, rfl, h24, E25⟩
  have X27 := Ext.gr X22 E25
  show wpList _ _ _ _ (fr [(.agg #[(.float .f32 a_x), (.float .f32 a_y), (.float .f32 a_z)]), (.float .f32 k), (.pointer (some ⟨b2, 0, none⟩)), undef, (.pointer (some ⟨b9, 0, none⟩)), (.pointer (some ⟨b2, 0, none⟩)), (.float .f32 a_x), (.float .f32 k), (.float .f32 r18), (.pointer (some ⟨b2, 1, none⟩)), (.float .f32 a_y), (.float .f32 k), (.float .f32 r23), undef, undef, undef, undef, undef]) _
  refine q_is (l' := [(.agg #[(.float .f32 a_x), (.float .f32 a_y), (.float .f32 a_z)]), (.float .f32 k), (.pointer (some ⟨b2, 0, none⟩)), undef, (.pointer (some ⟨b9, 0, none⟩)), (.pointer (some ⟨b2, 0, none⟩)), (.float .f32 a_x), (.float .f32 k), (.float .f32 r18), (.pointer (some ⟨b2, 1, none⟩)), (.float .f32 a_y), (.float .f32 k), (.float .f32 r23), (.pointer (some ⟨b2, 2, none⟩)), undef, undef, undef, undef]) rfl rfl (does_fieldAddr (ev rfl) fa31_2) rfl ?_
  refine q_is (l' := [(.agg #[(.float .f32 a_x), (.float .f32 a_y), (.float .f32 a_z)]), (.float .f32 k), (.pointer (some ⟨b2, 0, none⟩)), undef, (.pointer (some ⟨b9, 0, none⟩)), (.pointer (some ⟨b2, 0, none⟩)), (.float .f32 a_x), (.float .f32 k), (.float .f32 r18), (.pointer (some ⟨b2, 1, none⟩)), (.float .f32 a_y), (.float .f32 k), (.float .f32 r23), (.pointer (some ⟨b2, 2, none⟩)), (.float .f32 a_z), undef, undef, undef]) rfl rfl (does_load (u := (.float .f32 a_z)) (ev rfl) Try.isAgg25 (Cells.at (Blk.cells (((hB4.ext E12).ext E20).ext E25)) 2 rfl)) rfl ?_
  refine q_is (l' := [(.agg #[(.float .f32 a_x), (.float .f32 a_y), (.float .f32 a_z)]), (.float .f32 k), (.pointer (some ⟨b2, 0, none⟩)), undef, (.pointer (some ⟨b9, 0, none⟩)), (.pointer (some ⟨b2, 0, none⟩)), (.float .f32 a_x), (.float .f32 k), (.float .f32 r18), (.pointer (some ⟨b2, 1, none⟩)), (.float .f32 a_y), (.float .f32 k), (.float .f32 r23), (.pointer (some ⟨b2, 2, none⟩)), (.float .f32 a_z), (.float .f32 k), undef, undef]) rfl rfl (does_move (u := (.float .f32 k)) (ev rfl)) rfl ?_
  refine seqd rfl rfl (does_float (.inr (.inr (.inl rfl))) (ev rfl) (ev rfl)) ?_; rintro _ w31 ⟨r28, rfl, h29, E30⟩
  have X32 := Ext.gr X27 E30
  show wpList _ _ _ _ (fr [(.agg #[(.float .f32 a_x), (.float .f32 a_y), (.float .f32 a_z)]), (.float .f32 k), (.pointer (some ⟨b2, 0, none⟩)), undef, (.pointer (some ⟨b9, 0, none⟩)), (.pointer (some ⟨b2, 0, none⟩)), (.float .f32 a_x), (.float .f32 k), (.float .f32 r18), (.pointer (some ⟨b2, 1, none⟩)), (.float .f32 a_y), (.float .f32 k), (.float .f32 r23), (.pointer (some ⟨b2, 2, none⟩)), (.float .f32 a_z), (.float .f32 k), (.float .f32 r28), undef]) _
  refine q_is (l' := [(.agg #[(.float .f32 a_x), (.float .f32 a_y), (.float .f32 a_z)]), (.float .f32 k), (.pointer (some ⟨b2, 0, none⟩)), undef, (.pointer (some ⟨b9, 0, none⟩)), (.pointer (some ⟨b2, 0, none⟩)), (.float .f32 a_x), (.float .f32 k), (.float .f32 r18), (.pointer (some ⟨b2, 1, none⟩)), (.float .f32 a_y), (.float .f32 k), (.float .f32 r23), (.pointer (some ⟨b2, 2, none⟩)), (.float .f32 a_z), (.float .f32 k), (.float .f32 r28), (.agg #[(.float .f32 r18), (.float .f32 r23), (.float .f32 r28)])]) rfl rfl (does_build (parts' := [(0, (.float .f32 r18)), (1, (.float .f32 r23)), (2, (.float .f32 r28))]) (cells := #[(.float .f32 r18), (.float .f32 r23), (.float .f32 r28)]) (evp rfl) (by kernel_rfl)) rfl ?_
  refine seqn rfl rfl (does_store (n := 3) (cs := [(.float .f32 0), (.float .f32 0), (.float .f32 0)]) (u := (.agg #[(.float .f32 r18), (.float .f32 r23), (.float .f32 r28)])) (ev rfl) (ev rfl) Try.sizeOf31 rfl (((hB11.ext E20).ext E25).ext E30) (Nat.le_of_ble_eq_true rfl) rfl) ?_; rintro _ w35 ⟨rfl, W33, hB34⟩
  change Blk _ _ [(.float .f32 r18), (.float .f32 r23), (.float .f32 r28)] at hB34
  have X36 := Below.wr X32 W33 g15
  refine wpList_nil (hK17 _ _ ?_)
  refine wp_ret ?_
  refine ret_val (v := (.agg #[(.float .f32 r18), (.float .f32 r23), (.float .f32 r28)])) (res_C rfl (slot rfl) (run_loadAgg (cs := [(.float .f32 r18), (.float .f32 r23), (.float .f32 r28)]) Try.isAgg31 Try.sizeOf31 (Blk.cells hB34) rfl)) X36 ?_
  have x37 : cf .f32 r18 = fop .mul .f32 (cf .f32 a_x) (cf .f32 k) := by first | rfl | (simp only [h19, h24, h29]; done) | (simp [h19, h24, h29]; done)
  have x38 : cf .f32 r23 = fop .mul .f32 (cf .f32 a_y) (cf .f32 k) := by first | rfl | (simp only [h19, h24, h29]; done) | (simp [h19, h24, h29]; done)
  have x39 : cf .f32 r28 = fop .mul .f32 (cf .f32 a_z) (cf .f32 k) := by first | rfl | (simp only [h19, h24, h29]; done) | (simp [h19, h24, h29]; done)
  exact ⟨r18, r23, r28, rfl, x37, x38, x39⟩

/- impl.BounceOff -/
theorem c_impl_BounceOff (v_x : Nat) (v_y : Nat) (v_z : Nat) (n_x : Nat) (n_y : Nat) (n_z : Nat) (k : Nat) (w : World) : Gives Try.prog 28 #[(.agg #[(.float .f32 v_x), (.float .f32 v_y), (.float .f32 v_z)]), (.agg #[(.float .f32 n_x), (.float .f32 n_y), (.float .f32 n_z)]), (.float .f32 k)] w (fun v w' => ∃ r_1 : Nat, ∃ r_2 : Nat, ∃ r_3 : Nat, v = (.agg #[(.float .f32 r_1), (.float .f32 r_2), (.float .f32 r_3)]) ∧ cf .f32 r_1 = (awayF (cf .f32 v_x) (cf .f32 v_y) (cf .f32 v_z) (cf .f32 n_x) (cf .f32 n_y) (cf .f32 n_z) (fop .add .f32 (cf .f32 1065353216) (cf .f32 k))).1 ∧ cf .f32 r_2 = (awayF (cf .f32 v_x) (cf .f32 v_y) (cf .f32 v_z) (cf .f32 n_x) (cf .f32 n_y) (cf .f32 n_z) (fop .add .f32 (cf .f32 1065353216) (cf .f32 k))).2.1 ∧ cf .f32 r_3 = (awayF (cf .f32 v_x) (cf .f32 v_y) (cf .f32 v_z) (cf .f32 n_x) (cf .f32 n_y) (cf .f32 n_z) (fop .add .f32 (cf .f32 1065353216) (cf .f32 k))).2.2) := by
  refine enter [(.agg #[(.float .f32 v_x), (.float .f32 v_y), (.float .f32 v_z)]), (.agg #[(.float .f32 n_x), (.float .f32 n_y), (.float .f32 n_z)]), (.float .f32 k), undef, undef, undef, undef, undef, undef, undef, undef, undef, undef, undef, undef, undef, undef, undef, undef, undef, undef, undef, undef] Try.func28 rfl Try.ntmps28 rfl ?_
  refine wp_seq_k fun K1 hK1 => ?_
  refine wp_region_lit ?_
  refine seqd rfl rfl (does_box (u := (.agg #[(.float .f32 v_x), (.float .f32 v_y), (.float .f32 v_z)])) (ev rfl)) ?_; rintro _ w6 ⟨b2, rfl, hb3, hB4, E5⟩
  have g7 : w.heap.size ≤ b2 := Nat.le_trans (Below.size (Ext.refl w)) hb3
  change Blk _ _ [(.float .f32 v_x), (.float .f32 v_y), (.float .f32 v_z)] at hB4
  have X8 := Ext.gr (Ext.refl w) E5
  show wpList _ _ _ _ (fr [(.agg #[(.float .f32 v_x), (.float .f32 v_y), (.float .f32 v_z)]), (.agg #[(.float .f32 n_x), (.float .f32 n_y), (.float .f32 n_z)]), (.float .f32 k), (.pointer (some ⟨b2, 0, none⟩)), undef, undef, undef, undef, undef, undef, undef, undef, undef, undef, undef, undef, undef, undef, undef, undef, undef, undef, undef]) _
  refine seqd rfl rfl (does_box (u := (.agg #[(.float .f32 n_x), (.float .f32 n_y), (.float .f32 n_z)])) (ev rfl)) ?_; rintro _ w13 ⟨b9, rfl, hb10, hB11, E12⟩
  have n14 : b2 < b9 := Nat.lt_of_lt_of_le (Blk.lt hB4) hb10
  have g15 : w.heap.size ≤ b9 := Nat.le_trans (Below.size X8) hb10
  change Blk _ _ [(.float .f32 n_x), (.float .f32 n_y), (.float .f32 n_z)] at hB11
  have X16 := Ext.gr X8 E12
  show wpList _ _ _ _ (fr [(.agg #[(.float .f32 v_x), (.float .f32 v_y), (.float .f32 v_z)]), (.agg #[(.float .f32 n_x), (.float .f32 n_y), (.float .f32 n_z)]), (.float .f32 k), (.pointer (some ⟨b2, 0, none⟩)), (.pointer (some ⟨b9, 0, none⟩)), undef, undef, undef, undef, undef, undef, undef, undef, undef, undef, undef, undef, undef, undef, undef, undef, undef, undef]) _
  refine seqd rfl rfl (does_alloc z31) ?_; rintro _ w21 ⟨b17, rfl, hb18, hB19, E20⟩
  have n22 : b2 < b17 := Nat.lt_of_lt_of_le (Blk.lt (hB4.ext E12)) hb18
  have n23 : b9 < b17 := Nat.lt_of_lt_of_le (Blk.lt hB11) hb18
  have g24 : w.heap.size ≤ b17 := Nat.le_trans (Below.size X16) hb18
  change Blk _ _ [(.float .f32 0), (.float .f32 0), (.float .f32 0)] at hB19
  have X25 := Ext.gr X16 E20
  show wpList _ _ _ _ (fr [(.agg #[(.float .f32 v_x), (.float .f32 v_y), (.float .f32 v_z)]), (.agg #[(.float .f32 n_x), (.float .f32 n_y), (.float .f32 n_z)]), (.float .f32 k), (.pointer (some ⟨b2, 0, none⟩)), (.pointer (some ⟨b9, 0, none⟩)), undef, (.pointer (some ⟨b17, 0, none⟩)), undef, undef, undef, undef, undef, undef, undef, undef, undef, undef, undef, undef, undef, undef, undef, undef]) _
  refine wpList_nil (hK1 _ _ ?_)
  refine wp_seq_k fun K26 hK26 => ?_
  refine wp_region_lit ?_
  refine q_is (l' := [(.agg #[(.float .f32 v_x), (.float .f32 v_y), (.float .f32 v_z)]), (.agg #[(.float .f32 n_x), (.float .f32 n_y), (.float .f32 n_z)]), (.float .f32 k), (.pointer (some ⟨b2, 0, none⟩)), (.pointer (some ⟨b9, 0, none⟩)), undef, (.pointer (some ⟨b17, 0, none⟩)), undef, (.agg #[(.float .f32 v_x), (.float .f32 v_y), (.float .f32 v_z)]), undef, undef, undef, undef, undef, undef, undef, undef, undef, undef, undef, undef, undef, undef]) rfl rfl (does_loadAgg (cs := [(.float .f32 v_x), (.float .f32 v_y), (.float .f32 v_z)]) (ev rfl) Try.isAgg31 Try.sizeOf31 (Blk.cells ((hB4.ext E12).ext E20)) rfl) rfl ?_
  refine q_is (l' := [(.agg #[(.float .f32 v_x), (.float .f32 v_y), (.float .f32 v_z)]), (.agg #[(.float .f32 n_x), (.float .f32 n_y), (.float .f32 n_z)]), (.float .f32 k), (.pointer (some ⟨b2, 0, none⟩)), (.pointer (some ⟨b9, 0, none⟩)), undef, (.pointer (some ⟨b17, 0, none⟩)), undef, (.agg #[(.float .f32 v_x), (.float .f32 v_y), (.float .f32 v_z)]), (.agg #[(.float .f32 n_x), (.float .f32 n_y), (.float .f32 n_z)]), undef, undef, undef, undef, undef, undef, undef, undef, undef, undef, undef, undef, undef]) rfl rfl (does_loadAgg (cs := [(.float .f32 n_x), (.float .f32 n_y), (.float .f32 n_z)]) (ev rfl) Try.isAgg31 Try.sizeOf31 (Blk.cells (hB11.ext E20)) rfl) rfl ?_
  refine seqd rfl rfl (does_call (args := #[(.agg #[(.float .f32 v_x), (.float .f32 v_y), (.float .f32 v_z)]), (.agg #[(.float .f32 n_x), (.float .f32 n_y), (.float .f32 n_z)])]) cal58 (evs rfl) (c_impl_InnerOf v_x v_y v_z n_x n_y n_z _)) ?_; rintro _ w28 ⟨E27, ⟨r29, rfl, h30⟩⟩
  have X31 := Ext.gr X25 E27
  show wpList _ _ _ _ (fr [(.agg #[(.float .f32 v_x), (.float .f32 v_y), (.float .f32 v_z)]), (.agg #[(.float .f32 n_x), (.float .f32 n_y), (.float .f32 n_z)]), (.float .f32 k), (.pointer (some ⟨b2, 0, none⟩)), (.pointer (some ⟨b9, 0, none⟩)), undef, (.pointer (some ⟨b17, 0, none⟩)), undef, (.agg #[(.float .f32 v_x), (.float .f32 v_y), (.float .f32 v_z)]), (.agg #[(.float .f32 n_x), (.float .f32 n_y), (.float .f32 n_z)]), (.float .f32 r29), undef, undef, undef, undef, undef, undef, undef, undef, undef, undef, undef, undef]) _
  refine q_is (l' := [(.agg #[(.float .f32 v_x), (.float .f32 v_y), (.float .f32 v_z)]), (.agg #[(.float .f32 n_x), (.float .f32 n_y), (.float .f32 n_z)]), (.float .f32 k), (.pointer (some ⟨b2, 0, none⟩)), (.pointer (some ⟨b9, 0, none⟩)), undef, (.pointer (some ⟨b17, 0, none⟩)), (.float .f32 r29), (.agg #[(.float .f32 v_x), (.float .f32 v_y), (.float .f32 v_z)]), (.agg #[(.float .f32 n_x), (.float .f32 n_y), (.float .f32 n_z)]), (.float .f32 r29), undef, undef, undef, undef, undef, undef, undef, undef, undef, undef, undef, undef]) rfl rfl (does_assign (u := (.float .f32 r29)) (ev rfl)) rfl ?_
  refine wpList_nil (hK26 _ _ ?_)
  refine wp_seq_k fun K32 hK32 => ?_
  refine wp_seq_k fun K33 hK33 => ?_
  refine wp_region_lit ?_
  refine q_is (l' := [(.agg #[(.float .f32 v_x), (.float .f32 v_y), (.float .f32 v_z)]), (.agg #[(.float .f32 n_x), (.float .f32 n_y), (.float .f32 n_z)]), (.float .f32 k), (.pointer (some ⟨b2, 0, none⟩)), (.pointer (some ⟨b9, 0, none⟩)), undef, (.pointer (some ⟨b17, 0, none⟩)), (.float .f32 r29), (.agg #[(.float .f32 v_x), (.float .f32 v_y), (.float .f32 v_z)]), (.agg #[(.float .f32 n_x), (.float .f32 n_y), (.float .f32 n_z)]), (.float .f32 r29), (.float .f32 r29), undef, undef, undef, undef, undef, undef, undef, undef, undef, undef, undef]) rfl rfl (does_move (u := (.float .f32 r29)) (ev rfl)) rfl ?_
  refine q_is (l' := [(.agg #[(.float .f32 v_x), (.float .f32 v_y), (.float .f32 v_z)]), (.agg #[(.float .f32 n_x), (.float .f32 n_y), (.float .f32 n_z)]), (.float .f32 k), (.pointer (some ⟨b2, 0, none⟩)), (.pointer (some ⟨b9, 0, none⟩)), undef, (.pointer (some ⟨b17, 0, none⟩)), (.float .f32 r29), (.agg #[(.float .f32 v_x), (.float .f32 v_y), (.float .f32 v_z)]), (.agg #[(.float .f32 n_x), (.float .f32 n_y), (.float .f32 n_z)]), (.float .f32 r29), (.float .f32 r29), (.bool (fcmp .lss (ford .f32 (cf .f32 r29) (cf .f32 0)))), undef, undef, undef, undef, undef, undef, undef, undef, undef, undef]) rfl rfl (does_fcmp (.inr (.inr (.inl rfl))) (ev rfl) (ev rfl)) rfl ?_
  refine q_is (l' := [(.agg #[(.float .f32 v_x), (.float .f32 v_y), (.float .f32 v_z)]), (.agg #[(.float .f32 n_x), (.float .f32 n_y), (.float .f32 n_z)]), (.float .f32 k), (.pointer (some ⟨b2, 0, none⟩)), (.pointer (some ⟨b9, 0, none⟩)), undef, (.pointer (some ⟨b17, 0, none⟩)), (.float .f32 r29), (.agg #[(.float .f32 v_x), (.float .f32 v_y), (.float .f32 v_z)]), (.agg #[(.float .f32 n_x), (.float .f32 n_y), (.float .f32 n_z)]), (.float .f32 r29), (.float .f32 r29), (.bool (fcmp .lss (ford .f32 (cf .f32 r29) (cf .f32 0)))), (.bool (!(fcmp .lss (ford .f32 (cf .f32 r29) (cf .f32 0))))), undef, undef, undef, undef, undef, undef, undef, undef, undef]) rfl rfl (does_not (ev rfl)) rfl ?_
  refine wpList_nil (hK33 _ _ ?_)
  refine wp_cond_split (t := !(fcmp .lss (ford .f32 (cf .f32 r29) (cf .f32 0)))) (ev rfl) (fun c34 => ?_) (fun c34 => ?_)
  · rw [Bool.not_eq_true'] at c34
    have c34' := c34
    refine wp_seq_k fun K35 hK35 => ?_
    refine wp_region_lit ?_
    refine q_is (l' := [(.agg #[(.float .f32 v_x), (.float .f32 v_y), (.float .f32 v_z)]), (.agg #[(.float .f32 n_x), (.float .f32 n_y), (.float .f32 n_z)]), (.float .f32 k), (.pointer (some ⟨b2, 0, none⟩)), (.pointer (some ⟨b9, 0, none⟩)), undef, (.pointer (some ⟨b17, 0, none⟩)), (.float .f32 r29), (.agg #[(.float .f32 v_x), (.float .f32 v_y), (.float .f32 v_z)]), (.agg #[(.float .f32 n_x), (.float .f32 n_y), (.float .f32 n_z)]), (.float .f32 r29), (.float .f32 r29), (.bool (fcmp .lss (ford .f32 (cf .f32 r29) (cf .f32 0)))), (.bool (!(fcmp .lss (ford .f32 (cf .f32 r29) (cf .f32 0))))), (.agg #[(.float .f32 v_x), (.float .f32 v_y), (.float .f32 v_z)]), undef, undef, undef, undef, undef, undef, undef, undef]) rfl rfl (does_loadAgg (cs := [(.float .f32 v_x), (.float .f32 v_y), (.float .f32 v_z)]) (ev rfl) Try.isAgg31 Try.sizeOf31 (Blk.cells (((hB4.ext E12).ext E20).ext E27)) rfl) rfl ?_
    refine seqn rfl rfl (does_store (n := 3) (cs := [(.float .f32 0), (.float .f32 0), (.float .f32 0)]) (u := (.agg #[(.float .f32 v_x), (.float .f32 v_y), (.float .f32 v_z)])) (ev rfl) (ev rfl) Try.sizeOf31 rfl (hB19.ext E27) (Nat.le_of_ble_eq_true rfl) rfl) ?_; rintro _ w38 ⟨rfl, W36, hB37⟩
    change Blk _ _ [(.float .f32 v_x), (.float .f32 v_y), (.float .f32 v_z)] at hB37
    have X39 := Below.wr X31 W36 g24
    refine wpList_nil (hK35 _ _ ?_)
    refine wp_ret ?_
    dsimp only [Exit.then, Exit.inBlock]
    refine ret_val (v := (.agg #[(.float .f32 v_x), (.float .f32 v_y), (.float .f32 v_z)])) (res_C rfl (slot rfl) (run_loadAgg (cs := [(.float .f32 v_x), (.float .f32 v_y), (.float .f32 v_z)]) Try.isAgg31 Try.sizeOf31 (Blk.cells hB37) rfl)) X39 ?_
    try simp only [h30] at c34
    have x40 : cf .f32 v_x = (awayF (cf .f32 v_x) (cf .f32 v_y) (cf .f32 v_z) (cf .f32 n_x) (cf .f32 n_y) (cf .f32 n_z) (fop .add .f32 (cf .f32 1065353216) (cf .f32 k))).1 := by first | rfl | (simp only [awayF, h30, c34]; done) | (simp [awayF, h30, c34]; done) | (revert c34; simp +contextual [awayF, h30]; done)
    have x41 : cf .f32 v_y = (awayF (cf .f32 v_x) (cf .f32 v_y) (cf .f32 v_z) (cf .f32 n_x) (cf .f32 n_y) (cf .f32 n_z) (fop .add .f32 (cf .f32 1065353216) (cf .f32 k))).2.1 := by first | rfl | (simp only [awayF, h30, c34]; done) | (simp [awayF, h30, c34]; done) | (revert c34; simp +contextual [awayF, h30]; done)
    have x42 : cf .f32 v_z = (awayF (cf .f32 v_x) (cf .f32 v_y) (cf .f32 v_z) (cf .f32 n_x) (cf .f32 n_y) (cf .f32 n_z) (fop .add .f32 (cf .f32 1065353216) (cf .f32 k))).2.2 := by first | rfl | (simp only [awayF, h30, c34]; done) | (simp [awayF, h30, c34]; done) | (revert c34; simp +contextual [awayF, h30]; done)
    exact ⟨v_x, v_y, v_z, rfl, x40, x41, x42⟩
  rw [Bool.not_eq_false'] at c34
  have c34' := c34
  refine wp_skip (hK32 _ _ ?_)
  refine wp_seq_k fun K43 hK43 => ?_
  refine region_draw (
    [Fact.pure [] (fun v => v = (.agg #[(.float .f32 v_x), (.float .f32 v_y), (.float .f32 v_z)])),
    Fact.pure [] (fun v => v = (.agg #[(.float .f32 n_x), (.float .f32 n_y), (.float .f32 n_z)])),
    Fact.pure [] (fun v => v = (.float .f32 r29)),
    Fact.pure [] (fun v => v = (.float .f32 k)),
    Fact.pure [18] (fun v => ∃ r_1 : Nat, v = (.float .f32 r_1) ∧ cf .f32 r_1 = fop .add .f32 (cf .f32 1065353216) (cf .f32 k)),
    Fact.pure [17, 19] (fun v => ∃ r_1 : Nat, v = (.float .f32 r_1) ∧ cf .f32 r_1 = fop .mul .f32 (cf .f32 r29) (fop .add .f32 (cf .f32 1065353216) (cf .f32 k))),
    Fact.pure [16, 20] (fun v => ∃ r_1 : Nat, ∃ r_2 : Nat, ∃ r_3 : Nat, v = (.agg #[(.float .f32 r_1), (.float .f32 r_2), (.float .f32 r_3)]) ∧ cf .f32 r_1 = fop .mul .f32 (cf .f32 n_x) (fop .mul .f32 (cf .f32 r29) (fop .add .f32 (cf .f32 1065353216) (cf .f32 k))) ∧ cf .f32 r_2 = fop .mul .f32 (cf .f32 n_y) (fop .mul .f32 (cf .f32 r29) (fop .add .f32 (cf .f32 1065353216) (cf .f32 k))) ∧ cf .f32 r_3 = fop .mul .f32 (cf .f32 n_z) (fop .mul .f32 (cf .f32 r29) (fop .add .f32 (cf .f32 1065353216) (cf .f32 k)))),
    Fact.pure [15, 21] (fun v => ∃ r_1 : Nat, ∃ r_2 : Nat, ∃ r_3 : Nat, v = (.agg #[(.float .f32 r_1), (.float .f32 r_2), (.float .f32 r_3)]) ∧ cf .f32 r_1 = fop .sub .f32 (cf .f32 v_x) (fop .mul .f32 (cf .f32 n_x) (fop .mul .f32 (cf .f32 r29) (fop .add .f32 (cf .f32 1065353216) (cf .f32 k)))) ∧ cf .f32 r_2 = fop .sub .f32 (cf .f32 v_y) (fop .mul .f32 (cf .f32 n_y) (fop .mul .f32 (cf .f32 r29) (fop .add .f32 (cf .f32 1065353216) (cf .f32 k)))) ∧ cf .f32 r_3 = fop .sub .f32 (cf .f32 v_z) (fop .mul .f32 (cf .f32 n_z) (fop .mul .f32 (cf .f32 r29) (fop .add .f32 (cf .f32 1065353216) (cf .f32 k)))))]) mixed (by kernel_rfl) (by intro _ _ d _ _ h; cases d <;> exact h) ?_
  obtain ⟨w44, hw46⟩ : ∃ w', w' = World.drew w28 := ⟨_, rfl⟩; rw [← hw46]; have E45 : Ext w28 w44 := by rw [hw46]; exact Ext.draw _
  clear hw46
  have X47 := Ext.gr X31 E45
  refine RW_d (fun v48 => [(.agg #[(.float .f32 v_x), (.float .f32 v_y), (.float .f32 v_z)]), (.agg #[(.float .f32 n_x), (.float .f32 n_y), (.float .f32 n_z)]), (.float .f32 k), (.pointer (some ⟨b2, 0, none⟩)), (.pointer (some ⟨b9, 0, none⟩)), undef, (.pointer (some ⟨b17, 0, none⟩)), (.float .f32 r29), (.agg #[(.float .f32 v_x), (.float .f32 v_y), (.float .f32 v_z)]), (.agg #[(.float .f32 n_x), (.float .f32 n_y), (.float .f32 n_z)]), (.float .f32 r29), (.float .f32 r29), (.bool (fcmp .lss (ford .f32 (cf .f32 r29) (cf .f32 0)))), (.bool (!(fcmp .lss (ford .f32 (cf .f32 r29) (cf .f32 0))))), undef, v48, undef, undef, undef, undef, undef, undef, undef]) rfl (fun _ => rfl) (fun u hu hF => ?_) (fun v48 => ?_)
  · clear hF
    refine doesG_un rfl ?_
    refine (does_loadAgg (cs := [(.float .f32 v_x), (.float .f32 v_y), (.float .f32 v_z)]) (ev rfl) Try.isAgg31 Try.sizeOf31 (Blk.cells (((((hB4.ext E12).ext E20).ext E27).ext E45).ext hu)) rfl).mono ?_; rintro _ _ ⟨rfl, rfl⟩
    exact ⟨rfl, Ext.refl _⟩
  refine RW_d (fun v49 => [(.agg #[(.float .f32 v_x), (.float .f32 v_y), (.float .f32 v_z)]), (.agg #[(.float .f32 n_x), (.float .f32 n_y), (.float .f32 n_z)]), (.float .f32 k), (.pointer (some ⟨b2, 0, none⟩)), (.pointer (some ⟨b9, 0, none⟩)), undef, (.pointer (some ⟨b17, 0, none⟩)), (.float .f32 r29), (.agg #[(.float .f32 v_x), (.float .f32 v_y), (.float .f32 v_z)]), (.agg #[(.float .f32 n_x), (.float .f32 n_y), (.float .f32 n_z)]), (.float .f32 r29), (.float .f32 r29), (.bool (fcmp .lss (ford .f32 (cf .f32 r29) (cf .f32 0)))), (.bool (!(fcmp .lss (ford .f32 (cf .f32 r29) (cf .f32 0))))), undef, v48, v49, undef, undef, undef, undef, undef, undef]) rfl (fun _ => rfl) (fun u hu hF => ?_) (fun v49 => ?_)
  · clear hF
    refine doesG_un rfl ?_
    refine (does_loadAgg (cs := [(.float .f32 n_x), (.float .f32 n_y), (.float .f32 n_z)]) (ev rfl) Try.isAgg31 Try.sizeOf31 (Blk.cells ((((hB11.ext E20).ext E27).ext E45).ext hu)) rfl).mono ?_; rintro _ _ ⟨rfl, rfl⟩
    exact ⟨rfl, Ext.refl _⟩
  refine RW_d (fun v50 => [(.agg #[(.float .f32 v_x), (.float .f32 v_y), (.float .f32 v_z)]), (.agg #[(.float .f32 n_x), (.float .f32 n_y), (.float .f32 n_z)]), (.float .f32 k), (.pointer (some ⟨b2, 0, none⟩)), (.pointer (some ⟨b9, 0, none⟩)), undef, (.pointer (some ⟨b17, 0, none⟩)), (.float .f32 r29), (.agg #[(.float .f32 v_x), (.float .f32 v_y), (.float .f32 v_z)]), (.agg #[(.float .f32 n_x), (.float .f32 n_y), (.float .f32 n_z)]), (.float .f32 r29), (.float .f32 r29), (.bool (fcmp .lss (ford .f32 (cf .f32 r29) (cf .f32 0)))), (.bool (!(fcmp .lss (ford .f32 (cf .f32 r29) (cf .f32 0))))), undef, v48, v49, v50, undef, undef, undef, undef, undef]) rfl (fun _ => rfl) (fun u hu hF => ?_) (fun v50 => ?_)
  · clear hF
    refine doesG_un rfl ?_
    refine (does_move (u := (.float .f32 r29)) (ev rfl)).mono ?_; rintro _ _ ⟨rfl, rfl⟩
    exact ⟨rfl, Ext.refl _⟩
  refine RW_d (fun v51 => [(.agg #[(.float .f32 v_x), (.float .f32 v_y), (.float .f32 v_z)]), (.agg #[(.float .f32 n_x), (.float .f32 n_y), (.float .f32 n_z)]), (.float .f32 k), (.pointer (some ⟨b2, 0, none⟩)), (.pointer (some ⟨b9, 0, none⟩)), undef, (.pointer (some ⟨b17, 0, none⟩)), (.float .f32 r29), (.agg #[(.float .f32 v_x), (.float .f32 v_y), (.float .f32 v_z)]), (.agg #[(.float .f32 n_x), (.float .f32 n_y), (.float .f32 n_z)]), (.float .f32 r29), (.float .f32 r29), (.bool (fcmp .lss (ford .f32 (cf .f32 r29) (cf .f32 0)))), (.bool (!(fcmp .lss (ford .f32 (cf .f32 r29) (cf .f32 0))))), undef, v48, v49, v50, v51, undef, undef, undef, undef]) rfl (fun _ => rfl) (fun u hu hF => ?_) (fun v51 => ?_)
  · clear hF
    refine doesG_un rfl ?_
    refine (does_move (u := (.float .f32 k)) (ev rfl)).mono ?_; rintro _ _ ⟨rfl, rfl⟩
    exact ⟨rfl, Ext.refl _⟩
  refine RW_d (fun v52 => [(.agg #[(.float .f32 v_x), (.float .f32 v_y), (.float .f32 v_z)]), (.agg #[(.float .f32 n_x), (.float .f32 n_y), (.float .f32 n_z)]), (.float .f32 k), (.pointer (some ⟨b2, 0, none⟩)), (.pointer (some ⟨b9, 0, none⟩)), undef, (.pointer (some ⟨b17, 0, none⟩)), (.float .f32 r29), (.agg #[(.float .f32 v_x), (.float .f32 v_y), (.float .f32 v_z)]), (.agg #[(.float .f32 n_x), (.float .f32 n_y), (.float .f32 n_z)]), (.float .f32 r29), (.float .f32 r29), (.bool (fcmp .lss (ford .f32 (cf .f32 r29) (cf .f32 0)))), (.bool (!(fcmp .lss (ford .f32 (cf .f32 r29) (cf .f32 0))))), undef, v48, v49, v50, v51, v52, undef, undef, undef]) rfl (fun _ => rfl) (fun u hu hF => ?_) (fun v52 => ?_)
  · have h18_ : v51 = (.float .f32 k) := hF.1
    clear hF
    obtain rfl := h18_
    refine doesG_un rfl ?_
    refine (does_float (.inl rfl) (ev rfl) (ev rfl)).mono ?_; rintro _ _ ⟨r, rfl, hr, hx⟩
    exact ⟨⟨r, rfl, (by simp only [hr])⟩, hx⟩
  refine RW_d (fun v53 => [(.agg #[(.float .f32 v_x), (.float .f32 v_y), (.float .f32 v_z)]), (.agg #[(.float .f32 n_x), (.float .f32 n_y), (.float .f32 n_z)]), (.float .f32 k), (.pointer (some ⟨b2, 0, none⟩)), (.pointer (some ⟨b9, 0, none⟩)), undef, (.pointer (some ⟨b17, 0, none⟩)), (.float .f32 r29), (.agg #[(.float .f32 v_x), (.float .f32 v_y), (.float .f32 v_z)]), (.agg #[(.float .f32 n_x), (.float .f32 n_y), (.float .f32 n_z)]), (.float .f32 r29), (.float .f32 r29), (.bool (fcmp .lss (ford .f32 (cf .f32 r29) (cf .f32 0)))), (.bool (!(fcmp .lss (ford .f32 (cf .f32 r29) (cf .f32 0))))), undef, v48, v49, v50, v51, v52, v53, undef, undef]) rfl (fun _ => rfl) (fun u hu hF => ?_) (fun v53 => ?_)
  · have h17_ : v50 = (.float .f32 r29) := hF.1
    have h19_ : ∃ r_1 : Nat, v52 = (.float .f32 r_1) ∧ cf .f32 r_1 = fop .add .f32 (cf .f32 1065353216) (cf .f32 k) := hF.2.1
    clear hF
    obtain rfl := h17_
    obtain ⟨r19_1, rfl, e19_0⟩ := h19_
    refine doesG_un rfl ?_
    refine (does_float (.inr (.inr (.inl rfl))) (ev rfl) (ev rfl)).mono ?_; rintro _ _ ⟨r, rfl, hr, hx⟩
    exact ⟨⟨r, rfl, (by simp only [hr, e19_0])⟩, hx⟩
  refine RW_d (fun v54 => [(.agg #[(.float .f32 v_x), (.float .f32 v_y), (.float .f32 v_z)]), (.agg #[(.float .f32 n_x), (.float .f32 n_y), (.float .f32 n_z)]), (.float .f32 k), (.pointer (some ⟨b2, 0, none⟩)), (.pointer (some ⟨b9, 0, none⟩)), undef, (.pointer (some ⟨b17, 0, none⟩)), (.float .f32 r29), (.agg #[(.float .f32 v_x), (.float .f32 v_y), (.float .f32 v_z)]), (.agg #[(.float .f32 n_x), (.float .f32 n_y), (.float .f32 n_z)]), (.float .f32 r29), (.float .f32 r29), (.bool (fcmp .lss (ford .f32 (cf .f32 r29) (cf .f32 0)))), (.bool (!(fcmp .lss (ford .f32 (cf .f32 r29) (cf .f32 0))))), undef, v48, v49, v50, v51, v52, v53, v54, undef]) rfl (fun _ => rfl) (fun u hu hF => ?_) (fun v54 => ?_)
  · have h16_ : v49 = (.agg #[(.float .f32 n_x), (.float .f32 n_y), (.float .f32 n_z)]) := hF.1
    have h20_ : ∃ r_1 : Nat, v53 = (.float .f32 r_1) ∧ cf .f32 r_1 = fop .mul .f32 (cf .f32 r29) (fop .add .f32 (cf .f32 1065353216) (cf .f32 k)) := hF.2.1
    clear hF
    obtain rfl := h16_
    obtain ⟨r20_1, rfl, e20_0⟩ := h20_
    refine doesG_un rfl ?_
    refine (does_call (args := #[(.agg #[(.float .f32 n_x), (.float .f32 n_y), (.float .f32 n_z)]), (.float .f32 r20_1)]) cal60 (evs rfl) (c_impl_ScaleVector n_x n_y n_z r20_1 _)).mono ?_; rintro v u' ⟨hx, ⟨rn1, rn2, rn3, hv, k0, k1, k2⟩⟩
    exact ⟨⟨rn1, rn2, rn3, hv.trans (by simp only [e20_0]), (by simp only [k0, e20_0]), (by simp only [k1, e20_0]), (by simp only [k2, e20_0])⟩, hx⟩
  refine RW_d (fun v55 => [(.agg #[(.float .f32 v_x), (.float .f32 v_y), (.float .f32 v_z)]), (.agg #[(.float .f32 n_x), (.float .f32 n_y), (.float .f32 n_z)]), (.float .f32 k), (.pointer (some ⟨b2, 0, none⟩)), (.pointer (some ⟨b9, 0, none⟩)), undef, (.pointer (some ⟨b17, 0, none⟩)), (.float .f32 r29), (.agg #[(.float .f32 v_x), (.float .f32 v_y), (.float .f32 v_z)]), (.agg #[(.float .f32 n_x), (.float .f32 n_y), (.float .f32 n_z)]), (.float .f32 r29), (.float .f32 r29), (.bool (fcmp .lss (ford .f32 (cf .f32 r29) (cf .f32 0)))), (.bool (!(fcmp .lss (ford .f32 (cf .f32 r29) (cf .f32 0))))), undef, v48, v49, v50, v51, v52, v53, v54, v55]) rfl (fun _ => rfl) (fun u hu hF => ?_) (fun v55 => ?_)
  · have h15_ : v48 = (.agg #[(.float .f32 v_x), (.float .f32 v_y), (.float .f32 v_z)]) := hF.1
    have h21_ : ∃ r_1 : Nat, ∃ r_2 : Nat, ∃ r_3 : Nat, v54 = (.agg #[(.float .f32 r_1), (.float .f32 r_2), (.float .f32 r_3)]) ∧ cf .f32 r_1 = fop .mul .f32 (cf .f32 n_x) (fop .mul .f32 (cf .f32 r29) (fop .add .f32 (cf .f32 1065353216) (cf .f32 k))) ∧ cf .f32 r_2 = fop .mul .f32 (cf .f32 n_y) (fop .mul .f32 (cf .f32 r29) (fop .add .f32 (cf .f32 1065353216) (cf .f32 k))) ∧ cf .f32 r_3 = fop .mul .f32 (cf .f32 n_z) (fop .mul .f32 (cf .f32 r29) (fop .add .f32 (cf .f32 1065353216) (cf .f32 k))) := hF.2.1
    clear hF
    obtain rfl := h15_
    obtain ⟨r21_1, r21_2, r21_3, rfl, e21_0, e21_1, e21_2⟩ := h21_
    refine doesG_un rfl ?_
    refine (does_call (args := #[(.agg #[(.float .f32 v_x), (.float .f32 v_y), (.float .f32 v_z)]), (.agg #[(.float .f32 r21_1), (.float .f32 r21_2), (.float .f32 r21_3)])]) cal59 (evs rfl) (c_impl_LessVectors v_x v_y v_z r21_1 r21_2 r21_3 _)).mono ?_; rintro v u' ⟨hx, ⟨rn1, rn2, rn3, hv, k0, k1, k2⟩⟩
    exact ⟨⟨rn1, rn2, rn3, hv.trans (by simp only [e21_0, e21_1, e21_2]), (by simp only [k0, e21_0, e21_1, e21_2]), (by simp only [k1, e21_0, e21_1, e21_2]), (by simp only [k2, e21_0, e21_1, e21_2])⟩, hx⟩
  refine RW_fin ?_; intro w56 E57 hP58
  obtain ⟨⟨⟨⟨⟨⟨⟨⟨-, -⟩, -⟩, -⟩, -⟩, -⟩, -⟩, -⟩, q59⟩ := hP58
  have X60 := Ext.gr X47 E57
  have q59 : ∃ r_1 : Nat, ∃ r_2 : Nat, ∃ r_3 : Nat, v55 = (.agg #[(.float .f32 r_1), (.float .f32 r_2), (.float .f32 r_3)]) ∧ cf .f32 r_1 = fop .sub .f32 (cf .f32 v_x) (fop .mul .f32 (cf .f32 n_x) (fop .mul .f32 (cf .f32 r29) (fop .add .f32 (cf .f32 1065353216) (cf .f32 k)))) ∧ cf .f32 r_2 = fop .sub .f32 (cf .f32 v_y) (fop .mul .f32 (cf .f32 n_y) (fop .mul .f32 (cf .f32 r29) (fop .add .f32 (cf .f32 1065353216) (cf .f32 k)))) ∧ cf .f32 r_3 = fop .sub .f32 (cf .f32 v_z) (fop .mul .f32 (cf .f32 n_z) (fop .mul .f32 (cf .f32 r29) (fop .add .f32 (cf .f32 1065353216) (cf .f32 k)))) := q59
  obtain ⟨r61, r62, r63, rfl, h64, h65, h66⟩ := q59
  show wpList _ _ _ _ (fr [(.agg #[(.float .f32 v_x), (.float .f32 v_y), (.float .f32 v_z)]), (.agg #[(.float .f32 n_x), (.float .f32 n_y), (.float .f32 n_z)]), (.float .f32 k), (.pointer (some ⟨b2, 0, none⟩)), (.pointer (some ⟨b9, 0, none⟩)), undef, (.pointer (some ⟨b17, 0, none⟩)), (.float .f32 r29), (.agg #[(.float .f32 v_x), (.float .f32 v_y), (.float .f32 v_z)]), (.agg #[(.float .f32 n_x), (.float .f32 n_y), (.float .f32 n_z)]), (.float .f32 r29), (.float .f32 r29), (.bool (fcmp .lss (ford .f32 (cf .f32 r29) (cf .f32 0)))), (.bool (!(fcmp .lss (ford .f32 (cf .f32 r29) (cf .f32 0))))), undef, v48, v49, v50, v51, v52, v53, v54, (.agg #[(.float .f32 r61), (.float .f32 r62), (.float .f32 r63)])]) _
  refine seqn rfl rfl (does_store (n := 3) (cs := [(.float .f32 0), (.float .f32 0), (.float .f32 0)]) (u := (.agg #[(.float .f32 r61), (.float .f32 r62), (.float .f32 r63)])) (ev rfl) (ev rfl) Try.sizeOf31 rfl (((hB19.ext E27).ext E45).ext E57) (Nat.le_of_ble_eq_true rfl) rfl) ?_; rintro _ w69 ⟨rfl, W67, hB68⟩
  change Blk _ _ [(.float .f32 r61), (.float .f32 r62), (.float .f32 r63)] at hB68
  have X70 := Below.wr X60 W67 g24
  refine wpList_nil (hK43 _ _ ?_)
  refine wp_ret ?_
  refine ret_val (v := (.agg #[(.float .f32 r61), (.float .f32 r62), (.float .f32 r63)])) (res_C rfl (slot rfl) (run_loadAgg (cs := [(.float .f32 r61), (.float .f32 r62), (.float .f32 r63)]) Try.isAgg31 Try.sizeOf31 (Blk.cells hB68) rfl)) X70 ?_
  try simp only [h30, h64, h65, h66] at c34
  have x71 : cf .f32 r61 = (awayF (cf .f32 v_x) (cf .f32 v_y) (cf .f32 v_z) (cf .f32 n_x) (cf .f32 n_y) (cf .f32 n_z) (fop .add .f32 (cf .f32 1065353216) (cf .f32 k))).1 := by first | rfl | (simp only [awayF, h30, h64, h65, h66, c34]; done) | (simp [awayF, h30, h64, h65, h66, c34]; done) | (revert c34; simp +contextual [awayF, h30, h64, h65, h66]; done)
  have x72 : cf .f32 r62 = (awayF (cf .f32 v_x) (cf .f32 v_y) (cf .f32 v_z) (cf .f32 n_x) (cf .f32 n_y) (cf .f32 n_z) (fop .add .f32 (cf .f32 1065353216) (cf .f32 k))).2.1 := by first | rfl | (simp only [awayF, h30, h64, h65, h66, c34]; done) | (simp [awayF, h30, h64, h65, h66, c34]; done) | (revert c34; simp +contextual [awayF, h30, h64, h65, h66]; done)
  have x73 : cf .f32 r63 = (awayF (cf .f32 v_x) (cf .f32 v_y) (cf .f32 v_z) (cf .f32 n_x) (cf .f32 n_y) (cf .f32 n_z) (fop .add .f32 (cf .f32 1065353216) (cf .f32 k))).2.2 := by first | rfl | (simp only [awayF, h30, h64, h65, h66, c34]; done) | (simp [awayF, h30, h64, h65, h66, c34]; done) | (revert c34; simp +contextual [awayF, h30, h64, h65, h66]; done)
  exact ⟨r61, r62, r63, rfl, x71, x72, x73⟩

/- laws.sameFloat -/
theorem c_laws_sameFloat (x : Nat) (y : Nat) (w : World) : Gives Try.prog 56 #[(.float .f64 x), (.float .f64 y)] w (fun v w' => v = (.bool (sameF (cf .f64 x) (cf .f64 y)))) := by
  refine enter [(.float .f64 x), (.float .f64 y), undef, undef, undef, undef, undef, undef, undef, undef, undef, undef, undef, undef, undef, undef, undef, undef, undef, undef, undef, undef, undef, undef, undef, undef, undef, undef, undef, undef, undef, undef, undef, undef, undef, undef, undef] Try.func56 rfl Try.ntmps56 rfl ?_
  refine wp_seq_k fun K1 hK1 => ?_
  refine wp_region_lit ?_
  refine q_is (l' := [(.float .f64 x), (.float .f64 y), undef, undef, (.bool false), undef, undef, undef, undef, undef, undef, undef, undef, undef, undef, undef, undef, undef, undef, undef, undef, undef, undef, undef, undef, undef, undef, undef, undef, undef, undef, undef, undef, undef, undef, undef, undef]) rfl rfl (does_assign (u := (.bool false)) (ev rfl)) rfl ?_
  refine wpList_nil (hK1 _ _ ?_)
  refine wp_seq_k fun K2 hK2 => ?_
  refine wp_seq_k fun K3 hK3 => ?_
  refine region_text (
    [Fact.pure [] (fun v => v = (.float .f64 x)),
    Fact.pure [] (fun v => v = (.float .f64 x)),
    Fact.pure [5, 6] (fun v => v = (.bool (fcmp .neq (ford .f64 (cf .f64 x) (cf .f64 x))))),
    Fact.pure [7] (fun v => v = (.bool (fcmp .neq (ford .f64 (cf .f64 x) (cf .f64 x))))),
    Fact.pure [8] (fun v => (fcmp .neq (ford .f64 (cf .f64 x) (cf .f64 x))) = false → v = (.float .f64 y)),
    Fact.pure [8] (fun v => (fcmp .neq (ford .f64 (cf .f64 x) (cf .f64 x))) = false → v = (.float .f64 y)),
    Fact.pure [9, 10, 8] (fun v => (fcmp .neq (ford .f64 (cf .f64 x) (cf .f64 x))) = false → v = (.bool (fcmp .neq (ford .f64 (cf .f64 y) (cf .f64 y))))),
    Fact.pure [8, 11] (fun v => v = (.bool ((fcmp .neq (ford .f64 (cf .f64 x) (cf .f64 x))) || (fcmp .neq (ford .f64 (cf .f64 y) (cf .f64 y))))))]) (by simp [Fact.pure, Fact.mem]) ?_
  refine RW_d (fun v4 => [(.float .f64 x), (.float .f64 y), undef, undef, (.bool false), v4, undef, undef, undef, undef, undef, undef, undef, undef, undef, undef, undef, undef, undef, undef, undef, undef, undef, undef, undef, undef, undef, undef, undef, undef, undef, undef, undef, undef, undef, undef, undef]) rfl (fun _ => rfl) (fun u hu hF => ?_) (fun v4 => ?_)
  · clear hF
    refine doesG_un rfl ?_
    refine (does_move (u := (.float .f64 x)) (ev rfl)).mono ?_; rintro _ _ ⟨rfl, rfl⟩
    exact ⟨rfl, Ext.refl _⟩
  refine RW_d (fun v5 => [(.float .f64 x), (.float .f64 y), undef, undef, (.bool false), v4, v5, undef, undef, undef, undef, undef, undef, undef, undef, undef, undef, undef, undef, undef, undef, undef, undef, undef, undef, undef, undef, undef, undef, undef, undef, undef, undef, undef, undef, undef, undef]) rfl (fun _ => rfl) (fun u hu hF => ?_) (fun v5 => ?_)
  · clear hF
    refine doesG_un rfl ?_
    refine (does_move (u := (.float .f64 x)) (ev rfl)).mono ?_; rintro _ _ ⟨rfl, rfl⟩
    exact ⟨rfl, Ext.refl _⟩
  refine RW_d (fun v6 => [(.float .f64 x), (.float .f64 y), undef, undef, (.bool false), v4, v5, v6, undef, undef, undef, undef, undef, undef, undef, undef, undef, undef, undef, undef, undef, undef, undef, undef, undef, undef, undef, undef, undef, undef, undef, undef, undef, undef, undef, undef, undef]) rfl (fun _ => rfl) (fun u hu hF => ?_) (fun v6 => ?_)
  · have h5_ : v4 = (.float .f64 x) := hF.1
    have h6_ : v5 = (.float .f64 x) := hF.2.1
    clear hF
    obtain rfl := h5_
    obtain rfl := h6_
    refine doesG_un rfl ?_
    refine (does_fcmp (.inr (.inl rfl)) (ev rfl) (ev rfl)).mono ?_; rintro _ _ ⟨rfl, rfl⟩
    exact ⟨rfl, Ext.refl _⟩
  refine RW_d (fun v7 => [(.float .f64 x), (.float .f64 y), undef, undef, (.bool false), v4, v5, v6, v7, undef, undef, undef, undef, undef, undef, undef, undef, undef, undef, undef, undef, undef, undef, undef, undef, undef, undef, undef, undef, undef, undef, undef, undef, undef, undef, undef, undef]) rfl (fun _ => rfl) (fun u hu hF => ?_) (fun v7 => ?_)
  · have h7_ : v6 = (.bool (fcmp .neq (ford .f64 (cf .f64 x) (cf .f64 x)))) := hF.1
    clear hF
    obtain rfl := h7_
    refine doesG_un rfl ?_
    refine (does_move (u := (.bool (fcmp .neq (ford .f64 (cf .f64 x) (cf .f64 x))))) (ev rfl)).mono ?_; rintro _ _ ⟨rfl, rfl⟩
    exact ⟨rfl, Ext.refl _⟩
  refine RW_d (fun v8 => [(.float .f64 x), (.float .f64 y), undef, undef, (.bool false), v4, v5, v6, v7, v8, undef, undef, undef, undef, undef, undef, undef, undef, undef, undef, undef, undef, undef, undef, undef, undef, undef, undef, undef, undef, undef, undef, undef, undef, undef, undef, undef]) rfl (fun _ => rfl) (fun u hu hF => ?_) (fun v8 => ?_)
  · have h8_ : v7 = (.bool (fcmp .neq (ford .f64 (cf .f64 x) (cf .f64 x)))) := hF.1
    clear hF
    obtain rfl := h8_
    refine doesG_g (b := (fcmp .neq (ford .f64 (cf .f64 x) (cf .f64 x)))) rfl (yld rfl rfl) (fun hg => ?_) (fun hg => ⟨fun h => absurd h hg, Ext.refl _⟩)
    refine (does_move (u := (.float .f64 y)) (ev rfl)).mono ?_; rintro _ _ ⟨rfl, rfl⟩
    exact ⟨fun _ => rfl, Ext.refl _⟩
  refine RW_d (fun v9 => [(.float .f64 x), (.float .f64 y), undef, undef, (.bool false), v4, v5, v6, v7, v8, v9, undef, undef, undef, undef, undef, undef, undef, undef, undef, undef, undef, undef, undef, undef, undef, undef, undef, undef, undef, undef, undef, undef, undef, undef, undef, undef]) rfl (fun _ => rfl) (fun u hu hF => ?_) (fun v9 => ?_)
  · have h8_ : v7 = (.bool (fcmp .neq (ford .f64 (cf .f64 x) (cf .f64 x)))) := hF.1
    clear hF
    obtain rfl := h8_
    refine doesG_g (b := (fcmp .neq (ford .f64 (cf .f64 x) (cf .f64 x)))) rfl (yld rfl rfl) (fun hg => ?_) (fun hg => ⟨fun h => absurd h hg, Ext.refl _⟩)
    refine (does_move (u := (.float .f64 y)) (ev rfl)).mono ?_; rintro _ _ ⟨rfl, rfl⟩
    exact ⟨fun _ => rfl, Ext.refl _⟩
  refine RW_d (fun v10 => [(.float .f64 x), (.float .f64 y), undef, undef, (.bool false), v4, v5, v6, v7, v8, v9, v10, undef, undef, undef, undef, undef, undef, undef, undef, undef, undef, undef, undef, undef, undef, undef, undef, undef, undef, undef, undef, undef, undef, undef, undef, undef]) rfl (fun _ => rfl) (fun u hu hF => ?_) (fun v10 => ?_)
  · have h9_ : (fcmp .neq (ford .f64 (cf .f64 x) (cf .f64 x))) = false → v8 = (.float .f64 y) := hF.1
    have h10_ : (fcmp .neq (ford .f64 (cf .f64 x) (cf .f64 x))) = false → v9 = (.float .f64 y) := hF.2.1
    have h8_ : v7 = (.bool (fcmp .neq (ford .f64 (cf .f64 x) (cf .f64 x)))) := hF.2.2.1
    clear hF
    obtain rfl := h8_
    refine doesG_g (b := (fcmp .neq (ford .f64 (cf .f64 x) (cf .f64 x)))) rfl (yld rfl rfl) (fun hg => ?_) (fun hg => ⟨fun h => absurd h hg, Ext.refl _⟩)
    obtain rfl := h9_ hg
    obtain rfl := h10_ hg
    refine (does_fcmp (.inr (.inl rfl)) (ev rfl) (ev rfl)).mono ?_; rintro _ _ ⟨rfl, rfl⟩
    exact ⟨fun _ => rfl, Ext.refl _⟩
  refine RW_d (fun v11 => [(.float .f64 x), (.float .f64 y), undef, undef, (.bool false), v4, v5, v6, v7, v8, v9, v10, v11, undef, undef, undef, undef, undef, undef, undef, undef, undef, undef, undef, undef, undef, undef, undef, undef, undef, undef, undef, undef, undef, undef, undef, undef]) rfl (fun _ => rfl) (fun u hu hF => ?_) (fun v11 => ?_)
  · have h8_ : v7 = (.bool (fcmp .neq (ford .f64 (cf .f64 x) (cf .f64 x)))) := hF.1
    have h11_ : (fcmp .neq (ford .f64 (cf .f64 x) (cf .f64 x))) = false → v10 = (.bool (fcmp .neq (ford .f64 (cf .f64 y) (cf .f64 y)))) := hF.2.1
    clear hF
    obtain rfl := h8_
    refine doesG_un rfl ((does_pick (b := (fcmp .neq (ford .f64 (cf .f64 x) (cf .f64 x)))) (ev rfl) (ev rfl) (ev rfl)).mono ?_); rintro _ _ ⟨rfl, rfl⟩; refine ⟨?_, Ext.refl _⟩
    cases hbb : (fcmp .neq (ford .f64 (cf .f64 x) (cf .f64 x))) <;> simp [hbb] at h11_ ⊢
    all_goals (first | rfl | (subst h11_; rfl) | simp_all)
  refine RW_fin ?_; intro w12 E13 hP14
  obtain ⟨⟨⟨⟨⟨⟨⟨⟨-, -⟩, -⟩, -⟩, -⟩, -⟩, -⟩, -⟩, q15⟩ := hP14
  have X16 := Ext.gr (Ext.refl w) E13
  have q15 : v11 = (.bool ((fcmp .neq (ford .f64 (cf .f64 x) (cf .f64 x))) || (fcmp .neq (ford .f64 (cf .f64 y) (cf .f64 y))))) := q15
  obtain rfl := q15
  show wpList _ _ _ _ (fr [(.float .f64 x), (.float .f64 y), undef, undef, (.bool false), v4, v5, v6, v7, v8, v9, v10, (.bool ((fcmp .neq (ford .f64 (cf .f64 x) (cf .f64 x))) || (fcmp .neq (ford .f64 (cf .f64 y) (cf .f64 y))))), undef, undef, undef, undef, undef, undef, undef, undef, undef, undef, undef, undef, undef, undef, undef, undef, undef, undef, undef, undef, undef, undef, undef, undef]) _
  refine wpList_nil (hK3 _ _ ?_)
  refine wp_cond_split (t := (fcmp .neq (ford .f64 (cf .f64 x) (cf .f64 x))) || (fcmp .neq (ford .f64 (cf .f64 y) (cf .f64 y)))) (ev rfl) (fun c17 => ?_) (fun c17 => ?_)
  · have c17' := c17
    refine wp_seq_k fun K18 hK18 => ?_
    refine region_text (
      [Fact.pure [] (fun v => v = (.float .f64 x)),
    Fact.pure [] (fun v => v = (.float .f64 x)),
    Fact.pure [13, 14] (fun v => v = (.bool (fcmp .neq (ford .f64 (cf .f64 x) (cf .f64 x))))),
    Fact.pure [15] (fun v => v = (.bool (fcmp .neq (ford .f64 (cf .f64 x) (cf .f64 x))))),
    Fact.pure [16] (fun v => (fcmp .neq (ford .f64 (cf .f64 x) (cf .f64 x))) = true → v = (.float .f64 y)),
    Fact.pure [16] (fun v => (fcmp .neq (ford .f64 (cf .f64 x) (cf .f64 x))) = true → v = (.float .f64 y)),
    Fact.pure [17, 18, 16] (fun v => (fcmp .neq (ford .f64 (cf .f64 x) (cf .f64 x))) = true → v = (.bool (fcmp .neq (ford .f64 (cf .f64 y) (cf .f64 y))))),
    Fact.pure [16, 19] (fun v => v = (.bool ((fcmp .neq (ford .f64 (cf .f64 x) (cf .f64 x))) && (fcmp .neq (ford .f64 (cf .f64 y) (cf .f64 y))))))]) (by simp [Fact.pure, Fact.mem]) ?_
    refine RW_d (fun v19 => [(.float .f64 x), (.float .f64 y), undef, undef, (.bool false), v4, v5, v6, v7, v8, v9, v10, (.bool ((fcmp .neq (ford .f64 (cf .f64 x) (cf .f64 x))) || (fcmp .neq (ford .f64 (cf .f64 y) (cf .f64 y))))), v19, undef, undef, undef, undef, undef, undef, undef, undef, undef, undef, undef, undef, undef, undef, undef, undef, undef, undef, undef, undef, undef, undef, undef]) rfl (fun _ => rfl) (fun u hu hF => ?_) (fun v19 => ?_)
    · clear hF
      refine doesG_un rfl ?_
      refine (does_move (u := (.float .f64 x)) (ev rfl)).mono ?_; rintro _ _ ⟨rfl, rfl⟩
      exact ⟨rfl, Ext.refl _⟩
    refine RW_d (fun v20 => [(.float .f64 x), (.float .f64 y), undef, undef, (.bool false), v4, v5, v6, v7, v8, v9, v10, (.bool ((fcmp .neq (ford .f64 (cf .f64 x) (cf .f64 x))) || (fcmp .neq (ford .f64 (cf .f64 y) (cf .f64 y))))), v19, v20, undef, undef, undef, undef, undef, undef, undef, undef, undef, undef, undef, undef, undef, undef, undef, undef, undef, undef, undef, undef, undef, undef]) rfl (fun _ => rfl) (fun u hu hF => ?_) (fun v20 => ?_)
    · clear hF
      refine doesG_un rfl ?_
      refine (does_move (u := (.float .f64 x)) (ev rfl)).mono ?_; rintro _ _ ⟨rfl, rfl⟩
      exact ⟨rfl, Ext.refl _⟩
    refine RW_d (fun v21 => [(.float .f64 x), (.float .f64 y), undef, undef, (.bool false), v4, v5, v6, v7, v8, v9, v10, (.bool ((fcmp .neq (ford .f64 (cf .f64 x) (cf .f64 x))) || (fcmp .neq (ford .f64 (cf .f64 y) (cf .f64 y))))), v19, v20, v21, undef, undef, undef, undef, undef, undef, undef, undef, undef, undef, undef, undef, undef, undef, undef, undef, undef, undef, undef, undef, undef]) rfl (fun _ => rfl) (fun u hu hF => ?_) (fun v21 => ?_)
    · have h13_ : v19 = (.float .f64 x) := hF.1
      have h14_ : v20 = (.float .f64 x) := hF.2.1
      clear hF
      obtain rfl := h13_
      obtain rfl := h14_
      refine doesG_un rfl ?_
      refine (does_fcmp (.inr (.inl rfl)) (ev rfl) (ev rfl)).mono ?_; rintro _ _ ⟨rfl, rfl⟩
      exact ⟨rfl, Ext.refl _⟩
    refine RW_d (fun v22 => [(.float .f64 x), (.float .f64 y), undef, undef, (.bool false), v4, v5, v6, v7, v8, v9, v10, (.bool ((fcmp .neq (ford .f64 (cf .f64 x) (cf .f64 x))) || (fcmp .neq (ford .f64 (cf .f64 y) (cf .f64 y))))), v19, v20, v21, v22, undef, undef, undef, undef, undef, undef, undef, undef, undef, undef, undef, undef, undef, undef, undef, undef, undef, undef, undef, undef]) rfl (fun _ => rfl) (fun u hu hF => ?_) (fun v22 => ?_)
    · have h15_ : v21 = (.bool (fcmp .neq (ford .f64 (cf .f64 x) (cf .f64 x)))) := hF.1
      clear hF
      obtain rfl := h15_
      refine doesG_un rfl ?_
      refine (does_move (u := (.bool (fcmp .neq (ford .f64 (cf .f64 x) (cf .f64 x))))) (ev rfl)).mono ?_; rintro _ _ ⟨rfl, rfl⟩
      exact ⟨rfl, Ext.refl _⟩
    refine RW_d (fun v23 => [(.float .f64 x), (.float .f64 y), undef, undef, (.bool false), v4, v5, v6, v7, v8, v9, v10, (.bool ((fcmp .neq (ford .f64 (cf .f64 x) (cf .f64 x))) || (fcmp .neq (ford .f64 (cf .f64 y) (cf .f64 y))))), v19, v20, v21, v22, v23, undef, undef, undef, undef, undef, undef, undef, undef, undef, undef, undef, undef, undef, undef, undef, undef, undef, undef, undef]) rfl (fun _ => rfl) (fun u hu hF => ?_) (fun v23 => ?_)
    · have h16_ : v22 = (.bool (fcmp .neq (ford .f64 (cf .f64 x) (cf .f64 x)))) := hF.1
      clear hF
      obtain rfl := h16_
      refine doesG_g (b := (fcmp .neq (ford .f64 (cf .f64 x) (cf .f64 x)))) rfl (yld rfl rfl) (fun hg => ?_) (fun hg => ⟨fun h => absurd h hg, Ext.refl _⟩)
      refine (does_move (u := (.float .f64 y)) (ev rfl)).mono ?_; rintro _ _ ⟨rfl, rfl⟩
      exact ⟨fun _ => rfl, Ext.refl _⟩
    refine RW_d (fun v24 => [(.float .f64 x), (.float .f64 y), undef, undef, (.bool false), v4, v5, v6, v7, v8, v9, v10, (.bool ((fcmp .neq (ford .f64 (cf .f64 x) (cf .f64 x))) || (fcmp .neq (ford .f64 (cf .f64 y) (cf .f64 y))))), v19, v20, v21, v22, v23, v24, undef, undef, undef, undef, undef, undef, undef, undef, undef, undef, undef, undef, undef, undef, undef, undef, undef, undef]) rfl (fun _ => rfl) (fun u hu hF => ?_) (fun v24 => ?_)
    · have h16_ : v22 = (.bool (fcmp .neq (ford .f64 (cf .f64 x) (cf .f64 x)))) := hF.1
      clear hF
      obtain rfl := h16_
      refine doesG_g (b := (fcmp .neq (ford .f64 (cf .f64 x) (cf .f64 x)))) rfl (yld rfl rfl) (fun hg => ?_) (fun hg => ⟨fun h => absurd h hg, Ext.refl _⟩)
      refine (does_move (u := (.float .f64 y)) (ev rfl)).mono ?_; rintro _ _ ⟨rfl, rfl⟩
      exact ⟨fun _ => rfl, Ext.refl _⟩
    refine RW_d (fun v25 => [(.float .f64 x), (.float .f64 y), undef, undef, (.bool false), v4, v5, v6, v7, v8, v9, v10, (.bool ((fcmp .neq (ford .f64 (cf .f64 x) (cf .f64 x))) || (fcmp .neq (ford .f64 (cf .f64 y) (cf .f64 y))))), v19, v20, v21, v22, v23, v24, v25, undef, undef, undef, undef, undef, undef, undef, undef, undef, undef, undef, undef, undef, undef, undef, undef, undef]) rfl (fun _ => rfl) (fun u hu hF => ?_) (fun v25 => ?_)
    · have h17_ : (fcmp .neq (ford .f64 (cf .f64 x) (cf .f64 x))) = true → v23 = (.float .f64 y) := hF.1
      have h18_ : (fcmp .neq (ford .f64 (cf .f64 x) (cf .f64 x))) = true → v24 = (.float .f64 y) := hF.2.1
      have h16_ : v22 = (.bool (fcmp .neq (ford .f64 (cf .f64 x) (cf .f64 x)))) := hF.2.2.1
      clear hF
      obtain rfl := h16_
      refine doesG_g (b := (fcmp .neq (ford .f64 (cf .f64 x) (cf .f64 x)))) rfl (yld rfl rfl) (fun hg => ?_) (fun hg => ⟨fun h => absurd h hg, Ext.refl _⟩)
      obtain rfl := h17_ hg
      obtain rfl := h18_ hg
      refine (does_fcmp (.inr (.inl rfl)) (ev rfl) (ev rfl)).mono ?_; rintro _ _ ⟨rfl, rfl⟩
      exact ⟨fun _ => rfl, Ext.refl _⟩
    refine RW_d (fun v26 => [(.float .f64 x), (.float .f64 y), undef, undef, (.bool false), v4, v5, v6, v7, v8, v9, v10, (.bool ((fcmp .neq (ford .f64 (cf .f64 x) (cf .f64 x))) || (fcmp .neq (ford .f64 (cf .f64 y) (cf .f64 y))))), v19, v20, v21, v22, v23, v24, v25, v26, undef, undef, undef, undef, undef, undef, undef, undef, undef, undef, undef, undef, undef, undef, undef, undef]) rfl (fun _ => rfl) (fun u hu hF => ?_) (fun v26 => ?_)
    · have h16_ : v22 = (.bool (fcmp .neq (ford .f64 (cf .f64 x) (cf .f64 x)))) := hF.1
      have h19_ : (fcmp .neq (ford .f64 (cf .f64 x) (cf .f64 x))) = true → v25 = (.bool (fcmp .neq (ford .f64 (cf .f64 y) (cf .f64 y)))) := hF.2.1
      clear hF
      obtain rfl := h16_
      refine doesG_un rfl ((does_pick (b := (fcmp .neq (ford .f64 (cf .f64 x) (cf .f64 x)))) (ev rfl) (ev rfl) (ev rfl)).mono ?_); rintro _ _ ⟨rfl, rfl⟩; refine ⟨?_, Ext.refl _⟩
      cases hbb : (fcmp .neq (ford .f64 (cf .f64 x) (cf .f64 x))) <;> simp [hbb] at h19_ ⊢
      all_goals (first | rfl | (subst h19_; rfl) | simp_all)
    refine RW_fin ?_; intro w27 E28 hP29
    obtain ⟨⟨⟨⟨⟨⟨⟨⟨-, -⟩, -⟩, -⟩, -⟩, -⟩, -⟩, -⟩, q30⟩ := hP29
    have X31 := Ext.gr X16 E28
    have q30 : v26 = (.bool ((fcmp .neq (ford .f64 (cf .f64 x) (cf .f64 x))) && (fcmp .neq (ford .f64 (cf .f64 y) (cf .f64 y))))) := q30
    obtain rfl := q30
    show wpList _ _ _ _ (fr [(.float .f64 x), (.float .f64 y), undef, undef, (.bool false), v4, v5, v6, v7, v8, v9, v10, (.bool ((fcmp .neq (ford .f64 (cf .f64 x) (cf .f64 x))) || (fcmp .neq (ford .f64 (cf .f64 y) (cf .f64 y))))), v19, v20, v21, v22, v23, v24, v25, (.bool ((fcmp .neq (ford .f64 (cf .f64 x) (cf .f64 x))) && (fcmp .neq (ford .f64 (cf .f64 y) (cf .f64 y))))), undef, undef, undef, undef, undef, undef, undef, undef, undef, undef, undef, undef, undef, undef, undef, undef]) _
    refine q_is (l' := [(.float .f64 x), (.float .f64 y), undef, undef, (.bool ((fcmp .neq (ford .f64 (cf .f64 x) (cf .f64 x))) && (fcmp .neq (ford .f64 (cf .f64 y) (cf .f64 y))))), v4, v5, v6, v7, v8, v9, v10, (.bool ((fcmp .neq (ford .f64 (cf .f64 x) (cf .f64 x))) || (fcmp .neq (ford .f64 (cf .f64 y) (cf .f64 y))))), v19, v20, v21, v22, v23, v24, v25, (.bool ((fcmp .neq (ford .f64 (cf .f64 x) (cf .f64 x))) && (fcmp .neq (ford .f64 (cf .f64 y) (cf .f64 y))))), undef, undef, undef, undef, undef, undef, undef, undef, undef, undef, undef, undef, undef, undef, undef, undef]) rfl rfl (does_assign (u := (.bool ((fcmp .neq (ford .f64 (cf .f64 x) (cf .f64 x))) && (fcmp .neq (ford .f64 (cf .f64 y) (cf .f64 y)))))) (ev rfl)) rfl ?_
    refine wpList_nil (hK18 _ _ ?_)
    refine wp_ret ?_
    dsimp only [Exit.then, Exit.inBlock]
    refine ret_val (v := (.bool ((fcmp .neq (ford .f64 (cf .f64 x) (cf .f64 x))) && (fcmp .neq (ford .f64 (cf .f64 y) (cf .f64 y)))))) (res_T rfl (slot rfl)) X31 ?_
    have x32 : (sameF (cf .f64 x) (cf .f64 y)) = ((fcmp .neq (ford .f64 (cf .f64 x) (cf .f64 x))) && (fcmp .neq (ford .f64 (cf .f64 y) (cf .f64 y)))) := by first | rfl | (simp only [sameF, c17]; done) | (simp [sameF, c17]; done) | (revert c17; simp +contextual [sameF]; done)
    exact (by first | rfl | rw [x32])
  have c17' := c17
  refine wp_skip (hK2 _ _ ?_)
  refine wp_seq_k fun K33 hK33 => ?_
  refine wp_seq_k fun K34 hK34 => ?_
  refine region_text (
    [Fact.pure [] (fun v => v = (.float .f64 x)),
    Fact.pure [21] (fun v => v = (.bool (fcmp .eql (ford .f64 (cf .f64 x) (cf .f64 0))))),
    Fact.pure [22] (fun v => v = (.bool (fcmp .eql (ford .f64 (cf .f64 x) (cf .f64 0))))),
    Fact.pure [23] (fun v => (fcmp .eql (ford .f64 (cf .f64 x) (cf .f64 0))) = true → v = (.float .f64 y)),
    Fact.pure [24, 23] (fun v => (fcmp .eql (ford .f64 (cf .f64 x) (cf .f64 0))) = true → v = (.bool (fcmp .eql (ford .f64 (cf .f64 y) (cf .f64 0))))),
    Fact.pure [23, 25] (fun v => v = (.bool ((fcmp .eql (ford .f64 (cf .f64 x) (cf .f64 0))) && (fcmp .eql (ford .f64 (cf .f64 y) (cf .f64 0))))))]) (by simp [Fact.pure, Fact.mem]) ?_
  refine RW_d (fun v35 => [(.float .f64 x), (.float .f64 y), undef, undef, (.bool false), v4, v5, v6, v7, v8, v9, v10, (.bool ((fcmp .neq (ford .f64 (cf .f64 x) (cf .f64 x))) || (fcmp .neq (ford .f64 (cf .f64 y) (cf .f64 y))))), undef, undef, undef, undef, undef, undef, undef, undef, v35, undef, undef, undef, undef, undef, undef, undef, undef, undef, undef, undef, undef, undef, undef, undef]) rfl (fun _ => rfl) (fun u hu hF => ?_) (fun v35 => ?_)
  · clear hF
    refine doesG_un rfl ?_
    refine (does_move (u := (.float .f64 x)) (ev rfl)).mono ?_; rintro _ _ ⟨rfl, rfl⟩
    exact ⟨rfl, Ext.refl _⟩
  refine RW_d (fun v36 => [(.float .f64 x), (.float .f64 y), undef, undef, (.bool false), v4, v5, v6, v7, v8, v9, v10, (.bool ((fcmp .neq (ford .f64 (cf .f64 x) (cf .f64 x))) || (fcmp .neq (ford .f64 (cf .f64 y) (cf .f64 y))))), undef, undef, undef, undef, undef, undef, undef, undef, v35, v36, undef, undef, undef, undef, undef, undef, undef, undef, undef, undef, undef, undef, undef, undef]) rfl (fun _ => rfl) (fun u hu hF => ?_) (fun v36 => ?_)
  · have h21_ : v35 = (.float .f64 x) := hF.1
    clear hF
    obtain rfl := h21_
    refine doesG_un rfl ?_
    refine (does_fcmp (.inl rfl) (ev rfl) (ev rfl)).mono ?_; rintro _ _ ⟨rfl, rfl⟩
    exact ⟨rfl, Ext.refl _⟩
  refine RW_d (fun v37 => [(.float .f64 x), (.float .f64 y), undef, undef, (.bool false), v4, v5, v6, v7, v8, v9, v10, (.bool ((fcmp .neq (ford .f64 (cf .f64 x) (cf .f64 x))) || (fcmp .neq (ford .f64 (cf .f64 y) (cf .f64 y))))), undef, undef, undef, undef, undef, undef, undef, undef, v35, v36, v37, undef, undef, undef, undef, undef, undef, undef, undef, undef, undef, undef, undef, undef]) rfl (fun _ => rfl) (fun u hu hF => ?_) (fun v37 => ?_)
  · have h22_ : v36 = (.bool (fcmp .eql (ford .f64 (cf .f64 x) (cf .f64 0)))) := hF.1
    clear hF
    obtain rfl := h22_
    refine doesG_un rfl ?_
    refine (does_move (u := (.bool (fcmp .eql (ford .f64 (cf .f64 x) (cf .f64 0))))) (ev rfl)).mono ?_; rintro _ _ ⟨rfl, rfl⟩
    exact ⟨rfl, Ext.refl _⟩
  refine RW_d (fun v38 => [(.float .f64 x), (.float .f64 y), undef, undef, (.bool false), v4, v5, v6, v7, v8, v9, v10, (.bool ((fcmp .neq (ford .f64 (cf .f64 x) (cf .f64 x))) || (fcmp .neq (ford .f64 (cf .f64 y) (cf .f64 y))))), undef, undef, undef, undef, undef, undef, undef, undef, v35, v36, v37, v38, undef, undef, undef, undef, undef, undef, undef, undef, undef, undef, undef, undef]) rfl (fun _ => rfl) (fun u hu hF => ?_) (fun v38 => ?_)
  · have h23_ : v37 = (.bool (fcmp .eql (ford .f64 (cf .f64 x) (cf .f64 0)))) := hF.1
    clear hF
    obtain rfl := h23_
    refine doesG_g (b := (fcmp .eql (ford .f64 (cf .f64 x) (cf .f64 0)))) rfl (yld rfl rfl) (fun hg => ?_) (fun hg => ⟨fun h => absurd h hg, Ext.refl _⟩)
    refine (does_move (u := (.float .f64 y)) (ev rfl)).mono ?_; rintro _ _ ⟨rfl, rfl⟩
    exact ⟨fun _ => rfl, Ext.refl _⟩
  refine RW_d (fun v39 => [(.float .f64 x), (.float .f64 y), undef, undef, (.bool false), v4, v5, v6, v7, v8, v9, v10, (.bool ((fcmp .neq (ford .f64 (cf .f64 x) (cf .f64 x))) || (fcmp .neq (ford .f64 (cf .f64 y) (cf .f64 y))))), undef, undef, undef, undef, undef, undef, undef, undef, v35, v36, v37, v38, v39, undef, undef, undef, undef, undef, undef, undef, undef, undef, undef, undef]) rfl (fun _ => rfl) (fun u hu hF => ?_) (fun v39 => ?_)
  · have h24_ : (fcmp .eql (ford .f64 (cf .f64 x) (cf .f64 0))) = true → v38 = (.float .f64 y) := hF.1
    have h23_ : v37 = (.bool (fcmp .eql (ford .f64 (cf .f64 x) (cf .f64 0)))) := hF.2.1
    clear hF
    obtain rfl := h23_
    refine doesG_g (b := (fcmp .eql (ford .f64 (cf .f64 x) (cf .f64 0)))) rfl (yld rfl rfl) (fun hg => ?_) (fun hg => ⟨fun h => absurd h hg, Ext.refl _⟩)
    obtain rfl := h24_ hg
    refine (does_fcmp (.inl rfl) (ev rfl) (ev rfl)).mono ?_; rintro _ _ ⟨rfl, rfl⟩
    exact ⟨fun _ => rfl, Ext.refl _⟩
  refine RW_d (fun v40 => [(.float .f64 x), (.float .f64 y), undef, undef, (.bool false), v4, v5, v6, v7, v8, v9, v10, (.bool ((fcmp .neq (ford .f64 (cf .f64 x) (cf .f64 x))) || (fcmp .neq (ford .f64 (cf .f64 y) (cf .f64 y))))), undef, undef, undef, undef, undef, undef, undef, undef, v35, v36, v37, v38, v39, v40, undef, undef, undef, undef, undef, undef, undef, undef, undef, undef]) rfl (fun _ => rfl) (fun u hu hF => ?_) (fun v40 => ?_)
  · have h23_ : v37 = (.bool (fcmp .eql (ford .f64 (cf .f64 x) (cf .f64 0)))) := hF.1
    have h25_ : (fcmp .eql (ford .f64 (cf .f64 x) (cf .f64 0))) = true → v39 = (.bool (fcmp .eql (ford .f64 (cf .f64 y) (cf .f64 0)))) := hF.2.1
    clear hF
    obtain rfl := h23_
    refine doesG_un rfl ((does_pick (b := (fcmp .eql (ford .f64 (cf .f64 x) (cf .f64 0)))) (ev rfl) (ev rfl) (ev rfl)).mono ?_); rintro _ _ ⟨rfl, rfl⟩; refine ⟨?_, Ext.refl _⟩
    cases hbb : (fcmp .eql (ford .f64 (cf .f64 x) (cf .f64 0))) <;> simp [hbb] at h25_ ⊢
    all_goals (first | rfl | (subst h25_; rfl) | simp_all)
  refine RW_fin ?_; intro w41 E42 hP43
  obtain ⟨⟨⟨⟨⟨⟨-, -⟩, -⟩, -⟩, -⟩, -⟩, q44⟩ := hP43
  have X45 := Ext.gr X16 E42
  have q44 : v40 = (.bool ((fcmp .eql (ford .f64 (cf .f64 x) (cf .f64 0))) && (fcmp .eql (ford .f64 (cf .f64 y) (cf .f64 0))))) := q44
  obtain rfl := q44
  show wpList _ _ _ _ (fr [(.float .f64 x), (.float .f64 y), undef, undef, (.bool false), v4, v5, v6, v7, v8, v9, v10, (.bool ((fcmp .neq (ford .f64 (cf .f64 x) (cf .f64 x))) || (fcmp .neq (ford .f64 (cf .f64 y) (cf .f64 y))))), undef, undef, undef, undef, undef, undef, undef, undef, v35, v36, v37, v38, v39, (.bool ((fcmp .eql (ford .f64 (cf .f64 x) (cf .f64 0))) && (fcmp .eql (ford .f64 (cf .f64 y) (cf .f64 0))))), undef, undef, undef, undef, undef, undef, undef, undef, undef, undef]) _
  refine wpList_nil (hK34 _ _ ?_)
  refine wp_cond_split (t := (fcmp .eql (ford .f64 (cf .f64 x) (cf .f64 0))) && (fcmp .eql (ford .f64 (cf .f64 y) (cf .f64 0)))) (ev rfl) (fun c46 => ?_) (fun c46 => ?_)
  · have c46' := c46
    refine wp_seq_k fun K47 hK47 => ?_
    refine wp_region_lit ?_
    refine q_is (l' := [(.float .f64 x), (.float .f64 y), undef, undef, (.bool false), v4, v5, v6, v7, v8, v9, v10, (.bool ((fcmp .neq (ford .f64 (cf .f64 x) (cf .f64 x))) || (fcmp .neq (ford .f64 (cf .f64 y) (cf .f64 y))))), undef, undef, undef, undef, undef, undef, undef, undef, v35, v36, v37, v38, v39, (.bool ((fcmp .eql (ford .f64 (cf .f64 x) (cf .f64 0))) && (fcmp .eql (ford .f64 (cf .f64 y) (cf .f64 0))))), (.float .f64 x), undef, undef, undef, undef, undef, undef, undef, undef, undef]) rfl rfl (does_move (u := (.float .f64 x)) (ev rfl)) rfl ?_
    refine seqd rfl rfl (does_float (.inr (.inr (.inr rfl))) (ev rfl) (ev rfl)) ?_; rintro _ w51 ⟨r48, rfl, h49, E50⟩
    have X52 := Ext.gr X45 E50
    show wpList _ _ _ _ (fr [(.float .f64 x), (.float .f64 y), undef, undef, (.bool false), v4, v5, v6, v7, v8, v9, v10, (.bool ((fcmp .neq (ford .f64 (cf .f64 x) (cf .f64 x))) || (fcmp .neq (ford .f64 (cf .f64 y) (cf .f64 y))))), undef, undef, undef, undef, undef, undef, undef, undef, v35, v36, v37, v38, v39, (.bool ((fcmp .eql (ford .f64 (cf .f64 x) (cf .f64 0))) && (fcmp .eql (ford .f64 (cf .f64 y) (cf .f64 0))))), (.float .f64 x), (.float .f64 r48), undef, undef, undef, undef, undef, undef, undef, undef]) _
    refine q_is (l' := [(.float .f64 x), (.float .f64 y), undef, undef, (.bool false), v4, v5, v6, v7, v8, v9, v10, (.bool ((fcmp .neq (ford .f64 (cf .f64 x) (cf .f64 x))) || (fcmp .neq (ford .f64 (cf .f64 y) (cf .f64 y))))), undef, undef, undef, undef, undef, undef, undef, undef, v35, v36, v37, v38, v39, (.bool ((fcmp .eql (ford .f64 (cf .f64 x) (cf .f64 0))) && (fcmp .eql (ford .f64 (cf .f64 y) (cf .f64 0))))), (.float .f64 x), (.float .f64 r48), (.bool (fcmp .gtr (ford .f64 (cf .f64 r48) (cf .f64 0)))), undef, undef, undef, undef, undef, undef, undef]) rfl rfl (does_fcmp (.inr (.inr (.inr (.inr (.inl rfl))))) (ev rfl) (ev rfl)) rfl ?_
    refine q_is (l' := [(.float .f64 x), (.float .f64 y), undef, undef, (.bool false), v4, v5, v6, v7, v8, v9, v10, (.bool ((fcmp .neq (ford .f64 (cf .f64 x) (cf .f64 x))) || (fcmp .neq (ford .f64 (cf .f64 y) (cf .f64 y))))), undef, undef, undef, undef, undef, undef, undef, undef, v35, v36, v37, v38, v39, (.bool ((fcmp .eql (ford .f64 (cf .f64 x) (cf .f64 0))) && (fcmp .eql (ford .f64 (cf .f64 y) (cf .f64 0))))), (.float .f64 x), (.float .f64 r48), (.bool (fcmp .gtr (ford .f64 (cf .f64 r48) (cf .f64 0)))), (.float .f64 y), undef, undef, undef, undef, undef, undef]) rfl rfl (does_move (u := (.float .f64 y)) (ev rfl)) rfl ?_
    refine seqd rfl rfl (does_float (.inr (.inr (.inr rfl))) (ev rfl) (ev rfl)) ?_; rintro _ w56 ⟨r53, rfl, h54, E55⟩
    have X57 := Ext.gr X52 E55
    show wpList _ _ _ _ (fr [(.float .f64 x), (.float .f64 y), undef, undef, (.bool false), v4, v5, v6, v7, v8, v9, v10, (.bool ((fcmp .neq (ford .f64 (cf .f64 x) (cf .f64 x))) || (fcmp .neq (ford .f64 (cf .f64 y) (cf .f64 y))))), undef, undef, undef, undef, undef, undef, undef, undef, v35, v36, v37, v38, v39, (.bool ((fcmp .eql (ford .f64 (cf .f64 x) (cf .f64 0))) && (fcmp .eql (ford .f64 (cf .f64 y) (cf .f64 0))))), (.float .f64 x), (.float .f64 r48), (.bool (fcmp .gtr (ford .f64 (cf .f64 r48) (cf .f64 0)))), (.float .f64 y), (.float .f64 r53), undef, undef, undef, undef, undef]) _
    refine q_is (l' := [(.float .f64 x), (.float .f64 y), undef, undef, (.bool false), v4, v5, v6, v7, v8, v9, v10, (.bool ((fcmp .neq (ford .f64 (cf .f64 x) (cf .f64 x))) || (fcmp .neq (ford .f64 (cf .f64 y) (cf .f64 y))))), undef, undef, undef, undef, undef, undef, undef, undef, v35, v36, v37, v38, v39, (.bool ((fcmp .eql (ford .f64 (cf .f64 x) (cf .f64 0))) && (fcmp .eql (ford .f64 (cf .f64 y) (cf .f64 0))))), (.float .f64 x), (.float .f64 r48), (.bool (fcmp .gtr (ford .f64 (cf .f64 r48) (cf .f64 0)))), (.float .f64 y), (.float .f64 r53), (.bool (fcmp .gtr (ford .f64 (cf .f64 r53) (cf .f64 0)))), undef, undef, undef, undef]) rfl rfl (does_fcmp (.inr (.inr (.inr (.inr (.inl rfl))))) (ev rfl) (ev rfl)) rfl ?_
    refine q_is (l' := [(.float .f64 x), (.float .f64 y), undef, undef, (.bool false), v4, v5, v6, v7, v8, v9, v10, (.bool ((fcmp .neq (ford .f64 (cf .f64 x) (cf .f64 x))) || (fcmp .neq (ford .f64 (cf .f64 y) (cf .f64 y))))), undef, undef, undef, undef, undef, undef, undef, undef, v35, v36, v37, v38, v39, (.bool ((fcmp .eql (ford .f64 (cf .f64 x) (cf .f64 0))) && (fcmp .eql (ford .f64 (cf .f64 y) (cf .f64 0))))), (.float .f64 x), (.float .f64 r48), (.bool (fcmp .gtr (ford .f64 (cf .f64 r48) (cf .f64 0)))), (.float .f64 y), (.float .f64 r53), (.bool (fcmp .gtr (ford .f64 (cf .f64 r53) (cf .f64 0)))), (.bool ((fcmp .gtr (ford .f64 (cf .f64 r48) (cf .f64 0))) == (fcmp .gtr (ford .f64 (cf .f64 r53) (cf .f64 0))))), undef, undef, undef]) rfl rfl (does_beq (p := (fcmp .gtr (ford .f64 (cf .f64 r48) (cf .f64 0)))) (q := (fcmp .gtr (ford .f64 (cf .f64 r53) (cf .f64 0)))) Try.underlying4 (ev rfl) (ev rfl)) rfl ?_
    refine q_is (l' := [(.float .f64 x), (.float .f64 y), undef, undef, (.bool ((fcmp .gtr (ford .f64 (cf .f64 r48) (cf .f64 0))) == (fcmp .gtr (ford .f64 (cf .f64 r53) (cf .f64 0))))), v4, v5, v6, v7, v8, v9, v10, (.bool ((fcmp .neq (ford .f64 (cf .f64 x) (cf .f64 x))) || (fcmp .neq (ford .f64 (cf .f64 y) (cf .f64 y))))), undef, undef, undef, undef, undef, undef, undef, undef, v35, v36, v37, v38, v39, (.bool ((fcmp .eql (ford .f64 (cf .f64 x) (cf .f64 0))) && (fcmp .eql (ford .f64 (cf .f64 y) (cf .f64 0))))), (.float .f64 x), (.float .f64 r48), (.bool (fcmp .gtr (ford .f64 (cf .f64 r48) (cf .f64 0)))), (.float .f64 y), (.float .f64 r53), (.bool (fcmp .gtr (ford .f64 (cf .f64 r53) (cf .f64 0)))), (.bool ((fcmp .gtr (ford .f64 (cf .f64 r48) (cf .f64 0))) == (fcmp .gtr (ford .f64 (cf .f64 r53) (cf .f64 0))))), undef, undef, undef]) rfl rfl (does_assign (u := (.bool ((fcmp .gtr (ford .f64 (cf .f64 r48) (cf .f64 0))) == (fcmp .gtr (ford .f64 (cf .f64 r53) (cf .f64 0)))))) (ev rfl)) rfl ?_
    refine wpList_nil (hK47 _ _ ?_)
    refine wp_ret ?_
    dsimp only [Exit.then, Exit.inBlock]
    refine ret_val (v := (.bool ((fcmp .gtr (ford .f64 (cf .f64 r48) (cf .f64 0))) == (fcmp .gtr (ford .f64 (cf .f64 r53) (cf .f64 0)))))) (res_T rfl (slot rfl)) X57 ?_
    try simp only [h49, h54] at c17 c46
    have x58 : (sameF (cf .f64 x) (cf .f64 y)) = ((fcmp .gtr (ford .f64 (cf .f64 r48) (cf .f64 0))) == (fcmp .gtr (ford .f64 (cf .f64 r53) (cf .f64 0)))) := by first | rfl | (simp only [sameF, h49, h54, c17, c46]; done) | (simp [sameF, h49, h54, c17, c46]; done) | (revert c17 c46; simp +contextual [sameF, h49, h54]; done)
    exact (by first | rfl | rw [x58])
  have c46' := c46
  refine wp_skip (hK33 _ _ ?_)
  refine wp_seq_k fun K59 hK59 => ?_
  refine wp_region_lit ?_
  refine q_is (l' := [(.float .f64 x), (.float .f64 y), undef, undef, (.bool false), v4, v5, v6, v7, v8, v9, v10, (.bool ((fcmp .neq (ford .f64 (cf .f64 x) (cf .f64 x))) || (fcmp .neq (ford .f64 (cf .f64 y) (cf .f64 y))))), undef, undef, undef, undef, undef, undef, undef, undef, v35, v36, v37, v38, v39, (.bool ((fcmp .eql (ford .f64 (cf .f64 x) (cf .f64 0))) && (fcmp .eql (ford .f64 (cf .f64 y) (cf .f64 0))))), undef, undef, undef, undef, undef, undef, undef, (.float .f64 x), undef, undef]) rfl rfl (does_move (u := (.float .f64 x)) (ev rfl)) rfl ?_
  refine q_is (l' := [(.float .f64 x), (.float .f64 y), undef, undef, (.bool false), v4, v5, v6, v7, v8, v9, v10, (.bool ((fcmp .neq (ford .f64 (cf .f64 x) (cf .f64 x))) || (fcmp .neq (ford .f64 (cf .f64 y) (cf .f64 y))))), undef, undef, undef, undef, undef, undef, undef, undef, v35, v36, v37, v38, v39, (.bool ((fcmp .eql (ford .f64 (cf .f64 x) (cf .f64 0))) && (fcmp .eql (ford .f64 (cf .f64 y) (cf .f64 0))))), undef, undef, undef, undef, undef, undef, undef, (.float .f64 x), (.float .f64 y), undef]) rfl rfl (does_move (u := (.float .f64 y)) (ev rfl)) rfl ?_
  refine q_is (l' := [(.float .f64 x), (.float .f64 y), undef, undef, (.bool false), v4, v5, v6, v7, v8, v9, v10, (.bool ((fcmp .neq (ford .f64 (cf .f64 x) (cf .f64 x))) || (fcmp .neq (ford .f64 (cf .f64 y) (cf .f64 y))))), undef, undef, undef, undef, undef, undef, undef, undef, v35, v36, v37, v38, v39, (.bool ((fcmp .eql (ford .f64 (cf .f64 x) (cf .f64 0))) && (fcmp .eql (ford .f64 (cf .f64 y) (cf .f64 0))))), undef, undef, undef, undef, undef, undef, undef, (.float .f64 x), (.float .f64 y), (.bool (fcmp .eql (ford .f64 (cf .f64 x) (cf .f64 y))))]) rfl rfl (does_fcmp (.inl rfl) (ev rfl) (ev rfl)) rfl ?_
  refine q_is (l' := [(.float .f64 x), (.float .f64 y), undef, undef, (.bool (fcmp .eql (ford .f64 (cf .f64 x) (cf .f64 y)))), v4, v5, v6, v7, v8, v9, v10, (.bool ((fcmp .neq (ford .f64 (cf .f64 x) (cf .f64 x))) || (fcmp .neq (ford .f64 (cf .f64 y) (cf .f64 y))))), undef, undef, undef, undef, undef, undef, undef, undef, v35, v36, v37, v38, v39, (.bool ((fcmp .eql (ford .f64 (cf .f64 x) (cf .f64 0))) && (fcmp .eql (ford .f64 (cf .f64 y) (cf .f64 0))))), undef, undef, undef, undef, undef, undef, undef, (.float .f64 x), (.float .f64 y), (.bool (fcmp .eql (ford .f64 (cf .f64 x) (cf .f64 y))))]) rfl rfl (does_assign (u := (.bool (fcmp .eql (ford .f64 (cf .f64 x) (cf .f64 y))))) (ev rfl)) rfl ?_
  refine wpList_nil (hK59 _ _ ?_)
  refine wp_ret ?_
  refine ret_val (v := (.bool (fcmp .eql (ford .f64 (cf .f64 x) (cf .f64 y))))) (res_T rfl (slot rfl)) X45 ?_
  have x60 : (sameF (cf .f64 x) (cf .f64 y)) = (fcmp .eql (ford .f64 (cf .f64 x) (cf .f64 y))) := by first | rfl | (simp only [sameF, c17, c46]; done) | (simp [sameF, c17, c46]; done) | (revert c17 c46; simp +contextual [sameF]; done)
  exact (by first | rfl | rw [x60])

/- laws.eqVector -/
theorem c_laws_eqVector (a_x : Nat) (a_y : Nat) (a_z : Nat) (b_x : Nat) (b_y : Nat) (b_z : Nat) (w : World) : Gives Try.prog 29 #[(.agg #[(.float .f32 a_x), (.float .f32 a_y), (.float .f32 a_z)]), (.agg #[(.float .f32 b_x), (.float .f32 b_y), (.float .f32 b_z)])] w (fun v w' => v = (.bool (sameF (fwid (cf .f32 a_x)) (fwid (cf .f32 b_x)) && sameF (fwid (cf .f32 a_y)) (fwid (cf .f32 b_y)) && sameF (fwid (cf .f32 a_z)) (fwid (cf .f32 b_z))))) := by
  refine enter [(.agg #[(.float .f32 a_x), (.float .f32 a_y), (.float .f32 a_z)]), (.agg #[(.float .f32 b_x), (.float .f32 b_y), (.float .f32 b_z)]), undef, undef, undef, undef, undef, undef, undef, undef, undef, undef, undef, undef, undef, undef, undef, undef, undef, undef, undef, undef, undef, undef, undef, undef, undef, undef, undef] Try.func29 rfl Try.ntmps29 rfl ?_
  refine wp_seq_k fun K1 hK1 => ?_
  refine wp_region_lit ?_
  refine seqd rfl rfl (does_box (u := (.agg #[(.float .f32 a_x), (.float .f32 a_y), (.float .f32 a_z)])) (ev rfl)) ?_; rintro _ w6 ⟨b2, rfl, hb3, hB4, E5⟩
  have g7 : w.heap.size ≤ b2 := Nat.le_trans (Below.size (Ext.refl w)) hb3
  change Blk _ _ [(.float .f32 a_x), (.float .f32 a_y), (.float .f32 a_z)] at hB4
  have X8 := Ext.gr (Ext.refl w) E5
  show wpList _ _ _ _ (fr [(.agg #[(.float .f32 a_x), (.float .f32 a_y), (.float .f32 a_z)]), (.agg #[(.float .f32 b_x), (.float .f32 b_y), (.float .f32 b_z)]), (.pointer (some ⟨b2, 0, none⟩)), undef, undef, undef, undef, undef, undef, undef, undef, undef, undef, undef, undef, undef, undef, undef, undef, undef, undef, undef, undef, undef, undef, undef, undef, undef, undef]) _
  refine seqd rfl rfl (does_box (u := (.agg #[(.float .f32 b_x), (.float .f32 b_y), (.float .f32 b_z)])) (ev rfl)) ?_; rintro _ w13 ⟨b9, rfl, hb10, hB11, E12⟩
  have n14 : b2 < b9 := Nat.lt_of_lt_of_le (Blk.lt hB4) hb10
  have g15 : w.heap.size ≤ b9 := Nat.le_trans (Below.size X8) hb10
  change Blk _ _ [(.float .f32 b_x), (.float .f32 b_y), (.float .f32 b_z)] at hB11
  have X16 := Ext.gr X8 E12
  show wpList _ _ _ _ (fr [(.agg #[(.float .f32 a_x), (.float .f32 a_y), (.float .f32 a_z)]), (.agg #[(.float .f32 b_x), (.float .f32 b_y), (.float .f32 b_z)]), (.pointer (some ⟨b2, 0, none⟩)), (.pointer (some ⟨b9, 0, none⟩)), undef, undef, undef, undef, undef, undef, undef, undef, undef, undef, undef, undef, undef, undef, undef, undef, undef, undef, undef, undef, undef, undef, undef, undef, undef]) _
  refine q_is (l' := [(.agg #[(.float .f32 a_x), (.float .f32 a_y), (.float .f32 a_z)]), (.agg #[(.float .f32 b_x), (.float .f32 b_y), (.float .f32 b_z)]), (.pointer (some ⟨b2, 0, none⟩)), (.pointer (some ⟨b9, 0, none⟩)), (.bool false), undef, undef, undef, undef, undef, undef, undef, undef, undef, undef, undef, undef, undef, undef, undef, undef, undef, undef, undef, undef, undef, undef, undef, undef]) rfl rfl (does_assign (u := (.bool false)) (ev rfl)) rfl ?_
  refine wpList_nil (hK1 _ _ ?_)
  refine wp_seq_k fun K17 hK17 => ?_
  refine wp_seq_k fun K18 hK18 => ?_
  refine wp_region_lit ?_
  refine q_is (l' := [(.agg #[(.float .f32 a_x), (.float .f32 a_y), (.float .f32 a_z)]), (.agg #[(.float .f32 b_x), (.float .f32 b_y), (.float .f32 b_z)]), (.pointer (some ⟨b2, 0, none⟩)), (.pointer (some ⟨b9, 0, none⟩)), (.bool false), (.pointer (some ⟨b2, 0, none⟩)), undef, undef, undef, undef, undef, undef, undef, undef, undef, undef, undef, undef, undef, undef, undef, undef, undef, undef, undef, undef, undef, undef, undef]) rfl rfl (does_fieldAddr (ev rfl) fa31_0) rfl ?_
  refine q_is (l' := [(.agg #[(.float .f32 a_x), (.float .f32 a_y), (.float .f32 a_z)]), (.agg #[(.float .f32 b_x), (.float .f32 b_y), (.float .f32 b_z)]), (.pointer (some ⟨b2, 0, none⟩)), (.pointer (some ⟨b9, 0, none⟩)), (.bool false), (.pointer (some ⟨b2, 0, none⟩)), (.float .f32 a_x), undef, undef, undef, undef, undef, undef, undef, undef, undef, undef, undef, undef, undef, undef, undef, undef, undef, undef, undef, undef, undef, undef]) rfl rfl (does_load (u := (.float .f32 a_x)) (ev rfl) Try.isAgg25 (Cells.at (Blk.cells (hB4.ext E12)) 0 rfl)) rfl ?_
  refine seqd rfl rfl (does_widen Try.underlying25 Try.underlying89 (ev rfl)) ?_; rintro _ w22 ⟨r19, rfl, h20, E21⟩
  have X23 := Ext.gr X16 E21
  show wpList _ _ _ _ (fr [(.agg #[(.float .f32 a_x), (.float .f32 a_y), (.float .f32 a_z)]), (.agg #[(.float .f32 b_x), (.float .f32 b_y), (.float .f32 b_z)]), (.pointer (some ⟨b2, 0, none⟩)), (.pointer (some ⟨b9, 0, none⟩)), (.bool false), (.pointer (some ⟨b2, 0, none⟩)), (.float .f32 a_x), (.float .f64 r19), undef, undef, undef, undef, undef, undef, undef, undef, undef, undef, undef, undef, undef, undef, undef, undef, undef, undef, undef, undef, undef]) _
  refine q_is (l' := [(.agg #[(.float .f32 a_x), (.float .f32 a_y), (.float .f32 a_z)]), (.agg #[(.float .f32 b_x), (.float .f32 b_y), (.float .f32 b_z)]), (.pointer (some ⟨b2, 0, none⟩)), (.pointer (some ⟨b9, 0, none⟩)), (.bool false), (.pointer (some ⟨b2, 0, none⟩)), (.float .f32 a_x), (.float .f64 r19), (.pointer (some ⟨b9, 0, none⟩)), undef, undef, undef, undef, undef, undef, undef, undef, undef, undef, undef, undef, undef, undef, undef, undef, undef, undef, undef, undef]) rfl rfl (does_fieldAddr (ev rfl) fa31_0) rfl ?_
  refine q_is (l' := [(.agg #[(.float .f32 a_x), (.float .f32 a_y), (.float .f32 a_z)]), (.agg #[(.float .f32 b_x), (.float .f32 b_y), (.float .f32 b_z)]), (.pointer (some ⟨b2, 0, none⟩)), (.pointer (some ⟨b9, 0, none⟩)), (.bool false), (.pointer (some ⟨b2, 0, none⟩)), (.float .f32 a_x), (.float .f64 r19), (.pointer (some ⟨b9, 0, none⟩)), (.float .f32 b_x), undef, undef, undef, undef, undef, undef, undef, undef, undef, undef, undef, undef, undef, undef, undef, undef, undef, undef, undef]) rfl rfl (does_load (u := (.float .f32 b_x)) (ev rfl) Try.isAgg25 (Cells.at (Blk.cells (hB11.ext E21)) 0 rfl)) rfl ?_
  refine seqd rfl rfl (does_widen Try.underlying25 Try.underlying89 (ev rfl)) ?_; rintro _ w27 ⟨r24, rfl, h25, E26⟩
  have X28 := Ext.gr X23 E26
  show wpList _ _ _ _ (fr [(.agg #[(.float .f32 a_x), (.float .f32 a_y), (.float .f32 a_z)]), (.agg #[(.float .f32 b_x), (.float .f32 b_y), (.float .f32 b_z)]), (.pointer (some ⟨b2, 0, none⟩)), (.pointer (some ⟨b9, 0, none⟩)), (.bool false), (.pointer (some ⟨b2, 0, none⟩)), (.float .f32 a_x), (.float .f64 r19), (.pointer (some ⟨b9, 0, none⟩)), (.float .f32 b_x), (.float .f64 r24), undef, undef, undef, undef, undef, undef, undef, undef, undef, undef, undef, undef, undef, undef, undef, undef, undef, undef]) _
  refine seqd rfl rfl (does_call (args := #[(.float .f64 r19), (.float .f64 r24)]) cal56 (evs rfl) (c_laws_sameFloat r19 r24 _)) ?_; rintro _ w30 ⟨E29, rfl⟩
  have X31 := Ext.gr X28 E29
  show wpList _ _ _ _ (fr [(.agg #[(.float .f32 a_x), (.float .f32 a_y), (.float .f32 a_z)]), (.agg #[(.float .f32 b_x), (.float .f32 b_y), (.float .f32 b_z)]), (.pointer (some ⟨b2, 0, none⟩)), (.pointer (some ⟨b9, 0, none⟩)), (.bool false), (.pointer (some ⟨b2, 0, none⟩)), (.float .f32 a_x), (.float .f64 r19), (.pointer (some ⟨b9, 0, none⟩)), (.float .f32 b_x), (.float .f64 r24), (.bool (sameF (cf .f64 r19) (cf .f64 r24))), undef, undef, undef, undef, undef, undef, undef, undef, undef, undef, undef, undef, undef, undef, undef, undef, undef]) _
  refine q_is (l' := [(.agg #[(.float .f32 a_x), (.float .f32 a_y), (.float .f32 a_z)]), (.agg #[(.float .f32 b_x), (.float .f32 b_y), (.float .f32 b_z)]), (.pointer (some ⟨b2, 0, none⟩)), (.pointer (some ⟨b9, 0, none⟩)), (.bool false), (.pointer (some ⟨b2, 0, none⟩)), (.float .f32 a_x), (.float .f64 r19), (.pointer (some ⟨b9, 0, none⟩)), (.float .f32 b_x), (.float .f64 r24), (.bool (sameF (cf .f64 r19) (cf .f64 r24))), (.bool (!(sameF (cf .f64 r19) (cf .f64 r24)))), undef, undef, undef, undef, undef, undef, undef, undef, undef, undef, undef, undef, undef, undef, undef, undef]) rfl rfl (does_not (ev rfl)) rfl ?_
  refine wpList_nil (hK18 _ _ ?_)
  refine wp_cond_split (t := !(sameF (cf .f64 r19) (cf .f64 r24))) (ev rfl) (fun c32 => ?_) (fun c32 => ?_)
  · rw [Bool.not_eq_true'] at c32
    have c32' := c32
    refine wp_seq_k fun K33 hK33 => ?_
    refine wp_region_lit ?_
    refine q_is (l' := [(.agg #[(.float .f32 a_x), (.float .f32 a_y), (.float .f32 a_z)]), (.agg #[(.float .f32 b_x), (.float .f32 b_y), (.float .f32 b_z)]), (.pointer (some ⟨b2, 0, none⟩)), (.pointer (some ⟨b9, 0, none⟩)), (.bool false), (.pointer (some ⟨b2, 0, none⟩)), (.float .f32 a_x), (.float .f64 r19), (.pointer (some ⟨b9, 0, none⟩)), (.float .f32 b_x), (.float .f64 r24), (.bool (sameF (cf .f64 r19) (cf .f64 r24))), (.bool (!(sameF (cf .f64 r19) (cf .f64 r24)))), undef, undef, undef, undef, undef, undef, undef, undef, undef, undef, undef, undef, undef, undef, undef, undef]) rfl rfl (does_assign (u := (.bool false)) (ev rfl)) rfl ?_
    refine wpList_nil (hK33 _ _ ?_)
    refine wp_ret ?_
    dsimp only [Exit.then, Exit.inBlock]
    refine ret_val (v := (.bool false)) (res_T rfl (slot rfl)) X31 ?_
    try simp only [h20, h25] at c32
    have x34 : (sameF (fwid (cf .f32 a_x)) (fwid (cf .f32 b_x)) && sameF (fwid (cf .f32 a_y)) (fwid (cf .f32 b_y)) && sameF (fwid (cf .f32 a_z)) (fwid (cf .f32 b_z))) = false := by first | rfl | (simp only [h20, h25, c32]; done) | (simp [h20, h25, c32]; done) | (revert c32; simp +contextual [h20, h25]; done)
    exact (by first | rfl | rw [x34])
  rw [Bool.not_eq_false'] at c32
  have c32' := c32
  refine wp_skip (hK17 _ _ ?_)
  refine wp_seq_k fun K35 hK35 => ?_
  refine wp_seq_k fun K36 hK36 => ?_
  refine wp_region_lit ?_
  refine q_is (l' := [(.agg #[(.float .f32 a_x), (.float .f32 a_y), (.float .f32 a_z)]), (.agg #[(.float .f32 b_x), (.float .f32 b_y), (.float .f32 b_z)]), (.pointer (some ⟨b2, 0, none⟩)), (.pointer (some ⟨b9, 0, none⟩)), (.bool false), (.pointer (some ⟨b2, 0, none⟩)), (.float .f32 a_x), (.float .f64 r19), (.pointer (some ⟨b9, 0, none⟩)), (.float .f32 b_x), (.float .f64 r24), (.bool (sameF (cf .f64 r19) (cf .f64 r24))), (.bool (!(sameF (cf .f64 r19) (cf .f64 r24)))), (.pointer (some ⟨b2, 1, none⟩)), undef, undef, undef, undef, undef, undef, undef, undef, undef, undef, undef, undef, undef, undef, undef]) rfl rfl (does_fieldAddr (ev rfl) fa31_1) rfl ?_
  refine q_is (l' := [(.agg #[(.float .f32 a_x), (.float .f32 a_y), (.float .f32 a_z)]), (.agg #[(.float .f32 b_x), (.float .f32 b_y), (.float .f32 b_z)]), (.pointer (some ⟨b2, 0, none⟩)), (.pointer (some ⟨b9, 0, none⟩)), (.bool false), (.pointer (some ⟨b2, 0, none⟩)), (.float .f32 a_x), (.float .f64 r19), (.pointer (some ⟨b9, 0, none⟩)), (.float .f32 b_x), (.float .f64 r24), (.bool (sameF (cf .f64 r19) (cf .f64 r24))), (.bool (!(sameF (cf .f64 r19) (cf .f64 r24)))), (.pointer (some ⟨b2, 1, none⟩)), (.float .f32 a_y), undef, undef, undef, undef, undef, undef, undef, undef, undef, undef, undef, undef, undef, undef]) rfl rfl (does_load (u := (.float .f32 a_y)) (ev rfl) Try.isAgg25 (Cells.at (Blk.cells ((((hB4.ext E12).ext E21).ext E26).ext E29)) 1 rfl)) rfl ?_
  refine seqd rfl rfl (does_widen Try.underlying25 Try.underlying89 (ev rfl)) ?_; rintro _ w40 ⟨r37, rfl, h38, E39⟩
  have X41 := Ext.gr X31 E39
  show wpList _ _ _ _ (fr [(.agg #[(.float .f32 a_x), (.float .f32 a_y), (.float .f32 a_z)]), (.agg #[(.float .f32 b_x), (.float .f32 b_y), (.float .f32 b_z)]), (.pointer (some ⟨b2, 0, none⟩)), (.pointer (some ⟨b9, 0, none⟩)), (.bool false), (.pointer (some ⟨b2, 0, none⟩)), (.float .f32 a_x), (.float .f64 r19), (.pointer (some ⟨b9, 0, none⟩)), (.float .f32 b_x), (.float .f64 r24), (.bool (sameF (cf .f64 r19) (cf .f64 r24))), (.bool (!(sameF (cf .f64 r19) (cf .f64 r24)))), (.pointer (some ⟨b2, 1, none⟩)), (.float .f32 a_y), (.float .f64 r37), undef, undef, undef, undef, undef, undef, undef, undef, undef, undef, undef, undef, undef]) _
  refine q_is (l' := [(.agg #[(.float .f32 a_x), (.float .f32 a_y), (.float .f32 a_z)]), (.agg #[(.float .f32 b_x), (.float .f32 b_y), (.float .f32 b_z)]), (.pointer (some ⟨b2, 0, none⟩)), (.pointer (some ⟨b9, 0, none⟩)), (.bool false), (.pointer (some ⟨b2, 0, none⟩)), (.float .f32 a_x), (.float .f64 r19), (.pointer (some ⟨b9, 0, none⟩)), (.float .f32 b_x), (.float .f64 r24), (.bool (sameF (cf .f64 r19) (cf .f64 r24))), (.bool (!(sameF (cf .f64 r19) (cf .f64 r24)))), (.pointer (some ⟨b2, 1, none⟩)), (.float .f32 a_y), (.float .f64 r37), (.pointer (some ⟨b9, 1, none⟩)), undef, undef, undef, undef, undef, undef, undef, undef, undef, undef, undef, undef]) rfl rfl (does_fieldAddr (ev rfl) fa31_1) rfl ?_
  refine q_is (l' := [(.agg #[(.float .f32 a_x), (.float .f32 a_y), (.float .f32 a_z)]), (.agg #[(.float .f32 b_x), (.float .f32 b_y), (.float .f32 b_z)]), (.pointer (some ⟨b2, 0, none⟩)), (.pointer (some ⟨b9, 0, none⟩)), (.bool false), (.pointer (some ⟨b2, 0, none⟩)), (.float .f32 a_x), (.float .f64 r19), (.pointer (some ⟨b9, 0, none⟩)), (.float .f32 b_x), (.float .f64 r24), (.bool (sameF (cf .f64 r19) (cf .f64 r24))), (.bool (!(sameF (cf .f64 r19) (cf .f64 r24)))), (.pointer (some ⟨b2, 1, none⟩)), (.float .f32 a_y), (.float .f64 r37), (.pointer (some ⟨b9, 1, none⟩)), (.float .f32 b_y), undef, undef, undef, undef, undef, undef, undef, undef, undef, undef, undef]) rfl rfl (does_load (u := (.float .f32 b_y)) (ev rfl) Try.isAgg25 (Cells.at (Blk.cells ((((hB11.ext E21).ext E26).ext E29).ext E39)) 1 rfl)) rfl ?_
  refine seqd rfl rfl (does_widen Try.underlying25 Try.underlying89 (ev rfl)) ?_; rintro _ w45 ⟨r42, rfl, h43, E44⟩
  have X46 := Ext.gr X41 E44
  show wpList _ _ _ _ (fr [(.agg #[(.float .f32 a_x), (.float .f32 a_y), (.float .f32 a_z)]), (.agg #[(.float .f32 b_x), (.float .f32 b_y), (.float .f32 b_z)]), (.pointer (some ⟨b2, 0, none⟩)), (.pointer (some ⟨b9, 0, none⟩)), (.bool false), (.pointer (some ⟨b2, 0, none⟩)), (.float .f32 a_x), (.float .f64 r19), (.pointer (some ⟨b9, 0, none⟩)), (.float .f32 b_x), (.float .f64 r24), (.bool (sameF (cf .f64 r19) (cf .f64 r24))), (.bool (!(sameF (cf .f64 r19) (cf .f64 r24)))), (.pointer (some ⟨b2, 1, none⟩)), (.float .f32 a_y), (.float .f64 r37), (.pointer (some ⟨b9, 1, none⟩)), (.float .f32 b_y), (.float .f64 r42), undef, undef, undef, undef, undef, undef, undef, undef, undef, undef]) _
  refine seqd rfl rfl (does_call (args := #[(.float .f64 r37), (.float .f64 r42)]) cal56 (evs rfl) (c_laws_sameFloat r37 r42 _)) ?_; rintro _ w48 ⟨E47, rfl⟩
  have X49 := Ext.gr X46 E47
  show wpList _ _ _ _ (fr [(.agg #[(.float .f32 a_x), (.float .f32 a_y), (.float .f32 a_z)]), (.agg #[(.float .f32 b_x), (.float .f32 b_y), (.float .f32 b_z)]), (.pointer (some ⟨b2, 0, none⟩)), (.pointer (some ⟨b9, 0, none⟩)), (.bool false), (.pointer (some ⟨b2, 0, none⟩)), (.float .f32 a_x), (.float .f64 r19), (.pointer (some ⟨b9, 0, none⟩)), (.float .f32 b_x), (.float .f64 r24), (.bool (sameF (cf .f64 r19) (cf .f64 r24))), (.bool (!(sameF (cf .f64 r19) (cf .f64 r24)))), (.pointer (some ⟨b2, 1, none⟩)), (.float .f32 a_y), (.float .f64 r37), (.pointer (some ⟨b9, 1, none⟩)), (.float .f32 b_y), (.float .f64 r42), (.bool (sameF (cf .f64 r37) (cf .f64 r42))), undef, undef, undef, undef, undef, undef, undef, undef, undef]) _
  refine q_is (l' := [(.agg #[(.float .f32 a_x), (.float .f32 a_y), (.float .f32 a_z)]), (.agg #[(.float .f32 b_x), (.float .f32 b_y), (.float .f32 b_z)]), (.pointer (some ⟨b2, 0, none⟩)), (.pointer (some ⟨b9, 0, none⟩)), (.bool false), (.pointer (some ⟨b2, 0, none⟩)), (.float .f32 a_x), (.float .f64 r19), (.pointer (some ⟨b9, 0, none⟩)), (.float .f32 b_x), (.float .f64 r24), (.bool (sameF (cf .f64 r19) (cf .f64 r24))), (.bool (!(sameF (cf .f64 r19) (cf .f64 r24)))), (.pointer (some ⟨b2, 1, none⟩)), (.float .f32 a_y), (.float .f64 r37), (.pointer (some ⟨b9, 1, none⟩)), (.float .f32 b_y), (.float .f64 r42), (.bool (sameF (cf .f64 r37) (cf .f64 r42))), (.bool (!(sameF (cf .f64 r37) (cf .f64 r42)))), undef, undef, undef, undef, undef, undef, undef, undef]) rfl rfl (does_not (ev rfl)) rfl ?_
  refine wpList_nil (hK36 _ _ ?_)
  refine wp_cond_split (t := !(sameF (cf .f64 r37) (cf .f64 r42))) (ev rfl) (fun c50 => ?_) (fun c50 => ?_)
  · rw [Bool.not_eq_true'] at c50
    have c50' := c50
    refine wp_seq_k fun K51 hK51 => ?_
    refine wp_region_lit ?_
    refine q_is (l' := [(.agg #[(.float .f32 a_x), (.float .f32 a_y), (.float .f32 a_z)]), (.agg #[(.float .f32 b_x), (.float .f32 b_y), (.float .f32 b_z)]), (.pointer (some ⟨b2, 0, none⟩)), (.pointer (some ⟨b9, 0, none⟩)), (.bool false), (.pointer (some ⟨b2, 0, none⟩)), (.float .f32 a_x), (.float .f64 r19), (.pointer (some ⟨b9, 0, none⟩)), (.float .f32 b_x), (.float .f64 r24), (.bool (sameF (cf .f64 r19) (cf .f64 r24))), (.bool (!(sameF (cf .f64 r19) (cf .f64 r24)))), (.pointer (some ⟨b2, 1, none⟩)), (.float .f32 a_y), (.float .f64 r37), (.pointer (some ⟨b9, 1, none⟩)), (.float .f32 b_y), (.float .f64 r42), (.bool (sameF (cf .f64 r37) (cf .f64 r42))), (.bool (!(sameF (cf .f64 r37) (cf .f64 r42)))), undef, undef, undef, undef, undef, undef, undef, undef]) rfl rfl (does_assign (u := (.bool false)) (ev rfl)) rfl ?_
    refine wpList_nil (hK51 _ _ ?_)
    refine wp_ret ?_
    dsimp only [Exit.then, Exit.inBlock]
    refine ret_val (v := (.bool false)) (res_T rfl (slot rfl)) X49 ?_
    try simp only [h20, h25, h38, h43] at c32 c50
    have x52 : (sameF (fwid (cf .f32 a_x)) (fwid (cf .f32 b_x)) && sameF (fwid (cf .f32 a_y)) (fwid (cf .f32 b_y)) && sameF (fwid (cf .f32 a_z)) (fwid (cf .f32 b_z))) = false := by first | rfl | (simp only [h20, h25, h38, h43, c32, c50]; done) | (simp [h20, h25, h38, h43, c32, c50]; done) | (revert c32 c50; simp +contextual [h20, h25, h38, h43]; done)
    exact (by first | rfl | rw [x52])
  rw [Bool.not_eq_false'] at c50
  have c50' := c50
  refine wp_skip (hK35 _ _ ?_)
  refine wp_seq_k fun K53 hK53 => ?_
  refine wp_seq_k fun K54 hK54 => ?_
  refine wp_region_lit ?_
  refine q_is (l' := [(.agg #[(.float .f32 a_x), (.float .f32 a_y), (.float .f32 a_z)]), (.agg #[(.float .f32 b_x), (.float .f32 b_y), (.float .f32 b_z)]), (.pointer (some ⟨b2, 0, none⟩)), (.pointer (some ⟨b9, 0, none⟩)), (.bool false), (.pointer (some ⟨b2, 0, none⟩)), (.float .f32 a_x), (.float .f64 r19), (.pointer (some ⟨b9, 0, none⟩)), (.float .f32 b_x), (.float .f64 r24), (.bool (sameF (cf .f64 r19) (cf .f64 r24))), (.bool (!(sameF (cf .f64 r19) (cf .f64 r24)))), (.pointer (some ⟨b2, 1, none⟩)), (.float .f32 a_y), (.float .f64 r37), (.pointer (some ⟨b9, 1, none⟩)), (.float .f32 b_y), (.float .f64 r42), (.bool (sameF (cf .f64 r37) (cf .f64 r42))), (.bool (!(sameF (cf .f64 r37) (cf .f64 r42)))), (.pointer (some ⟨b2, 2, none⟩)), undef, undef, undef, undef, undef, undef, undef]) rfl rfl (does_fieldAddr (ev rfl) fa31_2) rfl ?_
  refine q_is (l' := [(.agg #[(.float .f32 a_x), (.float .f32 a_y), (.float .f32 a_z)]), (.agg #[(.float .f32 b_x), (.float .f32 b_y), (.float .f32 b_z)]), (.pointer (some ⟨b2, 0, none⟩)), (.pointer (some ⟨b9, 0, none⟩)), (.bool false), (.pointer (some ⟨b2, 0, none⟩)), (.float .f32 a_x), (.float .f64 r19), (.pointer (some ⟨b9, 0, none⟩)), (.float .f32 b_x), (.float .f64 r24), (.bool (sameF (cf .f64 r19) (cf .f64 r24))), (.bool (!(sameF (cf .f64 r19) (cf .f64 r24)))), (.pointer (some ⟨b2, 1, none⟩)), (.float .f32 a_y), (.float .f64 r37), (.pointer (some ⟨b9, 1, none⟩)), (.float .f32 b_y), (.float .f64 r42), (.bool (sameF (cf .f64 r37) (cf .f64 r42))), (.bool (!(sameF (cf .f64 r37) (cf .f64 r42)))), (.pointer (some ⟨b2, 2, none⟩)), (.float .f32 a_z), undef, undef, undef, undef, undef, undef]) rfl rfl (does_load (u := (.float .f32 a_z)) (ev rfl) Try.isAgg25 (Cells.at (Blk.cells (((((((hB4.ext E12).ext E21).ext E26).ext E29).ext E39).ext E44).ext E47)) 2 rfl)) rfl ?_
  refine seqd rfl rfl (does_widen Try.underlying25 Try.underlying89 (ev rfl)) ?_; rintro _ w58 ⟨r55, rfl, h56, E57⟩
  have X59 := Ext.gr X49 E57
  show wpList _ _ _ _ (fr [(.agg #[(.float .f32 a_x), (.float .f32 a_y), (.float .f32 a_z)]), (.agg #[(.float .f32 b_x), (.float .f32 b_y), (.float .f32 b_z)]), (.pointer (some ⟨b2, 0, none⟩)), (.pointer (some ⟨b9, 0, none⟩)), (.bool false), (.pointer (some ⟨b2, 0, none⟩)), (.float .f32 a_x), (.float .f64 r19), (.pointer (some ⟨b9, 0, none⟩)), (.float .f32 b_x), (.float .f64 r24), (.bool (sameF (cf .f64 r19) (cf .f64 r24))), (.bool (!(sameF (cf .f64 r19) (cf .f64 r24)))), (.pointer (some ⟨b2, 1, none⟩)), (.float .f32 a_y), (.float .f64 r37), (.pointer (some ⟨b9, 1, none⟩)), (.float .f32 b_y), (.float .f64 r42), (.bool (sameF (cf .f64 r37) (cf .f64 r42))), (.bool (!(sameF (cf .f64 r37) (cf .f64 r42)))), (.pointer (some ⟨b2, 2, none⟩)), (.float .f32 a_z), (.float .f64 r55), undef, undef, undef, undef, undef]) _
  refine q_is (l' := [(.agg #[(.float .f32 a_x), (.float .f32 a_y), (.float .f32 a_z)]), (.agg #[(.float .f32 b_x), (.float .f32 b_y), (.float .f32 b_z)]), (.pointer (some ⟨b2, 0, none⟩)), (.pointer (some ⟨b9, 0, none⟩)), (.bool false), (.pointer (some ⟨b2, 0, none⟩)), (.float .f32 a_x), (.float .f64 r19), (.pointer (some ⟨b9, 0, none⟩)), (.float .f32 b_x), (.float .f64 r24), (.bool (sameF (cf .f64 r19) (cf .f64 r24))), (.bool (!(sameF (cf .f64 r19) (cf .f64 r24)))), (.pointer (some ⟨b2, 1, none⟩)), (.float .f32 a_y), (.float .f64 r37), (.pointer (some ⟨b9, 1, none⟩)), (.float .f32 b_y), (.float .f64 r42), (.bool (sameF (cf .f64 r37) (cf .f64 r42))), (.bool (!(sameF (cf .f64 r37) (cf .f64 r42)))), (.pointer (some ⟨b2, 2, none⟩)), (.float .f32 a_z), (.float .f64 r55), (.pointer (some ⟨b9, 2, none⟩)), undef, undef, undef, undef]) rfl rfl (does_fieldAddr (ev rfl) fa31_2) rfl ?_
  refine q_is (l' := [(.agg #[(.float .f32 a_x), (.float .f32 a_y), (.float .f32 a_z)]), (.agg #[(.float .f32 b_x), (.float .f32 b_y), (.float .f32 b_z)]), (.pointer (some ⟨b2, 0, none⟩)), (.pointer (some ⟨b9, 0, none⟩)), (.bool false), (.pointer (some ⟨b2, 0, none⟩)), (.float .f32 a_x), (.float .f64 r19), (.pointer (some ⟨b9, 0, none⟩)), (.float .f32 b_x), (.float .f64 r24), (.bool (sameF (cf .f64 r19) (cf .f64 r24))), (.bool (!(sameF (cf .f64 r19) (cf .f64 r24)))), (.pointer (some ⟨b2, 1, none⟩)), (.float .f32 a_y), (.float .f64 r37), (.pointer (some ⟨b9, 1, none⟩)), (.float .f32 b_y), (.float .f64 r42), (.bool (sameF (cf .f64 r37) (cf .f64 r42))), (.bool (!(sameF (cf .f64 r37) (cf .f64 r42)))), (.pointer (some ⟨b2, 2, none⟩)), (.float .f32 a_z), (.float .f64 r55), (.pointer (some ⟨b9, 2, none⟩)), (.float .f32 b_z), undef, undef, undef]) rfl rfl (does_load (u := (.float .f32 b_z)) (ev rfl) Try.isAgg25 (Cells.at (Blk.cells (((((((hB11.ext E21).ext E26).ext E29).ext E39).ext E44).ext E47).ext E57)) 2 rfl)) rfl ?_
  refine seqd rfl rfl (does_widen Try.underlying25 Try.underlying89 (ev rfl)) ?_; rintro _ w63 ⟨r60, rfl, h61, E62⟩
  have X64 := Ext.gr X59 E62
  show wpList _ _ _ _ (fr [(.agg #[(.float .f32 a_x), (.float .f32 a_y), (.float .f32 a_z)]), (.agg #[(.float .f32 b_x), (.float .f32 b_y), (.float .f32 b_z)]), (.pointer (some ⟨b2, 0, none⟩)), (.pointer (some ⟨b9, 0, none⟩)), (.bool false), (.pointer (some ⟨b2, 0, none⟩)), (.float .f32 a_x), (.float .f64 r19), (.pointer (some ⟨b9, 0, none⟩)), (.float .f32 b_x), (.float .f64 r24), (.bool (sameF (cf .f64 r19) (cf .f64 r24))), (.bool (!(sameF (cf .f64 r19) (cf .f64 r24)))), (.pointer (some ⟨b2, 1, none⟩)), (.float .f32 a_y), (.float .f64 r37), (.pointer (some ⟨b9, 1, none⟩)), (.float .f32 b_y), (.float .f64 r42), (.bool (sameF (cf .f64 r37) (cf .f64 r42))), (.bool (!(sameF (cf .f64 r37) (cf .f64 r42)))), (.pointer (some ⟨b2, 2, none⟩)), (.float .f32 a_z), (.float .f64 r55), (.pointer (some ⟨b9, 2, none⟩)), (.float .f32 b_z), (.float .f64 r60), undef, undef]) _
  refine seqd rfl rfl (does_call (args := #[(.float .f64 r55), (.float .f64 r60)]) cal56 (evs rfl) (c_laws_sameFloat r55 r60 _)) ?_; rintro _ w66 ⟨E65, rfl⟩
  have X67 := Ext.gr X64 E65
  show wpList _ _ _ _ (fr [(.agg #[(.float .f32 a_x), (.float .f32 a_y), (.float .f32 a_z)]), (.agg #[(.float .f32 b_x), (.float .f32 b_y), (.float .f32 b_z)]), (.pointer (some ⟨b2, 0, none⟩)), (.pointer (some ⟨b9, 0, none⟩)), (.bool false), (.pointer (some ⟨b2, 0, none⟩)), (.float .f32 a_x), (.float .f64 r19), (.pointer (some ⟨b9, 0, none⟩)), (.float .f32 b_x), (.float .f64 r24), (.bool (sameF (cf .f64 r19) (cf .f64 r24))), (.bool (!(sameF (cf .f64 r19) (cf .f64 r24)))), (.pointer (some ⟨b2, 1, none⟩)), (.float .f32 a_y), (.float .f64 r37), (.pointer (some ⟨b9, 1, none⟩)), (.float .f32 b_y), (.float .f64 r42), (.bool (sameF (cf .f64 r37) (cf .f64 r42))), (.bool (!(sameF (cf .f64 r37) (cf .f64 r42)))), (.pointer (some ⟨b2, 2, none⟩)), (.float .f32 a_z), (.float .f64 r55), (.pointer (some ⟨b9, 2, none⟩)), (.float .f32 b_z), (.float .f64 r60), (.bool (sameF (cf .f64 r55) (cf .f64 r60))), undef]) _
  refine q_is (l' := [(.agg #[(.float .f32 a_x), (.float .f32 a_y), (.float .f32 a_z)]), (.agg #[(.float .f32 b_x), (.float .f32 b_y), (.float .f32 b_z)]), (.pointer (some ⟨b2, 0, none⟩)), (.pointer (some ⟨b9, 0, none⟩)), (.bool false), (.pointer (some ⟨b2, 0, none⟩)), (.float .f32 a_x), (.float .f64 r19), (.pointer (some ⟨b9, 0, none⟩)), (.float .f32 b_x), (.float .f64 r24), (.bool (sameF (cf .f64 r19) (cf .f64 r24))), (.bool (!(sameF (cf .f64 r19) (cf .f64 r24)))), (.pointer (some ⟨b2, 1, none⟩)), (.float .f32 a_y), (.float .f64 r37), (.pointer (some ⟨b9, 1, none⟩)), (.float .f32 b_y), (.float .f64 r42), (.bool (sameF (cf .f64 r37) (cf .f64 r42))), (.bool (!(sameF (cf .f64 r37) (cf .f64 r42)))), (.pointer (some ⟨b2, 2, none⟩)), (.float .f32 a_z), (.float .f64 r55), (.pointer (some ⟨b9, 2, none⟩)), (.float .f32 b_z), (.float .f64 r60), (.bool (sameF (cf .f64 r55) (cf .f64 r60))), (.bool (!(sameF (cf .f64 r55) (cf .f64 r60))))]) rfl rfl (does_not (ev rfl)) rfl ?_
  refine wpList_nil (hK54 _ _ ?_)
  refine wp_cond_split (t := !(sameF (cf .f64 r55) (cf .f64 r60))) (ev rfl) (fun c68 => ?_) (fun c68 => ?_)
  · rw [Bool.not_eq_true'] at c68
    have c68' := c68
    refine wp_seq_k fun K69 hK69 => ?_
    refine wp_region_lit ?_
    refine q_is (l' := [(.agg #[(.float .f32 a_x), (.float .f32 a_y), (.float .f32 a_z)]), (.agg #[(.float .f32 b_x), (.float .f32 b_y), (.float .f32 b_z)]), (.pointer (some ⟨b2, 0, none⟩)), (.pointer (some ⟨b9, 0, none⟩)), (.bool false), (.pointer (some ⟨b2, 0, none⟩)), (.float .f32 a_x), (.float .f64 r19), (.pointer (some ⟨b9, 0, none⟩)), (.float .f32 b_x), (.float .f64 r24), (.bool (sameF (cf .f64 r19) (cf .f64 r24))), (.bool (!(sameF (cf .f64 r19) (cf .f64 r24)))), (.pointer (some ⟨b2, 1, none⟩)), (.float .f32 a_y), (.float .f64 r37), (.pointer (some ⟨b9, 1, none⟩)), (.float .f32 b_y), (.float .f64 r42), (.bool (sameF (cf .f64 r37) (cf .f64 r42))), (.bool (!(sameF (cf .f64 r37) (cf .f64 r42)))), (.pointer (some ⟨b2, 2, none⟩)), (.float .f32 a_z), (.float .f64 r55), (.pointer (some ⟨b9, 2, none⟩)), (.float .f32 b_z), (.float .f64 r60), (.bool (sameF (cf .f64 r55) (cf .f64 r60))), (.bool (!(sameF (cf .f64 r55) (cf .f64 r60))))]) rfl rfl (does_assign (u := (.bool false)) (ev rfl)) rfl ?_
    refine wpList_nil (hK69 _ _ ?_)
    refine wp_ret ?_
    dsimp only [Exit.then, Exit.inBlock]
    refine ret_val (v := (.bool false)) (res_T rfl (slot rfl)) X67 ?_
    try simp only [h20, h25, h38, h43, h56, h61] at c32 c50 c68
    have x70 : (sameF (fwid (cf .f32 a_x)) (fwid (cf .f32 b_x)) && sameF (fwid (cf .f32 a_y)) (fwid (cf .f32 b_y)) && sameF (fwid (cf .f32 a_z)) (fwid (cf .f32 b_z))) = false := by first | rfl | (simp only [h20, h25, h38, h43, h56, h61, c32, c50, c68]; done) | (simp [h20, h25, h38, h43, h56, h61, c32, c50, c68]; done) | (revert c32 c50 c68; simp +contextual [h20, h25, h38, h43, h56, h61]; done)
    exact (by first | rfl | rw [x70])
  rw [Bool.not_eq_false'] at c68
  have c68' := c68
  refine wp_skip (hK53 _ _ ?_)
  refine wp_seq_k fun K71 hK71 => ?_
  refine wp_region_lit ?_
  refine q_is (l' := [(.agg #[(.float .f32 a_x), (.float .f32 a_y), (.float .f32 a_z)]), (.agg #[(.float .f32 b_x), (.float .f32 b_y), (.float .f32 b_z)]), (.pointer (some ⟨b2, 0, none⟩)), (.pointer (some ⟨b9, 0, none⟩)), (.bool true), (.pointer (some ⟨b2, 0, none⟩)), (.float .f32 a_x), (.float .f64 r19), (.pointer (some ⟨b9, 0, none⟩)), (.float .f32 b_x), (.float .f64 r24), (.bool (sameF (cf .f64 r19) (cf .f64 r24))), (.bool (!(sameF (cf .f64 r19) (cf .f64 r24)))), (.pointer (some ⟨b2, 1, none⟩)), (.float .f32 a_y), (.float .f64 r37), (.pointer (some ⟨b9, 1, none⟩)), (.float .f32 b_y), (.float .f64 r42), (.bool (sameF (cf .f64 r37) (cf .f64 r42))), (.bool (!(sameF (cf .f64 r37) (cf .f64 r42)))), (.pointer (some ⟨b2, 2, none⟩)), (.float .f32 a_z), (.float .f64 r55), (.pointer (some ⟨b9, 2, none⟩)), (.float .f32 b_z), (.float .f64 r60), (.bool (sameF (cf .f64 r55) (cf .f64 r60))), (.bool (!(sameF (cf .f64 r55) (cf .f64 r60))))]) rfl rfl (does_assign (u := (.bool true)) (ev rfl)) rfl ?_
  refine wpList_nil (hK71 _ _ ?_)
  refine wp_ret ?_
  refine ret_val (v := (.bool true)) (res_T rfl (slot rfl)) X67 ?_
  try simp only [h20, h25, h38, h43, h56, h61] at c32 c50 c68
  have x72 : (sameF (fwid (cf .f32 a_x)) (fwid (cf .f32 b_x)) && sameF (fwid (cf .f32 a_y)) (fwid (cf .f32 b_y)) && sameF (fwid (cf .f32 a_z)) (fwid (cf .f32 b_z))) = true := by first | rfl | (simp only [h20, h25, h38, h43, h56, h61, c32, c50, c68]; done) | (simp [h20, h25, h38, h43, h56, h61, c32, c50, c68]; done) | (revert c32 c50 c68; simp +contextual [h20, h25, h38, h43, h56, h61]; done)
  exact (by first | rfl | rw [x72])

/- laws.FnExactBounceOff -/
theorem c_laws_FnExactBounceOff (v_x : Nat) (v_y : Nat) (v_z : Nat) (n_x : Nat) (n_y : Nat) (n_z : Nat) (k : Nat) (w : World) : Gives Try.prog 7 #[(.agg #[(.float .f32 v_x), (.float .f32 v_y), (.float .f32 v_z)]), (.agg #[(.float .f32 n_x), (.float .f32 n_y), (.float .f32 n_z)]), (.float .f32 k)] w (fun v w' => v = (.bool true)) := by
  refine enter [(.agg #[(.float .f32 v_x), (.float .f32 v_y), (.float .f32 v_z)]), (.agg #[(.float .f32 n_x), (.float .f32 n_y), (.float .f32 n_z)]), (.float .f32 k), undef, undef, undef, undef, undef, undef, undef, undef, undef, undef, undef, undef, undef, undef, undef, undef, undef, undef, undef, undef, undef, undef] Try.func7 rfl Try.ntmps7 rfl ?_
  refine wp_seq_k fun K1 hK1 => ?_
  refine wp_region_lit ?_
  refine seqd rfl rfl (does_box (u := (.agg #[(.float .f32 v_x), (.float .f32 v_y), (.float .f32 v_z)])) (ev rfl)) ?_; rintro _ w6 ⟨b2, rfl, hb3, hB4, E5⟩
  have g7 : w.heap.size ≤ b2 := Nat.le_trans (Below.size (Ext.refl w)) hb3
  change Blk _ _ [(.float .f32 v_x), (.float .f32 v_y), (.float .f32 v_z)] at hB4
  have X8 := Ext.gr (Ext.refl w) E5
  show wpList _ _ _ _ (fr [(.agg #[(.float .f32 v_x), (.float .f32 v_y), (.float .f32 v_z)]), (.agg #[(.float .f32 n_x), (.float .f32 n_y), (.float .f32 n_z)]), (.float .f32 k), (.pointer (some ⟨b2, 0, none⟩)), undef, undef, undef, undef, undef, undef, undef, undef, undef, undef, undef, undef, undef, undef, undef, undef, undef, undef, undef, undef, undef]) _
  refine seqd rfl rfl (does_box (u := (.agg #[(.float .f32 n_x), (.float .f32 n_y), (.float .f32 n_z)])) (ev rfl)) ?_; rintro _ w13 ⟨b9, rfl, hb10, hB11, E12⟩
  have n14 : b2 < b9 := Nat.lt_of_lt_of_le (Blk.lt hB4) hb10
  have g15 : w.heap.size ≤ b9 := Nat.le_trans (Below.size X8) hb10
  change Blk _ _ [(.float .f32 n_x), (.float .f32 n_y), (.float .f32 n_z)] at hB11
  have X16 := Ext.gr X8 E12
  show wpList _ _ _ _ (fr [(.agg #[(.float .f32 v_x), (.float .f32 v_y), (.float .f32 v_z)]), (.agg #[(.float .f32 n_x), (.float .f32 n_y), (.float .f32 n_z)]), (.float .f32 k), (.pointer (some ⟨b2, 0, none⟩)), (.pointer (some ⟨b9, 0, none⟩)), undef, undef, undef, undef, undef, undef, undef, undef, undef, undef, undef, undef, undef, undef, undef, undef, undef, undef, undef, undef]) _
  refine q_is (l' := [(.agg #[(.float .f32 v_x), (.float .f32 v_y), (.float .f32 v_z)]), (.agg #[(.float .f32 n_x), (.float .f32 n_y), (.float .f32 n_z)]), (.float .f32 k), (.pointer (some ⟨b2, 0, none⟩)), (.pointer (some ⟨b9, 0, none⟩)), undef, (.bool false), undef, undef, undef, undef, undef, undef, undef, undef, undef, undef, undef, undef, undef, undef, undef, undef, undef, undef]) rfl rfl (does_assign (u := (.bool false)) (ev rfl)) rfl ?_
  refine wpList_nil (hK1 _ _ ?_)
  refine wp_seq_k fun K17 hK17 => ?_
  refine region_draw (
    [Fact.pure [] (fun v => v = (.agg #[(.float .f32 v_x), (.float .f32 v_y), (.float .f32 v_z)])),
    Fact.pure [9] (fun v => ∃ r_1 : Nat, ∃ r_2 : Nat, ∃ r_3 : Nat, v = (.agg #[(.float .f32 r_1), (.float .f32 r_2), (.float .f32 r_3)]) ∧ cf .f32 r_1 = (cf .f32 v_x) ∧ cf .f32 r_2 = (cf .f32 v_y) ∧ cf .f32 r_3 = (cf .f32 v_z)),
    Fact.pure [] (fun v => v = (.agg #[(.float .f32 n_x), (.float .f32 n_y), (.float .f32 n_z)])),
    Fact.pure [11] (fun v => ∃ r_1 : Nat, ∃ r_2 : Nat, ∃ r_3 : Nat, v = (.agg #[(.float .f32 r_1), (.float .f32 r_2), (.float .f32 r_3)]) ∧ cf .f32 r_1 = (cf .f32 n_x) ∧ cf .f32 r_2 = (cf .f32 n_y) ∧ cf .f32 r_3 = (cf .f32 n_z)),
    Fact.pure [] (fun v => v = (.float .f32 k)),
    Fact.pure [10, 12, 13] (fun v => ∃ r_1 : Nat, ∃ r_2 : Nat, ∃ r_3 : Nat, v = (.agg #[(.float .f32 r_1), (.float .f32 r_2), (.float .f32 r_3)]) ∧ cf .f32 r_1 = (awayF (cf .f32 v_x) (cf .f32 v_y) (cf .f32 v_z) (cf .f32 n_x) (cf .f32 n_y) (cf .f32 n_z) (fop .add .f32 (cf .f32 1065353216) (cf .f32 k))).1 ∧ cf .f32 r_2 = (awayF (cf .f32 v_x) (cf .f32 v_y) (cf .f32 v_z) (cf .f32 n_x) (cf .f32 n_y) (cf .f32 n_z) (fop .add .f32 (cf .f32 1065353216) (cf .f32 k))).2.1 ∧ cf .f32 r_3 = (awayF (cf .f32 v_x) (cf .f32 v_y) (cf .f32 v_z) (cf .f32 n_x) (cf .f32 n_y) (cf .f32 n_z) (fop .add .f32 (cf .f32 1065353216) (cf .f32 k))).2.2),
    Fact.mem [] (fun v w' => ∃ b : Nat, v = .pointer (some ⟨b, 0, none⟩) ∧ w13.heap.size ≤ b ∧ Blk w' b [(.float .f32 0), (.float .f32 0), (.float .f32 0)]) (by rintro v w1 w2 hx ⟨b, rfl, hb, hB⟩; exact ⟨b, rfl, hb, (hB.ext hx)⟩)]) mixed (by kernel_rfl) (by intro _ _ d _ _ h; cases d <;> exact h) ?_
  obtain ⟨w18, hw20⟩ : ∃ w', w' = World.drew w13 := ⟨_, rfl⟩; rw [← hw20]; have E19 : Ext w13 w18 := by rw [hw20]; exact Ext.draw _
  clear hw20
  have X21 := Ext.gr X16 E19
  refine RW_d (fun v22 => [(.agg #[(.float .f32 v_x), (.float .f32 v_y), (.float .f32 v_z)]), (.agg #[(.float .f32 n_x), (.float .f32 n_y), (.float .f32 n_z)]), (.float .f32 k), (.pointer (some ⟨b2, 0, none⟩)), (.pointer (some ⟨b9, 0, none⟩)), undef, (.bool false), undef, undef, v22, undef, undef, undef, undef, undef, undef, undef, undef, undef, undef, undef, undef, undef, undef, undef]) rfl (fun _ => rfl) (fun u hu hF => ?_) (fun v22 => ?_)
  · clear hF
    refine doesG_un rfl ?_
    refine (does_loadAgg (cs := [(.float .f32 v_x), (.float .f32 v_y), (.float .f32 v_z)]) (ev rfl) Try.isAgg27 Try.sizeOf27 (Blk.cells (((hB4.ext E12).ext E19).ext hu)) rfl).mono ?_; rintro _ _ ⟨rfl, rfl⟩
    exact ⟨rfl, Ext.refl _⟩
  refine RW_d (fun v23 => [(.agg #[(.float .f32 v_x), (.float .f32 v_y), (.float .f32 v_z)]), (.agg #[(.float .f32 n_x), (.float .f32 n_y), (.float .f32 n_z)]), (.float .f32 k), (.pointer (some ⟨b2, 0, none⟩)), (.pointer (some ⟨b9, 0, none⟩)), undef, (.bool false), undef, undef, v22, v23, undef, undef, undef, undef, undef, undef, undef, undef, undef, undef, undef, undef, undef, undef]) rfl (fun _ => rfl) (fun u hu hF => ?_) (fun v23 => ?_)
  · have h9_ : v22 = (.agg #[(.float .f32 v_x), (.float .f32 v_y), (.float .f32 v_z)]) := hF.1
    clear hF
    obtain rfl := h9_
    refine doesG_un rfl ?_
    refine (does_call (args := #[(.agg #[(.float .f32 v_x), (.float .f32 v_y), (.float .f32 v_z)])]) cal21 (evs rfl) (c_laws_toVector v_x v_y v_z _)).mono ?_; rintro v u' ⟨hx, ⟨rn1, rn2, rn3, hv, k0, k1, k2⟩⟩
    exact ⟨⟨rn1, rn2, rn3, hv, (by simp only [k0]), (by simp only [k1]), (by simp only [k2])⟩, hx⟩
  refine RW_d (fun v24 => [(.agg #[(.float .f32 v_x), (.float .f32 v_y), (.float .f32 v_z)]), (.agg #[(.float .f32 n_x), (.float .f32 n_y), (.float .f32 n_z)]), (.float .f32 k), (.pointer (some ⟨b2, 0, none⟩)), (.pointer (some ⟨b9, 0, none⟩)), undef, (.bool false), undef, undef, v22, v23, v24, undef, undef, undef, undef, undef, undef, undef, undef, undef, undef, undef, undef, undef]) rfl (fun _ => rfl) (fun u hu hF => ?_) (fun v24 => ?_)
  · clear hF
    refine doesG_un rfl ?_
    refine (does_loadAgg (cs := [(.float .f32 n_x), (.float .f32 n_y), (.float .f32 n_z)]) (ev rfl) Try.isAgg27 Try.sizeOf27 (Blk.cells ((hB11.ext E19).ext hu)) rfl).mono ?_; rintro _ _ ⟨rfl, rfl⟩
    exact ⟨rfl, Ext.refl _⟩
  refine RW_d (fun v25 => [(.agg #[(.float .f32 v_x), (.float .f32 v_y), (.float .f32 v_z)]), (.agg #[(.float .f32 n_x), (.float .f32 n_y), (.float .f32 n_z)]), (.float .f32 k), (.pointer (some ⟨b2, 0, none⟩)), (.pointer (some ⟨b9, 0, none⟩)), undef, (.bool false), undef, undef, v22, v23, v24, v25, undef, undef, undef, undef, undef, undef, undef, undef, undef, undef, undef, undef]) rfl (fun _ => rfl) (fun u hu hF => ?_) (fun v25 => ?_)
  · have h11_ : v24 = (.agg #[(.float .f32 n_x), (.float .f32 n_y), (.float .f32 n_z)]) := hF.1
    clear hF
    obtain rfl := h11_
    refine doesG_un rfl ?_
    refine (does_call (args := #[(.agg #[(.float .f32 n_x), (.float .f32 n_y), (.float .f32 n_z)])]) cal21 (evs rfl) (c_laws_toVector n_x n_y n_z _)).mono ?_; rintro v u' ⟨hx, ⟨rn1, rn2, rn3, hv, k0, k1, k2⟩⟩
    exact ⟨⟨rn1, rn2, rn3, hv, (by simp only [k0]), (by simp only [k1]), (by simp only [k2])⟩, hx⟩
  refine RW_d (fun v26 => [(.agg #[(.float .f32 v_x), (.float .f32 v_y), (.float .f32 v_z)]), (.agg #[(.float .f32 n_x), (.float .f32 n_y), (.float .f32 n_z)]), (.float .f32 k), (.pointer (some ⟨b2, 0, none⟩)), (.pointer (some ⟨b9, 0, none⟩)), undef, (.bool false), undef, undef, v22, v23, v24, v25, v26, undef, undef, undef, undef, undef, undef, undef, undef, undef, undef, undef]) rfl (fun _ => rfl) (fun u hu hF => ?_) (fun v26 => ?_)
  · clear hF
    refine doesG_un rfl ?_
    refine (does_move (u := (.float .f32 k)) (ev rfl)).mono ?_; rintro _ _ ⟨rfl, rfl⟩
    exact ⟨rfl, Ext.refl _⟩
  refine RW_d (fun v27 => [(.agg #[(.float .f32 v_x), (.float .f32 v_y), (.float .f32 v_z)]), (.agg #[(.float .f32 n_x), (.float .f32 n_y), (.float .f32 n_z)]), (.float .f32 k), (.pointer (some ⟨b2, 0, none⟩)), (.pointer (some ⟨b9, 0, none⟩)), undef, (.bool false), undef, undef, v22, v23, v24, v25, v26, v27, undef, undef, undef, undef, undef, undef, undef, undef, undef, undef]) rfl (fun _ => rfl) (fun u hu hF => ?_) (fun v27 => ?_)
  · have h10_ : ∃ r_1 : Nat, ∃ r_2 : Nat, ∃ r_3 : Nat, v23 = (.agg #[(.float .f32 r_1), (.float .f32 r_2), (.float .f32 r_3)]) ∧ cf .f32 r_1 = (cf .f32 v_x) ∧ cf .f32 r_2 = (cf .f32 v_y) ∧ cf .f32 r_3 = (cf .f32 v_z) := hF.1
    have h12_ : ∃ r_1 : Nat, ∃ r_2 : Nat, ∃ r_3 : Nat, v25 = (.agg #[(.float .f32 r_1), (.float .f32 r_2), (.float .f32 r_3)]) ∧ cf .f32 r_1 = (cf .f32 n_x) ∧ cf .f32 r_2 = (cf .f32 n_y) ∧ cf .f32 r_3 = (cf .f32 n_z) := hF.2.1
    have h13_ : v26 = (.float .f32 k) := hF.2.2.1
    clear hF
    obtain ⟨r10_1, r10_2, r10_3, rfl, e10_0, e10_1, e10_2⟩ := h10_
    obtain ⟨r12_1, r12_2, r12_3, rfl, e12_0, e12_1, e12_2⟩ := h12_
    obtain rfl := h13_
    refine doesG_un rfl ?_
    refine (does_call (args := #[(.agg #[(.float .f32 r10_1), (.float .f32 r10_2), (.float .f32 r10_3)]), (.agg #[(.float .f32 r12_1), (.float .f32 r12_2), (.float .f32 r12_3)]), (.float .f32 k)]) cal27 (evs rfl) (c_spec_BounceOff r10_1 r10_2 r10_3 r12_1 r12_2 r12_3 k _)).mono ?_; rintro v u' ⟨hx, ⟨rn1, rn2, rn3, hv, k0, k1, k2⟩⟩
    exact ⟨⟨rn1, rn2, rn3, hv.trans (by simp only [e10_0, e10_1, e10_2, e12_0, e12_1, e12_2]), (by simp only [k0, e10_0, e10_1, e10_2, e12_0, e12_1, e12_2]), (by simp only [k1, e10_0, e10_1, e10_2, e12_0, e12_1, e12_2]), (by simp only [k2, e10_0, e10_1, e10_2, e12_0, e12_1, e12_2])⟩, hx⟩
  refine RW_d (fun v28 => [(.agg #[(.float .f32 v_x), (.float .f32 v_y), (.float .f32 v_z)]), (.agg #[(.float .f32 n_x), (.float .f32 n_y), (.float .f32 n_z)]), (.float .f32 k), (.pointer (some ⟨b2, 0, none⟩)), (.pointer (some ⟨b9, 0, none⟩)), undef, (.bool false), v28, undef, v22, v23, v24, v25, v26, v27, undef, undef, undef, undef, undef, undef, undef, undef, undef, undef]) rfl (fun _ => rfl) (fun u hu hF => ?_) (fun v28 => ?_)
  · clear hF
    refine doesG_un rfl ?_
    refine (does_alloc z31).mono ?_; rintro _ _ ⟨b, rfl, hb, hB, hx⟩
    exact ⟨⟨b, rfl, Nat.le_trans (Nat.le_trans (Below.size E19) (Below.size hu)) hb, hB⟩, hx⟩
  refine RW_fin ?_; intro w29 E30 hP31
  obtain ⟨⟨⟨⟨⟨⟨⟨-, -⟩, -⟩, -⟩, -⟩, -⟩, q32⟩, q33⟩ := hP31
  have X34 := Ext.gr X21 E30
  have q32 : ∃ r_1 : Nat, ∃ r_2 : Nat, ∃ r_3 : Nat, v27 = (.agg #[(.float .f32 r_1), (.float .f32 r_2), (.float .f32 r_3)]) ∧ cf .f32 r_1 = (awayF (cf .f32 v_x) (cf .f32 v_y) (cf .f32 v_z) (cf .f32 n_x) (cf .f32 n_y) (cf .f32 n_z) (fop .add .f32 (cf .f32 1065353216) (cf .f32 k))).1 ∧ cf .f32 r_2 = (awayF (cf .f32 v_x) (cf .f32 v_y) (cf .f32 v_z) (cf .f32 n_x) (cf .f32 n_y) (cf .f32 n_z) (fop .add .f32 (cf .f32 1065353216) (cf .f32 k))).2.1 ∧ cf .f32 r_3 = (awayF (cf .f32 v_x) (cf .f32 v_y) (cf .f32 v_z) (cf .f32 n_x) (cf .f32 n_y) (cf .f32 n_z) (fop .add .f32 (cf .f32 1065353216) (cf .f32 k))).2.2 := q32
  obtain ⟨r35, r36, r37, rfl, h38, h39, h40⟩ := q32
  have q33 : ∃ b : Nat, v28 = .pointer (some ⟨b, 0, none⟩) ∧ w13.heap.size ≤ b ∧ Blk w29 b [(.float .f32 0), (.float .f32 0), (.float .f32 0)] := q33
  obtain ⟨b41, rfl, hb42, hB43⟩ := q33
  have n44 : b2 < b41 := Nat.lt_of_lt_of_le (Blk.lt (hB4.ext E12)) hb42
  have n45 : b9 < b41 := Nat.lt_of_lt_of_le (Blk.lt hB11) hb42
  have g46 : w.heap.size ≤ b41 := Nat.le_trans (Below.size X16) hb42
  show wpList _ _ _ _ (fr [(.agg #[(.float .f32 v_x), (.float .f32 v_y), (.float .f32 v_z)]), (.agg #[(.float .f32 n_x), (.float .f32 n_y), (.float .f32 n_z)]), (.float .f32 k), (.pointer (some ⟨b2, 0, none⟩)), (.pointer (some ⟨b9, 0, none⟩)), undef, (.bool false), (.pointer (some ⟨b41, 0, none⟩)), undef, v22, v23, v24, v25, v26, (.agg #[(.float .f32 r35), (.float .f32 r36), (.float .f32 r37)]), undef, undef, undef, undef, undef, undef, undef, undef, undef, undef]) _
  refine seqn rfl rfl (does_store (n := 3) (cs := [(.float .f32 0), (.float .f32 0), (.float .f32 0)]) (u := (.agg #[(.float .f32 r35), (.float .f32 r36), (.float .f32 r37)])) (ev rfl) (ev rfl) Try.sizeOf31 rfl hB43 (Nat.le_of_ble_eq_true rfl) rfl) ?_; rintro _ w49 ⟨rfl, W47, hB48⟩
  change Blk _ _ [(.float .f32 r35), (.float .f32 r36), (.float .f32 r37)] at hB48
  have X50 := Below.wr X34 W47 g46
  refine wpList_nil (hK17 _ _ ?_)
  refine wp_seq_k fun K51 hK51 => ?_
  refine region_draw (
    [Fact.pure [] (fun v => v = (.agg #[(.float .f32 v_x), (.float .f32 v_y), (.float .f32 v_z)])),
    Fact.pure [15] (fun v => ∃ r_1 : Nat, ∃ r_2 : Nat, ∃ r_3 : Nat, v = (.agg #[(.float .f32 r_1), (.float .f32 r_2), (.float .f32 r_3)]) ∧ cf .f32 r_1 = (cf .f32 v_x) ∧ cf .f32 r_2 = (cf .f32 v_y) ∧ cf .f32 r_3 = (cf .f32 v_z)),
    Fact.pure [] (fun v => v = (.agg #[(.float .f32 n_x), (.float .f32 n_y), (.float .f32 n_z)])),
    Fact.pure [17] (fun v => ∃ r_1 : Nat, ∃ r_2 : Nat, ∃ r_3 : Nat, v = (.agg #[(.float .f32 r_1), (.float .f32 r_2), (.float .f32 r_3)]) ∧ cf .f32 r_1 = (cf .f32 n_x) ∧ cf .f32 r_2 = (cf .f32 n_y) ∧ cf .f32 r_3 = (cf .f32 n_z)),
    Fact.pure [] (fun v => v = (.float .f32 k)),
    Fact.pure [16, 18, 19] (fun v => ∃ r_1 : Nat, ∃ r_2 : Nat, ∃ r_3 : Nat, v = (.agg #[(.float .f32 r_1), (.float .f32 r_2), (.float .f32 r_3)]) ∧ cf .f32 r_1 = (awayF (cf .f32 v_x) (cf .f32 v_y) (cf .f32 v_z) (cf .f32 n_x) (cf .f32 n_y) (cf .f32 n_z) (fop .add .f32 (cf .f32 1065353216) (cf .f32 k))).1 ∧ cf .f32 r_2 = (awayF (cf .f32 v_x) (cf .f32 v_y) (cf .f32 v_z) (cf .f32 n_x) (cf .f32 n_y) (cf .f32 n_z) (fop .add .f32 (cf .f32 1065353216) (cf .f32 k))).2.1 ∧ cf .f32 r_3 = (awayF (cf .f32 v_x) (cf .f32 v_y) (cf .f32 v_z) (cf .f32 n_x) (cf .f32 n_y) (cf .f32 n_z) (fop .add .f32 (cf .f32 1065353216) (cf .f32 k))).2.2),
    Fact.mem [] (fun v w' => ∃ b : Nat, v = .pointer (some ⟨b, 0, none⟩) ∧ w49.heap.size ≤ b ∧ Blk w' b [(.float .f32 0), (.float .f32 0), (.float .f32 0)]) (by rintro v w1 w2 hx ⟨b, rfl, hb, hB⟩; exact ⟨b, rfl, hb, (hB.ext hx)⟩)]) mixed (by kernel_rfl) (by intro _ _ d _ _ h; cases d <;> exact h) ?_
  obtain ⟨w52, hw54⟩ : ∃ w', w' = World.drew w49 := ⟨_, rfl⟩; rw [← hw54]; have E53 : Ext w49 w52 := by rw [hw54]; exact Ext.draw _
  clear hw54
  have X55 := Ext.gr X50 E53
  refine RW_d (fun v56 => [(.agg #[(.float .f32 v_x), (.float .f32 v_y), (.float .f32 v_z)]), (.agg #[(.float .f32 n_x), (.float .f32 n_y), (.float .f32 n_z)]), (.float .f32 k), (.pointer (some ⟨b2, 0, none⟩)), (.pointer (some ⟨b9, 0, none⟩)), undef, (.bool false), (.pointer (some ⟨b41, 0, none⟩)), undef, v22, v23, v24, v25, v26, (.agg #[(.float .f32 r35), (.float .f32 r36), (.float .f32 r37)]), v56, undef, undef, undef, undef, undef, undef, undef, undef, undef]) rfl (fun _ => rfl) (fun u hu hF => ?_) (fun v56 => ?_)
  · clear hF
    refine doesG_un rfl ?_
    refine (does_loadAgg (cs := [(.float .f32 v_x), (.float .f32 v_y), (.float .f32 v_z)]) (ev rfl) Try.isAgg27 Try.sizeOf27 (Blk.cells ((((((hB4.ext E12).ext E19).ext E30).wr W47 (Nat.ne_of_lt n44)).ext E53).ext hu)) rfl).mono ?_; rintro _ _ ⟨rfl, rfl⟩
    exact ⟨rfl, Ext.refl _⟩
  refine RW_d (fun v57 => [(.agg #[(.float .f32 v_x), (.float .f32 v_y), (.float .f32 v_z)]), (.agg #[(.float .f32 n_x), (.float .f32 n_y), (.float .f32 n_z)]), (.float .f32 k), (.pointer (some ⟨b2, 0, none⟩)), (.pointer (some ⟨b9, 0, none⟩)), undef, (.bool false), (.pointer (some ⟨b41, 0, none⟩)), undef, v22, v23, v24, v25, v26, (.agg #[(.float .f32 r35), (.float .f32 r36), (.float .f32 r37)]), v56, v57, undef, undef, undef, undef, undef, undef, undef, undef]) rfl (fun _ => rfl) (fun u hu hF => ?_) (fun v57 => ?_)
  · have h15_ : v56 = (.agg #[(.float .f32 v_x), (.float .f32 v_y), (.float .f32 v_z)]) := hF.1
    clear hF
    obtain rfl := h15_
    refine doesG_un rfl ?_
    refine (does_call (args := #[(.agg #[(.float .f32 v_x), (.float .f32 v_y), (.float .f32 v_z)])]) cal21 (evs rfl) (c_laws_toVector v_x v_y v_z _)).mono ?_; rintro v u' ⟨hx, ⟨rn1, rn2, rn3, hv, k0, k1, k2⟩⟩
    exact ⟨⟨rn1, rn2, rn3, hv, (by simp only [k0]), (by simp only [k1]), (by simp only [k2])⟩, hx⟩
  refine RW_d (fun v58 => [(.agg #[(.float .f32 v_x), (.float .f32 v_y), (.float .f32 v_z)]), (.agg #[(.float .f32 n_x), (.float .f32 n_y), (.float .f32 n_z)]), (.float .f32 k), (.pointer (some ⟨b2, 0, none⟩)), (.pointer (some ⟨b9, 0, none⟩)), undef, (.bool false), (.pointer (some ⟨b41, 0, none⟩)), undef, v22, v23, v24, v25, v26, (.agg #[(.float .f32 r35), (.float .f32 r36), (.float .f32 r37)]), v56, v57, v58, undef, undef, undef, undef, undef, undef, undef]) rfl (fun _ => rfl) (fun u hu hF => ?_) (fun v58 => ?_)
  · clear hF
    refine doesG_un rfl ?_
    refine (does_loadAgg (cs := [(.float .f32 n_x), (.float .f32 n_y), (.float .f32 n_z)]) (ev rfl) Try.isAgg27 Try.sizeOf27 (Blk.cells (((((hB11.ext E19).ext E30).wr W47 (Nat.ne_of_lt n45)).ext E53).ext hu)) rfl).mono ?_; rintro _ _ ⟨rfl, rfl⟩
    exact ⟨rfl, Ext.refl _⟩
  refine RW_d (fun v59 => [(.agg #[(.float .f32 v_x), (.float .f32 v_y), (.float .f32 v_z)]), (.agg #[(.float .f32 n_x), (.float .f32 n_y), (.float .f32 n_z)]), (.float .f32 k), (.pointer (some ⟨b2, 0, none⟩)), (.pointer (some ⟨b9, 0, none⟩)), undef, (.bool false), (.pointer (some ⟨b41, 0, none⟩)), undef, v22, v23, v24, v25, v26, (.agg #[(.float .f32 r35), (.float .f32 r36), (.float .f32 r37)]), v56, v57, v58, v59, undef, undef, undef, undef, undef, undef]) rfl (fun _ => rfl) (fun u hu hF => ?_) (fun v59 => ?_)
  · have h17_ : v58 = (.agg #[(.float .f32 n_x), (.float .f32 n_y), (.float .f32 n_z)]) := hF.1
    clear hF
    obtain rfl := h17_
    refine doesG_un rfl ?_
    refine (does_call (args := #[(.agg #[(.float .f32 n_x), (.float .f32 n_y), (.float .f32 n_z)])]) cal21 (evs rfl) (c_laws_toVector n_x n_y n_z _)).mono ?_; rintro v u' ⟨hx, ⟨rn1, rn2, rn3, hv, k0, k1, k2⟩⟩
    exact ⟨⟨rn1, rn2, rn3, hv, (by simp only [k0]), (by simp only [k1]), (by simp only [k2])⟩, hx⟩
  refine RW_d (fun v60 => [(.agg #[(.float .f32 v_x), (.float .f32 v_y), (.float .f32 v_z)]), (.agg #[(.float .f32 n_x), (.float .f32 n_y), (.float .f32 n_z)]), (.float .f32 k), (.pointer (some ⟨b2, 0, none⟩)), (.pointer (some ⟨b9, 0, none⟩)), undef, (.bool false), (.pointer (some ⟨b41, 0, none⟩)), undef, v22, v23, v24, v25, v26, (.agg #[(.float .f32 r35), (.float .f32 r36), (.float .f32 r37)]), v56, v57, v58, v59, v60, undef, undef, undef, undef, undef]) rfl (fun _ => rfl) (fun u hu hF => ?_) (fun v60 => ?_)
  · clear hF
    refine doesG_un rfl ?_
    refine (does_move (u := (.float .f32 k)) (ev rfl)).mono ?_; rintro _ _ ⟨rfl, rfl⟩
    exact ⟨rfl, Ext.refl _⟩
  refine RW_d (fun v61 => [(.agg #[(.float .f32 v_x), (.float .f32 v_y), (.float .f32 v_z)]), (.agg #[(.float .f32 n_x), (.float .f32 n_y), (.float .f32 n_z)]), (.float .f32 k), (.pointer (some ⟨b2, 0, none⟩)), (.pointer (some ⟨b9, 0, none⟩)), undef, (.bool false), (.pointer (some ⟨b41, 0, none⟩)), undef, v22, v23, v24, v25, v26, (.agg #[(.float .f32 r35), (.float .f32 r36), (.float .f32 r37)]), v56, v57, v58, v59, v60, v61, undef, undef, undef, undef]) rfl (fun _ => rfl) (fun u hu hF => ?_) (fun v61 => ?_)
  · have h16_ : ∃ r_1 : Nat, ∃ r_2 : Nat, ∃ r_3 : Nat, v57 = (.agg #[(.float .f32 r_1), (.float .f32 r_2), (.float .f32 r_3)]) ∧ cf .f32 r_1 = (cf .f32 v_x) ∧ cf .f32 r_2 = (cf .f32 v_y) ∧ cf .f32 r_3 = (cf .f32 v_z) := hF.1
    have h18_ : ∃ r_1 : Nat, ∃ r_2 : Nat, ∃ r_3 : Nat, v59 = (.agg #[(.float .f32 r_1), (.float .f32 r_2), (.float .f32 r_3)]) ∧ cf .f32 r_1 = (cf .f32 n_x) ∧ cf .f32 r_2 = (cf .f32 n_y) ∧ cf .f32 r_3 = (cf .f32 n_z) := hF.2.1
    have h19_ : v60 = (.float .f32 k) := hF.2.2.1
    clear hF
    obtain ⟨r16_1, r16_2, r16_3, rfl, e16_0, e16_1, e16_2⟩ := h16_
    obtain ⟨r18_1, r18_2, r18_3, rfl, e18_0, e18_1, e18_2⟩ := h18_
    obtain rfl := h19_
    refine doesG_un rfl ?_
    refine (does_call (args := #[(.agg #[(.float .f32 r16_1), (.float .f32 r16_2), (.float .f32 r16_3)]), (.agg #[(.float .f32 r18_1), (.float .f32 r18_2), (.float .f32 r18_3)]), (.float .f32 k)]) cal28 (evs rfl) (c_impl_BounceOff r16_1 r16_2 r16_3 r18_1 r18_2 r18_3 k _)).mono ?_; rintro v u' ⟨hx, ⟨rn1, rn2, rn3, hv, k0, k1, k2⟩⟩
    exact ⟨⟨rn1, rn2, rn3, hv.trans (by simp only [e16_0, e16_1, e16_2, e18_0, e18_1, e18_2]), (by simp only [k0, e16_0, e16_1, e16_2, e18_0, e18_1, e18_2]), (by simp only [k1, e16_0, e16_1, e16_2, e18_0, e18_1, e18_2]), (by simp only [k2, e16_0, e16_1, e16_2, e18_0, e18_1, e18_2])⟩, hx⟩
  refine RW_d (fun v62 => [(.agg #[(.float .f32 v_x), (.float .f32 v_y), (.float .f32 v_z)]), (.agg #[(.float .f32 n_x), (.float .f32 n_y), (.float .f32 n_z)]), (.float .f32 k), (.pointer (some ⟨b2, 0, none⟩)), (.pointer (some ⟨b9, 0, none⟩)), undef, (.bool false), (.pointer (some ⟨b41, 0, none⟩)), v62, v22, v23, v24, v25, v26, (.agg #[(.float .f32 r35), (.float .f32 r36), (.float .f32 r37)]), v56, v57, v58, v59, v60, v61, undef, undef, undef, undef]) rfl (fun _ => rfl) (fun u hu hF => ?_) (fun v62 => ?_)
  · clear hF
    refine doesG_un rfl ?_
    refine (does_alloc z31).mono ?_; rintro _ _ ⟨b, rfl, hb, hB, hx⟩
    exact ⟨⟨b, rfl, Nat.le_trans (Nat.le_trans (Below.size E53) (Below.size hu)) hb, hB⟩, hx⟩
  refine RW_fin ?_; intro w63 E64 hP65
  obtain ⟨⟨⟨⟨⟨⟨⟨-, -⟩, -⟩, -⟩, -⟩, -⟩, q66⟩, q67⟩ := hP65
  have X68 := Ext.gr X55 E64
  have q66 : ∃ r_1 : Nat, ∃ r_2 : Nat, ∃ r_3 : Nat, v61 = (.agg #[(.float .f32 r_1), (.float .f32 r_2), (.float .f32 r_3)]) ∧ cf .f32 r_1 = (awayF (cf .f32 v_x) (cf .f32 v_y) (cf .f32 v_z) (cf .f32 n_x) (cf .f32 n_y) (cf .f32 n_z) (fop .add .f32 (cf .f32 1065353216) (cf .f32 k))).1 ∧ cf .f32 r_2 = (awayF (cf .f32 v_x) (cf .f32 v_y) (cf .f32 v_z) (cf .f32 n_x) (cf .f32 n_y) (cf .f32 n_z) (fop .add .f32 (cf .f32 1065353216) (cf .f32 k))).2.1 ∧ cf .f32 r_3 = (awayF (cf .f32 v_x) (cf .f32 v_y) (cf .f32 v_z) (cf .f32 n_x) (cf .f32 n_y) (cf .f32 n_z) (fop .add .f32 (cf .f32 1065353216) (cf .f32 k))).2.2 := q66
  obtain ⟨r69, r70, r71, rfl, h72, h73, h74⟩ := q66
  have q67 : ∃ b : Nat, v62 = .pointer (some ⟨b, 0, none⟩) ∧ w49.heap.size ≤ b ∧ Blk w63 b [(.float .f32 0), (.float .f32 0), (.float .f32 0)] := q67
  obtain ⟨b75, rfl, hb76, hB77⟩ := q67
  have n78 : b2 < b75 := Nat.lt_of_lt_of_le (Blk.lt ((((hB4.ext E12).ext E19).ext E30).wr W47 (Nat.ne_of_lt n44))) hb76
  have n79 : b9 < b75 := Nat.lt_of_lt_of_le (Blk.lt (((hB11.ext E19).ext E30).wr W47 (Nat.ne_of_lt n45))) hb76
  have n80 : b41 < b75 := Nat.lt_of_lt_of_le (Blk.lt hB48) hb76
  have g81 : w.heap.size ≤ b75 := Nat.le_trans (Below.size X50) hb76
  show wpList _ _ _ _ (fr [(.agg #[(.float .f32 v_x), (.float .f32 v_y), (.float .f32 v_z)]), (.agg #[(.float .f32 n_x), (.float .f32 n_y), (.float .f32 n_z)]), (.float .f32 k), (.pointer (some ⟨b2, 0, none⟩)), (.pointer (some ⟨b9, 0, none⟩)), undef, (.bool false), (.pointer (some ⟨b41, 0, none⟩)), (.pointer (some ⟨b75, 0, none⟩)), v22, v23, v24, v25, v26, (.agg #[(.float .f32 r35), (.float .f32 r36), (.float .f32 r37)]), v56, v57, v58, v59, v60, (.agg #[(.float .f32 r69), (.float .f32 r70), (.float .f32 r71)]), undef, undef, undef, undef]) _
  refine seqn rfl rfl (does_store (n := 3) (cs := [(.float .f32 0), (.float .f32 0), (.float .f32 0)]) (u := (.agg #[(.float .f32 r69), (.float .f32 r70), (.float .f32 r71)])) (ev rfl) (ev rfl) Try.sizeOf31 rfl hB77 (Nat.le_of_ble_eq_true rfl) rfl) ?_; rintro _ w84 ⟨rfl, W82, hB83⟩
  change Blk _ _ [(.float .f32 r69), (.float .f32 r70), (.float .f32 r71)] at hB83
  have X85 := Below.wr X68 W82 g81
  refine wpList_nil (hK51 _ _ ?_)
  refine wp_seq_k fun K86 hK86 => ?_
  refine wp_seq_k fun K87 hK87 => ?_
  refine wp_region_lit ?_
  refine q_is (l' := [(.agg #[(.float .f32 v_x), (.float .f32 v_y), (.float .f32 v_z)]), (.agg #[(.float .f32 n_x), (.float .f32 n_y), (.float .f32 n_z)]), (.float .f32 k), (.pointer (some ⟨b2, 0, none⟩)), (.pointer (some ⟨b9, 0, none⟩)), undef, (.bool false), (.pointer (some ⟨b41, 0, none⟩)), (.pointer (some ⟨b75, 0, none⟩)), v22, v23, v24, v25, v26, (.agg #[(.float .f32 r35), (.float .f32 r36), (.float .f32 r37)]), v56, v57, v58, v59, v60, (.agg #[(.float .f32 r69), (.float .f32 r70), (.float .f32 r71)]), (.agg #[(.float .f32 r69), (.float .f32 r70), (.float .f32 r71)]), undef, undef, undef]) rfl rfl (does_loadAgg (cs := [(.float .f32 r69), (.float .f32 r70), (.float .f32 r71)]) (ev rfl) Try.isAgg31 Try.sizeOf31 (Blk.cells hB83) rfl) rfl ?_
  refine q_is (l' := [(.agg #[(.float .f32 v_x), (.float .f32 v_y), (.float .f32 v_z)]), (.agg #[(.float .f32 n_x), (.float .f32 n_y), (.float .f32 n_z)]), (.float .f32 k), (.pointer (some ⟨b2, 0, none⟩)), (.pointer (some ⟨b9, 0, none⟩)), undef, (.bool false), (.pointer (some ⟨b41, 0, none⟩)), (.pointer (some ⟨b75, 0, none⟩)), v22, v23, v24, v25, v26, (.agg #[(.float .f32 r35), (.float .f32 r36), (.float .f32 r37)]), v56, v57, v58, v59, v60, (.agg #[(.float .f32 r69), (.float .f32 r70), (.float .f32 r71)]), (.agg #[(.float .f32 r69), (.float .f32 r70), (.float .f32 r71)]), (.agg #[(.float .f32 r35), (.float .f32 r36), (.float .f32 r37)]), undef, undef]) rfl rfl (does_loadAgg (cs := [(.float .f32 r35), (.float .f32 r36), (.float .f32 r37)]) (ev rfl) Try.isAgg31 Try.sizeOf31 (Blk.cells (((hB48.ext E53).ext E64).wr W82 (Nat.ne_of_lt n80))) rfl) rfl ?_
  refine seqd rfl rfl (does_call (args := #[(.agg #[(.float .f32 r69), (.float .f32 r70), (.float .f32 r71)]), (.agg #[(.float .f32 r35), (.float .f32 r36), (.float .f32 r37)])]) cal29 (evs rfl) (c_laws_eqVector r69 r70 r71 r35 r36 r37 _)) ?_; rintro _ w89 ⟨E88, rfl⟩
  have X90 := Ext.gr X85 E88
  show wpList _ _ _ _ (fr [(.agg #[(.float .f32 v_x), (.float .f32 v_y), (.float .f32 v_z)]), (.agg #[(.float .f32 n_x), (.float .f32 n_y), (.float .f32 n_z)]), (.float .f32 k), (.pointer (some ⟨b2, 0, none⟩)), (.pointer (some ⟨b9, 0, none⟩)), undef, (.bool false), (.pointer (some ⟨b41, 0, none⟩)), (.pointer (some ⟨b75, 0, none⟩)), v22, v23, v24, v25, v26, (.agg #[(.float .f32 r35), (.float .f32 r36), (.float .f32 r37)]), v56, v57, v58, v59, v60, (.agg #[(.float .f32 r69), (.float .f32 r70), (.float .f32 r71)]), (.agg #[(.float .f32 r69), (.float .f32 r70), (.float .f32 r71)]), (.agg #[(.float .f32 r35), (.float .f32 r36), (.float .f32 r37)]), (.bool (sameF (fwid (cf .f32 r69)) (fwid (cf .f32 r35)) && sameF (fwid (cf .f32 r70)) (fwid (cf .f32 r36)) && sameF (fwid (cf .f32 r71)) (fwid (cf .f32 r37)))), undef]) _
  refine q_is (l' := [(.agg #[(.float .f32 v_x), (.float .f32 v_y), (.float .f32 v_z)]), (.agg #[(.float .f32 n_x), (.float .f32 n_y), (.float .f32 n_z)]), (.float .f32 k), (.pointer (some ⟨b2, 0, none⟩)), (.pointer (some ⟨b9, 0, none⟩)), undef, (.bool false), (.pointer (some ⟨b41, 0, none⟩)), (.pointer (some ⟨b75, 0, none⟩)), v22, v23, v24, v25, v26, (.agg #[(.float .f32 r35), (.float .f32 r36), (.float .f32 r37)]), v56, v57, v58, v59, v60, (.agg #[(.float .f32 r69), (.float .f32 r70), (.float .f32 r71)]), (.agg #[(.float .f32 r69), (.float .f32 r70), (.float .f32 r71)]), (.agg #[(.float .f32 r35), (.float .f32 r36), (.float .f32 r37)]), (.bool (sameF (fwid (cf .f32 r69)) (fwid (cf .f32 r35)) && sameF (fwid (cf .f32 r70)) (fwid (cf .f32 r36)) && sameF (fwid (cf .f32 r71)) (fwid (cf .f32 r37)))), (.bool (!(sameF (fwid (cf .f32 r69)) (fwid (cf .f32 r35)) && sameF (fwid (cf .f32 r70)) (fwid (cf .f32 r36)) && sameF (fwid (cf .f32 r71)) (fwid (cf .f32 r37)))))]) rfl rfl (does_not (ev rfl)) rfl ?_
  refine wpList_nil (hK87 _ _ ?_)
  refine wp_cond_split (t := !(sameF (fwid (cf .f32 r69)) (fwid (cf .f32 r35)) && sameF (fwid (cf .f32 r70)) (fwid (cf .f32 r36)) && sameF (fwid (cf .f32 r71)) (fwid (cf .f32 r37)))) (ev rfl) (fun c91 => ?_) (fun c91 => ?_)
  · rw [Bool.not_eq_true'] at c91
    have c91' := c91
    refine wp_seq_k fun K92 hK92 => ?_
    refine wp_region_lit ?_
    refine q_is (l' := [(.agg #[(.float .f32 v_x), (.float .f32 v_y), (.float .f32 v_z)]), (.agg #[(.float .f32 n_x), (.float .f32 n_y), (.float .f32 n_z)]), (.float .f32 k), (.pointer (some ⟨b2, 0, none⟩)), (.pointer (some ⟨b9, 0, none⟩)), undef, (.bool false), (.pointer (some ⟨b41, 0, none⟩)), (.pointer (some ⟨b75, 0, none⟩)), v22, v23, v24, v25, v26, (.agg #[(.float .f32 r35), (.float .f32 r36), (.float .f32 r37)]), v56, v57, v58, v59, v60, (.agg #[(.float .f32 r69), (.float .f32 r70), (.float .f32 r71)]), (.agg #[(.float .f32 r69), (.float .f32 r70), (.float .f32 r71)]), (.agg #[(.float .f32 r35), (.float .f32 r36), (.float .f32 r37)]), (.bool (sameF (fwid (cf .f32 r69)) (fwid (cf .f32 r35)) && sameF (fwid (cf .f32 r70)) (fwid (cf .f32 r36)) && sameF (fwid (cf .f32 r71)) (fwid (cf .f32 r37)))), (.bool (!(sameF (fwid (cf .f32 r69)) (fwid (cf .f32 r35)) && sameF (fwid (cf .f32 r70)) (fwid (cf .f32 r36)) && sameF (fwid (cf .f32 r71)) (fwid (cf .f32 r37)))))]) rfl rfl (does_assign (u := (.bool false)) (ev rfl)) rfl ?_
    refine wpList_nil (hK92 _ _ ?_)
    refine wp_ret ?_
    dsimp only [Exit.then, Exit.inBlock]
    refine ret_val (v := (.bool false)) (res_T rfl (slot rfl)) X90 ?_
    try simp only [h38, h39, h40, h72, h73, h74] at c91
    have x93 : true = false := by first | rfl | (simp only [sameF_self, h38, h39, h40, h72, h73, h74, c91]; done) | (simp [sameF_self, h38, h39, h40, h72, h73, h74, c91]; done) | (revert c91; simp +contextual [sameF_self, h38, h39, h40, h72, h73, h74]; done)
    exact (by first | rfl | rw [x93])
  rw [Bool.not_eq_false'] at c91
  have c91' := c91
  refine wp_skip (hK86 _ _ ?_)
  refine wp_seq_k fun K94 hK94 => ?_
  refine wp_region_lit ?_
  refine q_is (l' := [(.agg #[(.float .f32 v_x), (.float .f32 v_y), (.float .f32 v_z)]), (.agg #[(.float .f32 n_x), (.float .f32 n_y), (.float .f32 n_z)]), (.float .f32 k), (.pointer (some ⟨b2, 0, none⟩)), (.pointer (some ⟨b9, 0, none⟩)), undef, (.bool true), (.pointer (some ⟨b41, 0, none⟩)), (.pointer (some ⟨b75, 0, none⟩)), v22, v23, v24, v25, v26, (.agg #[(.float .f32 r35), (.float .f32 r36), (.float .f32 r37)]), v56, v57, v58, v59, v60, (.agg #[(.float .f32 r69), (.float .f32 r70), (.float .f32 r71)]), (.agg #[(.float .f32 r69), (.float .f32 r70), (.float .f32 r71)]), (.agg #[(.float .f32 r35), (.float .f32 r36), (.float .f32 r37)]), (.bool (sameF (fwid (cf .f32 r69)) (fwid (cf .f32 r35)) && sameF (fwid (cf .f32 r70)) (fwid (cf .f32 r36)) && sameF (fwid (cf .f32 r71)) (fwid (cf .f32 r37)))), (.bool (!(sameF (fwid (cf .f32 r69)) (fwid (cf .f32 r35)) && sameF (fwid (cf .f32 r70)) (fwid (cf .f32 r36)) && sameF (fwid (cf .f32 r71)) (fwid (cf .f32 r37)))))]) rfl rfl (does_assign (u := (.bool true)) (ev rfl)) rfl ?_
  refine wpList_nil (hK94 _ _ ?_)
  refine wp_ret ?_
  refine ret_val (v := (.bool true)) (res_T rfl (slot rfl)) X90 ?_
  try simp only [h38, h39, h40, h72, h73, h74] at c91
  exact rfl

/- spec.SlideAlong -/
theorem c_spec_SlideAlong (v_x : Nat) (v_y : Nat) (v_z : Nat) (n_x : Nat) (n_y : Nat) (n_z : Nat) (w : World) : Gives Try.prog 30 #[(.agg #[(.float .f32 v_x), (.float .f32 v_y), (.float .f32 v_z)]), (.agg #[(.float .f32 n_x), (.float .f32 n_y), (.float .f32 n_z)])] w (fun v w' => ∃ r_1 : Nat, ∃ r_2 : Nat, ∃ r_3 : Nat, v = (.agg #[(.float .f32 r_1), (.float .f32 r_2), (.float .f32 r_3)]) ∧ cf .f32 r_1 = (awayF (cf .f32 v_x) (cf .f32 v_y) (cf .f32 v_z) (cf .f32 n_x) (cf .f32 n_y) (cf .f32 n_z) (cf .f32 1065353216)).1 ∧ cf .f32 r_2 = (awayF (cf .f32 v_x) (cf .f32 v_y) (cf .f32 v_z) (cf .f32 n_x) (cf .f32 n_y) (cf .f32 n_z) (cf .f32 1065353216)).2.1 ∧ cf .f32 r_3 = (awayF (cf .f32 v_x) (cf .f32 v_y) (cf .f32 v_z) (cf .f32 n_x) (cf .f32 n_y) (cf .f32 n_z) (cf .f32 1065353216)).2.2) := by
  refine enter [(.agg #[(.float .f32 v_x), (.float .f32 v_y), (.float .f32 v_z)]), (.agg #[(.float .f32 n_x), (.float .f32 n_y), (.float .f32 n_z)]), undef, undef, undef, undef, undef, undef] Try.func30 rfl Try.ntmps30 rfl ?_
  refine wp_seq_k fun K1 hK1 => ?_
  refine wp_region_lit ?_
  refine seqd rfl rfl (does_box (u := (.agg #[(.float .f32 v_x), (.float .f32 v_y), (.float .f32 v_z)])) (ev rfl)) ?_; rintro _ w6 ⟨b2, rfl, hb3, hB4, E5⟩
  have g7 : w.heap.size ≤ b2 := Nat.le_trans (Below.size (Ext.refl w)) hb3
  change Blk _ _ [(.float .f32 v_x), (.float .f32 v_y), (.float .f32 v_z)] at hB4
  have X8 := Ext.gr (Ext.refl w) E5
  show wpList _ _ _ _ (fr [(.agg #[(.float .f32 v_x), (.float .f32 v_y), (.float .f32 v_z)]), (.agg #[(.float .f32 n_x), (.float .f32 n_y), (.float .f32 n_z)]), (.pointer (some ⟨b2, 0, none⟩)), undef, undef, undef, undef, undef]) _
  refine seqd rfl rfl (does_box (u := (.agg #[(.float .f32 n_x), (.float .f32 n_y), (.float .f32 n_z)])) (ev rfl)) ?_; rintro _ w13 ⟨b9, rfl, hb10, hB11, E12⟩
  have n14 : b2 < b9 := Nat.lt_of_lt_of_le (Blk.lt hB4) hb10
  have g15 : w.heap.size ≤ b9 := Nat.le_trans (Below.size X8) hb10
  change Blk _ _ [(.float .f32 n_x), (.float .f32 n_y), (.float .f32 n_z)] at hB11
  have X16 := Ext.gr X8 E12
  show wpList _ _ _ _ (fr [(.agg #[(.float .f32 v_x), (.float .f32 v_y), (.float .f32 v_z)]), (.agg #[(.float .f32 n_x), (.float .f32 n_y), (.float .f32 n_z)]), (.pointer (some ⟨b2, 0, none⟩)), (.pointer (some ⟨b9, 0, none⟩)), undef, undef, undef, undef]) _
  refine seqd rfl rfl (does_alloc z31) ?_; rintro _ w21 ⟨b17, rfl, hb18, hB19, E20⟩
  have n22 : b2 < b17 := Nat.lt_of_lt_of_le (Blk.lt (hB4.ext E12)) hb18
  have n23 : b9 < b17 := Nat.lt_of_lt_of_le (Blk.lt hB11) hb18
  have g24 : w.heap.size ≤ b17 := Nat.le_trans (Below.size X16) hb18
  change Blk _ _ [(.float .f32 0), (.float .f32 0), (.float .f32 0)] at hB19
  have X25 := Ext.gr X16 E20
  show wpList _ _ _ _ (fr [(.agg #[(.float .f32 v_x), (.float .f32 v_y), (.float .f32 v_z)]), (.agg #[(.float .f32 n_x), (.float .f32 n_y), (.float .f32 n_z)]), (.pointer (some ⟨b2, 0, none⟩)), (.pointer (some ⟨b9, 0, none⟩)), (.pointer (some ⟨b17, 0, none⟩)), undef, undef, undef]) _
  refine wpList_nil (hK1 _ _ ?_)
  refine wp_seq_k fun K26 hK26 => ?_
  refine wp_region_lit ?_
  refine q_is (l' := [(.agg #[(.float .f32 v_x), (.float .f32 v_y), (.float .f32 v_z)]), (.agg #[(.float .f32 n_x), (.float .f32 n_y), (.float .f32 n_z)]), (.pointer (some ⟨b2, 0, none⟩)), (.pointer (some ⟨b9, 0, none⟩)), (.pointer (some ⟨b17, 0, none⟩)), (.agg #[(.float .f32 v_x), (.float .f32 v_y), (.float .f32 v_z)]), undef, undef]) rfl rfl (does_loadAgg (cs := [(.float .f32 v_x), (.float .f32 v_y), (.float .f32 v_z)]) (ev rfl) Try.isAgg31 Try.sizeOf31 (Blk.cells ((hB4.ext E12).ext E20)) rfl) rfl ?_
  refine q_is (l' := [(.agg #[(.float .f32 v_x), (.float .f32 v_y), (.float .f32 v_z)]), (.agg #[(.float .f32 n_x), (.float .f32 n_y), (.float .f32 n_z)]), (.pointer (some ⟨b2, 0, none⟩)), (.pointer (some ⟨b9, 0, none⟩)), (.pointer (some ⟨b17, 0, none⟩)), (.agg #[(.float .f32 v_x), (.float .f32 v_y), (.float .f32 v_z)]), (.agg #[(.float .f32 n_x), (.float .f32 n_y), (.float .f32 n_z)]), undef]) rfl rfl (does_loadAgg (cs := [(.float .f32 n_x), (.float .f32 n_y), (.float .f32 n_z)]) (ev rfl) Try.isAgg31 Try.sizeOf31 (Blk.cells (hB11.ext E20)) rfl) rfl ?_
  refine seqd rfl rfl (does_call (args := #[(.agg #[(.float .f32 v_x), (.float .f32 v_y), (.float .f32 v_z)]), (.agg #[(.float .f32 n_x), (.float .f32 n_y), (.float .f32 n_z)]), (.float .f32 1065353216)]) cal57 (evs rfl) (c_spec_l08Away v_x v_y v_z n_x n_y n_z 1065353216 _)) ?_; rintro _ w28 ⟨E27, ⟨r29, r30, r31, rfl, h32, h33, h34⟩⟩
  have X35 := Ext.gr X25 E27
  show wpList _ _ _ _ (fr [(.agg #[(.float .f32 v_x), (.float .f32 v_y), (.float .f32 v_z)]), (.agg #[(.float .f32 n_x), (.float .f32 n_y), (.float .f32 n_z)]), (.pointer (some ⟨b2, 0, none⟩)), (.pointer (some ⟨b9, 0, none⟩)), (.pointer (some ⟨b17, 0, none⟩)), (.agg #[(.float .f32 v_x), (.float .f32 v_y), (.float .f32 v_z)]), (.agg #[(.float .f32 n_x), (.float .f32 n_y), (.float .f32 n_z)]), (.agg #[(.float .f32 r29), (.float .f32 r30), (.float .f32 r31)])]) _
  refine seqn rfl rfl (does_store (n := 3) (cs := [(.float .f32 0), (.float .f32 0), (.float .f32 0)]) (u := (.agg #[(.float .f32 r29), (.float .f32 r30), (.float .f32 r31)])) (ev rfl) (ev rfl) Try.sizeOf31 rfl (hB19.ext E27) (Nat.le_of_ble_eq_true rfl) rfl) ?_; rintro _ w38 ⟨rfl, W36, hB37⟩
  change Blk _ _ [(.float .f32 r29), (.float .f32 r30), (.float .f32 r31)] at hB37
  have X39 := Below.wr X35 W36 g24
  refine wpList_nil (hK26 _ _ ?_)
  refine wp_ret ?_
  refine ret_val (v := (.agg #[(.float .f32 r29), (.float .f32 r30), (.float .f32 r31)])) (res_C rfl (slot rfl) (run_loadAgg (cs := [(.float .f32 r29), (.float .f32 r30), (.float .f32 r31)]) Try.isAgg31 Try.sizeOf31 (Blk.cells hB37) rfl)) X39 ?_
  have x40 : cf .f32 r29 = (awayF (cf .f32 v_x) (cf .f32 v_y) (cf .f32 v_z) (cf .f32 n_x) (cf .f32 n_y) (cf .f32 n_z) (cf .f32 1065353216)).1 := by first | rfl | (simp only [awayF, one_and_none, h32, h33, h34]; done) | (simp [awayF, one_and_none, h32, h33, h34]; done)
  have x41 : cf .f32 r30 = (awayF (cf .f32 v_x) (cf .f32 v_y) (cf .f32 v_z) (cf .f32 n_x) (cf .f32 n_y) (cf .f32 n_z) (cf .f32 1065353216)).2.1 := by first | rfl | (simp only [awayF, one_and_none, h32, h33, h34]; done) | (simp [awayF, one_and_none, h32, h33, h34]; done)
  have x42 : cf .f32 r31 = (awayF (cf .f32 v_x) (cf .f32 v_y) (cf .f32 v_z) (cf .f32 n_x) (cf .f32 n_y) (cf .f32 n_z) (cf .f32 1065353216)).2.2 := by first | rfl | (simp only [awayF, one_and_none, h32, h33, h34]; done) | (simp [awayF, one_and_none, h32, h33, h34]; done)
  exact ⟨r29, r30, r31, rfl, x40, x41, x42⟩

/- impl.SlideAlong -/
theorem c_impl_SlideAlong (v_x : Nat) (v_y : Nat) (v_z : Nat) (n_x : Nat) (n_y : Nat) (n_z : Nat) (w : World) : Gives Try.prog 31 #[(.agg #[(.float .f32 v_x), (.float .f32 v_y), (.float .f32 v_z)]), (.agg #[(.float .f32 n_x), (.float .f32 n_y), (.float .f32 n_z)])] w (fun v w' => ∃ r_1 : Nat, ∃ r_2 : Nat, ∃ r_3 : Nat, v = (.agg #[(.float .f32 r_1), (.float .f32 r_2), (.float .f32 r_3)]) ∧ cf .f32 r_1 = (awayF (cf .f32 v_x) (cf .f32 v_y) (cf .f32 v_z) (cf .f32 n_x) (cf .f32 n_y) (cf .f32 n_z) (cf .f32 1065353216)).1 ∧ cf .f32 r_2 = (awayF (cf .f32 v_x) (cf .f32 v_y) (cf .f32 v_z) (cf .f32 n_x) (cf .f32 n_y) (cf .f32 n_z) (cf .f32 1065353216)).2.1 ∧ cf .f32 r_3 = (awayF (cf .f32 v_x) (cf .f32 v_y) (cf .f32 v_z) (cf .f32 n_x) (cf .f32 n_y) (cf .f32 n_z) (cf .f32 1065353216)).2.2) := by
  refine enter [(.agg #[(.float .f32 v_x), (.float .f32 v_y), (.float .f32 v_z)]), (.agg #[(.float .f32 n_x), (.float .f32 n_y), (.float .f32 n_z)]), undef, undef, undef, undef, undef, undef] Try.func31 rfl Try.ntmps31 rfl ?_
  refine wp_seq_k fun K1 hK1 => ?_
  refine wp_region_lit ?_
  refine seqd rfl rfl (does_box (u := (.agg #[(.float .f32 v_x), (.float .f32 v_y), (.float .f32 v_z)])) (ev rfl)) ?_; rintro _ w6 ⟨b2, rfl, hb3, hB4, E5⟩
  have g7 : w.heap.size ≤ b2 := Nat.le_trans (Below.size (Ext.refl w)) hb3
  change Blk _ _ [(.float .f32 v_x), (.float .f32 v_y), (.float .f32 v_z)] at hB4
  have X8 := Ext.gr (Ext.refl w) E5
  show wpList _ _ _ _ (fr [(.agg #[(.float .f32 v_x), (.float .f32 v_y), (.float .f32 v_z)]), (.agg #[(.float .f32 n_x), (.float .f32 n_y), (.float .f32 n_z)]), (.pointer (some ⟨b2, 0, none⟩)), undef, undef, undef, undef, undef]) _
  refine seqd rfl rfl (does_box (u := (.agg #[(.float .f32 n_x), (.float .f32 n_y), (.float .f32 n_z)])) (ev rfl)) ?_; rintro _ w13 ⟨b9, rfl, hb10, hB11, E12⟩
  have n14 : b2 < b9 := Nat.lt_of_lt_of_le (Blk.lt hB4) hb10
  have g15 : w.heap.size ≤ b9 := Nat.le_trans (Below.size X8) hb10
  change Blk _ _ [(.float .f32 n_x), (.float .f32 n_y), (.float .f32 n_z)] at hB11
  have X16 := Ext.gr X8 E12
  show wpList _ _ _ _ (fr [(.agg #[(.float .f32 v_x), (.float .f32 v_y), (.float .f32 v_z)]), (.agg #[(.float .f32 n_x), (.float .f32 n_y), (.float .f32 n_z)]), (.pointer (some ⟨b2, 0, none⟩)), (.pointer (some ⟨b9, 0, none⟩)), undef, undef, undef, undef]) _
  refine seqd rfl rfl (does_alloc z31) ?_; rintro _ w21 ⟨b17, rfl, hb18, hB19, E20⟩
  have n22 : b2 < b17 := Nat.lt_of_lt_of_le (Blk.lt (hB4.ext E12)) hb18
  have n23 : b9 < b17 := Nat.lt_of_lt_of_le (Blk.lt hB11) hb18
  have g24 : w.heap.size ≤ b17 := Nat.le_trans (Below.size X16) hb18
  change Blk _ _ [(.float .f32 0), (.float .f32 0), (.float .f32 0)] at hB19
  have X25 := Ext.gr X16 E20
  show wpList _ _ _ _ (fr [(.agg #[(.float .f32 v_x), (.float .f32 v_y), (.float .f32 v_z)]), (.agg #[(.float .f32 n_x), (.float .f32 n_y), (.float .f32 n_z)]), (.pointer (some ⟨b2, 0, none⟩)), (.pointer (some ⟨b9, 0, none⟩)), (.pointer (some ⟨b17, 0, none⟩)), undef, undef, undef]) _
  refine wpList_nil (hK1 _ _ ?_)
  refine wp_seq_k fun K26 hK26 => ?_
  refine wp_region_lit ?_
  refine q_is (l' := [(.agg #[(.float .f32 v_x), (.float .f32 v_y), (.float .f32 v_z)]), (.agg #[(.float .f32 n_x), (.float .f32 n_y), (.float .f32 n_z)]), (.pointer (some ⟨b2, 0, none⟩)), (.pointer (some ⟨b9, 0, none⟩)), (.pointer (some ⟨b17, 0, none⟩)), (.agg #[(.float .f32 v_x), (.float .f32 v_y), (.float .f32 v_z)]), undef, undef]) rfl rfl (does_loadAgg (cs := [(.float .f32 v_x), (.float .f32 v_y), (.float .f32 v_z)]) (ev rfl) Try.isAgg31 Try.sizeOf31 (Blk.cells ((hB4.ext E12).ext E20)) rfl) rfl ?_
  refine q_is (l' := [(.agg #[(.float .f32 v_x), (.float .f32 v_y), (.float .f32 v_z)]), (.agg #[(.float .f32 n_x), (.float .f32 n_y), (.float .f32 n_z)]), (.pointer (some ⟨b2, 0, none⟩)), (.pointer (some ⟨b9, 0, none⟩)), (.pointer (some ⟨b17, 0, none⟩)), (.agg #[(.float .f32 v_x), (.float .f32 v_y), (.float .f32 v_z)]), (.agg #[(.float .f32 n_x), (.float .f32 n_y), (.float .f32 n_z)]), undef]) rfl rfl (does_loadAgg (cs := [(.float .f32 n_x), (.float .f32 n_y), (.float .f32 n_z)]) (ev rfl) Try.isAgg31 Try.sizeOf31 (Blk.cells (hB11.ext E20)) rfl) rfl ?_
  refine seqd rfl rfl (does_call (args := #[(.agg #[(.float .f32 v_x), (.float .f32 v_y), (.float .f32 v_z)]), (.agg #[(.float .f32 n_x), (.float .f32 n_y), (.float .f32 n_z)]), (.float .f32 0)]) cal28 (evs rfl) (c_impl_BounceOff v_x v_y v_z n_x n_y n_z 0 _)) ?_; rintro _ w28 ⟨E27, ⟨r29, r30, r31, rfl, h32, h33, h34⟩⟩
  have X35 := Ext.gr X25 E27
  show wpList _ _ _ _ (fr [(.agg #[(.float .f32 v_x), (.float .f32 v_y), (.float .f32 v_z)]), (.agg #[(.float .f32 n_x), (.float .f32 n_y), (.float .f32 n_z)]), (.pointer (some ⟨b2, 0, none⟩)), (.pointer (some ⟨b9, 0, none⟩)), (.pointer (some ⟨b17, 0, none⟩)), (.agg #[(.float .f32 v_x), (.float .f32 v_y), (.float .f32 v_z)]), (.agg #[(.float .f32 n_x), (.float .f32 n_y), (.float .f32 n_z)]), (.agg #[(.float .f32 r29), (.float .f32 r30), (.float .f32 r31)])]) _
  refine seqn rfl rfl (does_store (n := 3) (cs := [(.float .f32 0), (.float .f32 0), (.float .f32 0)]) (u := (.agg #[(.float .f32 r29), (.float .f32 r30), (.float .f32 r31)])) (ev rfl) (ev rfl) Try.sizeOf31 rfl (hB19.ext E27) (Nat.le_of_ble_eq_true rfl) rfl) ?_; rintro _ w38 ⟨rfl, W36, hB37⟩
  change Blk _ _ [(.float .f32 r29), (.float .f32 r30), (.float .f32 r31)] at hB37
  have X39 := Below.wr X35 W36 g24
  refine wpList_nil (hK26 _ _ ?_)
  refine wp_ret ?_
  refine ret_val (v := (.agg #[(.float .f32 r29), (.float .f32 r30), (.float .f32 r31)])) (res_C rfl (slot rfl) (run_loadAgg (cs := [(.float .f32 r29), (.float .f32 r30), (.float .f32 r31)]) Try.isAgg31 Try.sizeOf31 (Blk.cells hB37) rfl)) X39 ?_
  have x40 : cf .f32 r29 = (awayF (cf .f32 v_x) (cf .f32 v_y) (cf .f32 v_z) (cf .f32 n_x) (cf .f32 n_y) (cf .f32 n_z) (cf .f32 1065353216)).1 := by first | rfl | (simp only [awayF, one_and_none, h32, h33, h34]; done) | (simp [awayF, one_and_none, h32, h33, h34]; done)
  have x41 : cf .f32 r30 = (awayF (cf .f32 v_x) (cf .f32 v_y) (cf .f32 v_z) (cf .f32 n_x) (cf .f32 n_y) (cf .f32 n_z) (cf .f32 1065353216)).2.1 := by first | rfl | (simp only [awayF, one_and_none, h32, h33, h34]; done) | (simp [awayF, one_and_none, h32, h33, h34]; done)
  have x42 : cf .f32 r31 = (awayF (cf .f32 v_x) (cf .f32 v_y) (cf .f32 v_z) (cf .f32 n_x) (cf .f32 n_y) (cf .f32 n_z) (cf .f32 1065353216)).2.2 := by first | rfl | (simp only [awayF, one_and_none, h32, h33, h34]; done) | (simp [awayF, one_and_none, h32, h33, h34]; done)
  exact ⟨r29, r30, r31, rfl, x40, x41, x42⟩

/- laws.FnExactSlideAlong -/
theorem c_laws_FnExactSlideAlong (v_x : Nat) (v_y : Nat) (v_z : Nat) (n_x : Nat) (n_y : Nat) (n_z : Nat) (w : World) : Gives Try.prog 8 #[(.agg #[(.float .f32 v_x), (.float .f32 v_y), (.float .f32 v_z)]), (.agg #[(.float .f32 n_x), (.float .f32 n_y), (.float .f32 n_z)])] w (fun v w' => v = (.bool true)) := by
  refine enter [(.agg #[(.float .f32 v_x), (.float .f32 v_y), (.float .f32 v_z)]), (.agg #[(.float .f32 n_x), (.float .f32 n_y), (.float .f32 n_z)]), undef, undef, undef, undef, undef, undef, undef, undef, undef, undef, undef, undef, undef, undef, undef, undef, undef, undef, undef] Try.func8 rfl Try.ntmps8 rfl ?_
  refine wp_seq_k fun K1 hK1 => ?_
  refine wp_region_lit ?_
  refine seqd rfl rfl (does_box (u := (.agg #[(.float .f32 v_x), (.float .f32 v_y), (.float .f32 v_z)])) (ev rfl)) ?_; rintro _ w6 ⟨b2, rfl, hb3, hB4, E5⟩
  have g7 : w.heap.size ≤ b2 := Nat.le_trans (Below.size (Ext.refl w)) hb3
  change Blk _ _ [(.float .f32 v_x), (.float .f32 v_y), (.float .f32 v_z)] at hB4
  have X8 := Ext.gr (Ext.refl w) E5
  show wpList _ _ _ _ (fr [(.agg #[(.float .f32 v_x), (.float .f32 v_y), (.float .f32 v_z)]), (.agg #[(.float .f32 n_x), (.float .f32 n_y), (.float .f32 n_z)]), (.pointer (some ⟨b2, 0, none⟩)), undef, undef, undef, undef, undef, undef, undef, undef, undef, undef, undef, undef, undef, undef, undef, undef, undef, undef]) _
  refine seqd rfl rfl (does_box (u := (.agg #[(.float .f32 n_x), (.float .f32 n_y), (.float .f32 n_z)])) (ev rfl)) ?_; rintro _ w13 ⟨b9, rfl, hb10, hB11, E12⟩
  have n14 : b2 < b9 := Nat.lt_of_lt_of_le (Blk.lt hB4) hb10
  have g15 : w.heap.size ≤ b9 := Nat.le_trans (Below.size X8) hb10
  change Blk _ _ [(.float .f32 n_x), (.float .f32 n_y), (.float .f32 n_z)] at hB11
  have X16 := Ext.gr X8 E12
  show wpList _ _ _ _ (fr [(.agg #[(.float .f32 v_x), (.float .f32 v_y), (.float .f32 v_z)]), (.agg #[(.float .f32 n_x), (.float .f32 n_y), (.float .f32 n_z)]), (.pointer (some ⟨b2, 0, none⟩)), (.pointer (some ⟨b9, 0, none⟩)), undef, undef, undef, undef, undef, undef, undef, undef, undef, undef, undef, undef, undef, undef, undef, undef, undef]) _
  refine q_is (l' := [(.agg #[(.float .f32 v_x), (.float .f32 v_y), (.float .f32 v_z)]), (.agg #[(.float .f32 n_x), (.float .f32 n_y), (.float .f32 n_z)]), (.pointer (some ⟨b2, 0, none⟩)), (.pointer (some ⟨b9, 0, none⟩)), (.bool false), undef, undef, undef, undef, undef, undef, undef, undef, undef, undef, undef, undef, undef, undef, undef, undef]) rfl rfl (does_assign (u := (.bool false)) (ev rfl)) rfl ?_
  refine wpList_nil (hK1 _ _ ?_)
  refine wp_seq_k fun K17 hK17 => ?_
  refine region_draw (
    [Fact.pure [] (fun v => v = (.agg #[(.float .f32 v_x), (.float .f32 v_y), (.float .f32 v_z)])),
    Fact.pure [7] (fun v => ∃ r_1 : Nat, ∃ r_2 : Nat, ∃ r_3 : Nat, v = (.agg #[(.float .f32 r_1), (.float .f32 r_2), (.float .f32 r_3)]) ∧ cf .f32 r_1 = (cf .f32 v_x) ∧ cf .f32 r_2 = (cf .f32 v_y) ∧ cf .f32 r_3 = (cf .f32 v_z)),
    Fact.pure [] (fun v => v = (.agg #[(.float .f32 n_x), (.float .f32 n_y), (.float .f32 n_z)])),
    Fact.pure [9] (fun v => ∃ r_1 : Nat, ∃ r_2 : Nat, ∃ r_3 : Nat, v = (.agg #[(.float .f32 r_1), (.float .f32 r_2), (.float .f32 r_3)]) ∧ cf .f32 r_1 = (cf .f32 n_x) ∧ cf .f32 r_2 = (cf .f32 n_y) ∧ cf .f32 r_3 = (cf .f32 n_z)),
    Fact.pure [8, 10] (fun v => ∃ r_1 : Nat, ∃ r_2 : Nat, ∃ r_3 : Nat, v = (.agg #[(.float .f32 r_1), (.float .f32 r_2), (.float .f32 r_3)]) ∧ cf .f32 r_1 = (awayF (cf .f32 v_x) (cf .f32 v_y) (cf .f32 v_z) (cf .f32 n_x) (cf .f32 n_y) (cf .f32 n_z) (cf .f32 1065353216)).1 ∧ cf .f32 r_2 = (awayF (cf .f32 v_x) (cf .f32 v_y) (cf .f32 v_z) (cf .f32 n_x) (cf .f32 n_y) (cf .f32 n_z) (cf .f32 1065353216)).2.1 ∧ cf .f32 r_3 = (awayF (cf .f32 v_x) (cf .f32 v_y) (cf .f32 v_z) (cf .f32 n_x) (cf .f32 n_y) (cf .f32 n_z) (cf .f32 1065353216)).2.2),
    Fact.mem [] (fun v w' => ∃ b : Nat, v = .pointer (some ⟨b, 0, none⟩) ∧ w13.heap.size ≤ b ∧ Blk w' b [(.float .f32 0), (.float .f32 0), (.float .f32 0)]) (by rintro v w1 w2 hx ⟨b, rfl, hb, hB⟩; exact ⟨b, rfl, hb, (hB.ext hx)⟩)]) mixed (by kernel_rfl) (by intro _ _ d _ _ h; cases d <;> exact h) ?_
  obtain ⟨w18, hw20⟩ : ∃ w', w' = World.drew w13 := ⟨_, rfl⟩; rw [← hw20]; have E19 : Ext w13 w18 := by rw [hw20]; exact Ext.draw _
  clear hw20
  have X21 := Ext.gr X16 E19
  refine RW_d (fun v22 => [(.agg #[(.float .f32 v_x), (.float .f32 v_y), (.float .f32 v_z)]), (.agg #[(.float .f32 n_x), (.float .f32 n_y), (.float .f32 n_z)]), (.pointer (some ⟨b2, 0, none⟩)), (.pointer (some ⟨b9, 0, none⟩)), (.bool false), undef, undef, v22, undef, undef, undef, undef, undef, undef, undef, undef, undef, undef, undef, undef, undef]) rfl (fun _ => rfl) (fun u hu hF => ?_) (fun v22 => ?_)
  · clear hF
    refine doesG_un rfl ?_
    refine (does_loadAgg (cs := [(.float .f32 v_x), (.float .f32 v_y), (.float .f32 v_z)]) (ev rfl) Try.isAgg27 Try.sizeOf27 (Blk.cells (((hB4.ext E12).ext E19).ext hu)) rfl).mono ?_; rintro _ _ ⟨rfl, rfl⟩
    exact ⟨rfl, Ext.refl _⟩
  refine RW_d (fun v23 => [(.agg #[(.float .f32 v_x), (.float .f32 v_y), (.float .f32 v_z)]), (.agg #[(.float .f32 n_x), (.float .f32 n_y), (.float .f32 n_z)]), (.pointer (some ⟨b2, 0, none⟩)), (.pointer (some ⟨b9, 0, none⟩)), (.bool false), undef, undef, v22, v23, undef, undef, undef, undef, undef, undef, undef, undef, undef, undef, undef, undef]) rfl (fun _ => rfl) (fun u hu hF => ?_) (fun v23 => ?_)
  · have h7_ : v22 = (.agg #[(.float .f32 v_x), (.float .f32 v_y), (.float .f32 v_z)]) := hF.1
    clear hF
    obtain rfl := h7_
    refine doesG_un rfl ?_
    refine (does_call (args := #[(.agg #[(.float .f32 v_x), (.float .f32 v_y), (.float .f32 v_z)])]) cal21 (evs rfl) (c_laws_toVector v_x v_y v_z _)).mono ?_; rintro v u' ⟨hx, ⟨rn1, rn2, rn3, hv, k0, k1, k2⟩⟩
    exact ⟨⟨rn1, rn2, rn3, hv, (by simp only [k0]), (by simp only [k1]), (by simp only [k2])⟩, hx⟩
  refine RW_d (fun v24 => [(.agg #[(.float .f32 v_x), (.float .f32 v_y), (.float .f32 v_z)]), (.agg #[(.float .f32 n_x), (.float .f32 n_y), (.float .f32 n_z)]), (.pointer (some ⟨b2, 0, none⟩)), (.pointer (some ⟨b9, 0, none⟩)), (.bool false), undef, undef, v22, v23, v24, undef, undef, undef, undef, undef, undef, undef, undef, undef, undef, undef]) rfl (fun _ => rfl) (fun u hu hF => ?_) (fun v24 => ?_)
  · clear hF
    refine doesG_un rfl ?_
    refine (does_loadAgg (cs := [(.float .f32 n_x), (.float .f32 n_y), (.float .f32 n_z)]) (ev rfl) Try.isAgg27 Try.sizeOf27 (Blk.cells ((hB11.ext E19).ext hu)) rfl).mono ?_; rintro _ _ ⟨rfl, rfl⟩
    exact ⟨rfl, Ext.refl _⟩
  refine RW_d (fun v25 => [(.agg #[(.float .f32 v_x), (.float .f32 v_y), (.float .f32 v_z)]), (.agg #[(.float .f32 n_x), (.float .f32 n_y), (.float .f32 n_z)]), (.pointer (some ⟨b2, 0, none⟩)), (.pointer (some ⟨b9, 0, none⟩)), (.bool false), undef, undef, v22, v23, v24, v25, undef, undef, undef, undef, undef, undef, undef, undef, undef, undef]) rfl (fun _ => rfl) (fun u hu hF => ?_) (fun v25 => ?_)
  · have h9_ : v24 = (.agg #[(.float .f32 n_x), (.float .f32 n_y), (.float .f32 n_z)]) := hF.1
    clear hF
    obtain rfl := h9_
    refine doesG_un rfl ?_
    refine (does_call (args := #[(.agg #[(.float .f32 n_x), (.float .f32 n_y), (.float .f32 n_z)])]) cal21 (evs rfl) (c_laws_toVector n_x n_y n_z _)).mono ?_; rintro v u' ⟨hx, ⟨rn1, rn2, rn3, hv, k0, k1, k2⟩⟩
    exact ⟨⟨rn1, rn2, rn3, hv, (by simp only [k0]), (by simp only [k1]), (by simp only [k2])⟩, hx⟩
  refine RW_d (fun v26 => [(.agg #[(.float .f32 v_x), (.float .f32 v_y), (.float .f32 v_z)]), (.agg #[(.float .f32 n_x), (.float .f32 n_y), (.float .f32 n_z)]), (.pointer (some ⟨b2, 0, none⟩)), (.pointer (some ⟨b9, 0, none⟩)), (.bool false), undef, undef, v22, v23, v24, v25, v26, undef, undef, undef, undef, undef, undef, undef, undef, undef]) rfl (fun _ => rfl) (fun u hu hF => ?_) (fun v26 => ?_)
  · have h8_ : ∃ r_1 : Nat, ∃ r_2 : Nat, ∃ r_3 : Nat, v23 = (.agg #[(.float .f32 r_1), (.float .f32 r_2), (.float .f32 r_3)]) ∧ cf .f32 r_1 = (cf .f32 v_x) ∧ cf .f32 r_2 = (cf .f32 v_y) ∧ cf .f32 r_3 = (cf .f32 v_z) := hF.1
    have h10_ : ∃ r_1 : Nat, ∃ r_2 : Nat, ∃ r_3 : Nat, v25 = (.agg #[(.float .f32 r_1), (.float .f32 r_2), (.float .f32 r_3)]) ∧ cf .f32 r_1 = (cf .f32 n_x) ∧ cf .f32 r_2 = (cf .f32 n_y) ∧ cf .f32 r_3 = (cf .f32 n_z) := hF.2.1
    clear hF
    obtain ⟨r8_1, r8_2, r8_3, rfl, e8_0, e8_1, e8_2⟩ := h8_
    obtain ⟨r10_1, r10_2, r10_3, rfl, e10_0, e10_1, e10_2⟩ := h10_
    refine doesG_un rfl ?_
    refine (does_call (args := #[(.agg #[(.float .f32 r8_1), (.float .f32 r8_2), (.float .f32 r8_3)]), (.agg #[(.float .f32 r10_1), (.float .f32 r10_2), (.float .f32 r10_3)])]) cal30 (evs rfl) (c_spec_SlideAlong r8_1 r8_2 r8_3 r10_1 r10_2 r10_3 _)).mono ?_; rintro v u' ⟨hx, ⟨rn1, rn2, rn3, hv, k0, k1, k2⟩⟩
    exact ⟨⟨rn1, rn2, rn3, hv.trans (by simp only [e8_0, e8_1, e8_2, e10_0, e10_1, e10_2]), (by simp only [k0, e8_0, e8_1, e8_2, e10_0, e10_1, e10_2]), (by simp only [k1, e8_0, e8_1, e8_2, e10_0, e10_1, e10_2]), (by simp only [k2, e8_0, e8_1, e8_2, e10_0, e10_1, e10_2])⟩, hx⟩
  refine RW_d (fun v27 => [(.agg #[(.float .f32 v_x), (.float .f32 v_y), (.float .f32 v_z)]), (.agg #[(.float .f32 n_x), (.float .f32 n_y), (.float .f32 n_z)]), (.pointer (some ⟨b2, 0, none⟩)), (.pointer (some ⟨b9, 0, none⟩)), (.bool false), v27, undef, v22, v23, v24, v25, v26, undef, undef, undef, undef, undef, undef, undef, undef, undef]) rfl (fun _ => rfl) (fun u hu hF => ?_) (fun v27 => ?_)
  · clear hF
    refine doesG_un rfl ?_
    refine (does_alloc z31).mono ?_; rintro _ _ ⟨b, rfl, hb, hB, hx⟩
    exact ⟨⟨b, rfl, Nat.le_trans (Nat.le_trans (Below.size E19) (Below.size hu)) hb, hB⟩, hx⟩
  refine RW_fin ?_; intro w28 E29 hP30
  obtain ⟨⟨⟨⟨⟨⟨-, -⟩, -⟩, -⟩, -⟩, q31⟩, q32⟩ := hP30
  have X33 := Ext.gr X21 E29
  have q31 : ∃ r_1 : Nat, ∃ r_2 : Nat, ∃ r_3 : Nat, v26 = (.agg #[(.float .f32 r_1), (.float .f32 r_2), (.float .f32 r_3)]) ∧ cf .f32 r_1 = (awayF (cf .f32 v_x) (cf .f32 v_y) (cf .f32 v_z) (cf .f32 n_x) (cf .f32 n_y) (cf .f32 n_z) (cf .f32 1065353216)).1 ∧ cf .f32 r_2 = (awayF (cf .f32 v_x) (cf .f32 v_y) (cf .f32 v_z) (cf .f32 n_x) (cf .f32 n_y) (cf .f32 n_z) (cf .f32 1065353216)).2.1 ∧ cf .f32 r_3 = (awayF (cf .f32 v_x) (cf .f32 v_y) (cf .f32 v_z) (cf .f32 n_x) (cf .f32 n_y) (cf .f32 n_z) (cf .f32 1065353216)).2.2 := q31
  obtain ⟨r34, r35, r36, rfl, h37, h38, h39⟩ := q31
  have q32 : ∃ b : Nat, v27 = .pointer (some ⟨b, 0, none⟩) ∧ w13.heap.size ≤ b ∧ Blk w28 b [(.float .f32 0), (.float .f32 0), (.float .f32 0)] := q32
  obtain ⟨b40, rfl, hb41, hB42⟩ := q32
  have n43 : b2 < b40 := Nat.lt_of_lt_of_le (Blk.lt (hB4.ext E12)) hb41
  have n44 : b9 < b40 := Nat.lt_of_lt_of_le (Blk.lt hB11) hb41
  have g45 : w.heap.size ≤ b40 := Nat.le_trans (Below.size X16) hb41
  show wpList _ _ _ _ (fr [(.agg #[(.float .f32 v_x), (.float .f32 v_y), (.float .f32 v_z)]), (.agg #[(.float .f32 n_x), (.float .f32 n_y), (.float .f32 n_z)]), (.pointer (some ⟨b2, 0, none⟩)), (.pointer (some ⟨b9, 0, none⟩)), (.bool false), (.pointer (some ⟨b40, 0, none⟩)), undef, v22, v23, v24, v25, (.agg #[(.float .f32 r34), (.float .f32 r35), (.float .f32 r36)]), undef, undef, undef, undef, undef, undef, undef, undef, undef]) _
  refine seqn rfl rfl (does_store (n := 3) (cs := [(.float .f32 0), (.float .f32 0), (.float .f32 0)]) (u := (.agg #[(.float .f32 r34), (.float .f32 r35), (.float .f32 r36)])) (ev rfl) (ev rfl) Try.sizeOf31 rfl hB42 (Nat.le_of_ble_eq_true rfl) rfl) ?_; rintro _ w48 ⟨rfl, W46, hB47⟩
  change Blk _ _ [(.float .f32 r34), (.float .f32 r35), (.float .f32 r36)] at hB47
  have X49 := Below.wr X33 W46 g45
  refine wpList_nil (hK17 _ _ ?_)
  refine wp_seq_k fun K50 hK50 => ?_
  refine region_draw (
    [Fact.pure [] (fun v => v = (.agg #[(.float .f32 v_x), (.float .f32 v_y), (.float .f32 v_z)])),
    Fact.pure [12] (fun v => ∃ r_1 : Nat, ∃ r_2 : Nat, ∃ r_3 : Nat, v = (.agg #[(.float .f32 r_1), (.float .f32 r_2), (.float .f32 r_3)]) ∧ cf .f32 r_1 = (cf .f32 v_x) ∧ cf .f32 r_2 = (cf .f32 v_y) ∧ cf .f32 r_3 = (cf .f32 v_z)),
    Fact.pure [] (fun v => v = (.agg #[(.float .f32 n_x), (.float .f32 n_y), (.float .f32 n_z)])),
    Fact.pure [14] (fun v => ∃ r_1 : Nat, ∃ r_2 : Nat, ∃ r_3 : Nat, v = (.agg #[(.float .f32 r_1), (.float .f32 r_2), (.float .f32 r_3)]) ∧ cf .f32 r_1 = (cf .f32 n_x) ∧ cf .f32 r_2 = (cf .f32 n_y) ∧ cf .f32 r_3 = (cf .f32 n_z)),
    Fact.pure [13, 15] (fun v => ∃ r_1 : Nat, ∃ r_2 : Nat, ∃ r_3 : Nat, v = (.agg #[(.float .f32 r_1), (.float .f32 r_2), (.float .f32 r_3)]) ∧ cf .f32 r_1 = (awayF (cf .f32 v_x) (cf .f32 v_y) (cf .f32 v_z) (cf .f32 n_x) (cf .f32 n_y) (cf .f32 n_z) (cf .f32 1065353216)).1 ∧ cf .f32 r_2 = (awayF (cf .f32 v_x) (cf .f32 v_y) (cf .f32 v_z) (cf .f32 n_x) (cf .f32 n_y) (cf .f32 n_z) (cf .f32 1065353216)).2.1 ∧ cf .f32 r_3 = (awayF (cf .f32 v_x) (cf .f32 v_y) (cf .f32 v_z) (cf .f32 n_x) (cf .f32 n_y) (cf .f32 n_z) (cf .f32 1065353216)).2.2),
    Fact.mem [] (fun v w' => ∃ b : Nat, v = .pointer (some ⟨b, 0, none⟩) ∧ w48.heap.size ≤ b ∧ Blk w' b [(.float .f32 0), (.float .f32 0), (.float .f32 0)]) (by rintro v w1 w2 hx ⟨b, rfl, hb, hB⟩; exact ⟨b, rfl, hb, (hB.ext hx)⟩)]) mixed (by kernel_rfl) (by intro _ _ d _ _ h; cases d <;> exact h) ?_
  obtain ⟨w51, hw53⟩ : ∃ w', w' = World.drew w48 := ⟨_, rfl⟩; rw [← hw53]; have E52 : Ext w48 w51 := by rw [hw53]; exact Ext.draw _
  clear hw53
  have X54 := Ext.gr X49 E52
  refine RW_d (fun v55 => [(.agg #[(.float .f32 v_x), (.float .f32 v_y), (.float .f32 v_z)]), (.agg #[(.float .f32 n_x), (.float .f32 n_y), (.float .f32 n_z)]), (.pointer (some ⟨b2, 0, none⟩)), (.pointer (some ⟨b9, 0, none⟩)), (.bool false), (.pointer (some ⟨b40, 0, none⟩)), undef, v22, v23, v24, v25, (.agg #[(.float .f32 r34), (.float .f32 r35), (.float .f32 r36)]), v55, undef, undef, undef, undef, undef, undef, undef, undef]) rfl (fun _ => rfl) (fun u hu hF => ?_) (fun v55 => ?_)
  · clear hF
    refine doesG_un rfl ?_
    refine (does_loadAgg (cs := [(.float .f32 v_x), (.float .f32 v_y), (.float .f32 v_z)]) (ev rfl) Try.isAgg27 Try.sizeOf27 (Blk.cells ((((((hB4.ext E12).ext E19).ext E29).wr W46 (Nat.ne_of_lt n43)).ext E52).ext hu)) rfl).mono ?_; rintro _ _ ⟨rfl, rfl⟩
    exact ⟨rfl, Ext.refl _⟩
  refine RW_d (fun v56 => [(.agg #[(.float .f32 v_x), (.float .f32 v_y), (.float .f32 v_z)]), (.agg #[(.float .f32 n_x), (.float .f32 n_y), (.float .f32 n_z)]), (.pointer (some ⟨b2, 0, none⟩)), (.pointer (some ⟨b9, 0, none⟩)), (.bool false), (.pointer (some ⟨b40, 0, none⟩)), undef, v22, v23, v24, v25, (.agg #[(.float .f32 r34), (.float .f32 r35), (.float .f32 r36)]), v55, v56, undef, undef, undef, undef, undef, undef, undef]) rfl (fun _ => rfl) (fun u hu hF => ?_) (fun v56 => ?_)
  · have h12_ : v55 = (.agg #[(.float .f32 v_x), (.float .f32 v_y), (.float .f32 v_z)]) := hF.1
    clear hF
    obtain rfl := h12_
    refine doesG_un rfl ?_
    refine (does_call (args := #[(.agg #[(.float .f32 v_x), (.float .f32 v_y), (.float .f32 v_z)])]) cal21 (evs rfl) (c_laws_toVector v_x v_y v_z _)).mono ?_; rintro v u' ⟨hx, ⟨rn1, rn2, rn3, hv, k0, k1, k2⟩⟩
    exact ⟨⟨rn1, rn2, rn3, hv, (by simp only [k0]), (by simp only [k1]), (by simp only [k2])⟩, hx⟩
  refine RW_d (fun v57 => [(.agg #[(.float .f32 v_x), (.float .f32 v_y), (.float .f32 v_z)]), (.agg #[(.float .f32 n_x), (.float .f32 n_y), (.float .f32 n_z)]), (.pointer (some ⟨b2, 0, none⟩)), (.pointer (some ⟨b9, 0, none⟩)), (.bool false), (.pointer (some ⟨b40, 0, none⟩)), undef, v22, v23, v24, v25, (.agg #[(.float .f32 r34), (.float .f32 r35), (.float .f32 r36)]), v55, v56, v57, undef, undef, undef, undef, undef, undef]) rfl (fun _ => rfl) (fun u hu hF => ?_) (fun v57 => ?_)
  · clear hF
    refine doesG_un rfl ?_
    refine (does_loadAgg (cs := [(.float .f32 n_x), (.float .f32 n_y), (.float .f32 n_z)]) (ev rfl) Try.isAgg27 Try.sizeOf27 (Blk.cells (((((hB11.ext E19).ext E29).wr W46 (Nat.ne_of_lt n44)).ext E52).ext hu)) rfl).mono ?_; rintro _ _ ⟨rfl, rfl⟩
    exact ⟨rfl, Ext.refl _⟩
  refine RW_d (fun v58 => [(.agg #[(.float .f32 v_x), (.float .f32 v_y), (.float .f32 v_z)]), (.agg #[(.float .f32 n_x), (.float .f32 n_y), (.float .f32 n_z)]), (.pointer (some ⟨b2, 0, none⟩)), (.pointer (some ⟨b9, 0, none⟩)), (.bool false), (.pointer (some ⟨b40, 0, none⟩)), undef, v22, v23, v24, v25, (.agg #[(.float .f32 r34), (.float .f32 r35), (.float .f32 r36)]), v55, v56, v57, v58, undef, undef, undef, undef, undef]) rfl (fun _ => rfl) (fun u hu hF => ?_) (fun v58 => ?_)
  · have h14_ : v57 = (.agg #[(.float .f32 n_x), (.float .f32 n_y), (.float .f32 n_z)]) := hF.1
    clear hF
    obtain rfl := h14_
    refine doesG_un rfl ?_
    refine (does_call (args := #[(.agg #[(.float .f32 n_x), (.float .f32 n_y), (.float .f32 n_z)])]) cal21 (evs rfl) (c_laws_toVector n_x n_y n_z _)).mono ?_; rintro v u' ⟨hx, ⟨rn1, rn2, rn3, hv, k0, k1, k2⟩⟩
    exact ⟨⟨rn1, rn2, rn3, hv, (by simp only [k0]), (by simp only [k1]), (by simp only [k2])⟩, hx⟩
  refine RW_d (fun v59 => [(.agg #[(.float .f32 v_x), (.float .f32 v_y), (.float .f32 v_z)]), (.agg #[(.float .f32 n_x), (.float .f32 n_y), (.float .f32 n_z)]), (.pointer (some ⟨b2, 0, none⟩)), (.pointer (some ⟨b9, 0, none⟩)), (.bool false), (.pointer (some ⟨b40, 0, none⟩)), undef, v22, v23, v24, v25, (.agg #[(.float .f32 r34), (.float .f32 r35), (.float .f32 r36)]), v55, v56, v57, v58, v59, undef, undef, undef, undef]) rfl (fun _ => rfl) (fun u hu hF => ?_) (fun v59 => ?_)
  · have h13_ : ∃ r_1 : Nat, ∃ r_2 : Nat, ∃ r_3 : Nat, v56 = (.agg #[(.float .f32 r_1), (.float .f32 r_2), (.float .f32 r_3)]) ∧ cf .f32 r_1 = (cf .f32 v_x) ∧ cf .f32 r_2 = (cf .f32 v_y) ∧ cf .f32 r_3 = (cf .f32 v_z) := hF.1
    have h15_ : ∃ r_1 : Nat, ∃ r_2 : Nat, ∃ r_3 : Nat, v58 = (.agg #[(.float .f32 r_1), (.float .f32 r_2), (.float .f32 r_3)]) ∧ cf .f32 r_1 = (cf .f32 n_x) ∧ cf .f32 r_2 = (cf .f32 n_y) ∧ cf .f32 r_3 = (cf .f32 n_z) := hF.2.1
    clear hF
    obtain ⟨r13_1, r13_2, r13_3, rfl, e13_0, e13_1, e13_2⟩ := h13_
    obtain ⟨r15_1, r15_2, r15_3, rfl, e15_0, e15_1, e15_2⟩ := h15_
    refine doesG_un rfl ?_
    refine (does_call (args := #[(.agg #[(.float .f32 r13_1), (.float .f32 r13_2), (.float .f32 r13_3)]), (.agg #[(.float .f32 r15_1), (.float .f32 r15_2), (.float .f32 r15_3)])]) cal31 (evs rfl) (c_impl_SlideAlong r13_1 r13_2 r13_3 r15_1 r15_2 r15_3 _)).mono ?_; rintro v u' ⟨hx, ⟨rn1, rn2, rn3, hv, k0, k1, k2⟩⟩
    exact ⟨⟨rn1, rn2, rn3, hv.trans (by simp only [e13_0, e13_1, e13_2, e15_0, e15_1, e15_2]), (by simp only [k0, e13_0, e13_1, e13_2, e15_0, e15_1, e15_2]), (by simp only [k1, e13_0, e13_1, e13_2, e15_0, e15_1, e15_2]), (by simp only [k2, e13_0, e13_1, e13_2, e15_0, e15_1, e15_2])⟩, hx⟩
  refine RW_d (fun v60 => [(.agg #[(.float .f32 v_x), (.float .f32 v_y), (.float .f32 v_z)]), (.agg #[(.float .f32 n_x), (.float .f32 n_y), (.float .f32 n_z)]), (.pointer (some ⟨b2, 0, none⟩)), (.pointer (some ⟨b9, 0, none⟩)), (.bool false), (.pointer (some ⟨b40, 0, none⟩)), v60, v22, v23, v24, v25, (.agg #[(.float .f32 r34), (.float .f32 r35), (.float .f32 r36)]), v55, v56, v57, v58, v59, undef, undef, undef, undef]) rfl (fun _ => rfl) (fun u hu hF => ?_) (fun v60 => ?_)
  · clear hF
    refine doesG_un rfl ?_
    refine (does_alloc z31).mono ?_; rintro _ _ ⟨b, rfl, hb, hB, hx⟩
    exact ⟨⟨b, rfl, Nat.le_trans (Nat.le_trans (Below.size E52) (Below.size hu)) hb, hB⟩, hx⟩
  refine RW_fin ?_; intro w61 E62 hP63
  obtain ⟨⟨⟨⟨⟨⟨-, -⟩, -⟩, -⟩, -⟩, q64⟩, q65⟩ := hP63
  have X66 := Ext.gr X54 E62
  have q64 : ∃ r_1 : Nat, ∃ r_2 : Nat, ∃ r_3 : Nat, v59 = (.agg #[(.float .f32 r_1), (.float .f32 r_2), (.float .f32 r_3)]) ∧ cf .f32 r_1 = (awayF (cf .f32 v_x) (cf .f32 v_y) (cf .f32 v_z) (cf .f32 n_x) (cf .f32 n_y) (cf .f32 n_z) (cf .f32 1065353216)).1 ∧ cf .f32 r_2 = (awayF (cf .f32 v_x) (cf .f32 v_y) (cf .f32 v_z) (cf .f32 n_x) (cf .f32 n_y) (cf .f32 n_z) (cf .f32 1065353216)).2.1 ∧ cf .f32 r_3 = (awayF (cf .f32 v_x) (cf .f32 v_y) (cf .f32 v_z) (cf .f32 n_x) (cf .f32 n_y) (cf .f32 n_z) (cf .f32 1065353216)).2.2 := q64
  obtain ⟨r67, r68, r69, rfl, h70, h71, h72⟩ := q64
  have q65 : ∃ b : Nat, v60 = .pointer (some ⟨b, 0, none⟩) ∧ w48.heap.size ≤ b ∧ Blk w61 b [(.float .f32 0), (.float .f32 0), (.float .f32 0)] := q65
  obtain ⟨b73, rfl, hb74, hB75⟩ := q65
  have n76 : b2 < b73 := Nat.lt_of_lt_of_le (Blk.lt ((((hB4.ext E12).ext E19).ext E29).wr W46 (Nat.ne_of_lt n43))) hb74
  have n77 : b9 < b73 := Nat.lt_of_lt_of_le (Blk.lt (((hB11.ext E19).ext E29).wr W46 (Nat.ne_of_lt n44))) hb74
  have n78 : b40 < b73 := Nat.lt_of_lt_of_le (Blk.lt hB47) hb74
  have g79 : w.heap.size ≤ b73 := Nat.le_trans (Below.size X49) hb74
  show wpList _ _ _ _ (fr [(.agg #[(.float .f32 v_x), (.float .f32 v_y), (.float .f32 v_z)]), (.agg #[(.float .f32 n_x), (.float .f32 n_y), (.float .f32 n_z)]), (.pointer (some ⟨b2, 0, none⟩)), (.pointer (some ⟨b9, 0, none⟩)), (.bool false), (.pointer (some ⟨b40, 0, none⟩)), (.pointer (some ⟨b73, 0, none⟩)), v22, v23, v24, v25, (.agg #[(.float .f32 r34), (.float .f32 r35), (.float .f32 r36)]), v55, v56, v57, v58, (.agg #[(.float .f32 r67), (.float .f32 r68), (.float .f32 r69)]), undef, undef, undef, undef]) _
  refine seqn rfl rfl (does_store (n := 3) (cs := [(.float .f32 0), (.float .f32 0), (.float .f32 0)]) (u := (.agg #[(.float .f32 r67), (.float .f32 r68), (.float .f32 r69)])) (ev rfl) (ev rfl) Try.sizeOf31 rfl hB75 (Nat.le_of_ble_eq_true rfl) rfl) ?_; rintro _ w82 ⟨rfl, W80, hB81⟩
  change Blk _ _ [(.float .f32 r67), (.float .f32 r68), (.float .f32 r69)] at hB81
  have X83 := Below.wr X66 W80 g79
  refine wpList_nil (hK50 _ _ ?_)
  refine wp_seq_k fun K84 hK84 => ?_
  refine wp_seq_k fun K85 hK85 => ?_
  refine wp_region_lit ?_
  refine q_is (l' := [(.agg #[(.float .f32 v_x), (.float .f32 v_y), (.float .f32 v_z)]), (.agg #[(.float .f32 n_x), (.float .f32 n_y), (.float .f32 n_z)]), (.pointer (some ⟨b2, 0, none⟩)), (.pointer (some ⟨b9, 0, none⟩)), (.bool false), (.pointer (some ⟨b40, 0, none⟩)), (.pointer (some ⟨b73, 0, none⟩)), v22, v23, v24, v25, (.agg #[(.float .f32 r34), (.float .f32 r35), (.float .f32 r36)]), v55, v56, v57, v58, (.agg #[(.float .f32 r67), (.float .f32 r68), (.float .f32 r69)]), (.agg #[(.float .f32 r67), (.float .f32 r68), (.float .f32 r69)]), undef, undef, undef]) rfl rfl (does_loadAgg (cs := [(.float .f32 r67), (.float .f32 r68), (.float .f32 r69)]) (ev rfl) Try.isAgg31 Try.sizeOf31 (Blk.cells hB81) rfl) rfl ?_
  refine q_is (l' := [(.agg #[(.float .f32 v_x), (.float .f32 v_y), (.float .f32 v_z)]), (.agg #[(.float .f32 n_x), (.float .f32 n_y), (.float .f32 n_z)]), (.pointer (some ⟨b2, 0, none⟩)), (.pointer (some ⟨b9, 0, none⟩)), (.bool false), (.pointer (some ⟨b40, 0, none⟩)), (.pointer (some ⟨b73, 0, none⟩)), v22, v23, v24, v25, (.agg #[(.float .f32 r34), (.float .f32 r35), (.float .f32 r36)]), v55, v56, v57, v58, (.agg #[(.float .f32 r67), (.float .f32 r68), (.float .f32 r69)]), (.agg #[(.float .f32 r67), (.float .f32 r68), (.float .f32 r69)]), (.agg #[(.float .f32 r34), (.float .f32 r35), (.float .f32 r36)]), undef, undef]) rfl rfl (does_loadAgg (cs := [(.float .f32 r34), (.float .f32 r35), (.float .f32 r36)]) (ev rfl) Try.isAgg31 Try.sizeOf31 (Blk.cells (((hB47.ext E52).ext E62).wr W80 (Nat.ne_of_lt n78))) rfl) rfl ?_
  refine seqd rfl rfl (does_call (args := #[(.agg #[(.float .f32 r67), (.float .f32 r68), (.float .f32 r69)]), (.agg #[(.float .f32 r34), (.float .f32 r35), (.float .f32 r36)])]) cal29 (evs rfl) (c_laws_eqVector r67 r68 r69 r34 r35 r36 _)) ?_; rintro _ w87 ⟨E86, rfl⟩
  have X88 := Ext.gr X83 E86
  show wpList _ _ _ _ (fr [(.agg #[(.float .f32 v_x), (.float .f32 v_y), (.float .f32 v_z)]), (.agg #[(.float .f32 n_x), (.float .f32 n_y), (.float .f32 n_z)]), (.pointer (some ⟨b2, 0, none⟩)), (.pointer (some ⟨b9, 0, none⟩)), (.bool false), (.pointer (some ⟨b40, 0, none⟩)), (.pointer (some ⟨b73, 0, none⟩)), v22, v23, v24, v25, (.agg #[(.float .f32 r34), (.float .f32 r35), (.float .f32 r36)]), v55, v56, v57, v58, (.agg #[(.float .f32 r67), (.float .f32 r68), (.float .f32 r69)]), (.agg #[(.float .f32 r67), (.float .f32 r68), (.float .f32 r69)]), (.agg #[(.float .f32 r34), (.float .f32 r35), (.float .f32 r36)]), (.bool (sameF (fwid (cf .f32 r67)) (fwid (cf .f32 r34)) && sameF (fwid (cf .f32 r68)) (fwid (cf .f32 r35)) && sameF (fwid (cf .f32 r69)) (fwid (cf .f32 r36)))), undef]) _
  refine q_is (l' := [(.agg #[(.float .f32 v_x), (.float .f32 v_y), (.float .f32 v_z)]), (.agg #[(.float .f32 n_x), (.float .f32 n_y), (.float .f32 n_z)]), (.pointer (some ⟨b2, 0, none⟩)), (.pointer (some ⟨b9, 0, none⟩)), (.bool false), (.pointer (some ⟨b40, 0, none⟩)), (.pointer (some ⟨b73, 0, none⟩)), v22, v23, v24, v25, (.agg #[(.float .f32 r34), (.float .f32 r35), (.float .f32 r36)]), v55, v56, v57, v58, (.agg #[(.float .f32 r67), (.float .f32 r68), (.float .f32 r69)]), (.agg #[(.float .f32 r67), (.float .f32 r68), (.float .f32 r69)]), (.agg #[(.float .f32 r34), (.float .f32 r35), (.float .f32 r36)]), (.bool (sameF (fwid (cf .f32 r67)) (fwid (cf .f32 r34)) && sameF (fwid (cf .f32 r68)) (fwid (cf .f32 r35)) && sameF (fwid (cf .f32 r69)) (fwid (cf .f32 r36)))), (.bool (!(sameF (fwid (cf .f32 r67)) (fwid (cf .f32 r34)) && sameF (fwid (cf .f32 r68)) (fwid (cf .f32 r35)) && sameF (fwid (cf .f32 r69)) (fwid (cf .f32 r36)))))]) rfl rfl (does_not (ev rfl)) rfl ?_
  refine wpList_nil (hK85 _ _ ?_)
  refine wp_cond_split (t := !(sameF (fwid (cf .f32 r67)) (fwid (cf .f32 r34)) && sameF (fwid (cf .f32 r68)) (fwid (cf .f32 r35)) && sameF (fwid (cf .f32 r69)) (fwid (cf .f32 r36)))) (ev rfl) (fun c89 => ?_) (fun c89 => ?_)
  · rw [Bool.not_eq_true'] at c89
    have c89' := c89
    refine wp_seq_k fun K90 hK90 => ?_
    refine wp_region_lit ?_
    refine q_is (l' := [(.agg #[(.float .f32 v_x), (.float .f32 v_y), (.float .f32 v_z)]), (.agg #[(.float .f32 n_x), (.float .f32 n_y), (.float .f32 n_z)]), (.pointer (some ⟨b2, 0, none⟩)), (.pointer (some ⟨b9, 0, none⟩)), (.bool false), (.pointer (some ⟨b40, 0, none⟩)), (.pointer (some ⟨b73, 0, none⟩)), v22, v23, v24, v25, (.agg #[(.float .f32 r34), (.float .f32 r35), (.float .f32 r36)]), v55, v56, v57, v58, (.agg #[(.float .f32 r67), (.float .f32 r68), (.float .f32 r69)]), (.agg #[(.float .f32 r67), (.float .f32 r68), (.float .f32 r69)]), (.agg #[(.float .f32 r34), (.float .f32 r35), (.float .f32 r36)]), (.bool (sameF (fwid (cf .f32 r67)) (fwid (cf .f32 r34)) && sameF (fwid (cf .f32 r68)) (fwid (cf .f32 r35)) && sameF (fwid (cf .f32 r69)) (fwid (cf .f32 r36)))), (.bool (!(sameF (fwid (cf .f32 r67)) (fwid (cf .f32 r34)) && sameF (fwid (cf .f32 r68)) (fwid (cf .f32 r35)) && sameF (fwid (cf .f32 r69)) (fwid (cf .f32 r36)))))]) rfl rfl (does_assign (u := (.bool false)) (ev rfl)) rfl ?_
    refine wpList_nil (hK90 _ _ ?_)
    refine wp_ret ?_
    dsimp only [Exit.then, Exit.inBlock]
    refine ret_val (v := (.bool false)) (res_T rfl (slot rfl)) X88 ?_
    try simp only [h37, h38, h39, h70, h71, h72] at c89
    have x91 : true = false := by first | rfl | (simp only [sameF_self, h37, h38, h39, h70, h71, h72, c89]; done) | (simp [sameF_self, h37, h38, h39, h70, h71, h72, c89]; done) | (revert c89; simp +contextual [sameF_self, h37, h38, h39, h70, h71, h72]; done)
    exact (by first | rfl | rw [x91])
  rw [Bool.not_eq_false'] at c89
  have c89' := c89
  refine wp_skip (hK84 _ _ ?_)
  refine wp_seq_k fun K92 hK92 => ?_
  refine wp_region_lit ?_
  refine q_is (l' := [(.agg #[(.float .f32 v_x), (.float .f32 v_y), (.float .f32 v_z)]), (.agg #[(.float .f32 n_x), (.float .f32 n_y), (.float .f32 n_z)]), (.pointer (some ⟨b2, 0, none⟩)), (.pointer (some ⟨b9, 0, none⟩)), (.bool true), (.pointer (some ⟨b40, 0, none⟩)), (.pointer (some ⟨b73, 0, none⟩)), v22, v23, v24, v25, (.agg #[(.float .f32 r34), (.float .f32 r35), (.float .f32 r36)]), v55, v56, v57, v58, (.agg #[(.float .f32 r67), (.float .f32 r68), (.float .f32 r69)]), (.agg #[(.float .f32 r67), (.float .f32 r68), (.float .f32 r69)]), (.agg #[(.float .f32 r34), (.float .f32 r35), (.float .f32 r36)]), (.bool (sameF (fwid (cf .f32 r67)) (fwid (cf .f32 r34)) && sameF (fwid (cf .f32 r68)) (fwid (cf .f32 r35)) && sameF (fwid (cf .f32 r69)) (fwid (cf .f32 r36)))), (.bool (!(sameF (fwid (cf .f32 r67)) (fwid (cf .f32 r34)) && sameF (fwid (cf .f32 r68)) (fwid (cf .f32 r35)) && sameF (fwid (cf .f32 r69)) (fwid (cf .f32 r36)))))]) rfl rfl (does_assign (u := (.bool true)) (ev rfl)) rfl ?_
  refine wpList_nil (hK92 _ _ ?_)
  refine wp_ret ?_
  refine ret_val (v := (.bool true)) (res_T rfl (slot rfl)) X88 ?_
  try simp only [h37, h38, h39, h70, h71, h72] at c89
  exact rfl

end Go.Proofs.Ythmejogjmjjmgaa
