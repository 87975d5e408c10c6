/- contracts of functions, each walked once -/
import Derived.Test.YthmejogjmjjmgaaTy
import Derived.Test.YthmejogjmjjmgaaMath
import Derived.Test.YthmejogjmjjmgaaSl
namespace Go.Proofs.Ythmejogjmjjmgaa
open Go Go.RowKit
set_option maxRecDepth 100000
set_option linter.unusedVariables false
set_option linter.unusedSimpArgs false

/- laws.toVector -/
theorem c_laws_toVector (a : List Value) (A_a : V3) (w : World) (hv_a : RV3 w A_a a) : Gives Try.prog 21 #[(.agg a.toArray)] w (fun v w' => ∃ cs_1 : List Value, v = (.agg cs_1.toArray) ∧ RV3 w A_a cs_1) := by
  obtain ⟨r1, r3, r5, rfl, h2, h4, h6⟩ := hv_a
  refine enter [(.agg #[(Fl r1), (Fl r3), (Fl r5)]), Ud, Ud, Ud, Ud, Ud, Ud, Ud, Ud, Ud, Ud, Ud, Ud, Ud] Try.func21 rfl Try.ntmps21 rfl ?_
  refine wp_seq_k fun K7 hK7 => ?_
  refine wp_region_lit ?_
  refine seqd rfl rfl (does_box (u := (.agg #[(Fl r1), (Fl r3), (Fl r5)])) (ev rfl)) ?_; rintro _ w12 ⟨b8, rfl, hb9, hB10, E11⟩
  have g13 : w.heap.size ≤ b8 := Nat.le_trans (Below.size (Ext.refl w)) hb9
  change Blk _ _ [(Fl r1), (Fl r3), (Fl r5)] at hB10
  have X14 := Ext.gr (Ext.refl w) E11
  show wpList _ _ _ _ (fr [(.agg #[(Fl r1), (Fl r3), (Fl r5)]), (Pt b8 0), Ud, Ud, Ud, Ud, Ud, Ud, Ud, Ud, Ud, Ud, Ud, Ud]) _
  refine seqd rfl rfl (does_alloc z31) ?_; rintro _ w19 ⟨b15, rfl, hb16, hB17, E18⟩
  have n20 : b8 < b15 := Nat.lt_of_lt_of_le (Blk.lt hB10) hb16
  have g21 : w.heap.size ≤ b15 := Nat.le_trans (Below.size X14) hb16
  change Blk _ _ [(Fl 0), (Fl 0), (Fl 0)] at hB17
  have X22 := Ext.gr X14 E18
  show wpList _ _ _ _ (fr [(.agg #[(Fl r1), (Fl r3), (Fl r5)]), (Pt b8 0), (Pt b15 0), Ud, Ud, Ud, Ud, Ud, Ud, Ud, Ud, Ud, Ud, Ud]) _
  refine wpList_nil (hK7 _ _ ?_)
  refine wp_seq_k fun K23 hK23 => ?_
  refine wp_region_lit ?_
  refine seqd rfl rfl (does_alloc z31) ?_; rintro _ w28 ⟨b24, rfl, hb25, hB26, E27⟩
  have n29 : b8 < b24 := Nat.lt_of_lt_of_le (Blk.lt (hB10.ext E18)) hb25
  have n30 : b15 < b24 := Nat.lt_of_lt_of_le (Blk.lt hB17) hb25
  have g31 : w.heap.size ≤ b24 := Nat.le_trans (Below.size X22) hb25
  change Blk _ _ [(Fl 0), (Fl 0), (Fl 0)] at hB26
  have X32 := Ext.gr X22 E27
  show wpList _ _ _ _ (fr [(.agg #[(Fl r1), (Fl r3), (Fl r5)]), (Pt b8 0), (Pt b15 0), (Pt b24 0), Ud, Ud, Ud, Ud, Ud, Ud, Ud, Ud, Ud, Ud]) _
  refine wpList_nil (hK23 _ _ ?_)
  refine wp_seq_k fun K33 hK33 => ?_
  refine wp_region_lit ?_
  refine q_is (l' := [(.agg #[(Fl r1), (Fl r3), (Fl r5)]), (Pt b8 0), (Pt b15 0), (Pt b24 0), (Pt b8 0), Ud, Ud, Ud, Ud, Ud, Ud, Ud, Ud, Ud]) rfl rfl (does_fieldAddr (ev rfl) fa27_0) rfl ?_
  refine q_is (l' := [(.agg #[(Fl r1), (Fl r3), (Fl r5)]), (Pt b8 0), (Pt b15 0), (Pt b24 0), (Pt b8 0), (Fl r1), Ud, Ud, Ud, Ud, Ud, Ud, Ud, Ud]) rfl rfl (does_load (u := (Fl r1)) (ev rfl) Try.isAgg25 (Cells.at (Blk.cells ((hB10.ext E18).ext E27)) 0 rfl)) rfl ?_
  refine q_is (l' := [(.agg #[(Fl r1), (Fl r3), (Fl r5)]), (Pt b8 0), (Pt b15 0), (Pt b24 0), (Pt b8 0), (Fl r1), (Pt b24 0), Ud, Ud, Ud, Ud, Ud, Ud, Ud]) rfl rfl (does_fieldAddr (ev rfl) fa31_0) rfl ?_
  refine seqn rfl rfl (does_store (n := 1) (cs := [(Fl 0), (Fl 0), (Fl 0)]) (u := (Fl r1)) (ev rfl) (ev rfl) Try.sizeOf25 rfl hB26 (Nat.le_of_ble_eq_true rfl) rfl) ?_; rintro _ w36 ⟨rfl, W34, hB35⟩
  change Blk _ _ [(Fl r1), (Fl 0), (Fl 0)] at hB35
  have X37 := Below.wr X32 W34 g31
  refine wpList_nil (hK33 _ _ ?_)
  refine wp_seq_k fun K38 hK38 => ?_
  refine wp_region_lit ?_
  refine q_is (l' := [(.agg #[(Fl r1), (Fl r3), (Fl r5)]), (Pt b8 0), (Pt b15 0), (Pt b24 0), (Pt b8 0), (Fl r1), (Pt b24 0), (Pt b8 1), Ud, Ud, Ud, Ud, Ud, Ud]) rfl rfl (does_fieldAddr (ev rfl) fa27_1) rfl ?_
  refine q_is (l' := [(.agg #[(Fl r1), (Fl r3), (Fl r5)]), (Pt b8 0), (Pt b15 0), (Pt b24 0), (Pt b8 0), (Fl r1), (Pt b24 0), (Pt b8 1), (Fl r3), Ud, Ud, Ud, Ud, Ud]) rfl rfl (does_load (u := (Fl r3)) (ev rfl) Try.isAgg25 (Cells.at (Blk.cells (((hB10.ext E18).ext E27).wr W34 (Nat.ne_of_lt n29))) 1 rfl)) rfl ?_
  refine q_is (l' := [(.agg #[(Fl r1), (Fl r3), (Fl r5)]), (Pt b8 0), (Pt b15 0), (Pt b24 0), (Pt b8 0), (Fl r1), (Pt b24 0), (Pt b8 1), (Fl r3), (Pt b24 1), Ud, Ud, Ud, Ud]) rfl rfl (does_fieldAddr (ev rfl) fa31_1) rfl ?_
  refine seqn rfl rfl (does_store (n := 1) (cs := [(Fl r1), (Fl 0), (Fl 0)]) (u := (Fl r3)) (ev rfl) (ev rfl) Try.sizeOf25 rfl hB35 (Nat.le_of_ble_eq_true rfl) rfl) ?_; rintro _ w41 ⟨rfl, W39, hB40⟩
  change Blk _ _ [(Fl r1), (Fl r3), (Fl 0)] at hB40
  have X42 := Below.wr X37 W39 g31
  refine wpList_nil (hK38 _ _ ?_)
  refine wp_seq_k fun K43 hK43 => ?_
  refine wp_region_lit ?_
  refine q_is (l' := [(.agg #[(Fl r1), (Fl r3), (Fl r5)]), (Pt b8 0), (Pt b15 0), (Pt b24 0), (Pt b8 0), (Fl r1), (Pt b24 0), (Pt b8 1), (Fl r3), (Pt b24 1), (Pt b8 2), Ud, Ud, Ud]) rfl rfl (does_fieldAddr (ev rfl) fa27_2) rfl ?_
  refine q_is (l' := [(.agg #[(Fl r1), (Fl r3), (Fl r5)]), (Pt b8 0), (Pt b15 0), (Pt b24 0), (Pt b8 0), (Fl r1), (Pt b24 0), (Pt b8 1), (Fl r3), (Pt b24 1), (Pt b8 2), (Fl r5), Ud, Ud]) rfl rfl (does_load (u := (Fl r5)) (ev rfl) Try.isAgg25 (Cells.at (Blk.cells ((((hB10.ext E18).ext E27).wr W34 (Nat.ne_of_lt n29)).wr W39 (Nat.ne_of_lt n29))) 2 rfl)) rfl ?_
  refine q_is (l' := [(.agg #[(Fl r1), (Fl r3), (Fl r5)]), (Pt b8 0), (Pt b15 0), (Pt b24 0), (Pt b8 0), (Fl r1), (Pt b24 0), (Pt b8 1), (Fl r3), (Pt b24 1), (Pt b8 2), (Fl r5), (Pt b24 2), Ud]) rfl rfl (does_fieldAddr (ev rfl) fa31_2) rfl ?_
  refine seqn rfl rfl (does_store (n := 1) (cs := [(Fl r1), (Fl r3), (Fl 0)]) (u := (Fl r5)) (ev rfl) (ev rfl) Try.sizeOf25 rfl hB40 (Nat.le_of_ble_eq_true rfl) rfl) ?_; rintro _ w46 ⟨rfl, W44, hB45⟩
  change Blk _ _ [(Fl r1), (Fl r3), (Fl r5)] at hB45
  have X47 := Below.wr X42 W44 g31
  refine wpList_nil (hK43 _ _ ?_)
  refine wp_seq_k fun K48 hK48 => ?_
  refine wp_region_lit ?_
  refine q_is (l' := [(.agg #[(Fl r1), (Fl r3), (Fl r5)]), (Pt b8 0), (Pt b15 0), (Pt b24 0), (Pt b8 0), (Fl r1), (Pt b24 0), (Pt b8 1), (Fl r3), (Pt b24 1), (Pt b8 2), (Fl r5), (Pt b24 2), (.agg #[(Fl r1), (Fl r3), (Fl r5)])]) rfl rfl (does_loadAgg (cs := [(Fl r1), (Fl r3), (Fl r5)]) (ev rfl) Try.isAgg31 Try.sizeOf31 (Blk.cells hB45) rfl) rfl ?_
  refine seqn rfl rfl (does_store (n := 3) (cs := [(Fl 0), (Fl 0), (Fl 0)]) (u := (.agg #[(Fl r1), (Fl r3), (Fl r5)])) (ev rfl) (ev rfl) Try.sizeOf31 rfl ((((hB17.ext E27).wr W34 (Nat.ne_of_lt n30)).wr W39 (Nat.ne_of_lt n30)).wr W44 (Nat.ne_of_lt n30)) (Nat.le_of_ble_eq_true rfl) rfl) ?_; rintro _ w51 ⟨rfl, W49, hB50⟩
  change Blk _ _ [(Fl r1), (Fl r3), (Fl r5)] at hB50
  have X52 := Below.wr X47 W49 g21
  refine wpList_nil (hK48 _ _ ?_)
  refine wp_ret ?_
  refine ret_val (v := (.agg #[(Fl r1), (Fl r3), (Fl r5)])) (res_C rfl (slot rfl) (run_loadAgg (cs := [(Fl r1), (Fl r3), (Fl r5)]) Try.isAgg31 Try.sizeOf31 (Blk.cells hB50) rfl)) X52 ?_
  exact ⟨[(Fl r1), (Fl r3), (Fl r5)], rfl, ⟨r1, r3, r5, rfl, h2, h4, h6⟩⟩

/- laws.toBox -/
theorem c_laws_toBox (b : List Value) (A_b : Bx) (w : World) (hv_b : RBx w A_b b) : Gives Try.prog 18 #[(.agg b.toArray)] w (fun v w' => ∃ cs_1 : List Value, v = (.agg cs_1.toArray) ∧ RBx w A_b cs_1) := by
  obtain ⟨r1, r3, r5, r7, r9, r11, rfl, h2, h4, h6, h8, h10, h12⟩ := hv_b
  refine enter [(.agg #[(Fl r1), (Fl r3), (Fl r5), (Fl r7), (Fl r9), (Fl r11)]), Ud, Ud, Ud, Ud, Ud, Ud, Ud, Ud, Ud, Ud, Ud, Ud] Try.func18 rfl Try.ntmps18 rfl ?_
  refine wp_seq_k fun K13 hK13 => ?_
  refine wp_region_lit ?_
  refine seqd rfl rfl (does_box (u := (.agg #[(Fl r1), (Fl r3), (Fl r5), (Fl r7), (Fl r9), (Fl r11)])) (ev rfl)) ?_; rintro _ w18 ⟨b14, rfl, hb15, hB16, E17⟩
  have g19 : w.heap.size ≤ b14 := Nat.le_trans (Below.size (Ext.refl w)) hb15
  change Blk _ _ [(Fl r1), (Fl r3), (Fl r5), (Fl r7), (Fl r9), (Fl r11)] at hB16
  have X20 := Ext.gr (Ext.refl w) E17
  show wpList _ _ _ _ (fr [(.agg #[(Fl r1), (Fl r3), (Fl r5), (Fl r7), (Fl r9), (Fl r11)]), (Pt b14 0), Ud, Ud, Ud, Ud, Ud, Ud, Ud, Ud, Ud, Ud, Ud]) _
  refine seqd rfl rfl (does_alloc z33) ?_; rintro _ w25 ⟨b21, rfl, hb22, hB23, E24⟩
  have n26 : b14 < b21 := Nat.lt_of_lt_of_le (Blk.lt hB16) hb22
  have g27 : w.heap.size ≤ b21 := Nat.le_trans (Below.size X20) hb22
  change Blk _ _ [(Fl 0), (Fl 0), (Fl 0), (Fl 0), (Fl 0), (Fl 0)] at hB23
  have X28 := Ext.gr X20 E24
  show wpList _ _ _ _ (fr [(.agg #[(Fl r1), (Fl r3), (Fl r5), (Fl r7), (Fl r9), (Fl r11)]), (Pt b14 0), (Pt b21 0), Ud, Ud, Ud, Ud, Ud, Ud, Ud, Ud, Ud, Ud]) _
  refine wpList_nil (hK13 _ _ ?_)
  refine wp_seq_k fun K29 hK29 => ?_
  refine wp_region_lit ?_
  refine seqd rfl rfl (does_alloc z33) ?_; rintro _ w34 ⟨b30, rfl, hb31, hB32, E33⟩
  have n35 : b14 < b30 := Nat.lt_of_lt_of_le (Blk.lt (hB16.ext E24)) hb31
  have n36 : b21 < b30 := Nat.lt_of_lt_of_le (Blk.lt hB23) hb31
  have g37 : w.heap.size ≤ b30 := Nat.le_trans (Below.size X28) hb31
  change Blk _ _ [(Fl 0), (Fl 0), (Fl 0), (Fl 0), (Fl 0), (Fl 0)] at hB32
  have X38 := Ext.gr X28 E33
  show wpList _ _ _ _ (fr [(.agg #[(Fl r1), (Fl r3), (Fl r5), (Fl r7), (Fl r9), (Fl r11)]), (Pt b14 0), (Pt b21 0), (Pt b30 0), Ud, Ud, Ud, Ud, Ud, Ud, Ud, Ud, Ud]) _
  refine wpList_nil (hK29 _ _ ?_)
  refine wp_seq_k fun K39 hK39 => ?_
  refine wp_region_lit ?_
  refine q_is (l' := [(.agg #[(Fl r1), (Fl r3), (Fl r5), (Fl r7), (Fl r9), (Fl r11)]), (Pt b14 0), (Pt b21 0), (Pt b30 0), (Pt b14 0), Ud, Ud, Ud, Ud, Ud, Ud, Ud, Ud]) rfl rfl (does_fieldAddr (ev rfl) fa29_0) rfl ?_
  refine q_is (l' := [(.agg #[(Fl r1), (Fl r3), (Fl r5), (Fl r7), (Fl r9), (Fl r11)]), (Pt b14 0), (Pt b21 0), (Pt b30 0), (Pt b14 0), (.agg #[(Fl r1), (Fl r3), (Fl r5)]), Ud, Ud, Ud, Ud, Ud, Ud, Ud]) rfl rfl (does_loadAgg (cs := [(Fl r1), (Fl r3), (Fl r5)]) (ev rfl) Try.isAgg27 Try.sizeOf27 (Cells.sub (Blk.cells ((hB16.ext E24).ext E33)) 0 3) rfl) rfl ?_
  refine seqd rfl rfl (does_call (args := #[(.agg #[(Fl r1), (Fl r3), (Fl r5)])]) cal21 (evs rfl) (c_laws_toVector [(Fl r1), (Fl r3), (Fl r5)] A_b.lo _ ⟨r1, r3, r5, rfl, h2, h4, h6⟩)) ?_; rintro _ w41 ⟨E40, ⟨_, rfl, ⟨r42, r44, r46, rfl, h43, h45, h47⟩⟩⟩
  have X48 := Ext.gr X38 E40
  show wpList _ _ _ _ (fr [(.agg #[(Fl r1), (Fl r3), (Fl r5), (Fl r7), (Fl r9), (Fl r11)]), (Pt b14 0), (Pt b21 0), (Pt b30 0), (Pt b14 0), (.agg #[(Fl r1), (Fl r3), (Fl r5)]), (.agg #[(Fl r42), (Fl r44), (Fl r46)]), Ud, Ud, Ud, Ud, Ud, Ud]) _
  refine q_is (l' := [(.agg #[(Fl r1), (Fl r3), (Fl r5), (Fl r7), (Fl r9), (Fl r11)]), (Pt b14 0), (Pt b21 0), (Pt b30 0), (Pt b14 0), (.agg #[(Fl r1), (Fl r3), (Fl r5)]), (.agg #[(Fl r42), (Fl r44), (Fl r46)]), (Pt b30 0), Ud, Ud, Ud, Ud, Ud]) rfl rfl (does_fieldAddr (ev rfl) fa33_0) rfl ?_
  refine seqn rfl rfl (does_store (n := 3) (cs := [(Fl 0), (Fl 0), (Fl 0), (Fl 0), (Fl 0), (Fl 0)]) (u := (.agg #[(Fl r42), (Fl r44), (Fl r46)])) (ev rfl) (ev rfl) Try.sizeOf31 rfl (hB32.ext E40) (Nat.le_of_ble_eq_true rfl) rfl) ?_; rintro _ w51 ⟨rfl, W49, hB50⟩
  change Blk _ _ [(Fl r42), (Fl r44), (Fl r46), (Fl 0), (Fl 0), (Fl 0)] at hB50
  have X52 := Below.wr X48 W49 g37
  refine wpList_nil (hK39 _ _ ?_)
  refine wp_seq_k fun K53 hK53 => ?_
  refine wp_region_lit ?_
  refine q_is (l' := [(.agg #[(Fl r1), (Fl r3), (Fl r5), (Fl r7), (Fl r9), (Fl r11)]), (Pt b14 0), (Pt b21 0), (Pt b30 0), (Pt b14 0), (.agg #[(Fl r1), (Fl r3), (Fl r5)]), (.agg #[(Fl r42), (Fl r44), (Fl r46)]), (Pt b30 0), (Pt b14 3), Ud, Ud, Ud, Ud]) rfl rfl (does_fieldAddr (ev rfl) fa29_1) rfl ?_
  refine q_is (l' := [(.agg #[(Fl r1), (Fl r3), (Fl r5), (Fl r7), (Fl r9), (Fl r11)]), (Pt b14 0), (Pt b21 0), (Pt b30 0), (Pt b14 0), (.agg #[(Fl r1), (Fl r3), (Fl r5)]), (.agg #[(Fl r42), (Fl r44), (Fl r46)]), (Pt b30 0), (Pt b14 3), (.agg #[(Fl r7), (Fl r9), (Fl r11)]), Ud, Ud, Ud]) rfl rfl (does_loadAgg (cs := [(Fl r7), (Fl r9), (Fl r11)]) (ev rfl) Try.isAgg27 Try.sizeOf27 (Cells.sub (Blk.cells ((((hB16.ext E24).ext E33).ext E40).wr W49 (Nat.ne_of_lt n35))) 3 3) rfl) rfl ?_
  refine seqd rfl rfl (does_call (args := #[(.agg #[(Fl r7), (Fl r9), (Fl r11)])]) cal21 (evs rfl) (c_laws_toVector [(Fl r7), (Fl r9), (Fl r11)] A_b.hi _ ⟨r7, r9, r11, rfl, h8, h10, h12⟩)) ?_; rintro _ w55 ⟨E54, ⟨_, rfl, ⟨r56, r58, r60, rfl, h57, h59, h61⟩⟩⟩
  have X62 := Ext.gr X52 E54
  show wpList _ _ _ _ (fr [(.agg #[(Fl r1), (Fl r3), (Fl r5), (Fl r7), (Fl r9), (Fl r11)]), (Pt b14 0), (Pt b21 0), (Pt b30 0), (Pt b14 0), (.agg #[(Fl r1), (Fl r3), (Fl r5)]), (.agg #[(Fl r42), (Fl r44), (Fl r46)]), (Pt b30 0), (Pt b14 3), (.agg #[(Fl r7), (Fl r9), (Fl r11)]), (.agg #[(Fl r56), (Fl r58), (Fl r60)]), Ud, Ud]) _
  refine q_is (l' := [(.agg #[(Fl r1), (Fl r3), (Fl r5), (Fl r7), (Fl r9), (Fl r11)]), (Pt b14 0), (Pt b21 0), (Pt b30 0), (Pt b14 0), (.agg #[(Fl r1), (Fl r3), (Fl r5)]), (.agg #[(Fl r42), (Fl r44), (Fl r46)]), (Pt b30 0), (Pt b14 3), (.agg #[(Fl r7), (Fl r9), (Fl r11)]), (.agg #[(Fl r56), (Fl r58), (Fl r60)]), (Pt b30 3), Ud]) rfl rfl (does_fieldAddr (ev rfl) fa33_1) rfl ?_
  refine seqn rfl rfl (does_store (n := 3) (cs := [(Fl r42), (Fl r44), (Fl r46), (Fl 0), (Fl 0), (Fl 0)]) (u := (.agg #[(Fl r56), (Fl r58), (Fl r60)])) (ev rfl) (ev rfl) Try.sizeOf31 rfl (hB50.ext E54) (Nat.le_of_ble_eq_true rfl) rfl) ?_; rintro _ w65 ⟨rfl, W63, hB64⟩
  change Blk _ _ [(Fl r42), (Fl r44), (Fl r46), (Fl r56), (Fl r58), (Fl r60)] at hB64
  have X66 := Below.wr X62 W63 g37
  refine wpList_nil (hK53 _ _ ?_)
  refine wp_seq_k fun K67 hK67 => ?_
  refine wp_region_lit ?_
  refine q_is (l' := [(.agg #[(Fl r1), (Fl r3), (Fl r5), (Fl r7), (Fl r9), (Fl r11)]), (Pt b14 0), (Pt b21 0), (Pt b30 0), (Pt b14 0), (.agg #[(Fl r1), (Fl r3), (Fl r5)]), (.agg #[(Fl r42), (Fl r44), (Fl r46)]), (Pt b30 0), (Pt b14 3), (.agg #[(Fl r7), (Fl r9), (Fl r11)]), (.agg #[(Fl r56), (Fl r58), (Fl r60)]), (Pt b30 3), (.agg #[(Fl r42), (Fl r44), (Fl r46), (Fl r56), (Fl r58), (Fl r60)])]) rfl rfl (does_loadAgg (cs := [(Fl r42), (Fl r44), (Fl r46), (Fl r56), (Fl r58), (Fl r60)]) (ev rfl) Try.isAgg33 Try.sizeOf33 (Blk.cells hB64) rfl) rfl ?_
  refine seqn rfl rfl (does_store (n := 6) (cs := [(Fl 0), (Fl 0), (Fl 0), (Fl 0), (Fl 0), (Fl 0)]) (u := (.agg #[(Fl r42), (Fl r44), (Fl r46), (Fl r56), (Fl r58), (Fl r60)])) (ev rfl) (ev rfl) Try.sizeOf33 rfl (((((hB23.ext E33).ext E40).wr W49 (Nat.ne_of_lt n36)).ext E54).wr W63 (Nat.ne_of_lt n36)) (Nat.le_of_ble_eq_true rfl) rfl) ?_; rintro _ w70 ⟨rfl, W68, hB69⟩
  change Blk _ _ [(Fl r42), (Fl r44), (Fl r46), (Fl r56), (Fl r58), (Fl r60)] at hB69
  have X71 := Below.wr X66 W68 g27
  refine wpList_nil (hK67 _ _ ?_)
  refine wp_ret ?_
  refine ret_val (v := (.agg #[(Fl r42), (Fl r44), (Fl r46), (Fl r56), (Fl r58), (Fl r60)])) (res_C rfl (slot rfl) (run_loadAgg (cs := [(Fl r42), (Fl r44), (Fl r46), (Fl r56), (Fl r58), (Fl r60)]) Try.isAgg33 Try.sizeOf33 (Blk.cells hB69) rfl)) X71 ?_
  exact ⟨[(Fl r42), (Fl r44), (Fl r46), (Fl r56), (Fl r58), (Fl r60)], rfl, ⟨r42, r44, r46, r56, r58, r60, rfl, h43, h45, h47, h57, h59, h61⟩⟩

/- spec.l01Finite -/
theorem c_spec_l01Finite (x : Nat) (w : World) : Gives Try.prog 116 #[(Fl x)] w (fun v w' => v = (Bo (finF (cf .f32 x)))) := by
  refine enter [(Fl x), Ud, Ud, Ud, Ud, Ud, Ud] Try.func116 rfl Try.ntmps116 rfl ?_
  refine wp_seq_k fun K1 hK1 => ?_
  refine wp_region_lit ?_
  refine q_is (l' := [(Fl x), Ud, (Bo false), Ud, Ud, Ud, Ud]) rfl rfl (does_assign (u := (Bo false)) (ev rfl)) rfl ?_
  refine wpList_nil (hK1 _ _ ?_)
  refine wp_seq_k fun K2 hK2 => ?_
  refine wp_region_lit ?_
  refine q_is (l' := [(Fl x), Ud, (Bo false), (Fl x), Ud, Ud, Ud]) rfl rfl (does_move (u := (Fl x)) (ev rfl)) rfl ?_
  refine q_is (l' := [(Fl x), Ud, (Bo false), (Fl x), (Fl x), Ud, Ud]) rfl rfl (does_move (u := (Fl x)) (ev rfl)) rfl ?_
  refine seqd rfl rfl (does_float (.inr (.inl rfl)) (ev rfl) (ev rfl)) ?_; rintro _ w6 ⟨r3, rfl, h4, E5⟩
  have X7 := Ext.gr (Ext.refl w) E5
  show wpList _ _ _ _ (fr [(Fl x), Ud, (Bo false), (Fl x), (Fl x), (Fl r3), Ud]) _
  refine q_is (l' := [(Fl x), Ud, (Bo false), (Fl x), (Fl x), (Fl r3), (Bo (fcmp .eql (ford .f32 (cf .f32 r3) (cf .f32 0))))]) rfl rfl (does_fcmp (.inl rfl) (ev rfl) (ev rfl)) rfl ?_
  refine q_is (l' := [(Fl x), Ud, (Bo (fcmp .eql (ford .f32 (cf .f32 r3) (cf .f32 0)))), (Fl x), (Fl x), (Fl r3), (Bo (fcmp .eql (ford .f32 (cf .f32 r3) (cf .f32 0))))]) rfl rfl (does_assign (u := (Bo (fcmp .eql (ford .f32 (cf .f32 r3) (cf .f32 0))))) (ev rfl)) rfl ?_
  refine wpList_nil (hK2 _ _ ?_)
  refine wp_ret ?_
  refine ret_val (v := (Bo (fcmp .eql (ford .f32 (cf .f32 r3) (cf .f32 0))))) (res_T rfl (slot rfl)) X7 ?_
  have x8 : (finF (cf .f32 x)) = (fcmp .eql (ford .f32 (cf .f32 r3) (cf .f32 0))) := by first | rfl | (simp only [finF, h4]; done) | (simp [finF, h4]; done)
  exact (by first | rfl | rw [x8])

/- spec.l01VFinite -/
theorem c_spec_l01VFinite (v : List Value) (A_v : V3) (w : World) (hv_v : RV3 w A_v v) : Gives Try.prog 96 #[(.agg v.toArray)] w (fun v w' => v = (Bo (finV A_v))) := by
  obtain ⟨r1, r3, r5, rfl, h2, h4, h6⟩ := hv_v
  refine enter [(.agg #[(Fl r1), (Fl r3), (Fl r5)]), Ud, Ud, Ud, Ud, Ud, Ud, Ud, Ud, Ud, Ud, Ud, Ud, Ud, Ud, Ud] Try.func96 rfl Try.ntmps96 rfl ?_
  refine wp_seq_k fun K7 hK7 => ?_
  refine wp_region_lit ?_
  refine seqd rfl rfl (does_box (u := (.agg #[(Fl r1), (Fl r3), (Fl r5)])) (ev rfl)) ?_; rintro _ w12 ⟨b8, rfl, hb9, hB10, E11⟩
  have g13 : w.heap.size ≤ b8 := Nat.le_trans (Below.size (Ext.refl w)) hb9
  change Blk _ _ [(Fl r1), (Fl r3), (Fl r5)] at hB10
  have X14 := Ext.gr (Ext.refl w) E11
  show wpList _ _ _ _ (fr [(.agg #[(Fl r1), (Fl r3), (Fl r5)]), (Pt b8 0), Ud, Ud, Ud, Ud, Ud, Ud, Ud, Ud, Ud, Ud, Ud, Ud, Ud, Ud]) _
  refine q_is (l' := [(.agg #[(Fl r1), (Fl r3), (Fl r5)]), (Pt b8 0), (Bo false), Ud, Ud, Ud, Ud, Ud, Ud, Ud, Ud, Ud, Ud, Ud, Ud, Ud]) rfl rfl (does_assign (u := (Bo false)) (ev rfl)) rfl ?_
  refine wpList_nil (hK7 _ _ ?_)
  refine wp_seq_k fun K15 hK15 => ?_
  obtain ⟨β1, hβ1⟩ : ∃ b : Bool, b = ((finF (cf .f32 r1)) && (finF (cf .f32 r3))) := ⟨_, rfl⟩
  obtain ⟨β2, hβ2⟩ : ∃ b : Bool, b = (β1 && (finF (cf .f32 r5))) := ⟨_, rfl⟩
  refine region_text (
    [Fact.pure [] (fun v => v = (Pt b8 0)),
    Fact.pure [3] (fun v => v = (Fl r1)),
    Fact.pure [4] (fun v => v = (Bo (finF (cf .f32 r1)))),
    Fact.pure [5] (fun v => v = (Bo (finF (cf .f32 r1)))),
    Fact.pure [6] (fun v => (finF (cf .f32 r1)) = true → v = (Pt b8 1)),
    Fact.pure [7, 6] (fun v => (finF (cf .f32 r1)) = true → v = (Fl r3)),
    Fact.pure [8, 6] (fun v => (finF (cf .f32 r1)) = true → v = (Bo (finF (cf .f32 r3)))),
    Fact.pure [6, 9] (fun v => v = (Bo β1)),
    Fact.pure [10] (fun v => v = (Bo β1)),
    Fact.pure [11] (fun v => β1 = true → v = (Pt b8 2)),
    Fact.pure [12, 11] (fun v => β1 = true → v = (Fl r5)),
    Fact.pure [13, 11] (fun v => β1 = true → v = (Bo (finF (cf .f32 r5)))),
    Fact.pure [11, 14] (fun v => v = (Bo β2))]) (by simp [Fact.pure, Fact.mem]) ?_
  refine RW_d (fun v16 => [(.agg #[(Fl r1), (Fl r3), (Fl r5)]), (Pt b8 0), (Bo false), v16, Ud, Ud, Ud, Ud, Ud, Ud, Ud, Ud, Ud, Ud, Ud, Ud]) rfl (fun _ => rfl) (fun u hu hF => ?_) (fun v16 => ?_)
  · clear hF
    refine doesG_un rfl ?_
    refine (does_fieldAddr (ev rfl) fa31_0).mono ?_; rintro _ _ ⟨rfl, rfl⟩
    exact ⟨rfl, Ext.refl _⟩
  refine RW_d (fun v17 => [(.agg #[(Fl r1), (Fl r3), (Fl r5)]), (Pt b8 0), (Bo false), v16, v17, Ud, Ud, Ud, Ud, Ud, Ud, Ud, Ud, Ud, Ud, Ud]) rfl (fun _ => rfl) (fun u hu hF => ?_) (fun v17 => ?_)
  · have h3_ : v16 = (Pt b8 0) := hF.1
    clear hF
    obtain rfl := h3_
    refine doesG_un rfl ?_
    refine (does_load (u := (Fl r1)) (ev rfl) Try.isAgg25 (Cells.at (Blk.cells (hB10.ext hu)) 0 rfl)).mono ?_; rintro _ _ ⟨rfl, rfl⟩
    exact ⟨rfl, Ext.refl _⟩
  refine RW_d (fun v18 => [(.agg #[(Fl r1), (Fl r3), (Fl r5)]), (Pt b8 0), (Bo false), v16, v17, v18, Ud, Ud, Ud, Ud, Ud, Ud, Ud, Ud, Ud, Ud]) rfl (fun _ => rfl) (fun u hu hF => ?_) (fun v18 => ?_)
  · have h4_ : v17 = (Fl r1) := hF.1
    clear hF
    obtain rfl := h4_
    refine doesG_un rfl ?_
    refine (does_call (args := #[(Fl r1)]) cal116 (evs rfl) (c_spec_l01Finite r1 _)).mono ?_; rintro v u' ⟨hx, hv⟩
    exact ⟨hv, hx⟩
  refine RW_d (fun v19 => [(.agg #[(Fl r1), (Fl r3), (Fl r5)]), (Pt b8 0), (Bo false), v16, v17, v18, v19, Ud, Ud, Ud, Ud, Ud, Ud, Ud, Ud, Ud]) rfl (fun _ => rfl) (fun u hu hF => ?_) (fun v19 => ?_)
  · have h5_ : v18 = (Bo (finF (cf .f32 r1))) := hF.1
    clear hF
    obtain rfl := h5_
    refine doesG_un rfl ?_
    refine (does_move (u := (Bo (finF (cf .f32 r1)))) (ev rfl)).mono ?_; rintro _ _ ⟨rfl, rfl⟩
    exact ⟨rfl, Ext.refl _⟩
  refine RW_d (fun v20 => [(.agg #[(Fl r1), (Fl r3), (Fl r5)]), (Pt b8 0), (Bo false), v16, v17, v18, v19, v20, Ud, Ud, Ud, Ud, Ud, Ud, Ud, Ud]) rfl (fun _ => rfl) (fun u hu hF => ?_) (fun v20 => ?_)
  · have h6_ : v19 = (Bo (finF (cf .f32 r1))) := hF.1
    clear hF
    obtain rfl := h6_
    refine doesG_g (b := (finF (cf .f32 r1))) rfl (yld rfl rfl) (fun hg => ?_) (fun hg => ⟨fun h => absurd h hg, Ext.refl _⟩)
    refine (does_fieldAddr (ev rfl) fa31_1).mono ?_; rintro _ _ ⟨rfl, rfl⟩
    exact ⟨fun _ => rfl, Ext.refl _⟩
  refine RW_d (fun v21 => [(.agg #[(Fl r1), (Fl r3), (Fl r5)]), (Pt b8 0), (Bo false), v16, v17, v18, v19, v20, v21, Ud, Ud, Ud, Ud, Ud, Ud, Ud]) rfl (fun _ => rfl) (fun u hu hF => ?_) (fun v21 => ?_)
  · have h7_ : (finF (cf .f32 r1)) = true → v20 = (Pt b8 1) := hF.1
    have h6_ : v19 = (Bo (finF (cf .f32 r1))) := hF.2.1
    clear hF
    obtain rfl := h6_
    refine doesG_g (b := (finF (cf .f32 r1))) rfl (yld rfl rfl) (fun hg => ?_) (fun hg => ⟨fun h => absurd h hg, Ext.refl _⟩)
    obtain rfl := h7_ hg
    refine (does_load (u := (Fl r3)) (ev rfl) Try.isAgg25 (Cells.at (Blk.cells (hB10.ext hu)) 1 rfl)).mono ?_; rintro _ _ ⟨rfl, rfl⟩
    exact ⟨fun _ => rfl, Ext.refl _⟩
  refine RW_d (fun v22 => [(.agg #[(Fl r1), (Fl r3), (Fl r5)]), (Pt b8 0), (Bo false), v16, v17, v18, v19, v20, v21, v22, Ud, Ud, Ud, Ud, Ud, Ud]) rfl (fun _ => rfl) (fun u hu hF => ?_) (fun v22 => ?_)
  · have h8_ : (finF (cf .f32 r1)) = true → v21 = (Fl r3) := hF.1
    have h6_ : v19 = (Bo (finF (cf .f32 r1))) := hF.2.1
    clear hF
    obtain rfl := h6_
    refine doesG_g (b := (finF (cf .f32 r1))) rfl (yld rfl rfl) (fun hg => ?_) (fun hg => ⟨fun h => absurd h hg, Ext.refl _⟩)
    obtain rfl := h8_ hg
    refine (does_call (args := #[(Fl r3)]) cal116 (evs rfl) (c_spec_l01Finite r3 _)).mono ?_; rintro v u' ⟨hx, hv⟩
    exact ⟨fun _ => hv, hx⟩
  refine RW_d (fun v23 => [(.agg #[(Fl r1), (Fl r3), (Fl r5)]), (Pt b8 0), (Bo false), v16, v17, v18, v19, v20, v21, v22, v23, Ud, Ud, Ud, Ud, Ud]) rfl (fun _ => rfl) (fun u hu hF => ?_) (fun v23 => ?_)
  · have h6_ : v19 = (Bo (finF (cf .f32 r1))) := hF.1
    have h9_ : (finF (cf .f32 r1)) = true → v22 = (Bo (finF (cf .f32 r3))) := hF.2.1
    clear hF
    obtain rfl := h6_
    refine doesG_un rfl ((does_pick (b := (finF (cf .f32 r1))) (ev rfl) (ev rfl) (ev rfl)).mono ?_); rintro _ _ ⟨rfl, rfl⟩; refine ⟨?_, Ext.refl _⟩; rw [hβ1]; skip
    cases hbb : (finF (cf .f32 r1)) <;> simp [hbb] at h9_ ⊢
    all_goals (first | rfl | (subst h9_; rfl) | simp_all)
  refine RW_d (fun v24 => [(.agg #[(Fl r1), (Fl r3), (Fl r5)]), (Pt b8 0), (Bo false), v16, v17, v18, v19, v20, v21, v22, v23, v24, Ud, Ud, Ud, Ud]) rfl (fun _ => rfl) (fun u hu hF => ?_) (fun v24 => ?_)
  · have h10_ : v23 = (Bo β1) := hF.1
    clear hF
    obtain rfl := h10_
    refine doesG_un rfl ?_
    refine (does_move (u := (Bo β1)) (ev rfl)).mono ?_; rintro _ _ ⟨rfl, rfl⟩
    exact ⟨rfl, Ext.refl _⟩
  refine RW_d (fun v25 => [(.agg #[(Fl r1), (Fl r3), (Fl r5)]), (Pt b8 0), (Bo false), v16, v17, v18, v19, v20, v21, v22, v23, v24, v25, Ud, Ud, Ud]) rfl (fun _ => rfl) (fun u hu hF => ?_) (fun v25 => ?_)
  · have h11_ : v24 = (Bo β1) := hF.1
    clear hF
    obtain rfl := h11_
    refine doesG_g (b := β1) rfl (yld rfl rfl) (fun hg => ?_) (fun hg => ⟨fun h => absurd h hg, Ext.refl _⟩)
    refine (does_fieldAddr (ev rfl) fa31_2).mono ?_; rintro _ _ ⟨rfl, rfl⟩
    exact ⟨fun _ => rfl, Ext.refl _⟩
  refine RW_d (fun v26 => [(.agg #[(Fl r1), (Fl r3), (Fl r5)]), (Pt b8 0), (Bo false), v16, v17, v18, v19, v20, v21, v22, v23, v24, v25, v26, Ud, Ud]) rfl (fun _ => rfl) (fun u hu hF => ?_) (fun v26 => ?_)
  · have h12_ : β1 = true → v25 = (Pt b8 2) := hF.1
    have h11_ : v24 = (Bo β1) := hF.2.1
    clear hF
    obtain rfl := h11_
    refine doesG_g (b := β1) rfl (yld rfl rfl) (fun hg => ?_) (fun hg => ⟨fun h => absurd h hg, Ext.refl _⟩)
    obtain rfl := h12_ hg
    refine (does_load (u := (Fl r5)) (ev rfl) Try.isAgg25 (Cells.at (Blk.cells (hB10.ext hu)) 2 rfl)).mono ?_; rintro _ _ ⟨rfl, rfl⟩
    exact ⟨fun _ => rfl, Ext.refl _⟩
  refine RW_d (fun v27 => [(.agg #[(Fl r1), (Fl r3), (Fl r5)]), (Pt b8 0), (Bo false), v16, v17, v18, v19, v20, v21, v22, v23, v24, v25, v26, v27, Ud]) rfl (fun _ => rfl) (fun u hu hF => ?_) (fun v27 => ?_)
  · have h13_ : β1 = true → v26 = (Fl r5) := hF.1
    have h11_ : v24 = (Bo β1) := hF.2.1
    clear hF
    obtain rfl := h11_
    refine doesG_g (b := β1) rfl (yld rfl rfl) (fun hg => ?_) (fun hg => ⟨fun h => absurd h hg, Ext.refl _⟩)
    obtain rfl := h13_ hg
    refine (does_call (args := #[(Fl r5)]) cal116 (evs rfl) (c_spec_l01Finite r5 _)).mono ?_; rintro v u' ⟨hx, hv⟩
    exact ⟨fun _ => hv, hx⟩
  refine RW_d (fun v28 => [(.agg #[(Fl r1), (Fl r3), (Fl r5)]), (Pt b8 0), (Bo false), v16, v17, v18, v19, v20, v21, v22, v23, v24, v25, v26, v27, v28]) rfl (fun _ => rfl) (fun u hu hF => ?_) (fun v28 => ?_)
  · have h11_ : v24 = (Bo β1) := hF.1
    have h14_ : β1 = true → v27 = (Bo (finF (cf .f32 r5))) := hF.2.1
    clear hF
    obtain rfl := h11_
    refine doesG_un rfl ((does_pick (b := β1) (ev rfl) (ev rfl) (ev rfl)).mono ?_); rintro _ _ ⟨rfl, rfl⟩; refine ⟨?_, Ext.refl _⟩; rw [hβ2]; skip
    cases hbb : β1 <;> simp [hbb] at h14_ ⊢
    all_goals (first | rfl | (subst h14_; rfl) | simp_all)
  refine RW_fin ?_; intro w29 E30 hP31
  obtain ⟨⟨⟨⟨⟨⟨⟨⟨⟨⟨⟨⟨⟨-, -⟩, -⟩, -⟩, -⟩, -⟩, -⟩, -⟩, -⟩, -⟩, -⟩, -⟩, -⟩, q32⟩ := hP31
  have X33 := Ext.gr X14 E30
  have q32 : v28 = (Bo β2) := q32
  obtain rfl := q32
  show wpList _ _ _ _ (fr [(.agg #[(Fl r1), (Fl r3), (Fl r5)]), (Pt b8 0), (Bo false), v16, v17, v18, v19, v20, v21, v22, v23, v24, v25, v26, v27, (Bo β2)]) _
  refine q_is (l' := [(.agg #[(Fl r1), (Fl r3), (Fl r5)]), (Pt b8 0), (Bo β2), v16, v17, v18, v19, v20, v21, v22, v23, v24, v25, v26, v27, (Bo β2)]) rfl rfl (does_assign (u := (Bo β2)) (ev rfl)) rfl ?_
  refine wpList_nil (hK15 _ _ ?_)
  refine wp_ret ?_
  refine ret_val (v := (Bo β2)) (res_T rfl (slot rfl)) X33 ?_
  have x34 : (finV A_v) = β2 := by first | rfl | (simp only [finV, h2, h4, h6, hβ1, hβ2]; done) | (simp [finV, h2, h4, h6, hβ1, hβ2]; done)
  exact (by first | rfl | rw [x34])

/- spec.l04Is -/
theorem c_spec_l04Is (b_b : Nat) (b_o : Nat) (b : List Value) (A_b : Bx) (w : World) (hc_b : Cells w b_b b_o b) (hv_b : RBx w A_b b) : Gives Try.prog 51 #[(Pt b_b b_o)] w (fun v w' => v = (Bo (isBox A_b))) := by
  obtain ⟨r1, r3, r5, r7, r9, r11, rfl, h2, h4, h6, h8, h10, h12⟩ := hv_b
  refine enter [(Pt b_b b_o), Ud, Ud, Ud, Ud, Ud, Ud, Ud, Ud, Ud, Ud, Ud, Ud, Ud, Ud, Ud, Ud, Ud, Ud, Ud, Ud, Ud, Ud, Ud, Ud, Ud, Ud, Ud, Ud, Ud, Ud, Ud, Ud, Ud, Ud, Ud, Ud, Ud, Ud, Ud, Ud, Ud, Ud, Ud, Ud, Ud, Ud, Ud, Ud, Ud, Ud, Ud, Ud, Ud] Try.func51 rfl Try.ntmps51 rfl ?_
  refine wp_seq_k fun K13 hK13 => ?_
  refine wp_region_lit ?_
  refine q_is (l' := [(Pt b_b b_o), Ud, (Bo false), Ud, Ud, Ud, Ud, Ud, Ud, Ud, Ud, Ud, Ud, Ud, Ud, Ud, Ud, Ud, Ud, Ud, Ud, Ud, Ud, Ud, Ud, Ud, Ud, Ud, Ud, Ud, Ud, Ud, Ud, Ud, Ud, Ud, Ud, Ud, Ud, Ud, Ud, Ud, Ud, Ud, Ud, Ud, Ud, Ud, Ud, Ud, Ud, Ud, Ud, Ud]) rfl rfl (does_assign (u := (Bo false)) (ev rfl)) rfl ?_
  refine wpList_nil (hK13 _ _ ?_)
  refine wp_seq_k fun K14 hK14 => ?_
  obtain ⟨β1, hβ1⟩ : ∃ b : Bool, b = ((finV A_b.lo) && (finV A_b.hi)) := ⟨_, rfl⟩
  obtain ⟨β2, hβ2⟩ : ∃ b : Bool, b = (fcmp .leq (ford .f32 (cf .f32 r1) (cf .f32 r7))) := ⟨_, rfl⟩
  obtain ⟨β3, hβ3⟩ : ∃ b : Bool, b = (fcmp .leq (ford .f32 (cf .f32 r3) (cf .f32 r9))) := ⟨_, rfl⟩
  obtain ⟨β4, hβ4⟩ : ∃ b : Bool, b = (fcmp .leq (ford .f32 (cf .f32 r5) (cf .f32 r11))) := ⟨_, rfl⟩
  refine region_draw (
    [Fact.pure [] (fun v => v = (Pt b_b b_o)),
    Fact.pure [3] (fun v => v = (Pt b_b b_o)),
    Fact.pure [4] (fun v => v = (Pt b_b b_o)),
    Fact.pure [5] (fun v => v = (.agg #[(Fl r1), (Fl r3), (Fl r5)])),
    Fact.pure [6] (fun v => v = (Bo (finV A_b.lo))),
    Fact.pure [7] (fun v => v = (Bo (finV A_b.lo))),
    Fact.pure [8] (fun v => (finV A_b.lo) = true → v = (Pt b_b b_o)),
    Fact.pure [9, 8] (fun v => (finV A_b.lo) = true → v = (Pt b_b b_o)),
    Fact.pure [10, 8] (fun v => (finV A_b.lo) = true → v = (Pt b_b (b_o + 3))),
    Fact.pure [11, 8] (fun v => (finV A_b.lo) = true → v = (.agg #[(Fl r7), (Fl r9), (Fl r11)])),
    Fact.pure [12, 8] (fun v => (finV A_b.lo) = true → v = (Bo (finV A_b.hi))),
    Fact.pure [8, 13] (fun v => v = (Bo β1)),
    Fact.pure [14] (fun v => v = (Bo β1)),
    Fact.pure [15] (fun v => β1 = true → v = (Pt b_b b_o)),
    Fact.pure [16, 15] (fun v => β1 = true → v = (Pt b_b b_o)),
    Fact.pure [17, 15] (fun v => β1 = true → v = (Pt b_b b_o)),
    Fact.pure [18, 15] (fun v => β1 = true → v = (Pt b_b b_o)),
    Fact.pure [19, 15] (fun v => β1 = true → v = (Fl r1)),
    Fact.pure [15] (fun v => β1 = true → v = (Pt b_b b_o)),
    Fact.pure [21, 15] (fun v => β1 = true → v = (Pt b_b b_o)),
    Fact.pure [22, 15] (fun v => β1 = true → v = (Pt b_b (b_o + 3))),
    Fact.pure [23, 15] (fun v => β1 = true → v = (Pt b_b (b_o + 3))),
    Fact.pure [24, 15] (fun v => β1 = true → v = (Fl r7)),
    Fact.pure [20, 25, 15] (fun v => β1 = true → v = (Bo β2)),
    Fact.pure [15, 26] (fun v => v = (Bo (β1 && β2))),
    Fact.pure [27] (fun v => v = (Bo (β1 && β2))),
    Fact.pure [28] (fun v => (β1 && β2) = true → v = (Pt b_b b_o)),
    Fact.pure [29, 28] (fun v => (β1 && β2) = true → v = (Pt b_b b_o)),
    Fact.pure [30, 28] (fun v => (β1 && β2) = true → v = (Pt b_b b_o)),
    Fact.pure [31, 28] (fun v => (β1 && β2) = true → v = (Pt b_b (b_o + 1))),
    Fact.pure [32, 28] (fun v => (β1 && β2) = true → v = (Fl r3)),
    Fact.pure [28] (fun v => (β1 && β2) = true → v = (Pt b_b b_o)),
    Fact.pure [34, 28] (fun v => (β1 && β2) = true → v = (Pt b_b b_o)),
    Fact.pure [35, 28] (fun v => (β1 && β2) = true → v = (Pt b_b (b_o + 3))),
    Fact.pure [36, 28] (fun v => (β1 && β2) = true → v = (Pt b_b (b_o + 4))),
    Fact.pure [37, 28] (fun v => (β1 && β2) = true → v = (Fl r9)),
    Fact.pure [33, 38, 28] (fun v => (β1 && β2) = true → v = (Bo β3)),
    Fact.pure [28, 39] (fun v => v = (Bo ((β1 && β2) && β3))),
    Fact.pure [40] (fun v => v = (Bo ((β1 && β2) && β3))),
    Fact.pure [41] (fun v => ((β1 && β2) && β3) = true → v = (Pt b_b b_o)),
    Fact.pure [42, 41] (fun v => ((β1 && β2) && β3) = true → v = (Pt b_b b_o)),
    Fact.pure [43, 41] (fun v => ((β1 && β2) && β3) = true → v = (Pt b_b b_o)),
    Fact.pure [44, 41] (fun v => ((β1 && β2) && β3) = true → v = (Pt b_b (b_o + 2))),
    Fact.pure [45, 41] (fun v => ((β1 && β2) && β3) = true → v = (Fl r5)),
    Fact.pure [41] (fun v => ((β1 && β2) && β3) = true → v = (Pt b_b b_o)),
    Fact.pure [47, 41] (fun v => ((β1 && β2) && β3) = true → v = (Pt b_b b_o)),
    Fact.pure [48, 41] (fun v => ((β1 && β2) && β3) = true → v = (Pt b_b (b_o + 3))),
    Fact.pure [49, 41] (fun v => ((β1 && β2) && β3) = true → v = (Pt b_b (b_o + 5))),
    Fact.pure [50, 41] (fun v => ((β1 && β2) && β3) = true → v = (Fl r11)),
    Fact.pure [46, 51, 41] (fun v => ((β1 && β2) && β3) = true → v = (Bo β4)),
    Fact.pure [41, 52] (fun v => v = (Bo (((β1 && β2) && β3) && β4)))]) mixed (by kernel_rfl) (by intro _ _ d _ _ h; cases d <;> exact h) ?_
  obtain ⟨w15, hw17⟩ : ∃ w', w' = World.drew w := ⟨_, rfl⟩; rw [← hw17]; have E16 : Ext w w15 := by rw [hw17]; exact Ext.draw _
  clear hw17
  have X18 := Ext.gr (Ext.refl w) E16
  refine RW_d (fun v19 => [(Pt b_b b_o), Ud, (Bo false), v19, Ud, Ud, Ud, Ud, Ud, Ud, Ud, Ud, Ud, Ud, Ud, Ud, Ud, Ud, Ud, Ud, Ud, Ud, Ud, Ud, Ud, Ud, Ud, Ud, Ud, Ud, Ud, Ud, Ud, Ud, Ud, Ud, Ud, Ud, Ud, Ud, Ud, Ud, Ud, Ud, Ud, Ud, Ud, Ud, Ud, Ud, Ud, Ud, Ud, Ud]) rfl (fun _ => rfl) (fun u hu hF => ?_) (fun v19 => ?_)
  · clear hF
    refine doesG_un rfl ?_
    refine (does_move (u := (Pt b_b b_o)) (ev rfl)).mono ?_; rintro _ _ ⟨rfl, rfl⟩
    exact ⟨rfl, Ext.refl _⟩
  refine RW_d (fun v20 => [(Pt b_b b_o), Ud, (Bo false), v19, v20, Ud, Ud, Ud, Ud, Ud, Ud, Ud, Ud, Ud, Ud, Ud, Ud, Ud, Ud, Ud, Ud, Ud, Ud, Ud, Ud, Ud, Ud, Ud, Ud, Ud, Ud, Ud, Ud, Ud, Ud, Ud, Ud, Ud, Ud, Ud, Ud, Ud, Ud, Ud, Ud, Ud, Ud, Ud, Ud, Ud, Ud, Ud, Ud, Ud]) rfl (fun _ => rfl) (fun u hu hF => ?_) (fun v20 => ?_)
  · have h3_ : v19 = (Pt b_b b_o) := hF.1
    clear hF
    obtain rfl := h3_
    refine doesG_un rfl ?_
    refine (does_nilCheck (ev rfl)).mono ?_; rintro _ _ ⟨rfl, rfl⟩
    exact ⟨rfl, Ext.refl _⟩
  refine RW_d (fun v21 => [(Pt b_b b_o), Ud, (Bo false), v19, v20, v21, Ud, Ud, Ud, Ud, Ud, Ud, Ud, Ud, Ud, Ud, Ud, Ud, Ud, Ud, Ud, Ud, Ud, Ud, Ud, Ud, Ud, Ud, Ud, Ud, Ud, Ud, Ud, Ud, Ud, Ud, Ud, Ud, Ud, Ud, Ud, Ud, Ud, Ud, Ud, Ud, Ud, Ud, Ud, Ud, Ud, Ud, Ud, Ud]) rfl (fun _ => rfl) (fun u hu hF => ?_) (fun v21 => ?_)
  · have h4_ : v20 = (Pt b_b b_o) := hF.1
    clear hF
    obtain rfl := h4_
    refine doesG_un rfl ?_
    refine (does_fieldAddr (ev rfl) fa33_0).mono ?_; rintro _ _ ⟨rfl, rfl⟩
    exact ⟨rfl, Ext.refl _⟩
  refine RW_d (fun v22 => [(Pt b_b b_o), Ud, (Bo false), v19, v20, v21, v22, Ud, Ud, Ud, Ud, Ud, Ud, Ud, Ud, Ud, Ud, Ud, Ud, Ud, Ud, Ud, Ud, Ud, Ud, Ud, Ud, Ud, Ud, Ud, Ud, Ud, Ud, Ud, Ud, Ud, Ud, Ud, Ud, Ud, Ud, Ud, Ud, Ud, Ud, Ud, Ud, Ud, Ud, Ud, Ud, Ud, Ud, Ud]) rfl (fun _ => rfl) (fun u hu hF => ?_) (fun v22 => ?_)
  · have h5_ : v21 = (Pt b_b b_o) := hF.1
    clear hF
    obtain rfl := h5_
    refine doesG_un rfl ?_
    refine (does_loadAgg (cs := [(Fl r1), (Fl r3), (Fl r5)]) (ev rfl) Try.isAgg31 Try.sizeOf31 (Cells.sub ((hc_b.ext (Ext.gr (Ext.refl w) E16)).ext hu) 0 3) rfl).mono ?_; rintro _ _ ⟨rfl, rfl⟩
    exact ⟨rfl, Ext.refl _⟩
  refine RW_d (fun v23 => [(Pt b_b b_o), Ud, (Bo false), v19, v20, v21, v22, v23, Ud, Ud, Ud, Ud, Ud, Ud, Ud, Ud, Ud, Ud, Ud, Ud, Ud, Ud, Ud, Ud, Ud, Ud, Ud, Ud, Ud, Ud, Ud, Ud, Ud, Ud, Ud, Ud, Ud, Ud, Ud, Ud, Ud, Ud, Ud, Ud, Ud, Ud, Ud, Ud, Ud, Ud, Ud, Ud, Ud, Ud]) rfl (fun _ => rfl) (fun u hu hF => ?_) (fun v23 => ?_)
  · have h6_ : v22 = (.agg #[(Fl r1), (Fl r3), (Fl r5)]) := hF.1
    clear hF
    obtain rfl := h6_
    refine doesG_un rfl ?_
    refine (does_call (args := #[(.agg #[(Fl r1), (Fl r3), (Fl r5)])]) cal96 (evs rfl) (c_spec_l01VFinite [(Fl r1), (Fl r3), (Fl r5)] A_b.lo _ ⟨r1, r3, r5, rfl, h2, h4, h6⟩)).mono ?_; rintro v u' ⟨hx, hv⟩
    exact ⟨hv, hx⟩
  refine RW_d (fun v24 => [(Pt b_b b_o), Ud, (Bo false), v19, v20, v21, v22, v23, v24, Ud, Ud, Ud, Ud, Ud, Ud, Ud, Ud, Ud, Ud, Ud, Ud, Ud, Ud, Ud, Ud, Ud, Ud, Ud, Ud, Ud, Ud, Ud, Ud, Ud, Ud, Ud, Ud, Ud, Ud, Ud, Ud, Ud, Ud, Ud, Ud, Ud, Ud, Ud, Ud, Ud, Ud, Ud, Ud, Ud]) rfl (fun _ => rfl) (fun u hu hF => ?_) (fun v24 => ?_)
  · have h7_ : v23 = (Bo (finV A_b.lo)) := hF.1
    clear hF
    obtain rfl := h7_
    refine doesG_un rfl ?_
    refine (does_move (u := (Bo (finV A_b.lo))) (ev rfl)).mono ?_; rintro _ _ ⟨rfl, rfl⟩
    exact ⟨rfl, Ext.refl _⟩
  refine RW_d (fun v25 => [(Pt b_b b_o), Ud, (Bo false), v19, v20, v21, v22, v23, v24, v25, Ud, Ud, Ud, Ud, Ud, Ud, Ud, Ud, Ud, Ud, Ud, Ud, Ud, Ud, Ud, Ud, Ud, Ud, Ud, Ud, Ud, Ud, Ud, Ud, Ud, Ud, Ud, Ud, Ud, Ud, Ud, Ud, Ud, Ud, Ud, Ud, Ud, Ud, Ud, Ud, Ud, Ud, Ud, Ud]) rfl (fun _ => rfl) (fun u hu hF => ?_) (fun v25 => ?_)
  · have h8_ : v24 = (Bo (finV A_b.lo)) := hF.1
    clear hF
    obtain rfl := h8_
    refine doesG_g (b := (finV A_b.lo)) rfl (yld rfl rfl) (fun hg => ?_) (fun hg => ⟨fun h => absurd h hg, Ext.refl _⟩)
    refine (does_move (u := (Pt b_b b_o)) (ev rfl)).mono ?_; rintro _ _ ⟨rfl, rfl⟩
    exact ⟨fun _ => rfl, Ext.refl _⟩
  refine RW_d (fun v26 => [(Pt b_b b_o), Ud, (Bo false), v19, v20, v21, v22, v23, v24, v25, v26, Ud, Ud, Ud, Ud, Ud, Ud, Ud, Ud, Ud, Ud, Ud, Ud, Ud, Ud, Ud, Ud, Ud, Ud, Ud, Ud, Ud, Ud, Ud, Ud, Ud, Ud, Ud, Ud, Ud, Ud, Ud, Ud, Ud, Ud, Ud, Ud, Ud, Ud, Ud, Ud, Ud, Ud, Ud]) rfl (fun _ => rfl) (fun u hu hF => ?_) (fun v26 => ?_)
  · have h9_ : (finV A_b.lo) = true → v25 = (Pt b_b b_o) := hF.1
    have h8_ : v24 = (Bo (finV A_b.lo)) := hF.2.1
    clear hF
    obtain rfl := h8_
    refine doesG_g (b := (finV A_b.lo)) rfl (yld rfl rfl) (fun hg => ?_) (fun hg => ⟨fun h => absurd h hg, Ext.refl _⟩)
    obtain rfl := h9_ hg
    refine (does_nilCheck (ev rfl)).mono ?_; rintro _ _ ⟨rfl, rfl⟩
    exact ⟨fun _ => rfl, Ext.refl _⟩
  refine RW_d (fun v27 => [(Pt b_b b_o), Ud, (Bo false), v19, v20, v21, v22, v23, v24, v25, v26, v27, Ud, Ud, Ud, Ud, Ud, Ud, Ud, Ud, Ud, Ud, Ud, Ud, Ud, Ud, Ud, Ud, Ud, Ud, Ud, Ud, Ud, Ud, Ud, Ud, Ud, Ud, Ud, Ud, Ud, Ud, Ud, Ud, Ud, Ud, Ud, Ud, Ud, Ud, Ud, Ud, Ud, Ud]) rfl (fun _ => rfl) (fun u hu hF => ?_) (fun v27 => ?_)
  · have h10_ : (finV A_b.lo) = true → v26 = (Pt b_b b_o) := hF.1
    have h8_ : v24 = (Bo (finV A_b.lo)) := hF.2.1
    clear hF
    obtain rfl := h8_
    refine doesG_g (b := (finV A_b.lo)) rfl (yld rfl rfl) (fun hg => ?_) (fun hg => ⟨fun h => absurd h hg, Ext.refl _⟩)
    obtain rfl := h10_ hg
    refine (does_fieldAddr (ev rfl) fa33_1).mono ?_; rintro _ _ ⟨rfl, rfl⟩
    exact ⟨fun _ => rfl, Ext.refl _⟩
  refine RW_d (fun v28 => [(Pt b_b b_o), Ud, (Bo false), v19, v20, v21, v22, v23, v24, v25, v26, v27, v28, Ud, Ud, Ud, Ud, Ud, Ud, Ud, Ud, Ud, Ud, Ud, Ud, Ud, Ud, Ud, Ud, Ud, Ud, Ud, Ud, Ud, Ud, Ud, Ud, Ud, Ud, Ud, Ud, Ud, Ud, Ud, Ud, Ud, Ud, Ud, Ud, Ud, Ud, Ud, Ud, Ud]) rfl (fun _ => rfl) (fun u hu hF => ?_) (fun v28 => ?_)
  · have h11_ : (finV A_b.lo) = true → v27 = (Pt b_b (b_o + 3)) := hF.1
    have h8_ : v24 = (Bo (finV A_b.lo)) := hF.2.1
    clear hF
    obtain rfl := h8_
    refine doesG_g (b := (finV A_b.lo)) rfl (yld rfl rfl) (fun hg => ?_) (fun hg => ⟨fun h => absurd h hg, Ext.refl _⟩)
    obtain rfl := h11_ hg
    refine (does_loadAgg (cs := [(Fl r7), (Fl r9), (Fl r11)]) (ev rfl) Try.isAgg31 Try.sizeOf31 (Cells.sub ((hc_b.ext (Ext.gr (Ext.refl w) E16)).ext hu) 3 3) rfl).mono ?_; rintro _ _ ⟨rfl, rfl⟩
    exact ⟨fun _ => rfl, Ext.refl _⟩
  refine RW_d (fun v29 => [(Pt b_b b_o), Ud, (Bo false), v19, v20, v21, v22, v23, v24, v25, v26, v27, v28, v29, Ud, Ud, Ud, Ud, Ud, Ud, Ud, Ud, Ud, Ud, Ud, Ud, Ud, Ud, Ud, Ud, Ud, Ud, Ud, Ud, Ud, Ud, Ud, Ud, Ud, Ud, Ud, Ud, Ud, Ud, Ud, Ud, Ud, Ud, Ud, Ud, Ud, Ud, Ud, Ud]) rfl (fun _ => rfl) (fun u hu hF => ?_) (fun v29 => ?_)
  · have h12_ : (finV A_b.lo) = true → v28 = (.agg #[(Fl r7), (Fl r9), (Fl r11)]) := hF.1
    have h8_ : v24 = (Bo (finV A_b.lo)) := hF.2.1
    clear hF
    obtain rfl := h8_
    refine doesG_g (b := (finV A_b.lo)) rfl (yld rfl rfl) (fun hg => ?_) (fun hg => ⟨fun h => absurd h hg, Ext.refl _⟩)
    obtain rfl := h12_ hg
    refine (does_call (args := #[(.agg #[(Fl r7), (Fl r9), (Fl r11)])]) cal96 (evs rfl) (c_spec_l01VFinite [(Fl r7), (Fl r9), (Fl r11)] A_b.hi _ ⟨r7, r9, r11, rfl, h8, h10, h12⟩)).mono ?_; rintro v u' ⟨hx, hv⟩
    exact ⟨fun _ => hv, hx⟩
  refine RW_d (fun v30 => [(Pt b_b b_o), Ud, (Bo false), v19, v20, v21, v22, v23, v24, v25, v26, v27, v28, v29, v30, Ud, Ud, Ud, Ud, Ud, Ud, Ud, Ud, Ud, Ud, Ud, Ud, Ud, Ud, Ud, Ud, Ud, Ud, Ud, Ud, Ud, Ud, Ud, Ud, Ud, Ud, Ud, Ud, Ud, Ud, Ud, Ud, Ud, Ud, Ud, Ud, Ud, Ud, Ud]) rfl (fun _ => rfl) (fun u hu hF => ?_) (fun v30 => ?_)
  · have h8_ : v24 = (Bo (finV A_b.lo)) := hF.1
    have h13_ : (finV A_b.lo) = true → v29 = (Bo (finV A_b.hi)) := hF.2.1
    clear hF
    obtain rfl := h8_
    refine doesG_un rfl ((does_pick (b := (finV A_b.lo)) (ev rfl) (ev rfl) (ev rfl)).mono ?_); rintro _ _ ⟨rfl, rfl⟩; refine ⟨?_, Ext.refl _⟩; rw [hβ1]; skip
    cases hbb : (finV A_b.lo) <;> simp [hbb] at h13_ ⊢
    all_goals (first | rfl | (subst h13_; rfl) | simp_all)
  refine RW_d (fun v31 => [(Pt b_b b_o), Ud, (Bo false), v19, v20, v21, v22, v23, v24, v25, v26, v27, v28, v29, v30, v31, Ud, Ud, Ud, Ud, Ud, Ud, Ud, Ud, Ud, Ud, Ud, Ud, Ud, Ud, Ud, Ud, Ud, Ud, Ud, Ud, Ud, Ud, Ud, Ud, Ud, Ud, Ud, Ud, Ud, Ud, Ud, Ud, Ud, Ud, Ud, Ud, Ud, Ud]) rfl (fun _ => rfl) (fun u hu hF => ?_) (fun v31 => ?_)
  · have h14_ : v30 = (Bo β1) := hF.1
    clear hF
    obtain rfl := h14_
    refine doesG_un rfl ?_
    refine (does_move (u := (Bo β1)) (ev rfl)).mono ?_; rintro _ _ ⟨rfl, rfl⟩
    exact ⟨rfl, Ext.refl _⟩
  refine RW_d (fun v32 => [(Pt b_b b_o), Ud, (Bo false), v19, v20, v21, v22, v23, v24, v25, v26, v27, v28, v29, v30, v31, v32, Ud, Ud, Ud, Ud, Ud, Ud, Ud, Ud, Ud, Ud, Ud, Ud, Ud, Ud, Ud, Ud, Ud, Ud, Ud, Ud, Ud, Ud, Ud, Ud, Ud, Ud, Ud, Ud, Ud, Ud, Ud, Ud, Ud, Ud, Ud, Ud, Ud]) rfl (fun _ => rfl) (fun u hu hF => ?_) (fun v32 => ?_)
  · have h15_ : v31 = (Bo β1) := hF.1
    clear hF
    obtain rfl := h15_
    refine doesG_g (b := β1) rfl (yld rfl rfl) (fun hg => ?_) (fun hg => ⟨fun h => absurd h hg, Ext.refl _⟩)
    refine (does_move (u := (Pt b_b b_o)) (ev rfl)).mono ?_; rintro _ _ ⟨rfl, rfl⟩
    exact ⟨fun _ => rfl, Ext.refl _⟩
  refine RW_d (fun v33 => [(Pt b_b b_o), Ud, (Bo false), v19, v20, v21, v22, v23, v24, v25, v26, v27, v28, v29, v30, v31, v32, v33, Ud, Ud, Ud, Ud, Ud, Ud, Ud, Ud, Ud, Ud, Ud, Ud, Ud, Ud, Ud, Ud, Ud, Ud, Ud, Ud, Ud, Ud, Ud, Ud, Ud, Ud, Ud, Ud, Ud, Ud, Ud, Ud, Ud, Ud, Ud, Ud]) rfl (fun _ => rfl) (fun u hu hF => ?_) (fun v33 => ?_)
  · have h16_ : β1 = true → v32 = (Pt b_b b_o) := hF.1
    have h15_ : v31 = (Bo β1) := hF.2.1
    clear hF
    obtain rfl := h15_
    refine doesG_g (b := β1) rfl (yld rfl rfl) (fun hg => ?_) (fun hg => ⟨fun h => absurd h hg, Ext.refl _⟩)
    obtain rfl := h16_ hg
    refine (does_nilCheck (ev rfl)).mono ?_; rintro _ _ ⟨rfl, rfl⟩
    exact ⟨fun _ => rfl, Ext.refl _⟩
  refine RW_d (fun v34 => [(Pt b_b b_o), Ud, (Bo false), v19, v20, v21, v22, v23, v24, v25, v26, v27, v28, v29, v30, v31, v32, v33, v34, Ud, Ud, Ud, Ud, Ud, Ud, Ud, Ud, Ud, Ud, Ud, Ud, Ud, Ud, Ud, Ud, Ud, Ud, Ud, Ud, Ud, Ud, Ud, Ud, Ud, Ud, Ud, Ud, Ud, Ud, Ud, Ud, Ud, Ud, Ud]) rfl (fun _ => rfl) (fun u hu hF => ?_) (fun v34 => ?_)
  · have h17_ : β1 = true → v33 = (Pt b_b b_o) := hF.1
    have h15_ : v31 = (Bo β1) := hF.2.1
    clear hF
    obtain rfl := h15_
    refine doesG_g (b := β1) rfl (yld rfl rfl) (fun hg => ?_) (fun hg => ⟨fun h => absurd h hg, Ext.refl _⟩)
    obtain rfl := h17_ hg
    refine (does_fieldAddr (ev rfl) fa33_0).mono ?_; rintro _ _ ⟨rfl, rfl⟩
    exact ⟨fun _ => rfl, Ext.refl _⟩
  refine RW_d (fun v35 => [(Pt b_b b_o), Ud, (Bo false), v19, v20, v21, v22, v23, v24, v25, v26, v27, v28, v29, v30, v31, v32, v33, v34, v35, Ud, Ud, Ud, Ud, Ud, Ud, Ud, Ud, Ud, Ud, Ud, Ud, Ud, Ud, Ud, Ud, Ud, Ud, Ud, Ud, Ud, Ud, Ud, Ud, Ud, Ud, Ud, Ud, Ud, Ud, Ud, Ud, Ud, Ud]) rfl (fun _ => rfl) (fun u hu hF => ?_) (fun v35 => ?_)
  · have h18_ : β1 = true → v34 = (Pt b_b b_o) := hF.1
    have h15_ : v31 = (Bo β1) := hF.2.1
    clear hF
    obtain rfl := h15_
    refine doesG_g (b := β1) rfl (yld rfl rfl) (fun hg => ?_) (fun hg => ⟨fun h => absurd h hg, Ext.refl _⟩)
    obtain rfl := h18_ hg
    refine (does_fieldAddr (ev rfl) fa31_0).mono ?_; rintro _ _ ⟨rfl, rfl⟩
    exact ⟨fun _ => rfl, Ext.refl _⟩
  refine RW_d (fun v36 => [(Pt b_b b_o), Ud, (Bo false), v19, v20, v21, v22, v23, v24, v25, v26, v27, v28, v29, v30, v31, v32, v33, v34, v35, v36, Ud, Ud, Ud, Ud, Ud, Ud, Ud, Ud, Ud, Ud, Ud, Ud, Ud, Ud, Ud, Ud, Ud, Ud, Ud, Ud, Ud, Ud, Ud, Ud, Ud, Ud, Ud, Ud, Ud, Ud, Ud, Ud, Ud]) rfl (fun _ => rfl) (fun u hu hF => ?_) (fun v36 => ?_)
  · have h19_ : β1 = true → v35 = (Pt b_b b_o) := hF.1
    have h15_ : v31 = (Bo β1) := hF.2.1
    clear hF
    obtain rfl := h15_
    refine doesG_g (b := β1) rfl (yld rfl rfl) (fun hg => ?_) (fun hg => ⟨fun h => absurd h hg, Ext.refl _⟩)
    obtain rfl := h19_ hg
    refine (does_load (u := (Fl r1)) (ev rfl) Try.isAgg25 (Cells.at ((hc_b.ext (Ext.gr (Ext.refl w) E16)).ext hu) 0 rfl)).mono ?_; rintro _ _ ⟨rfl, rfl⟩
    exact ⟨fun _ => rfl, Ext.refl _⟩
  refine RW_d (fun v37 => [(Pt b_b b_o), Ud, (Bo false), v19, v20, v21, v22, v23, v24, v25, v26, v27, v28, v29, v30, v31, v32, v33, v34, v35, v36, v37, Ud, Ud, Ud, Ud, Ud, Ud, Ud, Ud, Ud, Ud, Ud, Ud, Ud, Ud, Ud, Ud, Ud, Ud, Ud, Ud, Ud, Ud, Ud, Ud, Ud, Ud, Ud, Ud, Ud, Ud, Ud, Ud]) rfl (fun _ => rfl) (fun u hu hF => ?_) (fun v37 => ?_)
  · have h15_ : v31 = (Bo β1) := hF.1
    clear hF
    obtain rfl := h15_
    refine doesG_g (b := β1) rfl (yld rfl rfl) (fun hg => ?_) (fun hg => ⟨fun h => absurd h hg, Ext.refl _⟩)
    refine (does_move (u := (Pt b_b b_o)) (ev rfl)).mono ?_; rintro _ _ ⟨rfl, rfl⟩
    exact ⟨fun _ => rfl, Ext.refl _⟩
  refine RW_d (fun v38 => [(Pt b_b b_o), Ud, (Bo false), v19, v20, v21, v22, v23, v24, v25, v26, v27, v28, v29, v30, v31, v32, v33, v34, v35, v36, v37, v38, Ud, Ud, Ud, Ud, Ud, Ud, Ud, Ud, Ud, Ud, Ud, Ud, Ud, Ud, Ud, Ud, Ud, Ud, Ud, Ud, Ud, Ud, Ud, Ud, Ud, Ud, Ud, Ud, Ud, Ud, Ud]) rfl (fun _ => rfl) (fun u hu hF => ?_) (fun v38 => ?_)
  · have h21_ : β1 = true → v37 = (Pt b_b b_o) := hF.1
    have h15_ : v31 = (Bo β1) := hF.2.1
    clear hF
    obtain rfl := h15_
    refine doesG_g (b := β1) rfl (yld rfl rfl) (fun hg => ?_) (fun hg => ⟨fun h => absurd h hg, Ext.refl _⟩)
    obtain rfl := h21_ hg
    refine (does_nilCheck (ev rfl)).mono ?_; rintro _ _ ⟨rfl, rfl⟩
    exact ⟨fun _ => rfl, Ext.refl _⟩
  refine RW_d (fun v39 => [(Pt b_b b_o), Ud, (Bo false), v19, v20, v21, v22, v23, v24, v25, v26, v27, v28, v29, v30, v31, v32, v33, v34, v35, v36, v37, v38, v39, Ud, Ud, Ud, Ud, Ud, Ud, Ud, Ud, Ud, Ud, Ud, Ud, Ud, Ud, Ud, Ud, Ud, Ud, Ud, Ud, Ud, Ud, Ud, Ud, Ud, Ud, Ud, Ud, Ud, Ud]) rfl (fun _ => rfl) (fun u hu hF => ?_) (fun v39 => ?_)
  · have h22_ : β1 = true → v38 = (Pt b_b b_o) := hF.1
    have h15_ : v31 = (Bo β1) := hF.2.1
    clear hF
    obtain rfl := h15_
    refine doesG_g (b := β1) rfl (yld rfl rfl) (fun hg => ?_) (fun hg => ⟨fun h => absurd h hg, Ext.refl _⟩)
    obtain rfl := h22_ hg
    refine (does_fieldAddr (ev rfl) fa33_1).mono ?_; rintro _ _ ⟨rfl, rfl⟩
    exact ⟨fun _ => rfl, Ext.refl _⟩
  refine RW_d (fun v40 => [(Pt b_b b_o), Ud, (Bo false), v19, v20, v21, v22, v23, v24, v25, v26, v27, v28, v29, v30, v31, v32, v33, v34, v35, v36, v37, v38, v39, v40, Ud, Ud, Ud, Ud, Ud, Ud, Ud, Ud, Ud, Ud, Ud, Ud, Ud, Ud, Ud, Ud, Ud, Ud, Ud, Ud, Ud, Ud, Ud, Ud, Ud, Ud, Ud, Ud, Ud]) rfl (fun _ => rfl) (fun u hu hF => ?_) (fun v40 => ?_)
  · have h23_ : β1 = true → v39 = (Pt b_b (b_o + 3)) := hF.1
    have h15_ : v31 = (Bo β1) := hF.2.1
    clear hF
    obtain rfl := h15_
    refine doesG_g (b := β1) rfl (yld rfl rfl) (fun hg => ?_) (fun hg => ⟨fun h => absurd h hg, Ext.refl _⟩)
    obtain rfl := h23_ hg
    refine (does_fieldAddr (ev rfl) fa31_0).mono ?_; rintro _ _ ⟨rfl, rfl⟩
    exact ⟨fun _ => rfl, Ext.refl _⟩
  refine RW_d (fun v41 => [(Pt b_b b_o), Ud, (Bo false), v19, v20, v21, v22, v23, v24, v25, v26, v27, v28, v29, v30, v31, v32, v33, v34, v35, v36, v37, v38, v39, v40, v41, Ud, Ud, Ud, Ud, Ud, Ud, Ud, Ud, Ud, Ud, Ud, Ud, Ud, Ud, Ud, Ud, Ud, Ud, Ud, Ud, Ud, Ud, Ud, Ud, Ud, Ud, Ud, Ud]) rfl (fun _ => rfl) (fun u hu hF => ?_) (fun v41 => ?_)
  · have h24_ : β1 = true → v40 = (Pt b_b (b_o + 3)) := hF.1
    have h15_ : v31 = (Bo β1) := hF.2.1
    clear hF
    obtain rfl := h15_
    refine doesG_g (b := β1) rfl (yld rfl rfl) (fun hg => ?_) (fun hg => ⟨fun h => absurd h hg, Ext.refl _⟩)
    obtain rfl := h24_ hg
    refine (does_load (u := (Fl r7)) (ev rfl) Try.isAgg25 (Cells.at ((hc_b.ext (Ext.gr (Ext.refl w) E16)).ext hu) 3 rfl)).mono ?_; rintro _ _ ⟨rfl, rfl⟩
    exact ⟨fun _ => rfl, Ext.refl _⟩
  refine RW_d (fun v42 => [(Pt b_b b_o), Ud, (Bo false), v19, v20, v21, v22, v23, v24, v25, v26, v27, v28, v29, v30, v31, v32, v33, v34, v35, v36, v37, v38, v39, v40, v41, v42, Ud, Ud, Ud, Ud, Ud, Ud, Ud, Ud, Ud, Ud, Ud, Ud, Ud, Ud, Ud, Ud, Ud, Ud, Ud, Ud, Ud, Ud, Ud, Ud, Ud, Ud, Ud]) rfl (fun _ => rfl) (fun u hu hF => ?_) (fun v42 => ?_)
  · have h20_ : β1 = true → v36 = (Fl r1) := hF.1
    have h25_ : β1 = true → v41 = (Fl r7) := hF.2.1
    have h15_ : v31 = (Bo β1) := hF.2.2.1
    clear hF
    obtain rfl := h15_
    refine doesG_g (b := β1) rfl (yld rfl rfl) (fun hg => ?_) (fun hg => ⟨fun h => absurd h hg, Ext.refl _⟩)
    obtain rfl := h20_ hg
    obtain rfl := h25_ hg
    refine (does_fcmp (.inr (.inr (.inr (.inl rfl)))) (ev rfl) (ev rfl)).mono ?_; rintro _ _ ⟨rfl, rfl⟩
    exact ⟨fun _ => (by show _ = _; simp only [hβ2]), Ext.refl _⟩
  refine RW_d (fun v43 => [(Pt b_b b_o), Ud, (Bo false), v19, v20, v21, v22, v23, v24, v25, v26, v27, v28, v29, v30, v31, v32, v33, v34, v35, v36, v37, v38, v39, v40, v41, v42, v43, Ud, Ud, Ud, Ud, Ud, Ud, Ud, Ud, Ud, Ud, Ud, Ud, Ud, Ud, Ud, Ud, Ud, Ud, Ud, Ud, Ud, Ud, Ud, Ud, Ud, Ud]) rfl (fun _ => rfl) (fun u hu hF => ?_) (fun v43 => ?_)
  · have h15_ : v31 = (Bo β1) := hF.1
    have h26_ : β1 = true → v42 = (Bo β2) := hF.2.1
    clear hF
    obtain rfl := h15_
    refine doesG_un rfl ((does_pick (b := β1) (ev rfl) (ev rfl) (ev rfl)).mono ?_); rintro _ _ ⟨rfl, rfl⟩; refine ⟨?_, Ext.refl _⟩; skip
    cases hbb : β1 <;> simp [hbb] at h26_ ⊢
    all_goals (first | rfl | (subst h26_; rfl) | simp_all)
  refine RW_d (fun v44 => [(Pt b_b b_o), Ud, (Bo false), v19, v20, v21, v22, v23, v24, v25, v26, v27, v28, v29, v30, v31, v32, v33, v34, v35, v36, v37, v38, v39, v40, v41, v42, v43, v44, Ud, Ud, Ud, Ud, Ud, Ud, Ud, Ud, Ud, Ud, Ud, Ud, Ud, Ud, Ud, Ud, Ud, Ud, Ud, Ud, Ud, Ud, Ud, Ud, Ud]) rfl (fun _ => rfl) (fun u hu hF => ?_) (fun v44 => ?_)
  · have h27_ : v43 = (Bo (β1 && β2)) := hF.1
    clear hF
    obtain rfl := h27_
    refine doesG_un rfl ?_
    refine (does_move (u := (Bo (β1 && β2))) (ev rfl)).mono ?_; rintro _ _ ⟨rfl, rfl⟩
    exact ⟨rfl, Ext.refl _⟩
  refine RW_d (fun v45 => [(Pt b_b b_o), Ud, (Bo false), v19, v20, v21, v22, v23, v24, v25, v26, v27, v28, v29, v30, v31, v32, v33, v34, v35, v36, v37, v38, v39, v40, v41, v42, v43, v44, v45, Ud, Ud, Ud, Ud, Ud, Ud, Ud, Ud, Ud, Ud, Ud, Ud, Ud, Ud, Ud, Ud, Ud, Ud, Ud, Ud, Ud, Ud, Ud, Ud]) rfl (fun _ => rfl) (fun u hu hF => ?_) (fun v45 => ?_)
  · have h28_ : v44 = (Bo (β1 && β2)) := hF.1
    clear hF
    obtain rfl := h28_
    refine doesG_g (b := (β1 && β2)) rfl (yld rfl rfl) (fun hg => ?_) (fun hg => ⟨fun h => absurd h hg, Ext.refl _⟩)
    refine (does_move (u := (Pt b_b b_o)) (ev rfl)).mono ?_; rintro _ _ ⟨rfl, rfl⟩
    exact ⟨fun _ => rfl, Ext.refl _⟩
  refine RW_d (fun v46 => [(Pt b_b b_o), Ud, (Bo false), v19, v20, v21, v22, v23, v24, v25, v26, v27, v28, v29, v30, v31, v32, v33, v34, v35, v36, v37, v38, v39, v40, v41, v42, v43, v44, v45, v46, Ud, Ud, Ud, Ud, Ud, Ud, Ud, Ud, Ud, Ud, Ud, Ud, Ud, Ud, Ud, Ud, Ud, Ud, Ud, Ud, Ud, Ud, Ud]) rfl (fun _ => rfl) (fun u hu hF => ?_) (fun v46 => ?_)
  · have h29_ : (β1 && β2) = true → v45 = (Pt b_b b_o) := hF.1
    have h28_ : v44 = (Bo (β1 && β2)) := hF.2.1
    clear hF
    obtain rfl := h28_
    refine doesG_g (b := (β1 && β2)) rfl (yld rfl rfl) (fun hg => ?_) (fun hg => ⟨fun h => absurd h hg, Ext.refl _⟩)
    obtain rfl := h29_ hg
    refine (does_nilCheck (ev rfl)).mono ?_; rintro _ _ ⟨rfl, rfl⟩
    exact ⟨fun _ => rfl, Ext.refl _⟩
  refine RW_d (fun v47 => [(Pt b_b b_o), Ud, (Bo false), v19, v20, v21, v22, v23, v24, v25, v26, v27, v28, v29, v30, v31, v32, v33, v34, v35, v36, v37, v38, v39, v40, v41, v42, v43, v44, v45, v46, v47, Ud, Ud, Ud, Ud, Ud, Ud, Ud, Ud, Ud, Ud, Ud, Ud, Ud, Ud, Ud, Ud, Ud, Ud, Ud, Ud, Ud, Ud]) rfl (fun _ => rfl) (fun u hu hF => ?_) (fun v47 => ?_)
  · have h30_ : (β1 && β2) = true → v46 = (Pt b_b b_o) := hF.1
    have h28_ : v44 = (Bo (β1 && β2)) := hF.2.1
    clear hF
    obtain rfl := h28_
    refine doesG_g (b := (β1 && β2)) rfl (yld rfl rfl) (fun hg => ?_) (fun hg => ⟨fun h => absurd h hg, Ext.refl _⟩)
    obtain rfl := h30_ hg
    refine (does_fieldAddr (ev rfl) fa33_0).mono ?_; rintro _ _ ⟨rfl, rfl⟩
    exact ⟨fun _ => rfl, Ext.refl _⟩
  refine RW_d (fun v48 => [(Pt b_b b_o), Ud, (Bo false), v19, v20, v21, v22, v23, v24, v25, v26, v27, v28, v29, v30, v31, v32, v33, v34, v35, v36, v37, v38, v39, v40, v41, v42, v43, v44, v45, v46, v47, v48, Ud, Ud, Ud, Ud, Ud, Ud, Ud, Ud, Ud, Ud, Ud, Ud, Ud, Ud, Ud, Ud, Ud, Ud, Ud, Ud, Ud]) rfl (fun _ => rfl) (fun u hu hF => ?_) (fun v48 => ?_)
  · have h31_ : (β1 && β2) = true → v47 = (Pt b_b b_o) := hF.1
    have h28_ : v44 = (Bo (β1 && β2)) := hF.2.1
    clear hF
    obtain rfl := h28_
    refine doesG_g (b := (β1 && β2)) rfl (yld rfl rfl) (fun hg => ?_) (fun hg => ⟨fun h => absurd h hg, Ext.refl _⟩)
    obtain rfl := h31_ hg
    refine (does_fieldAddr (ev rfl) fa31_1).mono ?_; rintro _ _ ⟨rfl, rfl⟩
    exact ⟨fun _ => rfl, Ext.refl _⟩
  refine RW_d (fun v49 => [(Pt b_b b_o), Ud, (Bo false), v19, v20, v21, v22, v23, v24, v25, v26, v27, v28, v29, v30, v31, v32, v33, v34, v35, v36, v37, v38, v39, v40, v41, v42, v43, v44, v45, v46, v47, v48, v49, Ud, Ud, Ud, Ud, Ud, Ud, Ud, Ud, Ud, Ud, Ud, Ud, Ud, Ud, Ud, Ud, Ud, Ud, Ud, Ud]) rfl (fun _ => rfl) (fun u hu hF => ?_) (fun v49 => ?_)
  · have h32_ : (β1 && β2) = true → v48 = (Pt b_b (b_o + 1)) := hF.1
    have h28_ : v44 = (Bo (β1 && β2)) := hF.2.1
    clear hF
    obtain rfl := h28_
    refine doesG_g (b := (β1 && β2)) rfl (yld rfl rfl) (fun hg => ?_) (fun hg => ⟨fun h => absurd h hg, Ext.refl _⟩)
    obtain rfl := h32_ hg
    refine (does_load (u := (Fl r3)) (ev rfl) Try.isAgg25 (Cells.at ((hc_b.ext (Ext.gr (Ext.refl w) E16)).ext hu) 1 rfl)).mono ?_; rintro _ _ ⟨rfl, rfl⟩
    exact ⟨fun _ => rfl, Ext.refl _⟩
  refine RW_d (fun v50 => [(Pt b_b b_o), Ud, (Bo false), v19, v20, v21, v22, v23, v24, v25, v26, v27, v28, v29, v30, v31, v32, v33, v34, v35, v36, v37, v38, v39, v40, v41, v42, v43, v44, v45, v46, v47, v48, v49, v50, Ud, Ud, Ud, Ud, Ud, Ud, Ud, Ud, Ud, Ud, Ud, Ud, Ud, Ud, Ud, Ud, Ud, Ud, Ud]) rfl (fun _ => rfl) (fun u hu hF => ?_) (fun v50 => ?_)
  · have h28_ : v44 = (Bo (β1 && β2)) := hF.1
    clear hF
    obtain rfl := h28_
    refine doesG_g (b := (β1 && β2)) rfl (yld rfl rfl) (fun hg => ?_) (fun hg => ⟨fun h => absurd h hg, Ext.refl _⟩)
    refine (does_move (u := (Pt b_b b_o)) (ev rfl)).mono ?_; rintro _ _ ⟨rfl, rfl⟩
    exact ⟨fun _ => rfl, Ext.refl _⟩
  refine RW_d (fun v51 => [(Pt b_b b_o), Ud, (Bo false), v19, v20, v21, v22, v23, v24, v25, v26, v27, v28, v29, v30, v31, v32, v33, v34, v35, v36, v37, v38, v39, v40, v41, v42, v43, v44, v45, v46, v47, v48, v49, v50, v51, Ud, Ud, Ud, Ud, Ud, Ud, Ud, Ud, Ud, Ud, Ud, Ud, Ud, Ud, Ud, Ud, Ud, Ud]) rfl (fun _ => rfl) (fun u hu hF => ?_) (fun v51 => ?_)
  · have h34_ : (β1 && β2) = true → v50 = (Pt b_b b_o) := hF.1
    have h28_ : v44 = (Bo (β1 && β2)) := hF.2.1
    clear hF
    obtain rfl := h28_
    refine doesG_g (b := (β1 && β2)) rfl (yld rfl rfl) (fun hg => ?_) (fun hg => ⟨fun h => absurd h hg, Ext.refl _⟩)
    obtain rfl := h34_ hg
    refine (does_nilCheck (ev rfl)).mono ?_; rintro _ _ ⟨rfl, rfl⟩
    exact ⟨fun _ => rfl, Ext.refl _⟩
  refine RW_d (fun v52 => [(Pt b_b b_o), Ud, (Bo false), v19, v20, v21, v22, v23, v24, v25, v26, v27, v28, v29, v30, v31, v32, v33, v34, v35, v36, v37, v38, v39, v40, v41, v42, v43, v44, v45, v46, v47, v48, v49, v50, v51, v52, Ud, Ud, Ud, Ud, Ud, Ud, Ud, Ud, Ud, Ud, Ud, Ud, Ud, Ud, Ud, Ud, Ud]) rfl (fun _ => rfl) (fun u hu hF => ?_) (fun v52 => ?_)
  · have h35_ : (β1 && β2) = true → v51 = (Pt b_b b_o) := hF.1
    have h28_ : v44 = (Bo (β1 && β2)) := hF.2.1
    clear hF
    obtain rfl := h28_
    refine doesG_g (b := (β1 && β2)) rfl (yld rfl rfl) (fun hg => ?_) (fun hg => ⟨fun h => absurd h hg, Ext.refl _⟩)
    obtain rfl := h35_ hg
    refine (does_fieldAddr (ev rfl) fa33_1).mono ?_; rintro _ _ ⟨rfl, rfl⟩
    exact ⟨fun _ => rfl, Ext.refl _⟩
  refine RW_d (fun v53 => [(Pt b_b b_o), Ud, (Bo false), v19, v20, v21, v22, v23, v24, v25, v26, v27, v28, v29, v30, v31, v32, v33, v34, v35, v36, v37, v38, v39, v40, v41, v42, v43, v44, v45, v46, v47, v48, v49, v50, v51, v52, v53, Ud, Ud, Ud, Ud, Ud, Ud, Ud, Ud, Ud, Ud, Ud, Ud, Ud, Ud, Ud, Ud]) rfl (fun _ => rfl) (fun u hu hF => ?_) (fun v53 => ?_)
  · have h36_ : (β1 && β2) = true → v52 = (Pt b_b (b_o + 3)) := hF.1
    have h28_ : v44 = (Bo (β1 && β2)) := hF.2.1
    clear hF
    obtain rfl := h28_
    refine doesG_g (b := (β1 && β2)) rfl (yld rfl rfl) (fun hg => ?_) (fun hg => ⟨fun h => absurd h hg, Ext.refl _⟩)
    obtain rfl := h36_ hg
    refine (does_fieldAddr (ev rfl) fa31_1).mono ?_; rintro _ _ ⟨rfl, rfl⟩
    exact ⟨fun _ => rfl, Ext.refl _⟩
  refine RW_d (fun v54 => [(Pt b_b b_o), Ud, (Bo false), v19, v20, v21, v22, v23, v24, v25, v26, v27, v28, v29, v30, v31, v32, v33, v34, v35, v36, v37, v38, v39, v40, v41, v42, v43, v44, v45, v46, v47, v48, v49, v50, v51, v52, v53, v54, Ud, Ud, Ud, Ud, Ud, Ud, Ud, Ud, Ud, Ud, Ud, Ud, Ud, Ud, Ud]) rfl (fun _ => rfl) (fun u hu hF => ?_) (fun v54 => ?_)
  · have h37_ : (β1 && β2) = true → v53 = (Pt b_b (b_o + 4)) := hF.1
    have h28_ : v44 = (Bo (β1 && β2)) := hF.2.1
    clear hF
    obtain rfl := h28_
    refine doesG_g (b := (β1 && β2)) rfl (yld rfl rfl) (fun hg => ?_) (fun hg => ⟨fun h => absurd h hg, Ext.refl _⟩)
    obtain rfl := h37_ hg
    refine (does_load (u := (Fl r9)) (ev rfl) Try.isAgg25 (Cells.at ((hc_b.ext (Ext.gr (Ext.refl w) E16)).ext hu) 4 rfl)).mono ?_; rintro _ _ ⟨rfl, rfl⟩
    exact ⟨fun _ => rfl, Ext.refl _⟩
  refine RW_d (fun v55 => [(Pt b_b b_o), Ud, (Bo false), v19, v20, v21, v22, v23, v24, v25, v26, v27, v28, v29, v30, v31, v32, v33, v34, v35, v36, v37, v38, v39, v40, v41, v42, v43, v44, v45, v46, v47, v48, v49, v50, v51, v52, v53, v54, v55, Ud, Ud, Ud, Ud, Ud, Ud, Ud, Ud, Ud, Ud, Ud, Ud, Ud, Ud]) rfl (fun _ => rfl) (fun u hu hF => ?_) (fun v55 => ?_)
  · have h33_ : (β1 && β2) = true → v49 = (Fl r3) := hF.1
    have h38_ : (β1 && β2) = true → v54 = (Fl r9) := hF.2.1
    have h28_ : v44 = (Bo (β1 && β2)) := hF.2.2.1
    clear hF
    obtain rfl := h28_
    refine doesG_g (b := (β1 && β2)) rfl (yld rfl rfl) (fun hg => ?_) (fun hg => ⟨fun h => absurd h hg, Ext.refl _⟩)
    obtain rfl := h33_ hg
    obtain rfl := h38_ hg
    refine (does_fcmp (.inr (.inr (.inr (.inl rfl)))) (ev rfl) (ev rfl)).mono ?_; rintro _ _ ⟨rfl, rfl⟩
    exact ⟨fun _ => (by show _ = _; simp only [hβ3]), Ext.refl _⟩
  refine RW_d (fun v56 => [(Pt b_b b_o), Ud, (Bo false), v19, v20, v21, v22, v23, v24, v25, v26, v27, v28, v29, v30, v31, v32, v33, v34, v35, v36, v37, v38, v39, v40, v41, v42, v43, v44, v45, v46, v47, v48, v49, v50, v51, v52, v53, v54, v55, v56, Ud, Ud, Ud, Ud, Ud, Ud, Ud, Ud, Ud, Ud, Ud, Ud, Ud]) rfl (fun _ => rfl) (fun u hu hF => ?_) (fun v56 => ?_)
  · have h28_ : v44 = (Bo (β1 && β2)) := hF.1
    have h39_ : (β1 && β2) = true → v55 = (Bo β3) := hF.2.1
    clear hF
    obtain rfl := h28_
    refine doesG_un rfl ((does_pick (b := (β1 && β2)) (ev rfl) (ev rfl) (ev rfl)).mono ?_); rintro _ _ ⟨rfl, rfl⟩; refine ⟨?_, Ext.refl _⟩; skip
    cases hbb : (β1 && β2) <;> simp [hbb] at h39_ ⊢
    all_goals (first | rfl | (subst h39_; rfl) | simp_all)
  refine RW_d (fun v57 => [(Pt b_b b_o), Ud, (Bo false), v19, v20, v21, v22, v23, v24, v25, v26, v27, v28, v29, v30, v31, v32, v33, v34, v35, v36, v37, v38, v39, v40, v41, v42, v43, v44, v45, v46, v47, v48, v49, v50, v51, v52, v53, v54, v55, v56, v57, Ud, Ud, Ud, Ud, Ud, Ud, Ud, Ud, Ud, Ud, Ud, Ud]) rfl (fun _ => rfl) (fun u hu hF => ?_) (fun v57 => ?_)
  · have h40_ : v56 = (Bo ((β1 && β2) && β3)) := hF.1
    clear hF
    obtain rfl := h40_
    refine doesG_un rfl ?_
    refine (does_move (u := (Bo ((β1 && β2) && β3))) (ev rfl)).mono ?_; rintro _ _ ⟨rfl, rfl⟩
    exact ⟨rfl, Ext.refl _⟩
  refine RW_d (fun v58 => [(Pt b_b b_o), Ud, (Bo false), v19, v20, v21, v22, v23, v24, v25, v26, v27, v28, v29, v30, v31, v32, v33, v34, v35, v36, v37, v38, v39, v40, v41, v42, v43, v44, v45, v46, v47, v48, v49, v50, v51, v52, v53, v54, v55, v56, v57, v58, Ud, Ud, Ud, Ud, Ud, Ud, Ud, Ud, Ud, Ud, Ud]) rfl (fun _ => rfl) (fun u hu hF => ?_) (fun v58 => ?_)
  · have h41_ : v57 = (Bo ((β1 && β2) && β3)) := hF.1
    clear hF
    obtain rfl := h41_
    refine doesG_g (b := ((β1 && β2) && β3)) rfl (yld rfl rfl) (fun hg => ?_) (fun hg => ⟨fun h => absurd h hg, Ext.refl _⟩)
    refine (does_move (u := (Pt b_b b_o)) (ev rfl)).mono ?_; rintro _ _ ⟨rfl, rfl⟩
    exact ⟨fun _ => rfl, Ext.refl _⟩
  refine RW_d (fun v59 => [(Pt b_b b_o), Ud, (Bo false), v19, v20, v21, v22, v23, v24, v25, v26, v27, v28, v29, v30, v31, v32, v33, v34, v35, v36, v37, v38, v39, v40, v41, v42, v43, v44, v45, v46, v47, v48, v49, v50, v51, v52, v53, v54, v55, v56, v57, v58, v59, Ud, Ud, Ud, Ud, Ud, Ud, Ud, Ud, Ud, Ud]) rfl (fun _ => rfl) (fun u hu hF => ?_) (fun v59 => ?_)
  · have h42_ : ((β1 && β2) && β3) = true → v58 = (Pt b_b b_o) := hF.1
    have h41_ : v57 = (Bo ((β1 && β2) && β3)) := hF.2.1
    clear hF
    obtain rfl := h41_
    refine doesG_g (b := ((β1 && β2) && β3)) rfl (yld rfl rfl) (fun hg => ?_) (fun hg => ⟨fun h => absurd h hg, Ext.refl _⟩)
    obtain rfl := h42_ hg
    refine (does_nilCheck (ev rfl)).mono ?_; rintro _ _ ⟨rfl, rfl⟩
    exact ⟨fun _ => rfl, Ext.refl _⟩
  refine RW_d (fun v60 => [(Pt b_b b_o), Ud, (Bo false), v19, v20, v21, v22, v23, v24, v25, v26, v27, v28, v29, v30, v31, v32, v33, v34, v35, v36, v37, v38, v39, v40, v41, v42, v43, v44, v45, v46, v47, v48, v49, v50, v51, v52, v53, v54, v55, v56, v57, v58, v59, v60, Ud, Ud, Ud, Ud, Ud, Ud, Ud, Ud, Ud]) rfl (fun _ => rfl) (fun u hu hF => ?_) (fun v60 => ?_)
  · have h43_ : ((β1 && β2) && β3) = true → v59 = (Pt b_b b_o) := hF.1
    have h41_ : v57 = (Bo ((β1 && β2) && β3)) := hF.2.1
    clear hF
    obtain rfl := h41_
    refine doesG_g (b := ((β1 && β2) && β3)) rfl (yld rfl rfl) (fun hg => ?_) (fun hg => ⟨fun h => absurd h hg, Ext.refl _⟩)
    obtain rfl := h43_ hg
    refine (does_fieldAddr (ev rfl) fa33_0).mono ?_; rintro _ _ ⟨rfl, rfl⟩
    exact ⟨fun _ => rfl, Ext.refl _⟩
  refine RW_d (fun v61 => [(Pt b_b b_o), Ud, (Bo false), v19, v20, v21, v22, v23, v24, v25, v26, v27, v28, v29, v30, v31, v32, v33, v34, v35, v36, v37, v38, v39, v40, v41, v42, v43, v44, v45, v46, v47, v48, v49, v50, v51, v52, v53, v54, v55, v56, v57, v58, v59, v60, v61, Ud, Ud, Ud, Ud, Ud, Ud, Ud, Ud]) rfl (fun _ => rfl) (fun u hu hF => ?_) (fun v61 => ?_)
  · have h44_ : ((β1 && β2) && β3) = true → v60 = (Pt b_b b_o) := hF.1
    have h41_ : v57 = (Bo ((β1 && β2) && β3)) := hF.2.1
    clear hF
    obtain rfl := h41_
    refine doesG_g (b := ((β1 && β2) && β3)) rfl (yld rfl rfl) (fun hg => ?_) (fun hg => ⟨fun h => absurd h hg, Ext.refl _⟩)
    obtain rfl := h44_ hg
    refine (does_fieldAddr (ev rfl) fa31_2).mono ?_; rintro _ _ ⟨rfl, rfl⟩
    exact ⟨fun _ => rfl, Ext.refl _⟩
  refine RW_d (fun v62 => [(Pt b_b b_o), Ud, (Bo false), v19, v20, v21, v22, v23, v24, v25, v26, v27, v28, v29, v30, v31, v32, v33, v34, v35, v36, v37, v38, v39, v40, v41, v42, v43, v44, v45, v46, v47, v48, v49, v50, v51, v52, v53, v54, v55, v56, v57, v58, v59, v60, v61, v62, Ud, Ud, Ud, Ud, Ud, Ud, Ud]) rfl (fun _ => rfl) (fun u hu hF => ?_) (fun v62 => ?_)
  · have h45_ : ((β1 && β2) && β3) = true → v61 = (Pt b_b (b_o + 2)) := hF.1
    have h41_ : v57 = (Bo ((β1 && β2) && β3)) := hF.2.1
    clear hF
    obtain rfl := h41_
    refine doesG_g (b := ((β1 && β2) && β3)) rfl (yld rfl rfl) (fun hg => ?_) (fun hg => ⟨fun h => absurd h hg, Ext.refl _⟩)
    obtain rfl := h45_ hg
    refine (does_load (u := (Fl r5)) (ev rfl) Try.isAgg25 (Cells.at ((hc_b.ext (Ext.gr (Ext.refl w) E16)).ext hu) 2 rfl)).mono ?_; rintro _ _ ⟨rfl, rfl⟩
    exact ⟨fun _ => rfl, Ext.refl _⟩
  refine RW_d (fun v63 => [(Pt b_b b_o), Ud, (Bo false), v19, v20, v21, v22, v23, v24, v25, v26, v27, v28, v29, v30, v31, v32, v33, v34, v35, v36, v37, v38, v39, v40, v41, v42, v43, v44, v45, v46, v47, v48, v49, v50, v51, v52, v53, v54, v55, v56, v57, v58, v59, v60, v61, v62, v63, Ud, Ud, Ud, Ud, Ud, Ud]) rfl (fun _ => rfl) (fun u hu hF => ?_) (fun v63 => ?_)
  · have h41_ : v57 = (Bo ((β1 && β2) && β3)) := hF.1
    clear hF
    obtain rfl := h41_
    refine doesG_g (b := ((β1 && β2) && β3)) rfl (yld rfl rfl) (fun hg => ?_) (fun hg => ⟨fun h => absurd h hg, Ext.refl _⟩)
    refine (does_move (u := (Pt b_b b_o)) (ev rfl)).mono ?_; rintro _ _ ⟨rfl, rfl⟩
    exact ⟨fun _ => rfl, Ext.refl _⟩
  refine RW_d (fun v64 => [(Pt b_b b_o), Ud, (Bo false), v19, v20, v21, v22, v23, v24, v25, v26, v27, v28, v29, v30, v31, v32, v33, v34, v35, v36, v37, v38, v39, v40, v41, v42, v43, v44, v45, v46, v47, v48, v49, v50, v51, v52, v53, v54, v55, v56, v57, v58, v59, v60, v61, v62, v63, v64, Ud, Ud, Ud, Ud, Ud]) rfl (fun _ => rfl) (fun u hu hF => ?_) (fun v64 => ?_)
  · have h47_ : ((β1 && β2) && β3) = true → v63 = (Pt b_b b_o) := hF.1
    have h41_ : v57 = (Bo ((β1 && β2) && β3)) := hF.2.1
    clear hF
    obtain rfl := h41_
    refine doesG_g (b := ((β1 && β2) && β3)) rfl (yld rfl rfl) (fun hg => ?_) (fun hg => ⟨fun h => absurd h hg, Ext.refl _⟩)
    obtain rfl := h47_ hg
    refine (does_nilCheck (ev rfl)).mono ?_; rintro _ _ ⟨rfl, rfl⟩
    exact ⟨fun _ => rfl, Ext.refl _⟩
  refine RW_d (fun v65 => [(Pt b_b b_o), Ud, (Bo false), v19, v20, v21, v22, v23, v24, v25, v26, v27, v28, v29, v30, v31, v32, v33, v34, v35, v36, v37, v38, v39, v40, v41, v42, v43, v44, v45, v46, v47, v48, v49, v50, v51, v52, v53, v54, v55, v56, v57, v58, v59, v60, v61, v62, v63, v64, v65, Ud, Ud, Ud, Ud]) rfl (fun _ => rfl) (fun u hu hF => ?_) (fun v65 => ?_)
  · have h48_ : ((β1 && β2) && β3) = true → v64 = (Pt b_b b_o) := hF.1
    have h41_ : v57 = (Bo ((β1 && β2) && β3)) := hF.2.1
    clear hF
    obtain rfl := h41_
    refine doesG_g (b := ((β1 && β2) && β3)) rfl (yld rfl rfl) (fun hg => ?_) (fun hg => ⟨fun h => absurd h hg, Ext.refl _⟩)
    obtain rfl := h48_ hg
    refine (does_fieldAddr (ev rfl) fa33_1).mono ?_; rintro _ _ ⟨rfl, rfl⟩
    exact ⟨fun _ => rfl, Ext.refl _⟩
  refine RW_d (fun v66 => [(Pt b_b b_o), Ud, (Bo false), v19, v20, v21, v22, v23, v24, v25, v26, v27, v28, v29, v30, v31, v32, v33, v34, v35, v36, v37, v38, v39, v40, v41, v42, v43, v44, v45, v46, v47, v48, v49, v50, v51, v52, v53, v54, v55, v56, v57, v58, v59, v60, v61, v62, v63, v64, v65, v66, Ud, Ud, Ud]) rfl (fun _ => rfl) (fun u hu hF => ?_) (fun v66 => ?_)
  · have h49_ : ((β1 && β2) && β3) = true → v65 = (Pt b_b (b_o + 3)) := hF.1
    have h41_ : v57 = (Bo ((β1 && β2) && β3)) := hF.2.1
    clear hF
    obtain rfl := h41_
    refine doesG_g (b := ((β1 && β2) && β3)) rfl (yld rfl rfl) (fun hg => ?_) (fun hg => ⟨fun h => absurd h hg, Ext.refl _⟩)
    obtain rfl := h49_ hg
    refine (does_fieldAddr (ev rfl) fa31_2).mono ?_; rintro _ _ ⟨rfl, rfl⟩
    exact ⟨fun _ => rfl, Ext.refl _⟩
  refine RW_d (fun v67 => [(Pt b_b b_o), Ud, (Bo false), v19, v20, v21, v22, v23, v24, v25, v26, v27, v28, v29, v30, v31, v32, v33, v34, v35, v36, v37, v38, v39, v40, v41, v42, v43, v44, v45, v46, v47, v48, v49, v50, v51, v52, v53, v54, v55, v56, v57, v58, v59, v60, v61, v62, v63, v64, v65, v66, v67, Ud, Ud]) rfl (fun _ => rfl) (fun u hu hF => ?_) (fun v67 => ?_)
  · have h50_ : ((β1 && β2) && β3) = true → v66 = (Pt b_b (b_o + 5)) := hF.1
    have h41_ : v57 = (Bo ((β1 && β2) && β3)) := hF.2.1
    clear hF
    obtain rfl := h41_
    refine doesG_g (b := ((β1 && β2) && β3)) rfl (yld rfl rfl) (fun hg => ?_) (fun hg => ⟨fun h => absurd h hg, Ext.refl _⟩)
    obtain rfl := h50_ hg
    refine (does_load (u := (Fl r11)) (ev rfl) Try.isAgg25 (Cells.at ((hc_b.ext (Ext.gr (Ext.refl w) E16)).ext hu) 5 rfl)).mono ?_; rintro _ _ ⟨rfl, rfl⟩
    exact ⟨fun _ => rfl, Ext.refl _⟩
  refine RW_d (fun v68 => [(Pt b_b b_o), Ud, (Bo false), v19, v20, v21, v22, v23, v24, v25, v26, v27, v28, v29, v30, v31, v32, v33, v34, v35, v36, v37, v38, v39, v40, v41, v42, v43, v44, v45, v46, v47, v48, v49, v50, v51, v52, v53, v54, v55, v56, v57, v58, v59, v60, v61, v62, v63, v64, v65, v66, v67, v68, Ud]) rfl (fun _ => rfl) (fun u hu hF => ?_) (fun v68 => ?_)
  · have h46_ : ((β1 && β2) && β3) = true → v62 = (Fl r5) := hF.1
    have h51_ : ((β1 && β2) && β3) = true → v67 = (Fl r11) := hF.2.1
    have h41_ : v57 = (Bo ((β1 && β2) && β3)) := hF.2.2.1
    clear hF
    obtain rfl := h41_
    refine doesG_g (b := ((β1 && β2) && β3)) rfl (yld rfl rfl) (fun hg => ?_) (fun hg => ⟨fun h => absurd h hg, Ext.refl _⟩)
    obtain rfl := h46_ hg
    obtain rfl := h51_ hg
    refine (does_fcmp (.inr (.inr (.inr (.inl rfl)))) (ev rfl) (ev rfl)).mono ?_; rintro _ _ ⟨rfl, rfl⟩
    exact ⟨fun _ => (by show _ = _; simp only [hβ4]), Ext.refl _⟩
  refine RW_d (fun v69 => [(Pt b_b b_o), Ud, (Bo false), v19, v20, v21, v22, v23, v24, v25, v26, v27, v28, v29, v30, v31, v32, v33, v34, v35, v36, v37, v38, v39, v40, v41, v42, v43, v44, v45, v46, v47, v48, v49, v50, v51, v52, v53, v54, v55, v56, v57, v58, v59, v60, v61, v62, v63, v64, v65, v66, v67, v68, v69]) rfl (fun _ => rfl) (fun u hu hF => ?_) (fun v69 => ?_)
  · have h41_ : v57 = (Bo ((β1 && β2) && β3)) := hF.1
    have h52_ : ((β1 && β2) && β3) = true → v68 = (Bo β4) := hF.2.1
    clear hF
    obtain rfl := h41_
    refine doesG_un rfl ((does_pick (b := ((β1 && β2) && β3)) (ev rfl) (ev rfl) (ev rfl)).mono ?_); rintro _ _ ⟨rfl, rfl⟩; refine ⟨?_, Ext.refl _⟩; skip
    cases hbb : ((β1 && β2) && β3) <;> simp [hbb] at h52_ ⊢
    all_goals (first | rfl | (subst h52_; rfl) | simp_all)
  refine RW_fin ?_; intro w70 E71 hP72
  obtain ⟨⟨⟨⟨⟨⟨⟨⟨⟨⟨⟨⟨⟨⟨⟨⟨⟨⟨⟨⟨⟨⟨⟨⟨⟨⟨⟨⟨⟨⟨⟨⟨⟨⟨⟨⟨⟨⟨⟨⟨⟨⟨⟨⟨⟨⟨⟨⟨⟨⟨⟨-, -⟩, -⟩, -⟩, -⟩, -⟩, -⟩, -⟩, -⟩, -⟩, -⟩, -⟩, -⟩, -⟩, -⟩, -⟩, -⟩, -⟩, -⟩, -⟩, -⟩, -⟩, -⟩, -⟩, -⟩, -⟩, -⟩, -⟩, -⟩, -⟩, -⟩, -⟩, -⟩, -⟩, -⟩, -⟩, -⟩, -⟩, -⟩, -⟩, -⟩, -⟩, -⟩, -⟩, -⟩, -⟩, -⟩, -⟩, -⟩, -⟩, -⟩, q73⟩ := hP72
  have X74 := Ext.gr X18 E71
  have q73 : v69 = (Bo (((β1 && β2) && β3) && β4)) := q73
  obtain rfl := q73
  show wpList _ _ _ _ (fr [(Pt b_b b_o), Ud, (Bo false), v19, v20, v21, v22, v23, v24, v25, v26, v27, v28, v29, v30, v31, v32, v33, v34, v35, v36, v37, v38, v39, v40, v41, v42, v43, v44, v45, v46, v47, v48, v49, v50, v51, v52, v53, v54, v55, v56, v57, v58, v59, v60, v61, v62, v63, v64, v65, v66, v67, v68, (Bo (((β1 && β2) && β3) && β4))]) _
  refine q_is (l' := [(Pt b_b b_o), Ud, (Bo (((β1 && β2) && β3) && β4)), v19, v20, v21, v22, v23, v24, v25, v26, v27, v28, v29, v30, v31, v32, v33, v34, v35, v36, v37, v38, v39, v40, v41, v42, v43, v44, v45, v46, v47, v48, v49, v50, v51, v52, v53, v54, v55, v56, v57, v58, v59, v60, v61, v62, v63, v64, v65, v66, v67, v68, (Bo (((β1 && β2) && β3) && β4))]) rfl rfl (does_assign (u := (Bo (((β1 && β2) && β3) && β4))) (ev rfl)) rfl ?_
  refine wpList_nil (hK14 _ _ ?_)
  refine wp_ret ?_
  refine ret_val (v := (Bo (((β1 && β2) && β3) && β4))) (res_T rfl (slot rfl)) X74 ?_
  have x75 : (isBox A_b) = (((β1 && β2) && β3) && β4) := by first | rfl | (simp only [isBox, h2, h4, h6, h8, h10, h12, hβ1, hβ2, hβ3, hβ4]; done) | (simp [isBox, h2, h4, h6, h8, h10, h12, hβ1, hβ2, hβ3, hβ4]; done)
  exact (by first | rfl | rw [x75])

/- spec.l04In -/
theorem c_spec_l04In (b_b : Nat) (b_o : Nat) (b : List Value) (A_b : Bx) (p : List Value) (A_p : V3) (w : World) (hc_b : Cells w b_b b_o b) (hv_b : RBx w A_b b) (hv_p : RV3 w A_p p) : Gives Try.prog 53 #[(Pt b_b b_o), (.agg p.toArray)] w (fun v w' => v = (Bo (inBox A_b A_p))) := by
  obtain ⟨r1, r3, r5, r7, r9, r11, rfl, h2, h4, h6, h8, h10, h12⟩ := hv_b
  obtain ⟨r13, r15, r17, rfl, h14, h16, h18⟩ := hv_p
  refine enter [(Pt b_b b_o), (.agg #[(Fl r13), (Fl r15), (Fl r17)]), Ud, Ud, Ud, Ud, Ud, Ud, Ud, Ud, Ud, Ud, Ud, Ud, Ud, Ud, Ud, Ud, Ud, Ud, Ud, Ud, Ud, Ud, Ud, Ud, Ud, Ud, Ud, Ud, Ud, Ud, Ud, Ud, Ud, Ud, Ud, Ud, Ud, Ud, Ud, Ud, Ud, Ud, Ud, Ud, Ud, Ud, Ud, Ud, Ud, Ud, Ud, Ud, Ud, Ud, Ud, Ud, Ud, Ud, Ud, Ud, Ud] Try.func53 rfl Try.ntmps53 rfl ?_
  refine wp_seq_k fun K19 hK19 => ?_
  refine wp_region_lit ?_
  refine seqd rfl rfl (does_box (u := (.agg #[(Fl r13), (Fl r15), (Fl r17)])) (ev rfl)) ?_; rintro _ w24 ⟨b20, rfl, hb21, hB22, E23⟩
  have n25 : b_b < b20 := Nat.lt_of_lt_of_le (cell_lt (Cells.at hc_b 0 rfl)) hb21
  have g26 : w.heap.size ≤ b20 := Nat.le_trans (Below.size (Ext.refl w)) hb21
  change Blk _ _ [(Fl r13), (Fl r15), (Fl r17)] at hB22
  have X27 := Ext.gr (Ext.refl w) E23
  show wpList _ _ _ _ (fr [(Pt b_b b_o), (.agg #[(Fl r13), (Fl r15), (Fl r17)]), Ud, (Pt b20 0), Ud, Ud, Ud, Ud, Ud, Ud, Ud, Ud, Ud, Ud, Ud, Ud, Ud, Ud, Ud, Ud, Ud, Ud, Ud, Ud, Ud, Ud, Ud, Ud, Ud, Ud, Ud, Ud, Ud, Ud, Ud, Ud, Ud, Ud, Ud, Ud, Ud, Ud, Ud, Ud, Ud, Ud, Ud, Ud, Ud, Ud, Ud, Ud, Ud, Ud, Ud, Ud, Ud, Ud, Ud, Ud, Ud, Ud, Ud]) _
  refine q_is (l' := [(Pt b_b b_o), (.agg #[(Fl r13), (Fl r15), (Fl r17)]), Ud, (Pt b20 0), (Bo false), Ud, Ud, Ud, Ud, Ud, Ud, Ud, Ud, Ud, Ud, Ud, Ud, Ud, Ud, Ud, Ud, Ud, Ud, Ud, Ud, Ud, Ud, Ud, Ud, Ud, Ud, Ud, Ud, Ud, Ud, Ud, Ud, Ud, Ud, Ud, Ud, Ud, Ud, Ud, Ud, Ud, Ud, Ud, Ud, Ud, Ud, Ud, Ud, Ud, Ud, Ud, Ud, Ud, Ud, Ud, Ud, Ud, Ud]) rfl rfl (does_assign (u := (Bo false)) (ev rfl)) rfl ?_
  refine wpList_nil (hK19 _ _ ?_)
  refine wp_seq_k fun K28 hK28 => ?_
  obtain ⟨β1, hβ1⟩ : ∃ b : Bool, b = (fcmp .geq (ford .f32 (cf .f32 r13) (cf .f32 r1))) := ⟨_, rfl⟩
  obtain ⟨β2, hβ2⟩ : ∃ b : Bool, b = (fcmp .leq (ford .f32 (cf .f32 r13) (cf .f32 r7))) := ⟨_, rfl⟩
  obtain ⟨β3, hβ3⟩ : ∃ b : Bool, b = (fcmp .geq (ford .f32 (cf .f32 r15) (cf .f32 r3))) := ⟨_, rfl⟩
  obtain ⟨β4, hβ4⟩ : ∃ b : Bool, b = (fcmp .leq (ford .f32 (cf .f32 r15) (cf .f32 r9))) := ⟨_, rfl⟩
  obtain ⟨β5, hβ5⟩ : ∃ b : Bool, b = (fcmp .geq (ford .f32 (cf .f32 r17) (cf .f32 r5))) := ⟨_, rfl⟩
  obtain ⟨β6, hβ6⟩ : ∃ b : Bool, b = ((((β1 && β2) && β3) && β4) && β5) := ⟨_, rfl⟩
  obtain ⟨β7, hβ7⟩ : ∃ b : Bool, b = (fcmp .leq (ford .f32 (cf .f32 r17) (cf .f32 r11))) := ⟨_, rfl⟩
  refine region_draw (
    [Fact.pure [] (fun v => v = (Pt b20 0)),
    Fact.pure [5] (fun v => v = (Fl r13)),
    Fact.pure [] (fun v => v = (Pt b_b b_o)),
    Fact.pure [7] (fun v => v = (Pt b_b b_o)),
    Fact.pure [8] (fun v => v = (Pt b_b b_o)),
    Fact.pure [9] (fun v => v = (Pt b_b b_o)),
    Fact.pure [10] (fun v => v = (Fl r1)),
    Fact.pure [6, 11] (fun v => v = (Bo β1)),
    Fact.pure [12] (fun v => v = (Bo β1)),
    Fact.pure [13] (fun v => β1 = true → v = (Pt b20 0)),
    Fact.pure [14, 13] (fun v => β1 = true → v = (Fl r13)),
    Fact.pure [13] (fun v => β1 = true → v = (Pt b_b b_o)),
    Fact.pure [16, 13] (fun v => β1 = true → v = (Pt b_b b_o)),
    Fact.pure [17, 13] (fun v => β1 = true → v = (Pt b_b (b_o + 3))),
    Fact.pure [18, 13] (fun v => β1 = true → v = (Pt b_b (b_o + 3))),
    Fact.pure [19, 13] (fun v => β1 = true → v = (Fl r7)),
    Fact.pure [15, 20, 13] (fun v => β1 = true → v = (Bo β2)),
    Fact.pure [13, 21] (fun v => v = (Bo (β1 && β2))),
    Fact.pure [22] (fun v => v = (Bo (β1 && β2))),
    Fact.pure [23] (fun v => (β1 && β2) = true → v = (Pt b20 1)),
    Fact.pure [24, 23] (fun v => (β1 && β2) = true → v = (Fl r15)),
    Fact.pure [23] (fun v => (β1 && β2) = true → v = (Pt b_b b_o)),
    Fact.pure [26, 23] (fun v => (β1 && β2) = true → v = (Pt b_b b_o)),
    Fact.pure [27, 23] (fun v => (β1 && β2) = true → v = (Pt b_b b_o)),
    Fact.pure [28, 23] (fun v => (β1 && β2) = true → v = (Pt b_b (b_o + 1))),
    Fact.pure [29, 23] (fun v => (β1 && β2) = true → v = (Fl r3)),
    Fact.pure [25, 30, 23] (fun v => (β1 && β2) = true → v = (Bo β3)),
    Fact.pure [23, 31] (fun v => v = (Bo ((β1 && β2) && β3))),
    Fact.pure [32] (fun v => v = (Bo ((β1 && β2) && β3))),
    Fact.pure [33] (fun v => ((β1 && β2) && β3) = true → v = (Pt b20 1)),
    Fact.pure [34, 33] (fun v => ((β1 && β2) && β3) = true → v = (Fl r15)),
    Fact.pure [33] (fun v => ((β1 && β2) && β3) = true → v = (Pt b_b b_o)),
    Fact.pure [36, 33] (fun v => ((β1 && β2) && β3) = true → v = (Pt b_b b_o)),
    Fact.pure [37, 33] (fun v => ((β1 && β2) && β3) = true → v = (Pt b_b (b_o + 3))),
    Fact.pure [38, 33] (fun v => ((β1 && β2) && β3) = true → v = (Pt b_b (b_o + 4))),
    Fact.pure [39, 33] (fun v => ((β1 && β2) && β3) = true → v = (Fl r9)),
    Fact.pure [35, 40, 33] (fun v => ((β1 && β2) && β3) = true → v = (Bo β4)),
    Fact.pure [33, 41] (fun v => v = (Bo (((β1 && β2) && β3) && β4))),
    Fact.pure [42] (fun v => v = (Bo (((β1 && β2) && β3) && β4))),
    Fact.pure [43] (fun v => (((β1 && β2) && β3) && β4) = true → v = (Pt b20 2)),
    Fact.pure [44, 43] (fun v => (((β1 && β2) && β3) && β4) = true → v = (Fl r17)),
    Fact.pure [43] (fun v => (((β1 && β2) && β3) && β4) = true → v = (Pt b_b b_o)),
    Fact.pure [46, 43] (fun v => (((β1 && β2) && β3) && β4) = true → v = (Pt b_b b_o)),
    Fact.pure [47, 43] (fun v => (((β1 && β2) && β3) && β4) = true → v = (Pt b_b b_o)),
    Fact.pure [48, 43] (fun v => (((β1 && β2) && β3) && β4) = true → v = (Pt b_b (b_o + 2))),
    Fact.pure [49, 43] (fun v => (((β1 && β2) && β3) && β4) = true → v = (Fl r5)),
    Fact.pure [45, 50, 43] (fun v => (((β1 && β2) && β3) && β4) = true → v = (Bo β5)),
    Fact.pure [43, 51] (fun v => v = (Bo β6)),
    Fact.pure [52] (fun v => v = (Bo β6)),
    Fact.pure [53] (fun v => β6 = true → v = (Pt b20 2)),
    Fact.pure [54, 53] (fun v => β6 = true → v = (Fl r17)),
    Fact.pure [53] (fun v => β6 = true → v = (Pt b_b b_o)),
    Fact.pure [56, 53] (fun v => β6 = true → v = (Pt b_b b_o)),
    Fact.pure [57, 53] (fun v => β6 = true → v = (Pt b_b (b_o + 3))),
    Fact.pure [58, 53] (fun v => β6 = true → v = (Pt b_b (b_o + 5))),
    Fact.pure [59, 53] (fun v => β6 = true → v = (Fl r11)),
    Fact.pure [55, 60, 53] (fun v => β6 = true → v = (Bo β7)),
    Fact.pure [53, 61] (fun v => v = (Bo (β6 && β7)))]) mixed (by kernel_rfl) (by intro _ _ d _ _ h; cases d <;> exact h) ?_
  obtain ⟨w29, hw31⟩ : ∃ w', w' = World.drew w24 := ⟨_, rfl⟩; rw [← hw31]; have E30 : Ext w24 w29 := by rw [hw31]; exact Ext.draw _
  clear hw31
  have X32 := Ext.gr X27 E30
  refine RW_d (fun v33 => [(Pt b_b b_o), (.agg #[(Fl r13), (Fl r15), (Fl r17)]), Ud, (Pt b20 0), (Bo false), v33, Ud, Ud, Ud, Ud, Ud, Ud, Ud, Ud, Ud, Ud, Ud, Ud, Ud, Ud, Ud, Ud, Ud, Ud, Ud, Ud, Ud, Ud, Ud, Ud, Ud, Ud, Ud, Ud, Ud, Ud, Ud, Ud, Ud, Ud, Ud, Ud, Ud, Ud, Ud, Ud, Ud, Ud, Ud, Ud, Ud, Ud, Ud, Ud, Ud, Ud, Ud, Ud, Ud, Ud, Ud, Ud, Ud]) rfl (fun _ => rfl) (fun u hu hF => ?_) (fun v33 => ?_)
  · clear hF
    refine doesG_un rfl ?_
    refine (does_fieldAddr (ev rfl) fa31_0).mono ?_; rintro _ _ ⟨rfl, rfl⟩
    exact ⟨rfl, Ext.refl _⟩
  refine RW_d (fun v34 => [(Pt b_b b_o), (.agg #[(Fl r13), (Fl r15), (Fl r17)]), Ud, (Pt b20 0), (Bo false), v33, v34, Ud, Ud, Ud, Ud, Ud, Ud, Ud, Ud, Ud, Ud, Ud, Ud, Ud, Ud, Ud, Ud, Ud, Ud, Ud, Ud, Ud, Ud, Ud, Ud, Ud, Ud, Ud, Ud, Ud, Ud, Ud, Ud, Ud, Ud, Ud, Ud, Ud, Ud, Ud, Ud, Ud, Ud, Ud, Ud, Ud, Ud, Ud, Ud, Ud, Ud, Ud, Ud, Ud, Ud, Ud, Ud]) rfl (fun _ => rfl) (fun u hu hF => ?_) (fun v34 => ?_)
  · have h5_ : v33 = (Pt b20 0) := hF.1
    clear hF
    obtain rfl := h5_
    refine doesG_un rfl ?_
    refine (does_load (u := (Fl r13)) (ev rfl) Try.isAgg25 (Cells.at (Blk.cells ((hB22.ext E30).ext hu)) 0 rfl)).mono ?_; rintro _ _ ⟨rfl, rfl⟩
    exact ⟨rfl, Ext.refl _⟩
  refine RW_d (fun v35 => [(Pt b_b b_o), (.agg #[(Fl r13), (Fl r15), (Fl r17)]), Ud, (Pt b20 0), (Bo false), v33, v34, v35, Ud, Ud, Ud, Ud, Ud, Ud, Ud, Ud, Ud, Ud, Ud, Ud, Ud, Ud, Ud, Ud, Ud, Ud, Ud, Ud, Ud, Ud, Ud, Ud, Ud, Ud, Ud, Ud, Ud, Ud, Ud, Ud, Ud, Ud, Ud, Ud, Ud, Ud, Ud, Ud, Ud, Ud, Ud, Ud, Ud, Ud, Ud, Ud, Ud, Ud, Ud, Ud, Ud, Ud, Ud]) rfl (fun _ => rfl) (fun u hu hF => ?_) (fun v35 => ?_)
  · clear hF
    refine doesG_un rfl ?_
    refine (does_move (u := (Pt b_b b_o)) (ev rfl)).mono ?_; rintro _ _ ⟨rfl, rfl⟩
    exact ⟨rfl, Ext.refl _⟩
  refine RW_d (fun v36 => [(Pt b_b b_o), (.agg #[(Fl r13), (Fl r15), (Fl r17)]), Ud, (Pt b20 0), (Bo false), v33, v34, v35, v36, Ud, Ud, Ud, Ud, Ud, Ud, Ud, Ud, Ud, Ud, Ud, Ud, Ud, Ud, Ud, Ud, Ud, Ud, Ud, Ud, Ud, Ud, Ud, Ud, Ud, Ud, Ud, Ud, Ud, Ud, Ud, Ud, Ud, Ud, Ud, Ud, Ud, Ud, Ud, Ud, Ud, Ud, Ud, Ud, Ud, Ud, Ud, Ud, Ud, Ud, Ud, Ud, Ud, Ud]) rfl (fun _ => rfl) (fun u hu hF => ?_) (fun v36 => ?_)
  · have h7_ : v35 = (Pt b_b b_o) := hF.1
    clear hF
    obtain rfl := h7_
    refine doesG_un rfl ?_
    refine (does_nilCheck (ev rfl)).mono ?_; rintro _ _ ⟨rfl, rfl⟩
    exact ⟨rfl, Ext.refl _⟩
  refine RW_d (fun v37 => [(Pt b_b b_o), (.agg #[(Fl r13), (Fl r15), (Fl r17)]), Ud, (Pt b20 0), (Bo false), v33, v34, v35, v36, v37, Ud, Ud, Ud, Ud, Ud, Ud, Ud, Ud, Ud, Ud, Ud, Ud, Ud, Ud, Ud, Ud, Ud, Ud, Ud, Ud, Ud, Ud, Ud, Ud, Ud, Ud, Ud, Ud, Ud, Ud, Ud, Ud, Ud, Ud, Ud, Ud, Ud, Ud, Ud, Ud, Ud, Ud, Ud, Ud, Ud, Ud, Ud, Ud, Ud, Ud, Ud, Ud, Ud]) rfl (fun _ => rfl) (fun u hu hF => ?_) (fun v37 => ?_)
  · have h8_ : v36 = (Pt b_b b_o) := hF.1
    clear hF
    obtain rfl := h8_
    refine doesG_un rfl ?_
    refine (does_fieldAddr (ev rfl) fa33_0).mono ?_; rintro _ _ ⟨rfl, rfl⟩
    exact ⟨rfl, Ext.refl _⟩
  refine RW_d (fun v38 => [(Pt b_b b_o), (.agg #[(Fl r13), (Fl r15), (Fl r17)]), Ud, (Pt b20 0), (Bo false), v33, v34, v35, v36, v37, v38, Ud, Ud, Ud, Ud, Ud, Ud, Ud, Ud, Ud, Ud, Ud, Ud, Ud, Ud, Ud, Ud, Ud, Ud, Ud, Ud, Ud, Ud, Ud, Ud, Ud, Ud, Ud, Ud, Ud, Ud, Ud, Ud, Ud, Ud, Ud, Ud, Ud, Ud, Ud, Ud, Ud, Ud, Ud, Ud, Ud, Ud, Ud, Ud, Ud, Ud, Ud, Ud]) rfl (fun _ => rfl) (fun u hu hF => ?_) (fun v38 => ?_)
  · have h9_ : v37 = (Pt b_b b_o) := hF.1
    clear hF
    obtain rfl := h9_
    refine doesG_un rfl ?_
    refine (does_fieldAddr (ev rfl) fa31_0).mono ?_; rintro _ _ ⟨rfl, rfl⟩
    exact ⟨rfl, Ext.refl _⟩
  refine RW_d (fun v39 => [(Pt b_b b_o), (.agg #[(Fl r13), (Fl r15), (Fl r17)]), Ud, (Pt b20 0), (Bo false), v33, v34, v35, v36, v37, v38, v39, Ud, Ud, Ud, Ud, Ud, Ud, Ud, Ud, Ud, Ud, Ud, Ud, Ud, Ud, Ud, Ud, Ud, Ud, Ud, Ud, Ud, Ud, Ud, Ud, Ud, Ud, Ud, Ud, Ud, Ud, Ud, Ud, Ud, Ud, Ud, Ud, Ud, Ud, Ud, Ud, Ud, Ud, Ud, Ud, Ud, Ud, Ud, Ud, Ud, Ud, Ud]) rfl (fun _ => rfl) (fun u hu hF => ?_) (fun v39 => ?_)
  · have h10_ : v38 = (Pt b_b b_o) := hF.1
    clear hF
    obtain rfl := h10_
    refine doesG_un rfl ?_
    refine (does_load (u := (Fl r1)) (ev rfl) Try.isAgg25 (Cells.at ((hc_b.ext (Ext.gr X27 E30)).ext hu) 0 rfl)).mono ?_; rintro _ _ ⟨rfl, rfl⟩
    exact ⟨rfl, Ext.refl _⟩
  refine RW_d (fun v40 => [(Pt b_b b_o), (.agg #[(Fl r13), (Fl r15), (Fl r17)]), Ud, (Pt b20 0), (Bo false), v33, v34, v35, v36, v37, v38, v39, v40, Ud, Ud, Ud, Ud, Ud, Ud, Ud, Ud, Ud, Ud, Ud, Ud, Ud, Ud, Ud, Ud, Ud, Ud, Ud, Ud, Ud, Ud, Ud, Ud, Ud, Ud, Ud, Ud, Ud, Ud, Ud, Ud, Ud, Ud, Ud, Ud, Ud, Ud, Ud, Ud, Ud, Ud, Ud, Ud, Ud, Ud, Ud, Ud, Ud, Ud]) rfl (fun _ => rfl) (fun u hu hF => ?_) (fun v40 => ?_)
  · have h6_ : v34 = (Fl r13) := hF.1
    have h11_ : v39 = (Fl r1) := hF.2.1
    clear hF
    obtain rfl := h6_
    obtain rfl := h11_
    refine doesG_un rfl ?_
    refine (does_fcmp (.inr (.inr (.inr (.inr (.inr rfl))))) (ev rfl) (ev rfl)).mono ?_; rintro _ _ ⟨rfl, rfl⟩
    exact ⟨(by show _ = _; simp only [hβ1]), Ext.refl _⟩
  refine RW_d (fun v41 => [(Pt b_b b_o), (.agg #[(Fl r13), (Fl r15), (Fl r17)]), Ud, (Pt b20 0), (Bo false), v33, v34, v35, v36, v37, v38, v39, v40, v41, Ud, Ud, Ud, Ud, Ud, Ud, Ud, Ud, Ud, Ud, Ud, Ud, Ud, Ud, Ud, Ud, Ud, Ud, Ud, Ud, Ud, Ud, Ud, Ud, Ud, Ud, Ud, Ud, Ud, Ud, Ud, Ud, Ud, Ud, Ud, Ud, Ud, Ud, Ud, Ud, Ud, Ud, Ud, Ud, Ud, Ud, Ud, Ud, Ud]) rfl (fun _ => rfl) (fun u hu hF => ?_) (fun v41 => ?_)
  · have h12_ : v40 = (Bo β1) := hF.1
    clear hF
    obtain rfl := h12_
    refine doesG_un rfl ?_
    refine (does_move (u := (Bo β1)) (ev rfl)).mono ?_; rintro _ _ ⟨rfl, rfl⟩
    exact ⟨rfl, Ext.refl _⟩
  refine RW_d (fun v42 => [(Pt b_b b_o), (.agg #[(Fl r13), (Fl r15), (Fl r17)]), Ud, (Pt b20 0), (Bo false), v33, v34, v35, v36, v37, v38, v39, v40, v41, v42, Ud, Ud, Ud, Ud, Ud, Ud, Ud, Ud, Ud, Ud, Ud, Ud, Ud, Ud, Ud, Ud, Ud, Ud, Ud, Ud, Ud, Ud, Ud, Ud, Ud, Ud, Ud, Ud, Ud, Ud, Ud, Ud, Ud, Ud, Ud, Ud, Ud, Ud, Ud, Ud, Ud, Ud, Ud, Ud, Ud, Ud, Ud, Ud]) rfl (fun _ => rfl) (fun u hu hF => ?_) (fun v42 => ?_)
  · have h13_ : v41 = (Bo β1) := hF.1
    clear hF
    obtain rfl := h13_
    refine doesG_g (b := β1) rfl (yld rfl rfl) (fun hg => ?_) (fun hg => ⟨fun h => absurd h hg, Ext.refl _⟩)
    refine (does_fieldAddr (ev rfl) fa31_0).mono ?_; rintro _ _ ⟨rfl, rfl⟩
    exact ⟨fun _ => rfl, Ext.refl _⟩
  refine RW_d (fun v43 => [(Pt b_b b_o), (.agg #[(Fl r13), (Fl r15), (Fl r17)]), Ud, (Pt b20 0), (Bo false), v33, v34, v35, v36, v37, v38, v39, v40, v41, v42, v43, Ud, Ud, Ud, Ud, Ud, Ud, Ud, Ud, Ud, Ud, Ud, Ud, Ud, Ud, Ud, Ud, Ud, Ud, Ud, Ud, Ud, Ud, Ud, Ud, Ud, Ud, Ud, Ud, Ud, Ud, Ud, Ud, Ud, Ud, Ud, Ud, Ud, Ud, Ud, Ud, Ud, Ud, Ud, Ud, Ud, Ud, Ud]) rfl (fun _ => rfl) (fun u hu hF => ?_) (fun v43 => ?_)
  · have h14_ : β1 = true → v42 = (Pt b20 0) := hF.1
    have h13_ : v41 = (Bo β1) := hF.2.1
    clear hF
    obtain rfl := h13_
    refine doesG_g (b := β1) rfl (yld rfl rfl) (fun hg => ?_) (fun hg => ⟨fun h => absurd h hg, Ext.refl _⟩)
    obtain rfl := h14_ hg
    refine (does_load (u := (Fl r13)) (ev rfl) Try.isAgg25 (Cells.at (Blk.cells ((hB22.ext E30).ext hu)) 0 rfl)).mono ?_; rintro _ _ ⟨rfl, rfl⟩
    exact ⟨fun _ => rfl, Ext.refl _⟩
  refine RW_d (fun v44 => [(Pt b_b b_o), (.agg #[(Fl r13), (Fl r15), (Fl r17)]), Ud, (Pt b20 0), (Bo false), v33, v34, v35, v36, v37, v38, v39, v40, v41, v42, v43, v44, Ud, Ud, Ud, Ud, Ud, Ud, Ud, Ud, Ud, Ud, Ud, Ud, Ud, Ud, Ud, Ud, Ud, Ud, Ud, Ud, Ud, Ud, Ud, Ud, Ud, Ud, Ud, Ud, Ud, Ud, Ud, Ud, Ud, Ud, Ud, Ud, Ud, Ud, Ud, Ud, Ud, Ud, Ud, Ud, Ud, Ud]) rfl (fun _ => rfl) (fun u hu hF => ?_) (fun v44 => ?_)
  · have h13_ : v41 = (Bo β1) := hF.1
    clear hF
    obtain rfl := h13_
    refine doesG_g (b := β1) rfl (yld rfl rfl) (fun hg => ?_) (fun hg => ⟨fun h => absurd h hg, Ext.refl _⟩)
    refine (does_move (u := (Pt b_b b_o)) (ev rfl)).mono ?_; rintro _ _ ⟨rfl, rfl⟩
    exact ⟨fun _ => rfl, Ext.refl _⟩
  refine RW_d (fun v45 => [(Pt b_b b_o), (.agg #[(Fl r13), (Fl r15), (Fl r17)]), Ud, (Pt b20 0), (Bo false), v33, v34, v35, v36, v37, v38, v39, v40, v41, v42, v43, v44, v45, Ud, Ud, Ud, Ud, Ud, Ud, Ud, Ud, Ud, Ud, Ud, Ud, Ud, Ud, Ud, Ud, Ud, Ud, Ud, Ud, Ud, Ud, Ud, Ud, Ud, Ud, Ud, Ud, Ud, Ud, Ud, Ud, Ud, Ud, Ud, Ud, Ud, Ud, Ud, Ud, Ud, Ud, Ud, Ud, Ud]) rfl (fun _ => rfl) (fun u hu hF => ?_) (fun v45 => ?_)
  · have h16_ : β1 = true → v44 = (Pt b_b b_o) := hF.1
    have h13_ : v41 = (Bo β1) := hF.2.1
    clear hF
    obtain rfl := h13_
    refine doesG_g (b := β1) rfl (yld rfl rfl) (fun hg => ?_) (fun hg => ⟨fun h => absurd h hg, Ext.refl _⟩)
    obtain rfl := h16_ hg
    refine (does_nilCheck (ev rfl)).mono ?_; rintro _ _ ⟨rfl, rfl⟩
    exact ⟨fun _ => rfl, Ext.refl _⟩
  refine RW_d (fun v46 => [(Pt b_b b_o), (.agg #[(Fl r13), (Fl r15), (Fl r17)]), Ud, (Pt b20 0), (Bo false), v33, v34, v35, v36, v37, v38, v39, v40, v41, v42, v43, v44, v45, v46, Ud, Ud, Ud, Ud, Ud, Ud, Ud, Ud, Ud, Ud, Ud, Ud, Ud, Ud, Ud, Ud, Ud, Ud, Ud, Ud, Ud, Ud, Ud, Ud, Ud, Ud, Ud, Ud, Ud, Ud, Ud, Ud, Ud, Ud, Ud, Ud, Ud, Ud, Ud, Ud, Ud, Ud, Ud, Ud]) rfl (fun _ => rfl) (fun u hu hF => ?_) (fun v46 => ?_)
  · have h17_ : β1 = true → v45 = (Pt b_b b_o) := hF.1
    have h13_ : v41 = (Bo β1) := hF.2.1
    clear hF
    obtain rfl := h13_
    refine doesG_g (b := β1) rfl (yld rfl rfl) (fun hg => ?_) (fun hg => ⟨fun h => absurd h hg, Ext.refl _⟩)
    obtain rfl := h17_ hg
    refine (does_fieldAddr (ev rfl) fa33_1).mono ?_; rintro _ _ ⟨rfl, rfl⟩
    exact ⟨fun _ => rfl, Ext.refl _⟩
  refine RW_d (fun v47 => [(Pt b_b b_o), (.agg #[(Fl r13), (Fl r15), (Fl r17)]), Ud, (Pt b20 0), (Bo false), v33, v34, v35, v36, v37, v38, v39, v40, v41, v42, v43, v44, v45, v46, v47, Ud, Ud, Ud, Ud, Ud, Ud, Ud, Ud, Ud, Ud, Ud, Ud, Ud, Ud, Ud, Ud, Ud, Ud, Ud, Ud, Ud, Ud, Ud, Ud, Ud, Ud, Ud, Ud, Ud, Ud, Ud, Ud, Ud, Ud, Ud, Ud, Ud, Ud, Ud, Ud, Ud, Ud, Ud]) rfl (fun _ => rfl) (fun u hu hF => ?_) (fun v47 => ?_)
  · have h18_ : β1 = true → v46 = (Pt b_b (b_o + 3)) := hF.1
    have h13_ : v41 = (Bo β1) := hF.2.1
    clear hF
    obtain rfl := h13_
    refine doesG_g (b := β1) rfl (yld rfl rfl) (fun hg => ?_) (fun hg => ⟨fun h => absurd h hg, Ext.refl _⟩)
    obtain rfl := h18_ hg
    refine (does_fieldAddr (ev rfl) fa31_0).mono ?_; rintro _ _ ⟨rfl, rfl⟩
    exact ⟨fun _ => rfl, Ext.refl _⟩
  refine RW_d (fun v48 => [(Pt b_b b_o), (.agg #[(Fl r13), (Fl r15), (Fl r17)]), Ud, (Pt b20 0), (Bo false), v33, v34, v35, v36, v37, v38, v39, v40, v41, v42, v43, v44, v45, v46, v47, v48, Ud, Ud, Ud, Ud, Ud, Ud, Ud, Ud, Ud, Ud, Ud, Ud, Ud, Ud, Ud, Ud, Ud, Ud, Ud, Ud, Ud, Ud, Ud, Ud, Ud, Ud, Ud, Ud, Ud, Ud, Ud, Ud, Ud, Ud, Ud, Ud, Ud, Ud, Ud, Ud, Ud, Ud]) rfl (fun _ => rfl) (fun u hu hF => ?_) (fun v48 => ?_)
  · have h19_ : β1 = true → v47 = (Pt b_b (b_o + 3)) := hF.1
    have h13_ : v41 = (Bo β1) := hF.2.1
    clear hF
    obtain rfl := h13_
    refine doesG_g (b := β1) rfl (yld rfl rfl) (fun hg => ?_) (fun hg => ⟨fun h => absurd h hg, Ext.refl _⟩)
    obtain rfl := h19_ hg
    refine (does_load (u := (Fl r7)) (ev rfl) Try.isAgg25 (Cells.at ((hc_b.ext (Ext.gr X27 E30)).ext hu) 3 rfl)).mono ?_; rintro _ _ ⟨rfl, rfl⟩
    exact ⟨fun _ => rfl, Ext.refl _⟩
  refine RW_d (fun v49 => [(Pt b_b b_o), (.agg #[(Fl r13), (Fl r15), (Fl r17)]), Ud, (Pt b20 0), (Bo false), v33, v34, v35, v36, v37, v38, v39, v40, v41, v42, v43, v44, v45, v46, v47, v48, v49, Ud, Ud, Ud, Ud, Ud, Ud, Ud, Ud, Ud, Ud, Ud, Ud, Ud, Ud, Ud, Ud, Ud, Ud, Ud, Ud, Ud, Ud, Ud, Ud, Ud, Ud, Ud, Ud, Ud, Ud, Ud, Ud, Ud, Ud, Ud, Ud, Ud, Ud, Ud, Ud, Ud]) rfl (fun _ => rfl) (fun u hu hF => ?_) (fun v49 => ?_)
  · have h15_ : β1 = true → v43 = (Fl r13) := hF.1
    have h20_ : β1 = true → v48 = (Fl r7) := hF.2.1
    have h13_ : v41 = (Bo β1) := hF.2.2.1
    clear hF
    obtain rfl := h13_
    refine doesG_g (b := β1) rfl (yld rfl rfl) (fun hg => ?_) (fun hg => ⟨fun h => absurd h hg, Ext.refl _⟩)
    obtain rfl := h15_ hg
    obtain rfl := h20_ hg
    refine (does_fcmp (.inr (.inr (.inr (.inl rfl)))) (ev rfl) (ev rfl)).mono ?_; rintro _ _ ⟨rfl, rfl⟩
    exact ⟨fun _ => (by show _ = _; simp only [hβ2]), Ext.refl _⟩
  refine RW_d (fun v50 => [(Pt b_b b_o), (.agg #[(Fl r13), (Fl r15), (Fl r17)]), Ud, (Pt b20 0), (Bo false), v33, v34, v35, v36, v37, v38, v39, v40, v41, v42, v43, v44, v45, v46, v47, v48, v49, v50, Ud, Ud, Ud, Ud, Ud, Ud, Ud, Ud, Ud, Ud, Ud, Ud, Ud, Ud, Ud, Ud, Ud, Ud, Ud, Ud, Ud, Ud, Ud, Ud, Ud, Ud, Ud, Ud, Ud, Ud, Ud, Ud, Ud, Ud, Ud, Ud, Ud, Ud, Ud, Ud]) rfl (fun _ => rfl) (fun u hu hF => ?_) (fun v50 => ?_)
  · have h13_ : v41 = (Bo β1) := hF.1
    have h21_ : β1 = true → v49 = (Bo β2) := hF.2.1
    clear hF
    obtain rfl := h13_
    refine doesG_un rfl ((does_pick (b := β1) (ev rfl) (ev rfl) (ev rfl)).mono ?_); rintro _ _ ⟨rfl, rfl⟩; refine ⟨?_, Ext.refl _⟩; skip
    cases hbb : β1 <;> simp [hbb] at h21_ ⊢
    all_goals (first | rfl | (subst h21_; rfl) | simp_all)
  refine RW_d (fun v51 => [(Pt b_b b_o), (.agg #[(Fl r13), (Fl r15), (Fl r17)]), Ud, (Pt b20 0), (Bo false), v33, v34, v35, v36, v37, v38, v39, v40, v41, v42, v43, v44, v45, v46, v47, v48, v49, v50, v51, Ud, Ud, Ud, Ud, Ud, Ud, Ud, Ud, Ud, Ud, Ud, Ud, Ud, Ud, Ud, Ud, Ud, Ud, Ud, Ud, Ud, Ud, Ud, Ud, Ud, Ud, Ud, Ud, Ud, Ud, Ud, Ud, Ud, Ud, Ud, Ud, Ud, Ud, Ud]) rfl (fun _ => rfl) (fun u hu hF => ?_) (fun v51 => ?_)
  · have h22_ : v50 = (Bo (β1 && β2)) := hF.1
    clear hF
    obtain rfl := h22_
    refine doesG_un rfl ?_
    refine (does_move (u := (Bo (β1 && β2))) (ev rfl)).mono ?_; rintro _ _ ⟨rfl, rfl⟩
    exact ⟨rfl, Ext.refl _⟩
  refine RW_d (fun v52 => [(Pt b_b b_o), (.agg #[(Fl r13), (Fl r15), (Fl r17)]), Ud, (Pt b20 0), (Bo false), v33, v34, v35, v36, v37, v38, v39, v40, v41, v42, v43, v44, v45, v46, v47, v48, v49, v50, v51, v52, Ud, Ud, Ud, Ud, Ud, Ud, Ud, Ud, Ud, Ud, Ud, Ud, Ud, Ud, Ud, Ud, Ud, Ud, Ud, Ud, Ud, Ud, Ud, Ud, Ud, Ud, Ud, Ud, Ud, Ud, Ud, Ud, Ud, Ud, Ud, Ud, Ud, Ud]) rfl (fun _ => rfl) (fun u hu hF => ?_) (fun v52 => ?_)
  · have h23_ : v51 = (Bo (β1 && β2)) := hF.1
    clear hF
    obtain rfl := h23_
    refine doesG_g (b := (β1 && β2)) rfl (yld rfl rfl) (fun hg => ?_) (fun hg => ⟨fun h => absurd h hg, Ext.refl _⟩)
    refine (does_fieldAddr (ev rfl) fa31_1).mono ?_; rintro _ _ ⟨rfl, rfl⟩
    exact ⟨fun _ => rfl, Ext.refl _⟩
  refine RW_d (fun v53 => [(Pt b_b b_o), (.agg #[(Fl r13), (Fl r15), (Fl r17)]), Ud, (Pt b20 0), (Bo false), v33, v34, v35, v36, v37, v38, v39, v40, v41, v42, v43, v44, v45, v46, v47, v48, v49, v50, v51, v52, v53, Ud, Ud, Ud, Ud, Ud, Ud, Ud, Ud, Ud, Ud, Ud, Ud, Ud, Ud, Ud, Ud, Ud, Ud, Ud, Ud, Ud, Ud, Ud, Ud, Ud, Ud, Ud, Ud, Ud, Ud, Ud, Ud, Ud, Ud, Ud, Ud, Ud]) rfl (fun _ => rfl) (fun u hu hF => ?_) (fun v53 => ?_)
  · have h24_ : (β1 && β2) = true → v52 = (Pt b20 1) := hF.1
    have h23_ : v51 = (Bo (β1 && β2)) := hF.2.1
    clear hF
    obtain rfl := h23_
    refine doesG_g (b := (β1 && β2)) rfl (yld rfl rfl) (fun hg => ?_) (fun hg => ⟨fun h => absurd h hg, Ext.refl _⟩)
    obtain rfl := h24_ hg
    refine (does_load (u := (Fl r15)) (ev rfl) Try.isAgg25 (Cells.at (Blk.cells ((hB22.ext E30).ext hu)) 1 rfl)).mono ?_; rintro _ _ ⟨rfl, rfl⟩
    exact ⟨fun _ => rfl, Ext.refl _⟩
  refine RW_d (fun v54 => [(Pt b_b b_o), (.agg #[(Fl r13), (Fl r15), (Fl r17)]), Ud, (Pt b20 0), (Bo false), v33, v34, v35, v36, v37, v38, v39, v40, v41, v42, v43, v44, v45, v46, v47, v48, v49, v50, v51, v52, v53, v54, Ud, Ud, Ud, Ud, Ud, Ud, Ud, Ud, Ud, Ud, Ud, Ud, Ud, Ud, Ud, Ud, Ud, Ud, Ud, Ud, Ud, Ud, Ud, Ud, Ud, Ud, Ud, Ud, Ud, Ud, Ud, Ud, Ud, Ud, Ud, Ud]) rfl (fun _ => rfl) (fun u hu hF => ?_) (fun v54 => ?_)
  · have h23_ : v51 = (Bo (β1 && β2)) := hF.1
    clear hF
    obtain rfl := h23_
    refine doesG_g (b := (β1 && β2)) rfl (yld rfl rfl) (fun hg => ?_) (fun hg => ⟨fun h => absurd h hg, Ext.refl _⟩)
    refine (does_move (u := (Pt b_b b_o)) (ev rfl)).mono ?_; rintro _ _ ⟨rfl, rfl⟩
    exact ⟨fun _ => rfl, Ext.refl _⟩
  refine RW_d (fun v55 => [(Pt b_b b_o), (.agg #[(Fl r13), (Fl r15), (Fl r17)]), Ud, (Pt b20 0), (Bo false), v33, v34, v35, v36, v37, v38, v39, v40, v41, v42, v43, v44, v45, v46, v47, v48, v49, v50, v51, v52, v53, v54, v55, Ud, Ud, Ud, Ud, Ud, Ud, Ud, Ud, Ud, Ud, Ud, Ud, Ud, Ud, Ud, Ud, Ud, Ud, Ud, Ud, Ud, Ud, Ud, Ud, Ud, Ud, Ud, Ud, Ud, Ud, Ud, Ud, Ud, Ud, Ud]) rfl (fun _ => rfl) (fun u hu hF => ?_) (fun v55 => ?_)
  · have h26_ : (β1 && β2) = true → v54 = (Pt b_b b_o) := hF.1
    have h23_ : v51 = (Bo (β1 && β2)) := hF.2.1
    clear hF
    obtain rfl := h23_
    refine doesG_g (b := (β1 && β2)) rfl (yld rfl rfl) (fun hg => ?_) (fun hg => ⟨fun h => absurd h hg, Ext.refl _⟩)
    obtain rfl := h26_ hg
    refine (does_nilCheck (ev rfl)).mono ?_; rintro _ _ ⟨rfl, rfl⟩
    exact ⟨fun _ => rfl, Ext.refl _⟩
  refine RW_d (fun v56 => [(Pt b_b b_o), (.agg #[(Fl r13), (Fl r15), (Fl r17)]), Ud, (Pt b20 0), (Bo false), v33, v34, v35, v36, v37, v38, v39, v40, v41, v42, v43, v44, v45, v46, v47, v48, v49, v50, v51, v52, v53, v54, v55, v56, Ud, Ud, Ud, Ud, Ud, Ud, Ud, Ud, Ud, Ud, Ud, Ud, Ud, Ud, Ud, Ud, Ud, Ud, Ud, Ud, Ud, Ud, Ud, Ud, Ud, Ud, Ud, Ud, Ud, Ud, Ud, Ud, Ud, Ud]) rfl (fun _ => rfl) (fun u hu hF => ?_) (fun v56 => ?_)
  · have h27_ : (β1 && β2) = true → v55 = (Pt b_b b_o) := hF.1
    have h23_ : v51 = (Bo (β1 && β2)) := hF.2.1
    clear hF
    obtain rfl := h23_
    refine doesG_g (b := (β1 && β2)) rfl (yld rfl rfl) (fun hg => ?_) (fun hg => ⟨fun h => absurd h hg, Ext.refl _⟩)
    obtain rfl := h27_ hg
    refine (does_fieldAddr (ev rfl) fa33_0).mono ?_; rintro _ _ ⟨rfl, rfl⟩
    exact ⟨fun _ => rfl, Ext.refl _⟩
  refine RW_d (fun v57 => [(Pt b_b b_o), (.agg #[(Fl r13), (Fl r15), (Fl r17)]), Ud, (Pt b20 0), (Bo false), v33, v34, v35, v36, v37, v38, v39, v40, v41, v42, v43, v44, v45, v46, v47, v48, v49, v50, v51, v52, v53, v54, v55, v56, v57, Ud, Ud, Ud, Ud, Ud, Ud, Ud, Ud, Ud, Ud, Ud, Ud, Ud, Ud, Ud, Ud, Ud, Ud, Ud, Ud, Ud, Ud, Ud, Ud, Ud, Ud, Ud, Ud, Ud, Ud, Ud, Ud, Ud]) rfl (fun _ => rfl) (fun u hu hF => ?_) (fun v57 => ?_)
  · have h28_ : (β1 && β2) = true → v56 = (Pt b_b b_o) := hF.1
    have h23_ : v51 = (Bo (β1 && β2)) := hF.2.1
    clear hF
    obtain rfl := h23_
    refine doesG_g (b := (β1 && β2)) rfl (yld rfl rfl) (fun hg => ?_) (fun hg => ⟨fun h => absurd h hg, Ext.refl _⟩)
    obtain rfl := h28_ hg
    refine (does_fieldAddr (ev rfl) fa31_1).mono ?_; rintro _ _ ⟨rfl, rfl⟩
    exact ⟨fun _ => rfl, Ext.refl _⟩
  refine RW_d (fun v58 => [(Pt b_b b_o), (.agg #[(Fl r13), (Fl r15), (Fl r17)]), Ud, (Pt b20 0), (Bo false), v33, v34, v35, v36, v37, v38, v39, v40, v41, v42, v43, v44, v45, v46, v47, v48, v49, v50, v51, v52, v53, v54, v55, v56, v57, v58, Ud, Ud, Ud, Ud, Ud, Ud, Ud, Ud, Ud, Ud, Ud, Ud, Ud, Ud, Ud, Ud, Ud, Ud, Ud, Ud, Ud, Ud, Ud, Ud, Ud, Ud, Ud, Ud, Ud, Ud, Ud, Ud]) rfl (fun _ => rfl) (fun u hu hF => ?_) (fun v58 => ?_)
  · have h29_ : (β1 && β2) = true → v57 = (Pt b_b (b_o + 1)) := hF.1
    have h23_ : v51 = (Bo (β1 && β2)) := hF.2.1
    clear hF
    obtain rfl := h23_
    refine doesG_g (b := (β1 && β2)) rfl (yld rfl rfl) (fun hg => ?_) (fun hg => ⟨fun h => absurd h hg, Ext.refl _⟩)
    obtain rfl := h29_ hg
    refine (does_load (u := (Fl r3)) (ev rfl) Try.isAgg25 (Cells.at ((hc_b.ext (Ext.gr X27 E30)).ext hu) 1 rfl)).mono ?_; rintro _ _ ⟨rfl, rfl⟩
    exact ⟨fun _ => rfl, Ext.refl _⟩
  refine RW_d (fun v59 => [(Pt b_b b_o), (.agg #[(Fl r13), (Fl r15), (Fl r17)]), Ud, (Pt b20 0), (Bo false), v33, v34, v35, v36, v37, v38, v39, v40, v41, v42, v43, v44, v45, v46, v47, v48, v49, v50, v51, v52, v53, v54, v55, v56, v57, v58, v59, Ud, Ud, Ud, Ud, Ud, Ud, Ud, Ud, Ud, Ud, Ud, Ud, Ud, Ud, Ud, Ud, Ud, Ud, Ud, Ud, Ud, Ud, Ud, Ud, Ud, Ud, Ud, Ud, Ud, Ud, Ud]) rfl (fun _ => rfl) (fun u hu hF => ?_) (fun v59 => ?_)
  · have h25_ : (β1 && β2) = true → v53 = (Fl r15) := hF.1
    have h30_ : (β1 && β2) = true → v58 = (Fl r3) := hF.2.1
    have h23_ : v51 = (Bo (β1 && β2)) := hF.2.2.1
    clear hF
    obtain rfl := h23_
    refine doesG_g (b := (β1 && β2)) rfl (yld rfl rfl) (fun hg => ?_) (fun hg => ⟨fun h => absurd h hg, Ext.refl _⟩)
    obtain rfl := h25_ hg
    obtain rfl := h30_ hg
    refine (does_fcmp (.inr (.inr (.inr (.inr (.inr rfl))))) (ev rfl) (ev rfl)).mono ?_; rintro _ _ ⟨rfl, rfl⟩
    exact ⟨fun _ => (by show _ = _; simp only [hβ3]), Ext.refl _⟩
  refine RW_d (fun v60 => [(Pt b_b b_o), (.agg #[(Fl r13), (Fl r15), (Fl r17)]), Ud, (Pt b20 0), (Bo false), v33, v34, v35, v36, v37, v38, v39, v40, v41, v42, v43, v44, v45, v46, v47, v48, v49, v50, v51, v52, v53, v54, v55, v56, v57, v58, v59, v60, Ud, Ud, Ud, Ud, Ud, Ud, Ud, Ud, Ud, Ud, Ud, Ud, Ud, Ud, Ud, Ud, Ud, Ud, Ud, Ud, Ud, Ud, Ud, Ud, Ud, Ud, Ud, Ud, Ud, Ud]) rfl (fun _ => rfl) (fun u hu hF => ?_) (fun v60 => ?_)
  · have h23_ : v51 = (Bo (β1 && β2)) := hF.1
    have h31_ : (β1 && β2) = true → v59 = (Bo β3) := hF.2.1
    clear hF
    obtain rfl := h23_
    refine doesG_un rfl ((does_pick (b := (β1 && β2)) (ev rfl) (ev rfl) (ev rfl)).mono ?_); rintro _ _ ⟨rfl, rfl⟩; refine ⟨?_, Ext.refl _⟩; skip
    cases hbb : (β1 && β2) <;> simp [hbb] at h31_ ⊢
    all_goals (first | rfl | (subst h31_; rfl) | simp_all)
  refine RW_d (fun v61 => [(Pt b_b b_o), (.agg #[(Fl r13), (Fl r15), (Fl r17)]), Ud, (Pt b20 0), (Bo false), v33, v34, v35, v36, v37, v38, v39, v40, v41, v42, v43, v44, v45, v46, v47, v48, v49, v50, v51, v52, v53, v54, v55, v56, v57, v58, v59, v60, v61, Ud, Ud, Ud, Ud, Ud, Ud, Ud, Ud, Ud, Ud, Ud, Ud, Ud, Ud, Ud, Ud, Ud, Ud, Ud, Ud, Ud, Ud, Ud, Ud, Ud, Ud, Ud, Ud, Ud]) rfl (fun _ => rfl) (fun u hu hF => ?_) (fun v61 => ?_)
  · have h32_ : v60 = (Bo ((β1 && β2) && β3)) := hF.1
    clear hF
    obtain rfl := h32_
    refine doesG_un rfl ?_
    refine (does_move (u := (Bo ((β1 && β2) && β3))) (ev rfl)).mono ?_; rintro _ _ ⟨rfl, rfl⟩
    exact ⟨rfl, Ext.refl _⟩
  refine RW_d (fun v62 => [(Pt b_b b_o), (.agg #[(Fl r13), (Fl r15), (Fl r17)]), Ud, (Pt b20 0), (Bo false), v33, v34, v35, v36, v37, v38, v39, v40, v41, v42, v43, v44, v45, v46, v47, v48, v49, v50, v51, v52, v53, v54, v55, v56, v57, v58, v59, v60, v61, v62, Ud, Ud, Ud, Ud, Ud, Ud, Ud, Ud, Ud, Ud, Ud, Ud, Ud, Ud, Ud, Ud, Ud, Ud, Ud, Ud, Ud, Ud, Ud, Ud, Ud, Ud, Ud, Ud]) rfl (fun _ => rfl) (fun u hu hF => ?_) (fun v62 => ?_)
  · have h33_ : v61 = (Bo ((β1 && β2) && β3)) := hF.1
    clear hF
    obtain rfl := h33_
    refine doesG_g (b := ((β1 && β2) && β3)) rfl (yld rfl rfl) (fun hg => ?_) (fun hg => ⟨fun h => absurd h hg, Ext.refl _⟩)
    refine (does_fieldAddr (ev rfl) fa31_1).mono ?_; rintro _ _ ⟨rfl, rfl⟩
    exact ⟨fun _ => rfl, Ext.refl _⟩
  refine RW_d (fun v63 => [(Pt b_b b_o), (.agg #[(Fl r13), (Fl r15), (Fl r17)]), Ud, (Pt b20 0), (Bo false), v33, v34, v35, v36, v37, v38, v39, v40, v41, v42, v43, v44, v45, v46, v47, v48, v49, v50, v51, v52, v53, v54, v55, v56, v57, v58, v59, v60, v61, v62, v63, Ud, Ud, Ud, Ud, Ud, Ud, Ud, Ud, Ud, Ud, Ud, Ud, Ud, Ud, Ud, Ud, Ud, Ud, Ud, Ud, Ud, Ud, Ud, Ud, Ud, Ud, Ud]) rfl (fun _ => rfl) (fun u hu hF => ?_) (fun v63 => ?_)
  · have h34_ : ((β1 && β2) && β3) = true → v62 = (Pt b20 1) := hF.1
    have h33_ : v61 = (Bo ((β1 && β2) && β3)) := hF.2.1
    clear hF
    obtain rfl := h33_
    refine doesG_g (b := ((β1 && β2) && β3)) rfl (yld rfl rfl) (fun hg => ?_) (fun hg => ⟨fun h => absurd h hg, Ext.refl _⟩)
    obtain rfl := h34_ hg
    refine (does_load (u := (Fl r15)) (ev rfl) Try.isAgg25 (Cells.at (Blk.cells ((hB22.ext E30).ext hu)) 1 rfl)).mono ?_; rintro _ _ ⟨rfl, rfl⟩
    exact ⟨fun _ => rfl, Ext.refl _⟩
  refine RW_d (fun v64 => [(Pt b_b b_o), (.agg #[(Fl r13), (Fl r15), (Fl r17)]), Ud, (Pt b20 0), (Bo false), v33, v34, v35, v36, v37, v38, v39, v40, v41, v42, v43, v44, v45, v46, v47, v48, v49, v50, v51, v52, v53, v54, v55, v56, v57, v58, v59, v60, v61, v62, v63, v64, Ud, Ud, Ud, Ud, Ud, Ud, Ud, Ud, Ud, Ud, Ud, Ud, Ud, Ud, Ud, Ud, Ud, Ud, Ud, Ud, Ud, Ud, Ud, Ud, Ud, Ud]) rfl (fun _ => rfl) (fun u hu hF => ?_) (fun v64 => ?_)
  · have h33_ : v61 = (Bo ((β1 && β2) && β3)) := hF.1
    clear hF
    obtain rfl := h33_
    refine doesG_g (b := ((β1 && β2) && β3)) rfl (yld rfl rfl) (fun hg => ?_) (fun hg => ⟨fun h => absurd h hg, Ext.refl _⟩)
    refine (does_move (u := (Pt b_b b_o)) (ev rfl)).mono ?_; rintro _ _ ⟨rfl, rfl⟩
    exact ⟨fun _ => rfl, Ext.refl _⟩
  refine RW_d (fun v65 => [(Pt b_b b_o), (.agg #[(Fl r13), (Fl r15), (Fl r17)]), Ud, (Pt b20 0), (Bo false), v33, v34, v35, v36, v37, v38, v39, v40, v41, v42, v43, v44, v45, v46, v47, v48, v49, v50, v51, v52, v53, v54, v55, v56, v57, v58, v59, v60, v61, v62, v63, v64, v65, Ud, Ud, Ud, Ud, Ud, Ud, Ud, Ud, Ud, Ud, Ud, Ud, Ud, Ud, Ud, Ud, Ud, Ud, Ud, Ud, Ud, Ud, Ud, Ud, Ud]) rfl (fun _ => rfl) (fun u hu hF => ?_) (fun v65 => ?_)
  · have h36_ : ((β1 && β2) && β3) = true → v64 = (Pt b_b b_o) := hF.1
    have h33_ : v61 = (Bo ((β1 && β2) && β3)) := hF.2.1
    clear hF
    obtain rfl := h33_
    refine doesG_g (b := ((β1 && β2) && β3)) rfl (yld rfl rfl) (fun hg => ?_) (fun hg => ⟨fun h => absurd h hg, Ext.refl _⟩)
    obtain rfl := h36_ hg
    refine (does_nilCheck (ev rfl)).mono ?_; rintro _ _ ⟨rfl, rfl⟩
    exact ⟨fun _ => rfl, Ext.refl _⟩
  refine RW_d (fun v66 => [(Pt b_b b_o), (.agg #[(Fl r13), (Fl r15), (Fl r17)]), Ud, (Pt b20 0), (Bo false), v33, v34, v35, v36, v37, v38, v39, v40, v41, v42, v43, v44, v45, v46, v47, v48, v49, v50, v51, v52, v53, v54, v55, v56, v57, v58, v59, v60, v61, v62, v63, v64, v65, v66, Ud, Ud, Ud, Ud, Ud, Ud, Ud, Ud, Ud, Ud, Ud, Ud, Ud, Ud, Ud, Ud, Ud, Ud, Ud, Ud, Ud, Ud, Ud, Ud]) rfl (fun _ => rfl) (fun u hu hF => ?_) (fun v66 => ?_)
  · have h37_ : ((β1 && β2) && β3) = true → v65 = (Pt b_b b_o) := hF.1
    have h33_ : v61 = (Bo ((β1 && β2) && β3)) := hF.2.1
    clear hF
    obtain rfl := h33_
    refine doesG_g (b := ((β1 && β2) && β3)) rfl (yld rfl rfl) (fun hg => ?_) (fun hg => ⟨fun h => absurd h hg, Ext.refl _⟩)
    obtain rfl := h37_ hg
    refine (does_fieldAddr (ev rfl) fa33_1).mono ?_; rintro _ _ ⟨rfl, rfl⟩
    exact ⟨fun _ => rfl, Ext.refl _⟩
  refine RW_d (fun v67 => [(Pt b_b b_o), (.agg #[(Fl r13), (Fl r15), (Fl r17)]), Ud, (Pt b20 0), (Bo false), v33, v34, v35, v36, v37, v38, v39, v40, v41, v42, v43, v44, v45, v46, v47, v48, v49, v50, v51, v52, v53, v54, v55, v56, v57, v58, v59, v60, v61, v62, v63, v64, v65, v66, v67, Ud, Ud, Ud, Ud, Ud, Ud, Ud, Ud, Ud, Ud, Ud, Ud, Ud, Ud, Ud, Ud, Ud, Ud, Ud, Ud, Ud, Ud, Ud]) rfl (fun _ => rfl) (fun u hu hF => ?_) (fun v67 => ?_)
  · have h38_ : ((β1 && β2) && β3) = true → v66 = (Pt b_b (b_o + 3)) := hF.1
    have h33_ : v61 = (Bo ((β1 && β2) && β3)) := hF.2.1
    clear hF
    obtain rfl := h33_
    refine doesG_g (b := ((β1 && β2) && β3)) rfl (yld rfl rfl) (fun hg => ?_) (fun hg => ⟨fun h => absurd h hg, Ext.refl _⟩)
    obtain rfl := h38_ hg
    refine (does_fieldAddr (ev rfl) fa31_1).mono ?_; rintro _ _ ⟨rfl, rfl⟩
    exact ⟨fun _ => rfl, Ext.refl _⟩
  refine RW_d (fun v68 => [(Pt b_b b_o), (.agg #[(Fl r13), (Fl r15), (Fl r17)]), Ud, (Pt b20 0), (Bo false), v33, v34, v35, v36, v37, v38, v39, v40, v41, v42, v43, v44, v45, v46, v47, v48, v49, v50, v51, v52, v53, v54, v55, v56, v57, v58, v59, v60, v61, v62, v63, v64, v65, v66, v67, v68, Ud, Ud, Ud, Ud, Ud, Ud, Ud, Ud, Ud, Ud, Ud, Ud, Ud, Ud, Ud, Ud, Ud, Ud, Ud, Ud, Ud, Ud]) rfl (fun _ => rfl) (fun u hu hF => ?_) (fun v68 => ?_)
  · have h39_ : ((β1 && β2) && β3) = true → v67 = (Pt b_b (b_o + 4)) := hF.1
    have h33_ : v61 = (Bo ((β1 && β2) && β3)) := hF.2.1
    clear hF
    obtain rfl := h33_
    refine doesG_g (b := ((β1 && β2) && β3)) rfl (yld rfl rfl) (fun hg => ?_) (fun hg => ⟨fun h => absurd h hg, Ext.refl _⟩)
    obtain rfl := h39_ hg
    refine (does_load (u := (Fl r9)) (ev rfl) Try.isAgg25 (Cells.at ((hc_b.ext (Ext.gr X27 E30)).ext hu) 4 rfl)).mono ?_; rintro _ _ ⟨rfl, rfl⟩
    exact ⟨fun _ => rfl, Ext.refl _⟩
  refine RW_d (fun v69 => [(Pt b_b b_o), (.agg #[(Fl r13), (Fl r15), (Fl r17)]), Ud, (Pt b20 0), (Bo false), v33, v34, v35, v36, v37, v38, v39, v40, v41, v42, v43, v44, v45, v46, v47, v48, v49, v50, v51, v52, v53, v54, v55, v56, v57, v58, v59, v60, v61, v62, v63, v64, v65, v66, v67, v68, v69, Ud, Ud, Ud, Ud, Ud, Ud, Ud, Ud, Ud, Ud, Ud, Ud, Ud, Ud, Ud, Ud, Ud, Ud, Ud, Ud, Ud]) rfl (fun _ => rfl) (fun u hu hF => ?_) (fun v69 => ?_)
  · have h35_ : ((β1 && β2) && β3) = true → v63 = (Fl r15) := hF.1
    have h40_ : ((β1 && β2) && β3) = true → v68 = (Fl r9) := hF.2.1
    have h33_ : v61 = (Bo ((β1 && β2) && β3)) := hF.2.2.1
    clear hF
    obtain rfl := h33_
    refine doesG_g (b := ((β1 && β2) && β3)) rfl (yld rfl rfl) (fun hg => ?_) (fun hg => ⟨fun h => absurd h hg, Ext.refl _⟩)
    obtain rfl := h35_ hg
    obtain rfl := h40_ hg
    refine (does_fcmp (.inr (.inr (.inr (.inl rfl)))) (ev rfl) (ev rfl)).mono ?_; rintro _ _ ⟨rfl, rfl⟩
    exact ⟨fun _ => (by show _ = _; simp only [hβ4]), Ext.refl _⟩
  refine RW_d (fun v70 => [(Pt b_b b_o), (.agg #[(Fl r13), (Fl r15), (Fl r17)]), Ud, (Pt b20 0), (Bo false), v33, v34, v35, v36, v37, v38, v39, v40, v41, v42, v43, v44, v45, v46, v47, v48, v49, v50, v51, v52, v53, v54, v55, v56, v57, v58, v59, v60, v61, v62, v63, v64, v65, v66, v67, v68, v69, v70, Ud, Ud, Ud, Ud, Ud, Ud, Ud, Ud, Ud, Ud, Ud, Ud, Ud, Ud, Ud, Ud, Ud, Ud, Ud, Ud]) rfl (fun _ => rfl) (fun u hu hF => ?_) (fun v70 => ?_)
  · have h33_ : v61 = (Bo ((β1 && β2) && β3)) := hF.1
    have h41_ : ((β1 && β2) && β3) = true → v69 = (Bo β4) := hF.2.1
    clear hF
    obtain rfl := h33_
    refine doesG_un rfl ((does_pick (b := ((β1 && β2) && β3)) (ev rfl) (ev rfl) (ev rfl)).mono ?_); rintro _ _ ⟨rfl, rfl⟩; refine ⟨?_, Ext.refl _⟩; skip
    cases hbb : ((β1 && β2) && β3) <;> simp [hbb] at h41_ ⊢
    all_goals (first | rfl | (subst h41_; rfl) | simp_all)
  refine RW_d (fun v71 => [(Pt b_b b_o), (.agg #[(Fl r13), (Fl r15), (Fl r17)]), Ud, (Pt b20 0), (Bo false), v33, v34, v35, v36, v37, v38, v39, v40, v41, v42, v43, v44, v45, v46, v47, v48, v49, v50, v51, v52, v53, v54, v55, v56, v57, v58, v59, v60, v61, v62, v63, v64, v65, v66, v67, v68, v69, v70, v71, Ud, Ud, Ud, Ud, Ud, Ud, Ud, Ud, Ud, Ud, Ud, Ud, Ud, Ud, Ud, Ud, Ud, Ud, Ud]) rfl (fun _ => rfl) (fun u hu hF => ?_) (fun v71 => ?_)
  · have h42_ : v70 = (Bo (((β1 && β2) && β3) && β4)) := hF.1
    clear hF
    obtain rfl := h42_
    refine doesG_un rfl ?_
    refine (does_move (u := (Bo (((β1 && β2) && β3) && β4))) (ev rfl)).mono ?_; rintro _ _ ⟨rfl, rfl⟩
    exact ⟨rfl, Ext.refl _⟩
  refine RW_d (fun v72 => [(Pt b_b b_o), (.agg #[(Fl r13), (Fl r15), (Fl r17)]), Ud, (Pt b20 0), (Bo false), v33, v34, v35, v36, v37, v38, v39, v40, v41, v42, v43, v44, v45, v46, v47, v48, v49, v50, v51, v52, v53, v54, v55, v56, v57, v58, v59, v60, v61, v62, v63, v64, v65, v66, v67, v68, v69, v70, v71, v72, Ud, Ud, Ud, Ud, Ud, Ud, Ud, Ud, Ud, Ud, Ud, Ud, Ud, Ud, Ud, Ud, Ud, Ud]) rfl (fun _ => rfl) (fun u hu hF => ?_) (fun v72 => ?_)
  · have h43_ : v71 = (Bo (((β1 && β2) && β3) && β4)) := hF.1
    clear hF
    obtain rfl := h43_
    refine doesG_g (b := (((β1 && β2) && β3) && β4)) rfl (yld rfl rfl) (fun hg => ?_) (fun hg => ⟨fun h => absurd h hg, Ext.refl _⟩)
    refine (does_fieldAddr (ev rfl) fa31_2).mono ?_; rintro _ _ ⟨rfl, rfl⟩
    exact ⟨fun _ => rfl, Ext.refl _⟩
  refine RW_d (fun v73 => [(Pt b_b b_o), (.agg #[(Fl r13), (Fl r15), (Fl r17)]), Ud, (Pt b20 0), (Bo false), v33, v34, v35, v36, v37, v38, v39, v40, v41, v42, v43, v44, v45, v46, v47, v48, v49, v50, v51, v52, v53, v54, v55, v56, v57, v58, v59, v60, v61, v62, v63, v64, v65, v66, v67, v68, v69, v70, v71, v72, v73, Ud, Ud, Ud, Ud, Ud, Ud, Ud, Ud, Ud, Ud, Ud, Ud, Ud, Ud, Ud, Ud, Ud]) rfl (fun _ => rfl) (fun u hu hF => ?_) (fun v73 => ?_)
  · have h44_ : (((β1 && β2) && β3) && β4) = true → v72 = (Pt b20 2) := hF.1
    have h43_ : v71 = (Bo (((β1 && β2) && β3) && β4)) := hF.2.1
    clear hF
    obtain rfl := h43_
    refine doesG_g (b := (((β1 && β2) && β3) && β4)) rfl (yld rfl rfl) (fun hg => ?_) (fun hg => ⟨fun h => absurd h hg, Ext.refl _⟩)
    obtain rfl := h44_ hg
    refine (does_load (u := (Fl r17)) (ev rfl) Try.isAgg25 (Cells.at (Blk.cells ((hB22.ext E30).ext hu)) 2 rfl)).mono ?_; rintro _ _ ⟨rfl, rfl⟩
    exact ⟨fun _ => rfl, Ext.refl _⟩
  refine RW_d (fun v74 => [(Pt b_b b_o), (.agg #[(Fl r13), (Fl r15), (Fl r17)]), Ud, (Pt b20 0), (Bo false), v33, v34, v35, v36, v37, v38, v39, v40, v41, v42, v43, v44, v45, v46, v47, v48, v49, v50, v51, v52, v53, v54, v55, v56, v57, v58, v59, v60, v61, v62, v63, v64, v65, v66, v67, v68, v69, v70, v71, v72, v73, v74, Ud, Ud, Ud, Ud, Ud, Ud, Ud, Ud, Ud, Ud, Ud, Ud, Ud, Ud, Ud, Ud]) rfl (fun _ => rfl) (fun u hu hF => ?_) (fun v74 => ?_)
  · have h43_ : v71 = (Bo (((β1 && β2) && β3) && β4)) := hF.1
    clear hF
    obtain rfl := h43_
    refine doesG_g (b := (((β1 && β2) && β3) && β4)) rfl (yld rfl rfl) (fun hg => ?_) (fun hg => ⟨fun h => absurd h hg, Ext.refl _⟩)
    refine (does_move (u := (Pt b_b b_o)) (ev rfl)).mono ?_; rintro _ _ ⟨rfl, rfl⟩
    exact ⟨fun _ => rfl, Ext.refl _⟩
  refine RW_d (fun v75 => [(Pt b_b b_o), (.agg #[(Fl r13), (Fl r15), (Fl r17)]), Ud, (Pt b20 0), (Bo false), v33, v34, v35, v36, v37, v38, v39, v40, v41, v42, v43, v44, v45, v46, v47, v48, v49, v50, v51, v52, v53, v54, v55, v56, v57, v58, v59, v60, v61, v62, v63, v64, v65, v66, v67, v68, v69, v70, v71, v72, v73, v74, v75, Ud, Ud, Ud, Ud, Ud, Ud, Ud, Ud, Ud, Ud, Ud, Ud, Ud, Ud, Ud]) rfl (fun _ => rfl) (fun u hu hF => ?_) (fun v75 => ?_)
  · have h46_ : (((β1 && β2) && β3) && β4) = true → v74 = (Pt b_b b_o) := hF.1
    have h43_ : v71 = (Bo (((β1 && β2) && β3) && β4)) := hF.2.1
    clear hF
    obtain rfl := h43_
    refine doesG_g (b := (((β1 && β2) && β3) && β4)) rfl (yld rfl rfl) (fun hg => ?_) (fun hg => ⟨fun h => absurd h hg, Ext.refl _⟩)
    obtain rfl := h46_ hg
    refine (does_nilCheck (ev rfl)).mono ?_; rintro _ _ ⟨rfl, rfl⟩
    exact ⟨fun _ => rfl, Ext.refl _⟩
  refine RW_d (fun v76 => [(Pt b_b b_o), (.agg #[(Fl r13), (Fl r15), (Fl r17)]), Ud, (Pt b20 0), (Bo false), v33, v34, v35, v36, v37, v38, v39, v40, v41, v42, v43, v44, v45, v46, v47, v48, v49, v50, v51, v52, v53, v54, v55, v56, v57, v58, v59, v60, v61, v62, v63, v64, v65, v66, v67, v68, v69, v70, v71, v72, v73, v74, v75, v76, Ud, Ud, Ud, Ud, Ud, Ud, Ud, Ud, Ud, Ud, Ud, Ud, Ud, Ud]) rfl (fun _ => rfl) (fun u hu hF => ?_) (fun v76 => ?_)
  · have h47_ : (((β1 && β2) && β3) && β4) = true → v75 = (Pt b_b b_o) := hF.1
    have h43_ : v71 = (Bo (((β1 && β2) && β3) && β4)) := hF.2.1
    clear hF
    obtain rfl := h43_
    refine doesG_g (b := (((β1 && β2) && β3) && β4)) rfl (yld rfl rfl) (fun hg => ?_) (fun hg => ⟨fun h => absurd h hg, Ext.refl _⟩)
    obtain rfl := h47_ hg
    refine (does_fieldAddr (ev rfl) fa33_0).mono ?_; rintro _ _ ⟨rfl, rfl⟩
    exact ⟨fun _ => rfl, Ext.refl _⟩
  refine RW_d (fun v77 => [(Pt b_b b_o), (.agg #[(Fl r13), (Fl r15), (Fl r17)]), Ud, (Pt b20 0), (Bo false), v33, v34, v35, v36, v37, v38, v39, v40, v41, v42, v43, v44, v45, v46, v47, v48, v49, v50, v51, v52, v53, v54, v55, v56, v57, v58, v59, v60, v61, v62, v63, v64, v65, v66, v67, v68, v69, v70, v71, v72, v73, v74, v75, v76, v77, Ud, Ud, Ud, Ud, Ud, Ud, Ud, Ud, Ud, Ud, Ud, Ud, Ud]) rfl (fun _ => rfl) (fun u hu hF => ?_) (fun v77 => ?_)
  · have h48_ : (((β1 && β2) && β3) && β4) = true → v76 = (Pt b_b b_o) := hF.1
    have h43_ : v71 = (Bo (((β1 && β2) && β3) && β4)) := hF.2.1
    clear hF
    obtain rfl := h43_
    refine doesG_g (b := (((β1 && β2) && β3) && β4)) rfl (yld rfl rfl) (fun hg => ?_) (fun hg => ⟨fun h => absurd h hg, Ext.refl _⟩)
    obtain rfl := h48_ hg
    refine (does_fieldAddr (ev rfl) fa31_2).mono ?_; rintro _ _ ⟨rfl, rfl⟩
    exact ⟨fun _ => rfl, Ext.refl _⟩
  refine RW_d (fun v78 => [(Pt b_b b_o), (.agg #[(Fl r13), (Fl r15), (Fl r17)]), Ud, (Pt b20 0), (Bo false), v33, v34, v35, v36, v37, v38, v39, v40, v41, v42, v43, v44, v45, v46, v47, v48, v49, v50, v51, v52, v53, v54, v55, v56, v57, v58, v59, v60, v61, v62, v63, v64, v65, v66, v67, v68, v69, v70, v71, v72, v73, v74, v75, v76, v77, v78, Ud, Ud, Ud, Ud, Ud, Ud, Ud, Ud, Ud, Ud, Ud, Ud]) rfl (fun _ => rfl) (fun u hu hF => ?_) (fun v78 => ?_)
  · have h49_ : (((β1 && β2) && β3) && β4) = true → v77 = (Pt b_b (b_o + 2)) := hF.1
    have h43_ : v71 = (Bo (((β1 && β2) && β3) && β4)) := hF.2.1
    clear hF
    obtain rfl := h43_
    refine doesG_g (b := (((β1 && β2) && β3) && β4)) rfl (yld rfl rfl) (fun hg => ?_) (fun hg => ⟨fun h => absurd h hg, Ext.refl _⟩)
    obtain rfl := h49_ hg
    refine (does_load (u := (Fl r5)) (ev rfl) Try.isAgg25 (Cells.at ((hc_b.ext (Ext.gr X27 E30)).ext hu) 2 rfl)).mono ?_; rintro _ _ ⟨rfl, rfl⟩
    exact ⟨fun _ => rfl, Ext.refl _⟩
  refine RW_d (fun v79 => [(Pt b_b b_o), (.agg #[(Fl r13), (Fl r15), (Fl r17)]), Ud, (Pt b20 0), (Bo false), v33, v34, v35, v36, v37, v38, v39, v40, v41, v42, v43, v44, v45, v46, v47, v48, v49, v50, v51, v52, v53, v54, v55, v56, v57, v58, v59, v60, v61, v62, v63, v64, v65, v66, v67, v68, v69, v70, v71, v72, v73, v74, v75, v76, v77, v78, v79, Ud, Ud, Ud, Ud, Ud, Ud, Ud, Ud, Ud, Ud, Ud]) rfl (fun _ => rfl) (fun u hu hF => ?_) (fun v79 => ?_)
  · have h45_ : (((β1 && β2) && β3) && β4) = true → v73 = (Fl r17) := hF.1
    have h50_ : (((β1 && β2) && β3) && β4) = true → v78 = (Fl r5) := hF.2.1
    have h43_ : v71 = (Bo (((β1 && β2) && β3) && β4)) := hF.2.2.1
    clear hF
    obtain rfl := h43_
    refine doesG_g (b := (((β1 && β2) && β3) && β4)) rfl (yld rfl rfl) (fun hg => ?_) (fun hg => ⟨fun h => absurd h hg, Ext.refl _⟩)
    obtain rfl := h45_ hg
    obtain rfl := h50_ hg
    refine (does_fcmp (.inr (.inr (.inr (.inr (.inr rfl))))) (ev rfl) (ev rfl)).mono ?_; rintro _ _ ⟨rfl, rfl⟩
    exact ⟨fun _ => (by show _ = _; simp only [hβ5]), Ext.refl _⟩
  refine RW_d (fun v80 => [(Pt b_b b_o), (.agg #[(Fl r13), (Fl r15), (Fl r17)]), Ud, (Pt b20 0), (Bo false), v33, v34, v35, v36, v37, v38, v39, v40, v41, v42, v43, v44, v45, v46, v47, v48, v49, v50, v51, v52, v53, v54, v55, v56, v57, v58, v59, v60, v61, v62, v63, v64, v65, v66, v67, v68, v69, v70, v71, v72, v73, v74, v75, v76, v77, v78, v79, v80, Ud, Ud, Ud, Ud, Ud, Ud, Ud, Ud, Ud, Ud]) rfl (fun _ => rfl) (fun u hu hF => ?_) (fun v80 => ?_)
  · have h43_ : v71 = (Bo (((β1 && β2) && β3) && β4)) := hF.1
    have h51_ : (((β1 && β2) && β3) && β4) = true → v79 = (Bo β5) := hF.2.1
    clear hF
    obtain rfl := h43_
    refine doesG_un rfl ((does_pick (b := (((β1 && β2) && β3) && β4)) (ev rfl) (ev rfl) (ev rfl)).mono ?_); rintro _ _ ⟨rfl, rfl⟩; refine ⟨?_, Ext.refl _⟩; rw [hβ6]; skip
    cases hbb : (((β1 && β2) && β3) && β4) <;> simp [hbb] at h51_ ⊢
    all_goals (first | rfl | (subst h51_; rfl) | simp_all)
  refine RW_d (fun v81 => [(Pt b_b b_o), (.agg #[(Fl r13), (Fl r15), (Fl r17)]), Ud, (Pt b20 0), (Bo false), v33, v34, v35, v36, v37, v38, v39, v40, v41, v42, v43, v44, v45, v46, v47, v48, v49, v50, v51, v52, v53, v54, v55, v56, v57, v58, v59, v60, v61, v62, v63, v64, v65, v66, v67, v68, v69, v70, v71, v72, v73, v74, v75, v76, v77, v78, v79, v80, v81, Ud, Ud, Ud, Ud, Ud, Ud, Ud, Ud, Ud]) rfl (fun _ => rfl) (fun u hu hF => ?_) (fun v81 => ?_)
  · have h52_ : v80 = (Bo β6) := hF.1
    clear hF
    obtain rfl := h52_
    refine doesG_un rfl ?_
    refine (does_move (u := (Bo β6)) (ev rfl)).mono ?_; rintro _ _ ⟨rfl, rfl⟩
    exact ⟨rfl, Ext.refl _⟩
  refine RW_d (fun v82 => [(Pt b_b b_o), (.agg #[(Fl r13), (Fl r15), (Fl r17)]), Ud, (Pt b20 0), (Bo false), v33, v34, v35, v36, v37, v38, v39, v40, v41, v42, v43, v44, v45, v46, v47, v48, v49, v50, v51, v52, v53, v54, v55, v56, v57, v58, v59, v60, v61, v62, v63, v64, v65, v66, v67, v68, v69, v70, v71, v72, v73, v74, v75, v76, v77, v78, v79, v80, v81, v82, Ud, Ud, Ud, Ud, Ud, Ud, Ud, Ud]) rfl (fun _ => rfl) (fun u hu hF => ?_) (fun v82 => ?_)
  · have h53_ : v81 = (Bo β6) := hF.1
    clear hF
    obtain rfl := h53_
    refine doesG_g (b := β6) rfl (yld rfl rfl) (fun hg => ?_) (fun hg => ⟨fun h => absurd h hg, Ext.refl _⟩)
    refine (does_fieldAddr (ev rfl) fa31_2).mono ?_; rintro _ _ ⟨rfl, rfl⟩
    exact ⟨fun _ => rfl, Ext.refl _⟩
  refine RW_d (fun v83 => [(Pt b_b b_o), (.agg #[(Fl r13), (Fl r15), (Fl r17)]), Ud, (Pt b20 0), (Bo false), v33, v34, v35, v36, v37, v38, v39, v40, v41, v42, v43, v44, v45, v46, v47, v48, v49, v50, v51, v52, v53, v54, v55, v56, v57, v58, v59, v60, v61, v62, v63, v64, v65, v66, v67, v68, v69, v70, v71, v72, v73, v74, v75, v76, v77, v78, v79, v80, v81, v82, v83, Ud, Ud, Ud, Ud, Ud, Ud, Ud]) rfl (fun _ => rfl) (fun u hu hF => ?_) (fun v83 => ?_)
  · have h54_ : β6 = true → v82 = (Pt b20 2) := hF.1
    have h53_ : v81 = (Bo β6) := hF.2.1
    clear hF
    obtain rfl := h53_
    refine doesG_g (b := β6) rfl (yld rfl rfl) (fun hg => ?_) (fun hg => ⟨fun h => absurd h hg, Ext.refl _⟩)
    obtain rfl := h54_ hg
    refine (does_load (u := (Fl r17)) (ev rfl) Try.isAgg25 (Cells.at (Blk.cells ((hB22.ext E30).ext hu)) 2 rfl)).mono ?_; rintro _ _ ⟨rfl, rfl⟩
    exact ⟨fun _ => rfl, Ext.refl _⟩
  refine RW_d (fun v84 => [(Pt b_b b_o), (.agg #[(Fl r13), (Fl r15), (Fl r17)]), Ud, (Pt b20 0), (Bo false), v33, v34, v35, v36, v37, v38, v39, v40, v41, v42, v43, v44, v45, v46, v47, v48, v49, v50, v51, v52, v53, v54, v55, v56, v57, v58, v59, v60, v61, v62, v63, v64, v65, v66, v67, v68, v69, v70, v71, v72, v73, v74, v75, v76, v77, v78, v79, v80, v81, v82, v83, v84, Ud, Ud, Ud, Ud, Ud, Ud]) rfl (fun _ => rfl) (fun u hu hF => ?_) (fun v84 => ?_)
  · have h53_ : v81 = (Bo β6) := hF.1
    clear hF
    obtain rfl := h53_
    refine doesG_g (b := β6) rfl (yld rfl rfl) (fun hg => ?_) (fun hg => ⟨fun h => absurd h hg, Ext.refl _⟩)
    refine (does_move (u := (Pt b_b b_o)) (ev rfl)).mono ?_; rintro _ _ ⟨rfl, rfl⟩
    exact ⟨fun _ => rfl, Ext.refl _⟩
  refine RW_d (fun v85 => [(Pt b_b b_o), (.agg #[(Fl r13), (Fl r15), (Fl r17)]), Ud, (Pt b20 0), (Bo false), v33, v34, v35, v36, v37, v38, v39, v40, v41, v42, v43, v44, v45, v46, v47, v48, v49, v50, v51, v52, v53, v54, v55, v56, v57, v58, v59, v60, v61, v62, v63, v64, v65, v66, v67, v68, v69, v70, v71, v72, v73, v74, v75, v76, v77, v78, v79, v80, v81, v82, v83, v84, v85, Ud, Ud, Ud, Ud, Ud]) rfl (fun _ => rfl) (fun u hu hF => ?_) (fun v85 => ?_)
  · have h56_ : β6 = true → v84 = (Pt b_b b_o) := hF.1
    have h53_ : v81 = (Bo β6) := hF.2.1
    clear hF
    obtain rfl := h53_
    refine doesG_g (b := β6) rfl (yld rfl rfl) (fun hg => ?_) (fun hg => ⟨fun h => absurd h hg, Ext.refl _⟩)
    obtain rfl := h56_ hg
    refine (does_nilCheck (ev rfl)).mono ?_; rintro _ _ ⟨rfl, rfl⟩
    exact ⟨fun _ => rfl, Ext.refl _⟩
  refine RW_d (fun v86 => [(Pt b_b b_o), (.agg #[(Fl r13), (Fl r15), (Fl r17)]), Ud, (Pt b20 0), (Bo false), v33, v34, v35, v36, v37, v38, v39, v40, v41, v42, v43, v44, v45, v46, v47, v48, v49, v50, v51, v52, v53, v54, v55, v56, v57, v58, v59, v60, v61, v62, v63, v64, v65, v66, v67, v68, v69, v70, v71, v72, v73, v74, v75, v76, v77, v78, v79, v80, v81, v82, v83, v84, v85, v86, Ud, Ud, Ud, Ud]) rfl (fun _ => rfl) (fun u hu hF => ?_) (fun v86 => ?_)
  · have h57_ : β6 = true → v85 = (Pt b_b b_o) := hF.1
    have h53_ : v81 = (Bo β6) := hF.2.1
    clear hF
    obtain rfl := h53_
    refine doesG_g (b := β6) rfl (yld rfl rfl) (fun hg => ?_) (fun hg => ⟨fun h => absurd h hg, Ext.refl _⟩)
    obtain rfl := h57_ hg
    refine (does_fieldAddr (ev rfl) fa33_1).mono ?_; rintro _ _ ⟨rfl, rfl⟩
    exact ⟨fun _ => rfl, Ext.refl _⟩
  refine RW_d (fun v87 => [(Pt b_b b_o), (.agg #[(Fl r13), (Fl r15), (Fl r17)]), Ud, (Pt b20 0), (Bo false), v33, v34, v35, v36, v37, v38, v39, v40, v41, v42, v43, v44, v45, v46, v47, v48, v49, v50, v51, v52, v53, v54, v55, v56, v57, v58, v59, v60, v61, v62, v63, v64, v65, v66, v67, v68, v69, v70, v71, v72, v73, v74, v75, v76, v77, v78, v79, v80, v81, v82, v83, v84, v85, v86, v87, Ud, Ud, Ud]) rfl (fun _ => rfl) (fun u hu hF => ?_) (fun v87 => ?_)
  · have h58_ : β6 = true → v86 = (Pt b_b (b_o + 3)) := hF.1
    have h53_ : v81 = (Bo β6) := hF.2.1
    clear hF
    obtain rfl := h53_
    refine doesG_g (b := β6) rfl (yld rfl rfl) (fun hg => ?_) (fun hg => ⟨fun h => absurd h hg, Ext.refl _⟩)
    obtain rfl := h58_ hg
    refine (does_fieldAddr (ev rfl) fa31_2).mono ?_; rintro _ _ ⟨rfl, rfl⟩
    exact ⟨fun _ => rfl, Ext.refl _⟩
  refine RW_d (fun v88 => [(Pt b_b b_o), (.agg #[(Fl r13), (Fl r15), (Fl r17)]), Ud, (Pt b20 0), (Bo false), v33, v34, v35, v36, v37, v38, v39, v40, v41, v42, v43, v44, v45, v46, v47, v48, v49, v50, v51, v52, v53, v54, v55, v56, v57, v58, v59, v60, v61, v62, v63, v64, v65, v66, v67, v68, v69, v70, v71, v72, v73, v74, v75, v76, v77, v78, v79, v80, v81, v82, v83, v84, v85, v86, v87, v88, Ud, Ud]) rfl (fun _ => rfl) (fun u hu hF => ?_) (fun v88 => ?_)
  · have h59_ : β6 = true → v87 = (Pt b_b (b_o + 5)) := hF.1
    have h53_ : v81 = (Bo β6) := hF.2.1
    clear hF
    obtain rfl := h53_
    refine doesG_g (b := β6) rfl (yld rfl rfl) (fun hg => ?_) (fun hg => ⟨fun h => absurd h hg, Ext.refl _⟩)
    obtain rfl := h59_ hg
    refine (does_load (u := (Fl r11)) (ev rfl) Try.isAgg25 (Cells.at ((hc_b.ext (Ext.gr X27 E30)).ext hu) 5 rfl)).mono ?_; rintro _ _ ⟨rfl, rfl⟩
    exact ⟨fun _ => rfl, Ext.refl _⟩
  refine RW_d (fun v89 => [(Pt b_b b_o), (.agg #[(Fl r13), (Fl r15), (Fl r17)]), Ud, (Pt b20 0), (Bo false), v33, v34, v35, v36, v37, v38, v39, v40, v41, v42, v43, v44, v45, v46, v47, v48, v49, v50, v51, v52, v53, v54, v55, v56, v57, v58, v59, v60, v61, v62, v63, v64, v65, v66, v67, v68, v69, v70, v71, v72, v73, v74, v75, v76, v77, v78, v79, v80, v81, v82, v83, v84, v85, v86, v87, v88, v89, Ud]) rfl (fun _ => rfl) (fun u hu hF => ?_) (fun v89 => ?_)
  · have h55_ : β6 = true → v83 = (Fl r17) := hF.1
    have h60_ : β6 = true → v88 = (Fl r11) := hF.2.1
    have h53_ : v81 = (Bo β6) := hF.2.2.1
    clear hF
    obtain rfl := h53_
    refine doesG_g (b := β6) rfl (yld rfl rfl) (fun hg => ?_) (fun hg => ⟨fun h => absurd h hg, Ext.refl _⟩)
    obtain rfl := h55_ hg
    obtain rfl := h60_ hg
    refine (does_fcmp (.inr (.inr (.inr (.inl rfl)))) (ev rfl) (ev rfl)).mono ?_; rintro _ _ ⟨rfl, rfl⟩
    exact ⟨fun _ => (by show _ = _; simp only [hβ7]), Ext.refl _⟩
  refine RW_d (fun v90 => [(Pt b_b b_o), (.agg #[(Fl r13), (Fl r15), (Fl r17)]), Ud, (Pt b20 0), (Bo false), v33, v34, v35, v36, v37, v38, v39, v40, v41, v42, v43, v44, v45, v46, v47, v48, v49, v50, v51, v52, v53, v54, v55, v56, v57, v58, v59, v60, v61, v62, v63, v64, v65, v66, v67, v68, v69, v70, v71, v72, v73, v74, v75, v76, v77, v78, v79, v80, v81, v82, v83, v84, v85, v86, v87, v88, v89, v90]) rfl (fun _ => rfl) (fun u hu hF => ?_) (fun v90 => ?_)
  · have h53_ : v81 = (Bo β6) := hF.1
    have h61_ : β6 = true → v89 = (Bo β7) := hF.2.1
    clear hF
    obtain rfl := h53_
    refine doesG_un rfl ((does_pick (b := β6) (ev rfl) (ev rfl) (ev rfl)).mono ?_); rintro _ _ ⟨rfl, rfl⟩; refine ⟨?_, Ext.refl _⟩; skip
    cases hbb : β6 <;> simp [hbb] at h61_ ⊢
    all_goals (first | rfl | (subst h61_; rfl) | simp_all)
  refine RW_fin ?_; intro w91 E92 hP93
  obtain ⟨⟨⟨⟨⟨⟨⟨⟨⟨⟨⟨⟨⟨⟨⟨⟨⟨⟨⟨⟨⟨⟨⟨⟨⟨⟨⟨⟨⟨⟨⟨⟨⟨⟨⟨⟨⟨⟨⟨⟨⟨⟨⟨⟨⟨⟨⟨⟨⟨⟨⟨⟨⟨⟨⟨⟨⟨⟨-, -⟩, -⟩, -⟩, -⟩, -⟩, -⟩, -⟩, -⟩, -⟩, -⟩, -⟩, -⟩, -⟩, -⟩, -⟩, -⟩, -⟩, -⟩, -⟩, -⟩, -⟩, -⟩, -⟩, -⟩, -⟩, -⟩, -⟩, -⟩, -⟩, -⟩, -⟩, -⟩, -⟩, -⟩, -⟩, -⟩, -⟩, -⟩, -⟩, -⟩, -⟩, -⟩, -⟩, -⟩, -⟩, -⟩, -⟩, -⟩, -⟩, -⟩, -⟩, -⟩, -⟩, -⟩, -⟩, -⟩, -⟩, q94⟩ := hP93
  have X95 := Ext.gr X32 E92
  have q94 : v90 = (Bo (β6 && β7)) := q94
  obtain rfl := q94
  show wpList _ _ _ _ (fr [(Pt b_b b_o), (.agg #[(Fl r13), (Fl r15), (Fl r17)]), Ud, (Pt b20 0), (Bo false), v33, v34, v35, v36, v37, v38, v39, v40, v41, v42, v43, v44, v45, v46, v47, v48, v49, v50, v51, v52, v53, v54, v55, v56, v57, v58, v59, v60, v61, v62, v63, v64, v65, v66, v67, v68, v69, v70, v71, v72, v73, v74, v75, v76, v77, v78, v79, v80, v81, v82, v83, v84, v85, v86, v87, v88, v89, (Bo (β6 && β7))]) _
  refine q_is (l' := [(Pt b_b b_o), (.agg #[(Fl r13), (Fl r15), (Fl r17)]), Ud, (Pt b20 0), (Bo (β6 && β7)), v33, v34, v35, v36, v37, v38, v39, v40, v41, v42, v43, v44, v45, v46, v47, v48, v49, v50, v51, v52, v53, v54, v55, v56, v57, v58, v59, v60, v61, v62, v63, v64, v65, v66, v67, v68, v69, v70, v71, v72, v73, v74, v75, v76, v77, v78, v79, v80, v81, v82, v83, v84, v85, v86, v87, v88, v89, (Bo (β6 && β7))]) rfl rfl (does_assign (u := (Bo (β6 && β7))) (ev rfl)) rfl ?_
  refine wpList_nil (hK28 _ _ ?_)
  refine wp_ret ?_
  refine ret_val (v := (Bo (β6 && β7))) (res_T rfl (slot rfl)) X95 ?_
  have x96 : (inBox A_b A_p) = (β6 && β7) := by first | rfl | (simp only [inBox, h2, h4, h6, h8, h10, h12, h14, h16, h18, hβ1, hβ2, hβ3, hβ4, hβ5, hβ6, hβ7]; done) | (simp [inBox, h2, h4, h6, h8, h10, h12, h14, h16, h18, hβ1, hβ2, hβ3, hβ4, hβ5, hβ6, hβ7]; done)
  exact (by first | rfl | rw [x96])

/- spec.IsInBox -/
theorem c_spec_IsInBox (b : List Value) (A_b : Bx) (p : List Value) (A_p : V3) (w : World) (hv_b : RBx w A_b b) (hv_p : RV3 w A_p p) : Gives Try.prog 20 #[(.agg b.toArray), (.agg p.toArray)] w (fun v w' => v = (Bo (isBox A_b && inBox A_b A_p))) := by
  obtain ⟨r1, r3, r5, r7, r9, r11, rfl, h2, h4, h6, h8, h10, h12⟩ := hv_b
  obtain ⟨r13, r15, r17, rfl, h14, h16, h18⟩ := hv_p
  refine enter [(.agg #[(Fl r1), (Fl r3), (Fl r5), (Fl r7), (Fl r9), (Fl r11)]), (.agg #[(Fl r13), (Fl r15), (Fl r17)]), Ud, Ud, Ud, Ud, Ud, Ud, Ud, Ud] Try.func20 rfl Try.ntmps20 rfl ?_
  refine wp_seq_k fun K19 hK19 => ?_
  refine wp_region_lit ?_
  refine seqd rfl rfl (does_box (u := (.agg #[(Fl r1), (Fl r3), (Fl r5), (Fl r7), (Fl r9), (Fl r11)])) (ev rfl)) ?_; rintro _ w24 ⟨b20, rfl, hb21, hB22, E23⟩
  have g25 : w.heap.size ≤ b20 := Nat.le_trans (Below.size (Ext.refl w)) hb21
  change Blk _ _ [(Fl r1), (Fl r3), (Fl r5), (Fl r7), (Fl r9), (Fl r11)] at hB22
  have X26 := Ext.gr (Ext.refl w) E23
  show wpList _ _ _ _ (fr [(.agg #[(Fl r1), (Fl r3), (Fl r5), (Fl r7), (Fl r9), (Fl r11)]), (.agg #[(Fl r13), (Fl r15), (Fl r17)]), (Pt b20 0), Ud, Ud, Ud, Ud, Ud, Ud, Ud]) _
  refine seqd rfl rfl (does_box (u := (.agg #[(Fl r13), (Fl r15), (Fl r17)])) (ev rfl)) ?_; rintro _ w31 ⟨b27, rfl, hb28, hB29, E30⟩
  have n32 : b20 < b27 := Nat.lt_of_lt_of_le (Blk.lt hB22) hb28
  have g33 : w.heap.size ≤ b27 := Nat.le_trans (Below.size X26) hb28
  change Blk _ _ [(Fl r13), (Fl r15), (Fl r17)] at hB29
  have X34 := Ext.gr X26 E30
  show wpList _ _ _ _ (fr [(.agg #[(Fl r1), (Fl r3), (Fl r5), (Fl r7), (Fl r9), (Fl r11)]), (.agg #[(Fl r13), (Fl r15), (Fl r17)]), (Pt b20 0), (Pt b27 0), Ud, Ud, Ud, Ud, Ud, Ud]) _
  refine q_is (l' := [(.agg #[(Fl r1), (Fl r3), (Fl r5), (Fl r7), (Fl r9), (Fl r11)]), (.agg #[(Fl r13), (Fl r15), (Fl r17)]), (Pt b20 0), (Pt b27 0), (Bo false), Ud, Ud, Ud, Ud, Ud]) rfl rfl (does_assign (u := (Bo false)) (ev rfl)) rfl ?_
  refine wpList_nil (hK19 _ _ ?_)
  refine wp_seq_k fun K35 hK35 => ?_
  obtain ⟨β1, hβ1⟩ : ∃ b : Bool, b = ((isBox A_b) && (inBox A_b A_p)) := ⟨_, rfl⟩
  refine region_text (
    [Fact.pure [] (fun v => v = (Bo (isBox A_b))),
    Fact.pure [5] (fun v => v = (Bo (isBox A_b))),
    Fact.pure [6] (fun v => (isBox A_b) = true → v = (.agg #[(Fl r13), (Fl r15), (Fl r17)])),
    Fact.pure [7, 6] (fun v => (isBox A_b) = true → v = (Bo (inBox A_b A_p))),
    Fact.pure [6, 8] (fun v => v = (Bo β1))]) (by simp [Fact.pure, Fact.mem]) ?_
  refine RW_d (fun v36 => [(.agg #[(Fl r1), (Fl r3), (Fl r5), (Fl r7), (Fl r9), (Fl r11)]), (.agg #[(Fl r13), (Fl r15), (Fl r17)]), (Pt b20 0), (Pt b27 0), (Bo false), v36, Ud, Ud, Ud, Ud]) rfl (fun _ => rfl) (fun u hu hF => ?_) (fun v36 => ?_)
  · clear hF
    refine doesG_un rfl ?_
    refine (does_call (args := #[(Pt b20 0)]) cal51 (evs rfl) (c_spec_l04Is b20 0 [(Fl r1), (Fl r3), (Fl r5), (Fl r7), (Fl r9), (Fl r11)] A_b _ (Blk.cells ((hB22.ext E30).ext hu)) ⟨r1, r3, r5, r7, r9, r11, rfl, h2, h4, h6, h8, h10, h12⟩)).mono ?_; rintro v u' ⟨hx, hv⟩
    exact ⟨hv, hx⟩
  refine RW_d (fun v37 => [(.agg #[(Fl r1), (Fl r3), (Fl r5), (Fl r7), (Fl r9), (Fl r11)]), (.agg #[(Fl r13), (Fl r15), (Fl r17)]), (Pt b20 0), (Pt b27 0), (Bo false), v36, v37, Ud, Ud, Ud]) rfl (fun _ => rfl) (fun u hu hF => ?_) (fun v37 => ?_)
  · have h5_ : v36 = (Bo (isBox A_b)) := hF.1
    clear hF
    obtain rfl := h5_
    refine doesG_un rfl ?_
    refine (does_move (u := (Bo (isBox A_b))) (ev rfl)).mono ?_; rintro _ _ ⟨rfl, rfl⟩
    exact ⟨rfl, Ext.refl _⟩
  refine RW_d (fun v38 => [(.agg #[(Fl r1), (Fl r3), (Fl r5), (Fl r7), (Fl r9), (Fl r11)]), (.agg #[(Fl r13), (Fl r15), (Fl r17)]), (Pt b20 0), (Pt b27 0), (Bo false), v36, v37, v38, Ud, Ud]) rfl (fun _ => rfl) (fun u hu hF => ?_) (fun v38 => ?_)
  · have h6_ : v37 = (Bo (isBox A_b)) := hF.1
    clear hF
    obtain rfl := h6_
    refine doesG_g (b := (isBox A_b)) rfl (yld rfl rfl) (fun hg => ?_) (fun hg => ⟨fun h => absurd h hg, Ext.refl _⟩)
    refine (does_loadAgg (cs := [(Fl r13), (Fl r15), (Fl r17)]) (ev rfl) Try.isAgg31 Try.sizeOf31 (Blk.cells (hB29.ext hu)) rfl).mono ?_; rintro _ _ ⟨rfl, rfl⟩
    exact ⟨fun _ => rfl, Ext.refl _⟩
  refine RW_d (fun v39 => [(.agg #[(Fl r1), (Fl r3), (Fl r5), (Fl r7), (Fl r9), (Fl r11)]), (.agg #[(Fl r13), (Fl r15), (Fl r17)]), (Pt b20 0), (Pt b27 0), (Bo false), v36, v37, v38, v39, Ud]) rfl (fun _ => rfl) (fun u hu hF => ?_) (fun v39 => ?_)
  · have h7_ : (isBox A_b) = true → v38 = (.agg #[(Fl r13), (Fl r15), (Fl r17)]) := hF.1
    have h6_ : v37 = (Bo (isBox A_b)) := hF.2.1
    clear hF
    obtain rfl := h6_
    refine doesG_g (b := (isBox A_b)) rfl (yld rfl rfl) (fun hg => ?_) (fun hg => ⟨fun h => absurd h hg, Ext.refl _⟩)
    obtain rfl := h7_ hg
    refine (does_call (args := #[(Pt b20 0), (.agg #[(Fl r13), (Fl r15), (Fl r17)])]) cal53 (evs rfl) (c_spec_l04In b20 0 [(Fl r1), (Fl r3), (Fl r5), (Fl r7), (Fl r9), (Fl r11)] A_b [(Fl r13), (Fl r15), (Fl r17)] A_p _ (Blk.cells ((hB22.ext E30).ext hu)) ⟨r1, r3, r5, r7, r9, r11, rfl, h2, h4, h6, h8, h10, h12⟩ ⟨r13, r15, r17, rfl, h14, h16, h18⟩)).mono ?_; rintro v u' ⟨hx, hv⟩
    exact ⟨fun _ => hv, hx⟩
  refine RW_d (fun v40 => [(.agg #[(Fl r1), (Fl r3), (Fl r5), (Fl r7), (Fl r9), (Fl r11)]), (.agg #[(Fl r13), (Fl r15), (Fl r17)]), (Pt b20 0), (Pt b27 0), (Bo false), v36, v37, v38, v39, v40]) rfl (fun _ => rfl) (fun u hu hF => ?_) (fun v40 => ?_)
  · have h6_ : v37 = (Bo (isBox A_b)) := hF.1
    have h8_ : (isBox A_b) = true → v39 = (Bo (inBox A_b A_p)) := hF.2.1
    clear hF
    obtain rfl := h6_
    refine doesG_un rfl ((does_pick (b := (isBox A_b)) (ev rfl) (ev rfl) (ev rfl)).mono ?_); rintro _ _ ⟨rfl, rfl⟩; refine ⟨?_, Ext.refl _⟩; rw [hβ1]; skip
    cases hbb : (isBox A_b) <;> simp [hbb] at h8_ ⊢
    all_goals (first | rfl | (subst h8_; rfl) | simp_all)
  refine RW_fin ?_; intro w41 E42 hP43
  obtain ⟨⟨⟨⟨⟨-, -⟩, -⟩, -⟩, -⟩, q44⟩ := hP43
  have X45 := Ext.gr X34 E42
  have q44 : v40 = (Bo β1) := q44
  obtain rfl := q44
  show wpList _ _ _ _ (fr [(.agg #[(Fl r1), (Fl r3), (Fl r5), (Fl r7), (Fl r9), (Fl r11)]), (.agg #[(Fl r13), (Fl r15), (Fl r17)]), (Pt b20 0), (Pt b27 0), (Bo false), v36, v37, v38, v39, (Bo β1)]) _
  refine q_is (l' := [(.agg #[(Fl r1), (Fl r3), (Fl r5), (Fl r7), (Fl r9), (Fl r11)]), (.agg #[(Fl r13), (Fl r15), (Fl r17)]), (Pt b20 0), (Pt b27 0), (Bo β1), v36, v37, v38, v39, (Bo β1)]) rfl rfl (does_assign (u := (Bo β1)) (ev rfl)) rfl ?_
  refine wpList_nil (hK35 _ _ ?_)
  refine wp_ret ?_
  refine ret_val (v := (Bo β1)) (res_T rfl (slot rfl)) X45 ?_
  have x46 : (isBox A_b && inBox A_b A_p) = β1 := by first | rfl | (simp only [h2, h4, h6, h8, h10, h12, h14, h16, h18, hβ1]; done) | (simp [h2, h4, h6, h8, h10, h12, h14, h16, h18, hβ1]; done)
  exact (by first | rfl | rw [x46])

/- slices.IndexFunc[[]float32,float32] -/
theorem c_slices_IndexFunc_float32_float32 (xs : Value) (L_xs : List Nat) (f : Value) (pr_f : Nat → Bool) (w : World) (hv_xs : Sl RF 1 w xs L_xs) (hv_f : TellsF Try.prog f w pr_f) : Gives Try.prog 130 #[xs, f] w (fun v w' => v = (Iv (findI pr_f L_xs))) := by
  have hlen_xs := Sl.len hv_xs; obtain ⟨p_xs, q_xs, rfl⟩ := Sl.shape hv_xs
  obtain ⟨f_f, s_f, c_f, rfl, hcal_f, hg_f⟩ := hv_f
  refine enter [(.slice p_xs L_xs.length q_xs), (.func (.func f_f) s_f c_f), Ud, Ud, Ud, Ud, Ud, Ud, Ud, Ud, Ud, Ud, Ud, Ud, Ud, Ud, Ud, Ud, Ud] Try.func130 rfl Try.ntmps130 rfl ?_
  refine wp_seq_k fun K1 hK1 => ?_
  refine wp_region_lit ?_
  refine q_is (l' := [(.slice p_xs L_xs.length q_xs), (.func (.func f_f) s_f c_f), Ud, Ud, (Iv 0), Ud, Ud, Ud, Ud, Ud, Ud, Ud, Ud, Ud, Ud, Ud, Ud, Ud, Ud]) rfl rfl (does_assign (u := (Iv 0)) (ev rfl)) rfl ?_
  refine wpList_nil (hK1 _ _ ?_)
  refine wp_seq_k fun K2 hK2 => ?_
  refine wp_seq_k fun K3 hK3 => ?_
  refine wp_region_lit ?_
  refine q_is (l' := [(.slice p_xs L_xs.length q_xs), (.func (.func f_f) s_f c_f), Ud, Ud, (Iv 0), Ud, (.slice p_xs L_xs.length q_xs), Ud, Ud, Ud, Ud, Ud, Ud, Ud, Ud, Ud, Ud, Ud, Ud]) rfl rfl (does_move (u := (.slice p_xs L_xs.length q_xs)) (ev rfl)) rfl ?_
  refine q_is (l' := [(.slice p_xs L_xs.length q_xs), (.func (.func f_f) s_f c_f), Ud, Ud, (Iv 0), Ud, (.slice p_xs L_xs.length q_xs), (Iv (L_xs.length : Int)), Ud, Ud, Ud, Ud, Ud, Ud, Ud, Ud, Ud, Ud, Ud]) rfl rfl (does_len_slice Try.underlying73 (ev rfl)) rfl ?_
  refine q_is (l' := [(.slice p_xs L_xs.length q_xs), (.func (.func f_f) s_f c_f), Ud, Ud, (Iv 0), Ud, (.slice p_xs L_xs.length q_xs), (Iv (L_xs.length : Int)), (Iv 0), Ud, Ud, Ud, Ud, Ud, Ud, Ud, Ud, Ud, Ud]) rfl rfl (does_move (u := (Iv 0)) (ev rfl)) rfl ?_
  refine wpList_nil (hK3 _ _ ?_)
  refine wp_block ?_
  refine loop_ghost (σ := Nat) (fun k a w' => ∃ u4 : Nat → Value, a = fr [(.slice p_xs L_xs.length q_xs), (.func (.func f_f) s_f c_f), Ud, Ud, (u4 4), (u4 5), (.slice p_xs L_xs.length q_xs), (Iv (L_xs.length : Int)), (Iv (k : Int)), (u4 9), (u4 10), (u4 11), (u4 12), (u4 13), (u4 14), (u4 15), (u4 16), (u4 17), (u4 18)] ∧ Ext w w' ∧ (k ≤ L_xs.length ∧ NoneTo pr_f L_xs k)) (fun k => L_xs.length - k) 0 ?_ ?_
  · refine ⟨fun t => (([(.slice p_xs L_xs.length q_xs), (.func (.func f_f) s_f c_f), Ud, Ud, (Iv 0), Ud, (.slice p_xs L_xs.length q_xs), (Iv (L_xs.length : Int)), (Iv 0), Ud, Ud, Ud, Ud, Ud, Ud, Ud, Ud, Ud, Ud] : List Value)[t]?).getD undef, rfl, Ext.refl _, ?_⟩
    exact ⟨Nat.zero_le _, NoneTo.zero⟩
  · rintro k a w5 ⟨u4, rfl, E6, ⟨hk, hno⟩⟩
    have X7 := Ext.gr (Ext.refl w) E6
    refine wp_seq_k fun K8 hK8 => ?_
    refine wp_region_lit ?_
    refine q_is (l' := [(.slice p_xs L_xs.length q_xs), (.func (.func f_f) s_f c_f), Ud, Ud, (u4 4), (u4 5), (.slice p_xs L_xs.length q_xs), (Iv (L_xs.length : Int)), (Iv (k : Int)), (Bo (icmp .lss (k : Int) (L_xs.length : Int))), (u4 10), (u4 11), (u4 12), (u4 13), (u4 14), (u4 15), (u4 16), (u4 17), (u4 18)]) rfl rfl (does_icmp (p := (k : Int)) (q := (L_xs.length : Int)) (.inr (.inr (.inl rfl))) (ev rfl) (ev rfl)) rfl ?_
    refine wpList_nil (hK8 _ _ ?_)
    refine wp_seq_k fun K9 hK9 => ?_
    refine wp_cond_split (t := icmp .lss (k : Int) (L_xs.length : Int)) (ev rfl) (fun c10 => ?_) (fun c10 => ?_)
    · have c10' := c10
      (try simp only [icmp, Bool.and_eq_true, Bool.or_eq_true, Bool.and_eq_false_iff, Bool.or_eq_false_iff, Bool.not_eq_true', Bool.not_eq_false', decide_eq_true_eq, decide_eq_false_iff_not, beq_iff_eq, bne_iff_ne, beq_eq_false_iff_ne, bne_eq_false_iff_eq] at c10')
      refine wp_skip (hK9 _ _ ?_)
      refine wp_seq_k fun K11 hK11 => ?_
      refine wp_block ?_
      refine wp_seq_k fun K12 hK12 => ?_
      refine wp_region_lit ?_
      refine q_is (l' := [(.slice p_xs L_xs.length q_xs), (.func (.func f_f) s_f c_f), Ud, Ud, (u4 4), (u4 5), (.slice p_xs L_xs.length q_xs), (Iv (L_xs.length : Int)), (Iv (k : Int)), (Bo (icmp .lss (k : Int) (L_xs.length : Int))), (Iv (k : Int)), (u4 11), (u4 12), (u4 13), (u4 14), (u4 15), (u4 16), (u4 17), (u4 18)]) rfl rfl (does_move (u := (Iv (k : Int))) (ev rfl)) rfl ?_
      refine q_is (l' := [(.slice p_xs L_xs.length q_xs), (.func (.func f_f) s_f c_f), Ud, Ud, (u4 4), (Iv (k : Int)), (.slice p_xs L_xs.length q_xs), (Iv (L_xs.length : Int)), (Iv (k : Int)), (Bo (icmp .lss (k : Int) (L_xs.length : Int))), (Iv (k : Int)), (u4 11), (u4 12), (u4 13), (u4 14), (u4 15), (u4 16), (u4 17), (u4 18)]) rfl rfl (does_assign (u := (Iv (k : Int))) (ev rfl)) rfl ?_
      refine wpList_nil (hK12 _ _ ?_)
      refine wp_seq_k fun K13 hK13 => ?_
      refine wp_region_lit ?_
      refine q_is (l' := [(.slice p_xs L_xs.length q_xs), (.func (.func f_f) s_f c_f), Ud, Ud, (u4 4), (Iv (k : Int)), (.slice p_xs L_xs.length q_xs), (Iv (L_xs.length : Int)), (Iv (k : Int)), (Bo (icmp .lss (k : Int) (L_xs.length : Int))), (Iv (k : Int)), (.func (.func f_f) s_f c_f), (u4 12), (u4 13), (u4 14), (u4 15), (u4 16), (u4 17), (u4 18)]) rfl rfl (does_move (u := (.func (.func f_f) s_f c_f)) (ev rfl)) rfl ?_
      refine q_is (l' := [(.slice p_xs L_xs.length q_xs), (.func (.func f_f) s_f c_f), Ud, Ud, (u4 4), (Iv (k : Int)), (.slice p_xs L_xs.length q_xs), (Iv (L_xs.length : Int)), (Iv (k : Int)), (Bo (icmp .lss (k : Int) (L_xs.length : Int))), (Iv (k : Int)), (.func (.func f_f) s_f c_f), (.slice p_xs L_xs.length q_xs), (u4 13), (u4 14), (u4 15), (u4 16), (u4 17), (u4 18)]) rfl rfl (does_move (u := (.slice p_xs L_xs.length q_xs)) (ev rfl)) rfl ?_
      refine q_is (l' := [(.slice p_xs L_xs.length q_xs), (.func (.func f_f) s_f c_f), Ud, Ud, (u4 4), (Iv (k : Int)), (.slice p_xs L_xs.length q_xs), (Iv (L_xs.length : Int)), (Iv (k : Int)), (Bo (icmp .lss (k : Int) (L_xs.length : Int))), (Iv (k : Int)), (.func (.func f_f) s_f c_f), (.slice p_xs L_xs.length q_xs), (Iv (k : Int)), (u4 14), (u4 15), (u4 16), (u4 17), (u4 18)]) rfl rfl (does_move (u := (Iv (k : Int))) (ev rfl)) rfl ?_
      obtain ⟨e14, he15⟩ : ∃ e, L_xs[k]? = some e := ⟨_, List.getElem?_eq_getElem (by omega)⟩
      refine seqd rfl rfl (does_indexSl (R := RF) (i := (k : Int)) (xs := L_xs) (e := e14) Try.underlying73 Try.sizeOf25 (ev rfl) (ev rfl) (Sl.ext hv_xs RF.mono X7) (by omega) he15) ?_; rintro _ _ ⟨b16, o17, _, rfl, hc19, ⟨r20, rfl, h21⟩, rfl⟩
      show wpList _ _ _ _ (fr [(.slice p_xs L_xs.length q_xs), (.func (.func f_f) s_f c_f), Ud, Ud, (u4 4), (Iv (k : Int)), (.slice p_xs L_xs.length q_xs), (Iv (L_xs.length : Int)), (Iv (k : Int)), (Bo (icmp .lss (k : Int) (L_xs.length : Int))), (Iv (k : Int)), (.func (.func f_f) s_f c_f), (.slice p_xs L_xs.length q_xs), (Iv (k : Int)), (Pt b16 o17), (u4 15), (u4 16), (u4 17), (u4 18)]) _
      refine q_is (l' := [(.slice p_xs L_xs.length q_xs), (.func (.func f_f) s_f c_f), Ud, Ud, (u4 4), (Iv (k : Int)), (.slice p_xs L_xs.length q_xs), (Iv (L_xs.length : Int)), (Iv (k : Int)), (Bo (icmp .lss (k : Int) (L_xs.length : Int))), (Iv (k : Int)), (.func (.func f_f) s_f c_f), (.slice p_xs L_xs.length q_xs), (Iv (k : Int)), (Pt b16 o17), (Fl r20), (u4 16), (u4 17), (u4 18)]) rfl rfl (does_load (u := (Fl r20)) (ev rfl) Try.isAgg25 (Cells.at hc19 0 rfl)) rfl ?_
      refine seqd rfl rfl (does_callf (args := #[(Fl r20)]) (ev rfl) hcal_f (evs rfl) (hg_f r20 _ X7)) ?_; rintro _ w23 ⟨E22, rfl⟩
      have X24 := Ext.gr X7 E22
      show wpList _ _ _ _ (fr [(.slice p_xs L_xs.length q_xs), (.func (.func f_f) s_f c_f), Ud, Ud, (u4 4), (Iv (k : Int)), (.slice p_xs L_xs.length q_xs), (Iv (L_xs.length : Int)), (Iv (k : Int)), (Bo (icmp .lss (k : Int) (L_xs.length : Int))), (Iv (k : Int)), (.func (.func f_f) s_f c_f), (.slice p_xs L_xs.length q_xs), (Iv (k : Int)), (Pt b16 o17), (Fl r20), (Bo (pr_f (cf .f32 r20))), (u4 17), (u4 18)]) _
      refine wpList_nil (hK13 _ _ ?_)
      refine wp_cond_split (t := pr_f (cf .f32 r20)) (ev rfl) (fun c25 => ?_) (fun c25 => ?_)
      · have c25' := c25
        refine wp_seq_k fun K26 hK26 => ?_
        refine wp_region_lit ?_
        refine q_is (l' := [(.slice p_xs L_xs.length q_xs), (.func (.func f_f) s_f c_f), Ud, Ud, (u4 4), (Iv (k : Int)), (.slice p_xs L_xs.length q_xs), (Iv (L_xs.length : Int)), (Iv (k : Int)), (Bo (icmp .lss (k : Int) (L_xs.length : Int))), (Iv (k : Int)), (.func (.func f_f) s_f c_f), (.slice p_xs L_xs.length q_xs), (Iv (k : Int)), (Pt b16 o17), (Fl r20), (Bo (pr_f (cf .f32 r20))), (Iv (k : Int)), (u4 18)]) rfl rfl (does_move (u := (Iv (k : Int))) (ev rfl)) rfl ?_
        refine q_is (l' := [(.slice p_xs L_xs.length q_xs), (.func (.func f_f) s_f c_f), Ud, Ud, (Iv (k : Int)), (Iv (k : Int)), (.slice p_xs L_xs.length q_xs), (Iv (L_xs.length : Int)), (Iv (k : Int)), (Bo (icmp .lss (k : Int) (L_xs.length : Int))), (Iv (k : Int)), (.func (.func f_f) s_f c_f), (.slice p_xs L_xs.length q_xs), (Iv (k : Int)), (Pt b16 o17), (Fl r20), (Bo (pr_f (cf .f32 r20))), (Iv (k : Int)), (u4 18)]) rfl rfl (does_assign (u := (Iv (k : Int))) (ev rfl)) rfl ?_
        refine wpList_nil (hK26 _ _ ?_)
        refine wp_ret ?_
        dsimp only [Exit.then, Exit.inBlock]
        refine ret_val (v := (Iv (k : Int))) (res_T rfl (slot rfl)) X24 ?_
        try simp only [h21] at c10 c25
        have x27 : (findI pr_f L_xs : Int) = (k : Int) := by first | exact findI_at hno (by assumption) (by simp_all) | exact findI_none hno (by omega)
        exact (by first | rfl | rw [x27])
      have c25' := c25
      refine wp_skip (hK11 _ _ ?_)
      refine wp_region_lit ?_
      refine q_is (l' := [(.slice p_xs L_xs.length q_xs), (.func (.func f_f) s_f c_f), Ud, Ud, (u4 4), (Iv (k : Int)), (.slice p_xs L_xs.length q_xs), (Iv (L_xs.length : Int)), (Iv (k : Int)), (Bo (icmp .lss (k : Int) (L_xs.length : Int))), (Iv (k : Int)), (.func (.func f_f) s_f c_f), (.slice p_xs L_xs.length q_xs), (Iv (k : Int)), (Pt b16 o17), (Fl r20), (Bo (pr_f (cf .f32 r20))), (u4 17), (Iv ((k : Int) + 1))]) rfl rfl (does_iarith (p := (k : Int)) (q := 1) (r := (k : Int) + 1) (ev rfl) (ev rfl) (.inl ⟨rfl, (in_i64 (by omega) (by omega)).symm⟩)) rfl ?_
      refine q_is (l' := [(.slice p_xs L_xs.length q_xs), (.func (.func f_f) s_f c_f), Ud, Ud, (u4 4), (Iv (k : Int)), (.slice p_xs L_xs.length q_xs), (Iv (L_xs.length : Int)), (Iv ((k : Int) + 1)), (Bo (icmp .lss (k : Int) (L_xs.length : Int))), (Iv (k : Int)), (.func (.func f_f) s_f c_f), (.slice p_xs L_xs.length q_xs), (Iv (k : Int)), (Pt b16 o17), (Fl r20), (Bo (pr_f (cf .f32 r20))), (u4 17), (Iv ((k : Int) + 1))]) rfl rfl (does_move (u := (Iv ((k : Int) + 1))) (ev rfl)) rfl ?_
      refine wpList_nil ?_
      refine ⟨k + 1, ⟨fun t => (([(.slice p_xs L_xs.length q_xs), (.func (.func f_f) s_f c_f), Ud, Ud, (u4 4), (Iv (k : Int)), (.slice p_xs L_xs.length q_xs), (Iv (L_xs.length : Int)), (Iv ((k : Int) + 1)), (Bo (icmp .lss (k : Int) (L_xs.length : Int))), (Iv (k : Int)), (.func (.func f_f) s_f c_f), (.slice p_xs L_xs.length q_xs), (Iv (k : Int)), (Pt b16 o17), (Fl r20), (Bo (pr_f (cf .f32 r20))), (u4 17), (Iv ((k : Int) + 1))] : List Value)[t]?).getD undef, ?_, (Ext.gr E6 E22), ?_⟩, ?_⟩
      · first | rfl | (simp only [Nat.cast_add, Nat.cast_one, Int.natCast_add, Int.natCast_one]; rfl)
      · exact ⟨by omega, NoneTo.step hno (by assumption) (by simp_all)⟩
      · omega
    have c10' := c10
    (try simp only [icmp, Bool.and_eq_true, Bool.or_eq_true, Bool.and_eq_false_iff, Bool.or_eq_false_iff, Bool.not_eq_true', Bool.not_eq_false', decide_eq_true_eq, decide_eq_false_iff_not, beq_iff_eq, bne_iff_ne, beq_eq_false_iff_ne, bne_eq_false_iff_eq] at c10')
    refine wp_exit ?_
    refine hK2 _ _ ?_
    refine wp_seq_k fun K28 hK28 => ?_
    refine wp_region_lit ?_
    refine q_is (l' := [(.slice p_xs L_xs.length q_xs), (.func (.func f_f) s_f c_f), Ud, Ud, (Iv (-1)), (u4 5), (.slice p_xs L_xs.length q_xs), (Iv (L_xs.length : Int)), (Iv (k : Int)), (Bo (icmp .lss (k : Int) (L_xs.length : Int))), (u4 10), (u4 11), (u4 12), (u4 13), (u4 14), (u4 15), (u4 16), (u4 17), (u4 18)]) rfl rfl (does_assign (u := (Iv (-1))) (ev rfl)) rfl ?_
    refine wpList_nil (hK28 _ _ ?_)
    refine wp_ret ?_
    refine ret_val (v := (Iv (-1))) (res_T rfl (slot rfl)) X7 ?_
    have x29 : (findI pr_f L_xs : Int) = (-1) := by first | exact findI_at hno (by assumption) (by simp_all) | exact findI_none hno (by omega)
    exact (by first | rfl | rw [x29])

/- slices.ContainsFunc[[]float32,float32] -/
theorem c_slices_ContainsFunc_float32_float32 (xs : Value) (L_xs : List Nat) (f : Value) (pr_f : Nat → Bool) (w : World) (hv_xs : Sl RF 1 w xs L_xs) (hv_f : TellsF Try.prog f w pr_f) : Gives Try.prog 119 #[xs, f] w (fun v w' => v = (Bo (L_xs.any pr_f))) := by
  have hlen_xs := Sl.len hv_xs; obtain ⟨p_xs, q_xs, rfl⟩ := Sl.shape hv_xs
  obtain ⟨f_f, s_f, c_f, rfl, hcal_f, hg_f⟩ := hv_f
  refine enter [(.slice p_xs L_xs.length q_xs), (.func (.func f_f) s_f c_f), Ud, Ud, Ud, Ud, Ud, Ud, Ud] Try.func119 rfl Try.ntmps119 rfl ?_
  refine wp_seq_k fun K1 hK1 => ?_
  refine wp_region_lit ?_
  refine q_is (l' := [(.slice p_xs L_xs.length q_xs), (.func (.func f_f) s_f c_f), Ud, Ud, (Bo false), Ud, Ud, Ud, Ud]) rfl rfl (does_assign (u := (Bo false)) (ev rfl)) rfl ?_
  refine wpList_nil (hK1 _ _ ?_)
  refine wp_seq_k fun K2 hK2 => ?_
  refine wp_region_lit ?_
  refine q_is (l' := [(.slice p_xs L_xs.length q_xs), (.func (.func f_f) s_f c_f), Ud, Ud, (Bo false), (.slice p_xs L_xs.length q_xs), Ud, Ud, Ud]) rfl rfl (does_move (u := (.slice p_xs L_xs.length q_xs)) (ev rfl)) rfl ?_
  refine q_is (l' := [(.slice p_xs L_xs.length q_xs), (.func (.func f_f) s_f c_f), Ud, Ud, (Bo false), (.slice p_xs L_xs.length q_xs), (.func (.func f_f) s_f c_f), Ud, Ud]) rfl rfl (does_move (u := (.func (.func f_f) s_f c_f)) (ev rfl)) rfl ?_
  refine seqd rfl rfl (does_call (args := #[(.slice p_xs L_xs.length q_xs), (.func (.func f_f) s_f c_f)]) cal130 (evs rfl) (c_slices_IndexFunc_float32_float32 (.slice p_xs L_xs.length q_xs) L_xs (.func (.func f_f) s_f c_f) pr_f _ hv_xs ⟨_, _, _, rfl, hcal_f, fun r u hu' => hg_f r u (Ext.gr (Ext.refl w) hu')⟩)) ?_; rintro _ w4 ⟨E3, rfl⟩
  have X5 := Ext.gr (Ext.refl w) E3
  show wpList _ _ _ _ (fr [(.slice p_xs L_xs.length q_xs), (.func (.func f_f) s_f c_f), Ud, Ud, (Bo false), (.slice p_xs L_xs.length q_xs), (.func (.func f_f) s_f c_f), (Iv (findI pr_f L_xs)), Ud]) _
  refine q_is (l' := [(.slice p_xs L_xs.length q_xs), (.func (.func f_f) s_f c_f), Ud, Ud, (Bo false), (.slice p_xs L_xs.length q_xs), (.func (.func f_f) s_f c_f), (Iv (findI pr_f L_xs)), (Bo (icmp .geq (findI pr_f L_xs) 0))]) rfl rfl (does_icmp (p := findI pr_f L_xs) (q := 0) (.inr (.inr (.inr (.inr (.inr rfl))))) (ev rfl) (ev rfl)) rfl ?_
  refine q_is (l' := [(.slice p_xs L_xs.length q_xs), (.func (.func f_f) s_f c_f), Ud, Ud, (Bo (icmp .geq (findI pr_f L_xs) 0)), (.slice p_xs L_xs.length q_xs), (.func (.func f_f) s_f c_f), (Iv (findI pr_f L_xs)), (Bo (icmp .geq (findI pr_f L_xs) 0))]) rfl rfl (does_assign (u := (Bo (icmp .geq (findI pr_f L_xs) 0))) (ev rfl)) rfl ?_
  refine wpList_nil (hK2 _ _ ?_)
  refine wp_ret ?_
  refine ret_val (v := (Bo (icmp .geq (findI pr_f L_xs) 0))) (res_T rfl (slot rfl)) X5 ?_
  have x6 : (L_xs.any pr_f) = (icmp .geq (findI pr_f L_xs) 0) := by first | rfl | (simp only [findI_any]; done) | (simp [findI_any]; done)
  exact (by first | rfl | rw [x6])

/- impl.IsFinite -/
theorem c_impl_IsFinite (x : Nat) (w : World) : Gives Try.prog 118 #[(Fl x)] w (fun v w' => v = (Bo (finF (cf .f32 x)))) := by
  refine enter [(Fl x), Ud, Ud, Ud, Ud, Ud, Ud] Try.func118 rfl Try.ntmps118 rfl ?_
  refine wp_seq_k fun K1 hK1 => ?_
  refine wp_region_lit ?_
  refine q_is (l' := [(Fl x), Ud, (Bo false), Ud, Ud, Ud, Ud]) rfl rfl (does_assign (u := (Bo false)) (ev rfl)) rfl ?_
  refine wpList_nil (hK1 _ _ ?_)
  refine wp_seq_k fun K2 hK2 => ?_
  refine wp_region_lit ?_
  refine q_is (l' := [(Fl x), Ud, (Bo false), (Fl x), Ud, Ud, Ud]) rfl rfl (does_move (u := (Fl x)) (ev rfl)) rfl ?_
  refine q_is (l' := [(Fl x), Ud, (Bo false), (Fl x), (Fl x), Ud, Ud]) rfl rfl (does_move (u := (Fl x)) (ev rfl)) rfl ?_
  refine seqd rfl rfl (does_float (.inr (.inl rfl)) (ev rfl) (ev rfl)) ?_; rintro _ w6 ⟨r3, rfl, h4, E5⟩
  have X7 := Ext.gr (Ext.refl w) E5
  show wpList _ _ _ _ (fr [(Fl x), Ud, (Bo false), (Fl x), (Fl x), (Fl r3), Ud]) _
  refine q_is (l' := [(Fl x), Ud, (Bo false), (Fl x), (Fl x), (Fl r3), (Bo (fcmp .eql (ford .f32 (cf .f32 r3) (cf .f32 0))))]) rfl rfl (does_fcmp (.inl rfl) (ev rfl) (ev rfl)) rfl ?_
  refine q_is (l' := [(Fl x), Ud, (Bo (fcmp .eql (ford .f32 (cf .f32 r3) (cf .f32 0)))), (Fl x), (Fl x), (Fl r3), (Bo (fcmp .eql (ford .f32 (cf .f32 r3) (cf .f32 0))))]) rfl rfl (does_assign (u := (Bo (fcmp .eql (ford .f32 (cf .f32 r3) (cf .f32 0))))) (ev rfl)) rfl ?_
  refine wpList_nil (hK2 _ _ ?_)
  refine wp_ret ?_
  refine ret_val (v := (Bo (fcmp .eql (ford .f32 (cf .f32 r3) (cf .f32 0))))) (res_T rfl (slot rfl)) X7 ?_
  have x8 : (finF (cf .f32 x)) = (fcmp .eql (ford .f32 (cf .f32 r3) (cf .f32 0))) := by first | rfl | (simp only [finF, h4]; done) | (simp [finF, h4]; done)
  exact (by first | rfl | rw [x8])

/- impl.finite$1 -/
theorem c_impl_finite_1 (x : Nat) (w : World) : Gives Try.prog 120 #[(Fl x)] w (fun v w' => v = (Bo (!finF (cf .f32 x)))) := by
  refine enter [(Fl x), Ud, Ud, Ud, Ud, Ud] Try.func120 rfl Try.ntmps120 rfl ?_
  refine wp_seq_k fun K1 hK1 => ?_
  refine wp_region_lit ?_
  refine q_is (l' := [(Fl x), Ud, (Bo false), Ud, Ud, Ud]) rfl rfl (does_assign (u := (Bo false)) (ev rfl)) rfl ?_
  refine wpList_nil (hK1 _ _ ?_)
  refine wp_seq_k fun K2 hK2 => ?_
  refine wp_region_lit ?_
  refine q_is (l' := [(Fl x), Ud, (Bo false), (Fl x), Ud, Ud]) rfl rfl (does_move (u := (Fl x)) (ev rfl)) rfl ?_
  refine seqd rfl rfl (does_call (args := #[(Fl x)]) cal118 (evs rfl) (c_impl_IsFinite x _)) ?_; rintro _ w4 ⟨E3, rfl⟩
  have X5 := Ext.gr (Ext.refl w) E3
  show wpList _ _ _ _ (fr [(Fl x), Ud, (Bo false), (Fl x), (Bo (finF (cf .f32 x))), Ud]) _
  refine q_is (l' := [(Fl x), Ud, (Bo false), (Fl x), (Bo (finF (cf .f32 x))), (Bo (!(finF (cf .f32 x))))]) rfl rfl (does_not (ev rfl)) rfl ?_
  refine q_is (l' := [(Fl x), Ud, (Bo (!(finF (cf .f32 x)))), (Fl x), (Bo (finF (cf .f32 x))), (Bo (!(finF (cf .f32 x))))]) rfl rfl (does_assign (u := (Bo (!(finF (cf .f32 x))))) (ev rfl)) rfl ?_
  refine wpList_nil (hK2 _ _ ?_)
  refine wp_ret ?_
  refine ret_val (v := (Bo (!(finF (cf .f32 x))))) (res_T rfl (slot rfl)) X5 ?_
  have x6 : (!finF (cf .f32 x)) = (!(finF (cf .f32 x))) := by first | rfl | (simp only []; done) | (simp []; done)
  exact (by first | rfl | rw [x6])

/- impl.finite -/
theorem c_impl_finite (xs : Value) (L_xs : List Nat) (w : World) (hv_xs : Sl RF 1 w xs L_xs) : Gives Try.prog 97 #[xs] w (fun v w' => v = (Bo (!L_xs.any (fun x => !finF x)))) := by
  have hlen_xs := Sl.len hv_xs; obtain ⟨p_xs, q_xs, rfl⟩ := Sl.shape hv_xs
  refine enter [(.slice p_xs L_xs.length q_xs), Ud, Ud, Ud, Ud, Ud] Try.func97 rfl Try.ntmps97 rfl ?_
  refine wp_seq_k fun K1 hK1 => ?_
  refine wp_region_lit ?_
  refine q_is (l' := [(.slice p_xs L_xs.length q_xs), Ud, (Bo false), Ud, Ud, Ud]) rfl rfl (does_assign (u := (Bo false)) (ev rfl)) rfl ?_
  refine wpList_nil (hK1 _ _ ?_)
  refine wp_seq_k fun K2 hK2 => ?_
  refine wp_region_lit ?_
  refine q_is (l' := [(.slice p_xs L_xs.length q_xs), Ud, (Bo false), (.slice p_xs L_xs.length q_xs), Ud, Ud]) rfl rfl (does_move (u := (.slice p_xs L_xs.length q_xs)) (ev rfl)) rfl ?_
  refine seqd rfl rfl (does_call (args := #[(.slice p_xs L_xs.length q_xs), (.func (.func 120) #[] #[])]) cal119 (evs rfl) (c_slices_ContainsFunc_float32_float32 (.slice p_xs L_xs.length q_xs) L_xs (.func (.func 120) #[] #[]) (fun x => !finF x) _ hv_xs ⟨120, #[], #[], rfl, cal120, fun r u hu' => by simpa using (c_impl_finite_1 r u)⟩)) ?_; rintro _ w4 ⟨E3, rfl⟩
  have X5 := Ext.gr (Ext.refl w) E3
  show wpList _ _ _ _ (fr [(.slice p_xs L_xs.length q_xs), Ud, (Bo false), (.slice p_xs L_xs.length q_xs), (Bo (L_xs.any (fun x => !finF x))), Ud]) _
  refine q_is (l' := [(.slice p_xs L_xs.length q_xs), Ud, (Bo false), (.slice p_xs L_xs.length q_xs), (Bo (L_xs.any (fun x => !finF x))), (Bo (!(L_xs.any (fun x => !finF x))))]) rfl rfl (does_not (ev rfl)) rfl ?_
  refine q_is (l' := [(.slice p_xs L_xs.length q_xs), Ud, (Bo (!(L_xs.any (fun x => !finF x)))), (.slice p_xs L_xs.length q_xs), (Bo (L_xs.any (fun x => !finF x))), (Bo (!(L_xs.any (fun x => !finF x))))]) rfl rfl (does_assign (u := (Bo (!(L_xs.any (fun x => !finF x))))) (ev rfl)) rfl ?_
  refine wpList_nil (hK2 _ _ ?_)
  refine wp_ret ?_
  refine ret_val (v := (Bo (!(L_xs.any (fun x => !finF x))))) (res_T rfl (slot rfl)) X5 ?_
  have x6 : (!L_xs.any (fun x => !finF x)) = (!(L_xs.any (fun x => !finF x))) := by first | rfl | (simp only []; done) | (simp []; done)
  exact (by first | rfl | rw [x6])

/- impl.finiteVector -/
theorem c_impl_finiteVector (v : List Value) (A_v : V3) (w : World) (hv_v : RV3 w A_v v) : Gives Try.prog 52 #[(.agg v.toArray)] w (fun v w' => v = (Bo (finV A_v))) := by
  obtain ⟨r1, r3, r5, rfl, h2, h4, h6⟩ := hv_v
  refine enter [(.agg #[(Fl r1), (Fl r3), (Fl r5)]), Ud, Ud, Ud, Ud, Ud, Ud, Ud, Ud, Ud, Ud] Try.func52 rfl Try.ntmps52 rfl ?_
  refine wp_seq_k fun K7 hK7 => ?_
  refine wp_region_lit ?_
  refine seqd rfl rfl (does_box (u := (.agg #[(Fl r1), (Fl r3), (Fl r5)])) (ev rfl)) ?_; rintro _ w12 ⟨b8, rfl, hb9, hB10, E11⟩
  have g13 : w.heap.size ≤ b8 := Nat.le_trans (Below.size (Ext.refl w)) hb9
  change Blk _ _ [(Fl r1), (Fl r3), (Fl r5)] at hB10
  have X14 := Ext.gr (Ext.refl w) E11
  show wpList _ _ _ _ (fr [(.agg #[(Fl r1), (Fl r3), (Fl r5)]), (Pt b8 0), Ud, Ud, Ud, Ud, Ud, Ud, Ud, Ud, Ud]) _
  refine q_is (l' := [(.agg #[(Fl r1), (Fl r3), (Fl r5)]), (Pt b8 0), (Bo false), Ud, Ud, Ud, Ud, Ud, Ud, Ud, Ud]) rfl rfl (does_assign (u := (Bo false)) (ev rfl)) rfl ?_
  refine wpList_nil (hK7 _ _ ?_)
  refine wp_seq_k fun K15 hK15 => ?_
  refine wp_region_lit ?_
  refine q_is (l' := [(.agg #[(Fl r1), (Fl r3), (Fl r5)]), (Pt b8 0), (Bo false), (Pt b8 0), Ud, Ud, Ud, Ud, Ud, Ud, Ud]) rfl rfl (does_fieldAddr (ev rfl) fa31_0) rfl ?_
  refine q_is (l' := [(.agg #[(Fl r1), (Fl r3), (Fl r5)]), (Pt b8 0), (Bo false), (Pt b8 0), (Fl r1), Ud, Ud, Ud, Ud, Ud, Ud]) rfl rfl (does_load (u := (Fl r1)) (ev rfl) Try.isAgg25 (Cells.at (Blk.cells hB10) 0 rfl)) rfl ?_
  refine q_is (l' := [(.agg #[(Fl r1), (Fl r3), (Fl r5)]), (Pt b8 0), (Bo false), (Pt b8 0), (Fl r1), (Pt b8 1), Ud, Ud, Ud, Ud, Ud]) rfl rfl (does_fieldAddr (ev rfl) fa31_1) rfl ?_
  refine q_is (l' := [(.agg #[(Fl r1), (Fl r3), (Fl r5)]), (Pt b8 0), (Bo false), (Pt b8 0), (Fl r1), (Pt b8 1), (Fl r3), Ud, Ud, Ud, Ud]) rfl rfl (does_load (u := (Fl r3)) (ev rfl) Try.isAgg25 (Cells.at (Blk.cells hB10) 1 rfl)) rfl ?_
  refine q_is (l' := [(.agg #[(Fl r1), (Fl r3), (Fl r5)]), (Pt b8 0), (Bo false), (Pt b8 0), (Fl r1), (Pt b8 1), (Fl r3), (Pt b8 2), Ud, Ud, Ud]) rfl rfl (does_fieldAddr (ev rfl) fa31_2) rfl ?_
  refine q_is (l' := [(.agg #[(Fl r1), (Fl r3), (Fl r5)]), (Pt b8 0), (Bo false), (Pt b8 0), (Fl r1), (Pt b8 1), (Fl r3), (Pt b8 2), (Fl r5), Ud, Ud]) rfl rfl (does_load (u := (Fl r5)) (ev rfl) Try.isAgg25 (Cells.at (Blk.cells hB10) 2 rfl)) rfl ?_
  refine seqd rfl rfl (does_buildSlice (e := 25) (parts' := [(0, (Fl r1)), (1, (Fl r3)), (2, (Fl r5))]) (cells := [(Fl r1), (Fl r3), (Fl r5)]) (evp rfl) (fun _ => by kernel_rfl)) ?_; rintro _ w20 ⟨b16, rfl, hb17, hB18, E19⟩
  have n21 : b8 < b16 := Nat.lt_of_lt_of_le (Blk.lt hB10) hb17
  have g22 : w.heap.size ≤ b16 := Nat.le_trans (Below.size X14) hb17
  have X23 := Ext.gr X14 E19
  show wpList _ _ _ _ (fr [(.agg #[(Fl r1), (Fl r3), (Fl r5)]), (Pt b8 0), (Bo false), (Pt b8 0), (Fl r1), (Pt b8 1), (Fl r3), (Pt b8 2), (Fl r5), (.slice (some ⟨b16, 0, none⟩) 3 3), Ud]) _
  refine seqd rfl rfl (does_call (args := #[(.slice (some ⟨b16, 0, none⟩) 3 3)]) cal97 (evs rfl) (c_impl_finite (.slice (some ⟨b16, 0, none⟩) 3 3) [(cf .f32 r1), (cf .f32 r3), (cf .f32 r5)] _ (Sl_lit3 hB18 ⟨_, rfl, rfl⟩ ⟨_, rfl, rfl⟩ ⟨_, rfl, rfl⟩))) ?_; rintro _ w25 ⟨E24, rfl⟩
  have X26 := Ext.gr X23 E24
  show wpList _ _ _ _ (fr [(.agg #[(Fl r1), (Fl r3), (Fl r5)]), (Pt b8 0), (Bo false), (Pt b8 0), (Fl r1), (Pt b8 1), (Fl r3), (Pt b8 2), (Fl r5), (.slice (some ⟨b16, 0, none⟩) 3 3), (Bo (!([(cf .f32 r1), (cf .f32 r3), (cf .f32 r5)]).any (fun x => !finF x)))]) _
  refine q_is (l' := [(.agg #[(Fl r1), (Fl r3), (Fl r5)]), (Pt b8 0), (Bo (!([(cf .f32 r1), (cf .f32 r3), (cf .f32 r5)]).any (fun x => !finF x))), (Pt b8 0), (Fl r1), (Pt b8 1), (Fl r3), (Pt b8 2), (Fl r5), (.slice (some ⟨b16, 0, none⟩) 3 3), (Bo (!([(cf .f32 r1), (cf .f32 r3), (cf .f32 r5)]).any (fun x => !finF x)))]) rfl rfl (does_assign (u := (Bo (!([(cf .f32 r1), (cf .f32 r3), (cf .f32 r5)]).any (fun x => !finF x)))) (ev rfl)) rfl ?_
  refine wpList_nil (hK15 _ _ ?_)
  refine wp_ret ?_
  refine ret_val (v := (Bo (!([(cf .f32 r1), (cf .f32 r3), (cf .f32 r5)]).any (fun x => !finF x)))) (res_T rfl (slot rfl)) X26 ?_
  have x27 : (finV A_v) = (!([(cf .f32 r1), (cf .f32 r3), (cf .f32 r5)]).any (fun x => !finF x)) := by first | rfl | (simp only [finV, any3_finF, h2, h4, h6]; done) | (simp [finV, any3_finF, h2, h4, h6]; done)
  exact (by first | rfl | rw [x27])

/- impl.ValidBox -/
theorem c_impl_ValidBox (b : List Value) (A_b : Bx) (w : World) (hv_b : RBx w A_b b) : Gives Try.prog 19 #[(.agg b.toArray)] w (fun v w' => v = (Bo (isBox A_b))) := by
  obtain ⟨r1, r3, r5, r7, r9, r11, rfl, h2, h4, h6, h8, h10, h12⟩ := hv_b
  refine enter [(.agg #[(Fl r1), (Fl r3), (Fl r5), (Fl r7), (Fl r9), (Fl r11)]), Ud, Ud, Ud, Ud, Ud, Ud, Ud, Ud, Ud, Ud, Ud, Ud, Ud, Ud, Ud, Ud, Ud, Ud, Ud, Ud, Ud, Ud, Ud, Ud, Ud, Ud, Ud, Ud, Ud, Ud, Ud, Ud, Ud, Ud, Ud, Ud, Ud] Try.func19 rfl Try.ntmps19 rfl ?_
  refine wp_seq_k fun K13 hK13 => ?_
  refine wp_region_lit ?_
  refine seqd rfl rfl (does_box (u := (.agg #[(Fl r1), (Fl r3), (Fl r5), (Fl r7), (Fl r9), (Fl r11)])) (ev rfl)) ?_; rintro _ w18 ⟨b14, rfl, hb15, hB16, E17⟩
  have g19 : w.heap.size ≤ b14 := Nat.le_trans (Below.size (Ext.refl w)) hb15
  change Blk _ _ [(Fl r1), (Fl r3), (Fl r5), (Fl r7), (Fl r9), (Fl r11)] at hB16
  have X20 := Ext.gr (Ext.refl w) E17
  show wpList _ _ _ _ (fr [(.agg #[(Fl r1), (Fl r3), (Fl r5), (Fl r7), (Fl r9), (Fl r11)]), (Pt b14 0), Ud, Ud, Ud, Ud, Ud, Ud, Ud, Ud, Ud, Ud, Ud, Ud, Ud, Ud, Ud, Ud, Ud, Ud, Ud, Ud, Ud, Ud, Ud, Ud, Ud, Ud, Ud, Ud, Ud, Ud, Ud, Ud, Ud, Ud, Ud, Ud]) _
  refine q_is (l' := [(.agg #[(Fl r1), (Fl r3), (Fl r5), (Fl r7), (Fl r9), (Fl r11)]), (Pt b14 0), (Bo false), Ud, Ud, Ud, Ud, Ud, Ud, Ud, Ud, Ud, Ud, Ud, Ud, Ud, Ud, Ud, Ud, Ud, Ud, Ud, Ud, Ud, Ud, Ud, Ud, Ud, Ud, Ud, Ud, Ud, Ud, Ud, Ud, Ud, Ud, Ud]) rfl rfl (does_assign (u := (Bo false)) (ev rfl)) rfl ?_
  refine wpList_nil (hK13 _ _ ?_)
  refine wp_seq_k fun K21 hK21 => ?_
  obtain ⟨β1, hβ1⟩ : ∃ b : Bool, b = ((finV A_b.lo) && (finV A_b.hi)) := ⟨_, rfl⟩
  obtain ⟨β2, hβ2⟩ : ∃ b : Bool, b = (fcmp .leq (ford .f32 (cf .f32 r1) (cf .f32 r7))) := ⟨_, rfl⟩
  obtain ⟨β3, hβ3⟩ : ∃ b : Bool, b = (fcmp .leq (ford .f32 (cf .f32 r3) (cf .f32 r9))) := ⟨_, rfl⟩
  obtain ⟨β4, hβ4⟩ : ∃ b : Bool, b = (fcmp .leq (ford .f32 (cf .f32 r5) (cf .f32 r11))) := ⟨_, rfl⟩
  refine region_text (
    [Fact.pure [] (fun v => v = (Pt b14 0)),
    Fact.pure [3] (fun v => v = (.agg #[(Fl r1), (Fl r3), (Fl r5)])),
    Fact.pure [4] (fun v => v = (Bo (finV A_b.lo))),
    Fact.pure [5] (fun v => v = (Bo (finV A_b.lo))),
    Fact.pure [6] (fun v => (finV A_b.lo) = true → v = (Pt b14 3)),
    Fact.pure [7, 6] (fun v => (finV A_b.lo) = true → v = (.agg #[(Fl r7), (Fl r9), (Fl r11)])),
    Fact.pure [8, 6] (fun v => (finV A_b.lo) = true → v = (Bo (finV A_b.hi))),
    Fact.pure [6, 9] (fun v => v = (Bo β1)),
    Fact.pure [10] (fun v => v = (Bo β1)),
    Fact.pure [11] (fun v => β1 = true → v = (Pt b14 0)),
    Fact.pure [12, 11] (fun v => β1 = true → v = (Pt b14 0)),
    Fact.pure [13, 11] (fun v => β1 = true → v = (Fl r1)),
    Fact.pure [11] (fun v => β1 = true → v = (Pt b14 3)),
    Fact.pure [15, 11] (fun v => β1 = true → v = (Pt b14 3)),
    Fact.pure [16, 11] (fun v => β1 = true → v = (Fl r7)),
    Fact.pure [14, 17, 11] (fun v => β1 = true → v = (Bo β2)),
    Fact.pure [11, 18] (fun v => v = (Bo (β1 && β2))),
    Fact.pure [19] (fun v => v = (Bo (β1 && β2))),
    Fact.pure [20] (fun v => (β1 && β2) = true → v = (Pt b14 0)),
    Fact.pure [21, 20] (fun v => (β1 && β2) = true → v = (Pt b14 1)),
    Fact.pure [22, 20] (fun v => (β1 && β2) = true → v = (Fl r3)),
    Fact.pure [20] (fun v => (β1 && β2) = true → v = (Pt b14 3)),
    Fact.pure [24, 20] (fun v => (β1 && β2) = true → v = (Pt b14 4)),
    Fact.pure [25, 20] (fun v => (β1 && β2) = true → v = (Fl r9)),
    Fact.pure [23, 26, 20] (fun v => (β1 && β2) = true → v = (Bo β3)),
    Fact.pure [20, 27] (fun v => v = (Bo ((β1 && β2) && β3))),
    Fact.pure [28] (fun v => v = (Bo ((β1 && β2) && β3))),
    Fact.pure [29] (fun v => ((β1 && β2) && β3) = true → v = (Pt b14 0)),
    Fact.pure [30, 29] (fun v => ((β1 && β2) && β3) = true → v = (Pt b14 2)),
    Fact.pure [31, 29] (fun v => ((β1 && β2) && β3) = true → v = (Fl r5)),
    Fact.pure [29] (fun v => ((β1 && β2) && β3) = true → v = (Pt b14 3)),
    Fact.pure [33, 29] (fun v => ((β1 && β2) && β3) = true → v = (Pt b14 5)),
    Fact.pure [34, 29] (fun v => ((β1 && β2) && β3) = true → v = (Fl r11)),
    Fact.pure [32, 35, 29] (fun v => ((β1 && β2) && β3) = true → v = (Bo β4)),
    Fact.pure [29, 36] (fun v => v = (Bo (((β1 && β2) && β3) && β4)))]) (by simp [Fact.pure, Fact.mem]) ?_
  refine RW_d (fun v22 => [(.agg #[(Fl r1), (Fl r3), (Fl r5), (Fl r7), (Fl r9), (Fl r11)]), (Pt b14 0), (Bo false), v22, Ud, Ud, Ud, Ud, Ud, Ud, Ud, Ud, Ud, Ud, Ud, Ud, Ud, Ud, Ud, Ud, Ud, Ud, Ud, Ud, Ud, Ud, Ud, Ud, Ud, Ud, Ud, Ud, Ud, Ud, Ud, Ud, Ud, Ud]) rfl (fun _ => rfl) (fun u hu hF => ?_) (fun v22 => ?_)
  · clear hF
    refine doesG_un rfl ?_
    refine (does_fieldAddr (ev rfl) fa33_0).mono ?_; rintro _ _ ⟨rfl, rfl⟩
    exact ⟨rfl, Ext.refl _⟩
  refine RW_d (fun v23 => [(.agg #[(Fl r1), (Fl r3), (Fl r5), (Fl r7), (Fl r9), (Fl r11)]), (Pt b14 0), (Bo false), v22, v23, Ud, Ud, Ud, Ud, Ud, Ud, Ud, Ud, Ud, Ud, Ud, Ud, Ud, Ud, Ud, Ud, Ud, Ud, Ud, Ud, Ud, Ud, Ud, Ud, Ud, Ud, Ud, Ud, Ud, Ud, Ud, Ud, Ud]) rfl (fun _ => rfl) (fun u hu hF => ?_) (fun v23 => ?_)
  · have h3_ : v22 = (Pt b14 0) := hF.1
    clear hF
    obtain rfl := h3_
    refine doesG_un rfl ?_
    refine (does_loadAgg (cs := [(Fl r1), (Fl r3), (Fl r5)]) (ev rfl) Try.isAgg31 Try.sizeOf31 (Cells.sub (Blk.cells (hB16.ext hu)) 0 3) rfl).mono ?_; rintro _ _ ⟨rfl, rfl⟩
    exact ⟨rfl, Ext.refl _⟩
  refine RW_d (fun v24 => [(.agg #[(Fl r1), (Fl r3), (Fl r5), (Fl r7), (Fl r9), (Fl r11)]), (Pt b14 0), (Bo false), v22, v23, v24, Ud, Ud, Ud, Ud, Ud, Ud, Ud, Ud, Ud, Ud, Ud, Ud, Ud, Ud, Ud, Ud, Ud, Ud, Ud, Ud, Ud, Ud, Ud, Ud, Ud, Ud, Ud, Ud, Ud, Ud, Ud, Ud]) rfl (fun _ => rfl) (fun u hu hF => ?_) (fun v24 => ?_)
  · have h4_ : v23 = (.agg #[(Fl r1), (Fl r3), (Fl r5)]) := hF.1
    clear hF
    obtain rfl := h4_
    refine doesG_un rfl ?_
    refine (does_call (args := #[(.agg #[(Fl r1), (Fl r3), (Fl r5)])]) cal52 (evs rfl) (c_impl_finiteVector [(Fl r1), (Fl r3), (Fl r5)] A_b.lo _ ⟨r1, r3, r5, rfl, h2, h4, h6⟩)).mono ?_; rintro v u' ⟨hx, hv⟩
    exact ⟨hv, hx⟩
  refine RW_d (fun v25 => [(.agg #[(Fl r1), (Fl r3), (Fl r5), (Fl r7), (Fl r9), (Fl r11)]), (Pt b14 0), (Bo false), v22, v23, v24, v25, Ud, Ud, Ud, Ud, Ud, Ud, Ud, Ud, Ud, Ud, Ud, Ud, Ud, Ud, Ud, Ud, Ud, Ud, Ud, Ud, Ud, Ud, Ud, Ud, Ud, Ud, Ud, Ud, Ud, Ud, Ud]) rfl (fun _ => rfl) (fun u hu hF => ?_) (fun v25 => ?_)
  · have h5_ : v24 = (Bo (finV A_b.lo)) := hF.1
    clear hF
    obtain rfl := h5_
    refine doesG_un rfl ?_
    refine (does_move (u := (Bo (finV A_b.lo))) (ev rfl)).mono ?_; rintro _ _ ⟨rfl, rfl⟩
    exact ⟨rfl, Ext.refl _⟩
  refine RW_d (fun v26 => [(.agg #[(Fl r1), (Fl r3), (Fl r5), (Fl r7), (Fl r9), (Fl r11)]), (Pt b14 0), (Bo false), v22, v23, v24, v25, v26, Ud, Ud, Ud, Ud, Ud, Ud, Ud, Ud, Ud, Ud, Ud, Ud, Ud, Ud, Ud, Ud, Ud, Ud, Ud, Ud, Ud, Ud, Ud, Ud, Ud, Ud, Ud, Ud, Ud, Ud]) rfl (fun _ => rfl) (fun u hu hF => ?_) (fun v26 => ?_)
  · have h6_ : v25 = (Bo (finV A_b.lo)) := hF.1
    clear hF
    obtain rfl := h6_
    refine doesG_g (b := (finV A_b.lo)) rfl (yld rfl rfl) (fun hg => ?_) (fun hg => ⟨fun h => absurd h hg, Ext.refl _⟩)
    refine (does_fieldAddr (ev rfl) fa33_1).mono ?_; rintro _ _ ⟨rfl, rfl⟩
    exact ⟨fun _ => rfl, Ext.refl _⟩
  refine RW_d (fun v27 => [(.agg #[(Fl r1), (Fl r3), (Fl r5), (Fl r7), (Fl r9), (Fl r11)]), (Pt b14 0), (Bo false), v22, v23, v24, v25, v26, v27, Ud, Ud, Ud, Ud, Ud, Ud, Ud, Ud, Ud, Ud, Ud, Ud, Ud, Ud, Ud, Ud, Ud, Ud, Ud, Ud, Ud, Ud, Ud, Ud, Ud, Ud, Ud, Ud, Ud]) rfl (fun _ => rfl) (fun u hu hF => ?_) (fun v27 => ?_)
  · have h7_ : (finV A_b.lo) = true → v26 = (Pt b14 3) := hF.1
    have h6_ : v25 = (Bo (finV A_b.lo)) := hF.2.1
    clear hF
    obtain rfl := h6_
    refine doesG_g (b := (finV A_b.lo)) rfl (yld rfl rfl) (fun hg => ?_) (fun hg => ⟨fun h => absurd h hg, Ext.refl _⟩)
    obtain rfl := h7_ hg
    refine (does_loadAgg (cs := [(Fl r7), (Fl r9), (Fl r11)]) (ev rfl) Try.isAgg31 Try.sizeOf31 (Cells.sub (Blk.cells (hB16.ext hu)) 3 3) rfl).mono ?_; rintro _ _ ⟨rfl, rfl⟩
    exact ⟨fun _ => rfl, Ext.refl _⟩
  refine RW_d (fun v28 => [(.agg #[(Fl r1), (Fl r3), (Fl r5), (Fl r7), (Fl r9), (Fl r11)]), (Pt b14 0), (Bo false), v22, v23, v24, v25, v26, v27, v28, Ud, Ud, Ud, Ud, Ud, Ud, Ud, Ud, Ud, Ud, Ud, Ud, Ud, Ud, Ud, Ud, Ud, Ud, Ud, Ud, Ud, Ud, Ud, Ud, Ud, Ud, Ud, Ud]) rfl (fun _ => rfl) (fun u hu hF => ?_) (fun v28 => ?_)
  · have h8_ : (finV A_b.lo) = true → v27 = (.agg #[(Fl r7), (Fl r9), (Fl r11)]) := hF.1
    have h6_ : v25 = (Bo (finV A_b.lo)) := hF.2.1
    clear hF
    obtain rfl := h6_
    refine doesG_g (b := (finV A_b.lo)) rfl (yld rfl rfl) (fun hg => ?_) (fun hg => ⟨fun h => absurd h hg, Ext.refl _⟩)
    obtain rfl := h8_ hg
    refine (does_call (args := #[(.agg #[(Fl r7), (Fl r9), (Fl r11)])]) cal52 (evs rfl) (c_impl_finiteVector [(Fl r7), (Fl r9), (Fl r11)] A_b.hi _ ⟨r7, r9, r11, rfl, h8, h10, h12⟩)).mono ?_; rintro v u' ⟨hx, hv⟩
    exact ⟨fun _ => hv, hx⟩
  refine RW_d (fun v29 => [(.agg #[(Fl r1), (Fl r3), (Fl r5), (Fl r7), (Fl r9), (Fl r11)]), (Pt b14 0), (Bo false), v22, v23, v24, v25, v26, v27, v28, v29, Ud, Ud, Ud, Ud, Ud, Ud, Ud, Ud, Ud, Ud, Ud, Ud, Ud, Ud, Ud, Ud, Ud, Ud, Ud, Ud, Ud, Ud, Ud, Ud, Ud, Ud, Ud]) rfl (fun _ => rfl) (fun u hu hF => ?_) (fun v29 => ?_)
  · have h6_ : v25 = (Bo (finV A_b.lo)) := hF.1
    have h9_ : (finV A_b.lo) = true → v28 = (Bo (finV A_b.hi)) := hF.2.1
    clear hF
    obtain rfl := h6_
    refine doesG_un rfl ((does_pick (b := (finV A_b.lo)) (ev rfl) (ev rfl) (ev rfl)).mono ?_); rintro _ _ ⟨rfl, rfl⟩; refine ⟨?_, Ext.refl _⟩; rw [hβ1]; skip
    cases hbb : (finV A_b.lo) <;> simp [hbb] at h9_ ⊢
    all_goals (first | rfl | (subst h9_; rfl) | simp_all)
  refine RW_d (fun v30 => [(.agg #[(Fl r1), (Fl r3), (Fl r5), (Fl r7), (Fl r9), (Fl r11)]), (Pt b14 0), (Bo false), v22, v23, v24, v25, v26, v27, v28, v29, v30, Ud, Ud, Ud, Ud, Ud, Ud, Ud, Ud, Ud, Ud, Ud, Ud, Ud, Ud, Ud, Ud, Ud, Ud, Ud, Ud, Ud, Ud, Ud, Ud, Ud, Ud]) rfl (fun _ => rfl) (fun u hu hF => ?_) (fun v30 => ?_)
  · have h10_ : v29 = (Bo β1) := hF.1
    clear hF
    obtain rfl := h10_
    refine doesG_un rfl ?_
    refine (does_move (u := (Bo β1)) (ev rfl)).mono ?_; rintro _ _ ⟨rfl, rfl⟩
    exact ⟨rfl, Ext.refl _⟩
  refine RW_d (fun v31 => [(.agg #[(Fl r1), (Fl r3), (Fl r5), (Fl r7), (Fl r9), (Fl r11)]), (Pt b14 0), (Bo false), v22, v23, v24, v25, v26, v27, v28, v29, v30, v31, Ud, Ud, Ud, Ud, Ud, Ud, Ud, Ud, Ud, Ud, Ud, Ud, Ud, Ud, Ud, Ud, Ud, Ud, Ud, Ud, Ud, Ud, Ud, Ud, Ud]) rfl (fun _ => rfl) (fun u hu hF => ?_) (fun v31 => ?_)
  · have h11_ : v30 = (Bo β1) := hF.1
    clear hF
    obtain rfl := h11_
    refine doesG_g (b := β1) rfl (yld rfl rfl) (fun hg => ?_) (fun hg => ⟨fun h => absurd h hg, Ext.refl _⟩)
    refine (does_fieldAddr (ev rfl) fa33_0).mono ?_; rintro _ _ ⟨rfl, rfl⟩
    exact ⟨fun _ => rfl, Ext.refl _⟩
  refine RW_d (fun v32 => [(.agg #[(Fl r1), (Fl r3), (Fl r5), (Fl r7), (Fl r9), (Fl r11)]), (Pt b14 0), (Bo false), v22, v23, v24, v25, v26, v27, v28, v29, v30, v31, v32, Ud, Ud, Ud, Ud, Ud, Ud, Ud, Ud, Ud, Ud, Ud, Ud, Ud, Ud, Ud, Ud, Ud, Ud, Ud, Ud, Ud, Ud, Ud, Ud]) rfl (fun _ => rfl) (fun u hu hF => ?_) (fun v32 => ?_)
  · have h12_ : β1 = true → v31 = (Pt b14 0) := hF.1
    have h11_ : v30 = (Bo β1) := hF.2.1
    clear hF
    obtain rfl := h11_
    refine doesG_g (b := β1) rfl (yld rfl rfl) (fun hg => ?_) (fun hg => ⟨fun h => absurd h hg, Ext.refl _⟩)
    obtain rfl := h12_ hg
    refine (does_fieldAddr (ev rfl) fa31_0).mono ?_; rintro _ _ ⟨rfl, rfl⟩
    exact ⟨fun _ => rfl, Ext.refl _⟩
  refine RW_d (fun v33 => [(.agg #[(Fl r1), (Fl r3), (Fl r5), (Fl r7), (Fl r9), (Fl r11)]), (Pt b14 0), (Bo false), v22, v23, v24, v25, v26, v27, v28, v29, v30, v31, v32, v33, Ud, Ud, Ud, Ud, Ud, Ud, Ud, Ud, Ud, Ud, Ud, Ud, Ud, Ud, Ud, Ud, Ud, Ud, Ud, Ud, Ud, Ud, Ud]) rfl (fun _ => rfl) (fun u hu hF => ?_) (fun v33 => ?_)
  · have h13_ : β1 = true → v32 = (Pt b14 0) := hF.1
    have h11_ : v30 = (Bo β1) := hF.2.1
    clear hF
    obtain rfl := h11_
    refine doesG_g (b := β1) rfl (yld rfl rfl) (fun hg => ?_) (fun hg => ⟨fun h => absurd h hg, Ext.refl _⟩)
    obtain rfl := h13_ hg
    refine (does_load (u := (Fl r1)) (ev rfl) Try.isAgg25 (Cells.at (Blk.cells (hB16.ext hu)) 0 rfl)).mono ?_; rintro _ _ ⟨rfl, rfl⟩
    exact ⟨fun _ => rfl, Ext.refl _⟩
  refine RW_d (fun v34 => [(.agg #[(Fl r1), (Fl r3), (Fl r5), (Fl r7), (Fl r9), (Fl r11)]), (Pt b14 0), (Bo false), v22, v23, v24, v25, v26, v27, v28, v29, v30, v31, v32, v33, v34, Ud, Ud, Ud, Ud, Ud, Ud, Ud, Ud, Ud, Ud, Ud, Ud, Ud, Ud, Ud, Ud, Ud, Ud, Ud, Ud, Ud, Ud]) rfl (fun _ => rfl) (fun u hu hF => ?_) (fun v34 => ?_)
  · have h11_ : v30 = (Bo β1) := hF.1
    clear hF
    obtain rfl := h11_
    refine doesG_g (b := β1) rfl (yld rfl rfl) (fun hg => ?_) (fun hg => ⟨fun h => absurd h hg, Ext.refl _⟩)
    refine (does_fieldAddr (ev rfl) fa33_1).mono ?_; rintro _ _ ⟨rfl, rfl⟩
    exact ⟨fun _ => rfl, Ext.refl _⟩
  refine RW_d (fun v35 => [(.agg #[(Fl r1), (Fl r3), (Fl r5), (Fl r7), (Fl r9), (Fl r11)]), (Pt b14 0), (Bo false), v22, v23, v24, v25, v26, v27, v28, v29, v30, v31, v32, v33, v34, v35, Ud, Ud, Ud, Ud, Ud, Ud, Ud, Ud, Ud, Ud, Ud, Ud, Ud, Ud, Ud, Ud, Ud, Ud, Ud, Ud, Ud]) rfl (fun _ => rfl) (fun u hu hF => ?_) (fun v35 => ?_)
  · have h15_ : β1 = true → v34 = (Pt b14 3) := hF.1
    have h11_ : v30 = (Bo β1) := hF.2.1
    clear hF
    obtain rfl := h11_
    refine doesG_g (b := β1) rfl (yld rfl rfl) (fun hg => ?_) (fun hg => ⟨fun h => absurd h hg, Ext.refl _⟩)
    obtain rfl := h15_ hg
    refine (does_fieldAddr (ev rfl) fa31_0).mono ?_; rintro _ _ ⟨rfl, rfl⟩
    exact ⟨fun _ => rfl, Ext.refl _⟩
  refine RW_d (fun v36 => [(.agg #[(Fl r1), (Fl r3), (Fl r5), (Fl r7), (Fl r9), (Fl r11)]), (Pt b14 0), (Bo false), v22, v23, v24, v25, v26, v27, v28, v29, v30, v31, v32, v33, v34, v35, v36, Ud, Ud, Ud, Ud, Ud, Ud, Ud, Ud, Ud, Ud, Ud, Ud, Ud, Ud, Ud, Ud, Ud, Ud, Ud, Ud]) rfl (fun _ => rfl) (fun u hu hF => ?_) (fun v36 => ?_)
  · have h16_ : β1 = true → v35 = (Pt b14 3) := hF.1
    have h11_ : v30 = (Bo β1) := hF.2.1
    clear hF
    obtain rfl := h11_
    refine doesG_g (b := β1) rfl (yld rfl rfl) (fun hg => ?_) (fun hg => ⟨fun h => absurd h hg, Ext.refl _⟩)
    obtain rfl := h16_ hg
    refine (does_load (u := (Fl r7)) (ev rfl) Try.isAgg25 (Cells.at (Blk.cells (hB16.ext hu)) 3 rfl)).mono ?_; rintro _ _ ⟨rfl, rfl⟩
    exact ⟨fun _ => rfl, Ext.refl _⟩
  refine RW_d (fun v37 => [(.agg #[(Fl r1), (Fl r3), (Fl r5), (Fl r7), (Fl r9), (Fl r11)]), (Pt b14 0), (Bo false), v22, v23, v24, v25, v26, v27, v28, v29, v30, v31, v32, v33, v34, v35, v36, v37, Ud, Ud, Ud, Ud, Ud, Ud, Ud, Ud, Ud, Ud, Ud, Ud, Ud, Ud, Ud, Ud, Ud, Ud, Ud]) rfl (fun _ => rfl) (fun u hu hF => ?_) (fun v37 => ?_)
  · have h14_ : β1 = true → v33 = (Fl r1) := hF.1
    have h17_ : β1 = true → v36 = (Fl r7) := hF.2.1
    have h11_ : v30 = (Bo β1) := hF.2.2.1
    clear hF
    obtain rfl := h11_
    refine doesG_g (b := β1) rfl (yld rfl rfl) (fun hg => ?_) (fun hg => ⟨fun h => absurd h hg, Ext.refl _⟩)
    obtain rfl := h14_ hg
    obtain rfl := h17_ hg
    refine (does_fcmp (.inr (.inr (.inr (.inl rfl)))) (ev rfl) (ev rfl)).mono ?_; rintro _ _ ⟨rfl, rfl⟩
    exact ⟨fun _ => (by show _ = _; simp only [hβ2]), Ext.refl _⟩
  refine RW_d (fun v38 => [(.agg #[(Fl r1), (Fl r3), (Fl r5), (Fl r7), (Fl r9), (Fl r11)]), (Pt b14 0), (Bo false), v22, v23, v24, v25, v26, v27, v28, v29, v30, v31, v32, v33, v34, v35, v36, v37, v38, Ud, Ud, Ud, Ud, Ud, Ud, Ud, Ud, Ud, Ud, Ud, Ud, Ud, Ud, Ud, Ud, Ud, Ud]) rfl (fun _ => rfl) (fun u hu hF => ?_) (fun v38 => ?_)
  · have h11_ : v30 = (Bo β1) := hF.1
    have h18_ : β1 = true → v37 = (Bo β2) := hF.2.1
    clear hF
    obtain rfl := h11_
    refine doesG_un rfl ((does_pick (b := β1) (ev rfl) (ev rfl) (ev rfl)).mono ?_); rintro _ _ ⟨rfl, rfl⟩; refine ⟨?_, Ext.refl _⟩; skip
    cases hbb : β1 <;> simp [hbb] at h18_ ⊢
    all_goals (first | rfl | (subst h18_; rfl) | simp_all)
  refine RW_d (fun v39 => [(.agg #[(Fl r1), (Fl r3), (Fl r5), (Fl r7), (Fl r9), (Fl r11)]), (Pt b14 0), (Bo false), v22, v23, v24, v25, v26, v27, v28, v29, v30, v31, v32, v33, v34, v35, v36, v37, v38, v39, Ud, Ud, Ud, Ud, Ud, Ud, Ud, Ud, Ud, Ud, Ud, Ud, Ud, Ud, Ud, Ud, Ud]) rfl (fun _ => rfl) (fun u hu hF => ?_) (fun v39 => ?_)
  · have h19_ : v38 = (Bo (β1 && β2)) := hF.1
    clear hF
    obtain rfl := h19_
    refine doesG_un rfl ?_
    refine (does_move (u := (Bo (β1 && β2))) (ev rfl)).mono ?_; rintro _ _ ⟨rfl, rfl⟩
    exact ⟨rfl, Ext.refl _⟩
  refine RW_d (fun v40 => [(.agg #[(Fl r1), (Fl r3), (Fl r5), (Fl r7), (Fl r9), (Fl r11)]), (Pt b14 0), (Bo false), v22, v23, v24, v25, v26, v27, v28, v29, v30, v31, v32, v33, v34, v35, v36, v37, v38, v39, v40, Ud, Ud, Ud, Ud, Ud, Ud, Ud, Ud, Ud, Ud, Ud, Ud, Ud, Ud, Ud, Ud]) rfl (fun _ => rfl) (fun u hu hF => ?_) (fun v40 => ?_)
  · have h20_ : v39 = (Bo (β1 && β2)) := hF.1
    clear hF
    obtain rfl := h20_
    refine doesG_g (b := (β1 && β2)) rfl (yld rfl rfl) (fun hg => ?_) (fun hg => ⟨fun h => absurd h hg, Ext.refl _⟩)
    refine (does_fieldAddr (ev rfl) fa33_0).mono ?_; rintro _ _ ⟨rfl, rfl⟩
    exact ⟨fun _ => rfl, Ext.refl _⟩
  refine RW_d (fun v41 => [(.agg #[(Fl r1), (Fl r3), (Fl r5), (Fl r7), (Fl r9), (Fl r11)]), (Pt b14 0), (Bo false), v22, v23, v24, v25, v26, v27, v28, v29, v30, v31, v32, v33, v34, v35, v36, v37, v38, v39, v40, v41, Ud, Ud, Ud, Ud, Ud, Ud, Ud, Ud, Ud, Ud, Ud, Ud, Ud, Ud, Ud]) rfl (fun _ => rfl) (fun u hu hF => ?_) (fun v41 => ?_)
  · have h21_ : (β1 && β2) = true → v40 = (Pt b14 0) := hF.1
    have h20_ : v39 = (Bo (β1 && β2)) := hF.2.1
    clear hF
    obtain rfl := h20_
    refine doesG_g (b := (β1 && β2)) rfl (yld rfl rfl) (fun hg => ?_) (fun hg => ⟨fun h => absurd h hg, Ext.refl _⟩)
    obtain rfl := h21_ hg
    refine (does_fieldAddr (ev rfl) fa31_1).mono ?_; rintro _ _ ⟨rfl, rfl⟩
    exact ⟨fun _ => rfl, Ext.refl _⟩
  refine RW_d (fun v42 => [(.agg #[(Fl r1), (Fl r3), (Fl r5), (Fl r7), (Fl r9), (Fl r11)]), (Pt b14 0), (Bo false), v22, v23, v24, v25, v26, v27, v28, v29, v30, v31, v32, v33, v34, v35, v36, v37, v38, v39, v40, v41, v42, Ud, Ud, Ud, Ud, Ud, Ud, Ud, Ud, Ud, Ud, Ud, Ud, Ud, Ud]) rfl (fun _ => rfl) (fun u hu hF => ?_) (fun v42 => ?_)
  · have h22_ : (β1 && β2) = true → v41 = (Pt b14 1) := hF.1
    have h20_ : v39 = (Bo (β1 && β2)) := hF.2.1
    clear hF
    obtain rfl := h20_
    refine doesG_g (b := (β1 && β2)) rfl (yld rfl rfl) (fun hg => ?_) (fun hg => ⟨fun h => absurd h hg, Ext.refl _⟩)
    obtain rfl := h22_ hg
    refine (does_load (u := (Fl r3)) (ev rfl) Try.isAgg25 (Cells.at (Blk.cells (hB16.ext hu)) 1 rfl)).mono ?_; rintro _ _ ⟨rfl, rfl⟩
    exact ⟨fun _ => rfl, Ext.refl _⟩
  refine RW_d (fun v43 => [(.agg #[(Fl r1), (Fl r3), (Fl r5), (Fl r7), (Fl r9), (Fl r11)]), (Pt b14 0), (Bo false), v22, v23, v24, v25, v26, v27, v28, v29, v30, v31, v32, v33, v34, v35, v36, v37, v38, v39, v40, v41, v42, v43, Ud, Ud, Ud, Ud, Ud, Ud, Ud, Ud, Ud, Ud, Ud, Ud, Ud]) rfl (fun _ => rfl) (fun u hu hF => ?_) (fun v43 => ?_)
  · have h20_ : v39 = (Bo (β1 && β2)) := hF.1
    clear hF
    obtain rfl := h20_
    refine doesG_g (b := (β1 && β2)) rfl (yld rfl rfl) (fun hg => ?_) (fun hg => ⟨fun h => absurd h hg, Ext.refl _⟩)
    refine (does_fieldAddr (ev rfl) fa33_1).mono ?_; rintro _ _ ⟨rfl, rfl⟩
    exact ⟨fun _ => rfl, Ext.refl _⟩
  refine RW_d (fun v44 => [(.agg #[(Fl r1), (Fl r3), (Fl r5), (Fl r7), (Fl r9), (Fl r11)]), (Pt b14 0), (Bo false), v22, v23, v24, v25, v26, v27, v28, v29, v30, v31, v32, v33, v34, v35, v36, v37, v38, v39, v40, v41, v42, v43, v44, Ud, Ud, Ud, Ud, Ud, Ud, Ud, Ud, Ud, Ud, Ud, Ud]) rfl (fun _ => rfl) (fun u hu hF => ?_) (fun v44 => ?_)
  · have h24_ : (β1 && β2) = true → v43 = (Pt b14 3) := hF.1
    have h20_ : v39 = (Bo (β1 && β2)) := hF.2.1
    clear hF
    obtain rfl := h20_
    refine doesG_g (b := (β1 && β2)) rfl (yld rfl rfl) (fun hg => ?_) (fun hg => ⟨fun h => absurd h hg, Ext.refl _⟩)
    obtain rfl := h24_ hg
    refine (does_fieldAddr (ev rfl) fa31_1).mono ?_; rintro _ _ ⟨rfl, rfl⟩
    exact ⟨fun _ => rfl, Ext.refl _⟩
  refine RW_d (fun v45 => [(.agg #[(Fl r1), (Fl r3), (Fl r5), (Fl r7), (Fl r9), (Fl r11)]), (Pt b14 0), (Bo false), v22, v23, v24, v25, v26, v27, v28, v29, v30, v31, v32, v33, v34, v35, v36, v37, v38, v39, v40, v41, v42, v43, v44, v45, Ud, Ud, Ud, Ud, Ud, Ud, Ud, Ud, Ud, Ud, Ud]) rfl (fun _ => rfl) (fun u hu hF => ?_) (fun v45 => ?_)
  · have h25_ : (β1 && β2) = true → v44 = (Pt b14 4) := hF.1
    have h20_ : v39 = (Bo (β1 && β2)) := hF.2.1
    clear hF
    obtain rfl := h20_
    refine doesG_g (b := (β1 && β2)) rfl (yld rfl rfl) (fun hg => ?_) (fun hg => ⟨fun h => absurd h hg, Ext.refl _⟩)
    obtain rfl := h25_ hg
    refine (does_load (u := (Fl r9)) (ev rfl) Try.isAgg25 (Cells.at (Blk.cells (hB16.ext hu)) 4 rfl)).mono ?_; rintro _ _ ⟨rfl, rfl⟩
    exact ⟨fun _ => rfl, Ext.refl _⟩
  refine RW_d (fun v46 => [(.agg #[(Fl r1), (Fl r3), (Fl r5), (Fl r7), (Fl r9), (Fl r11)]), (Pt b14 0), (Bo false), v22, v23, v24, v25, v26, v27, v28, v29, v30, v31, v32, v33, v34, v35, v36, v37, v38, v39, v40, v41, v42, v43, v44, v45, v46, Ud, Ud, Ud, Ud, Ud, Ud, Ud, Ud, Ud, Ud]) rfl (fun _ => rfl) (fun u hu hF => ?_) (fun v46 => ?_)
  · have h23_ : (β1 && β2) = true → v42 = (Fl r3) := hF.1
    have h26_ : (β1 && β2) = true → v45 = (Fl r9) := hF.2.1
    have h20_ : v39 = (Bo (β1 && β2)) := hF.2.2.1
    clear hF
    obtain rfl := h20_
    refine doesG_g (b := (β1 && β2)) rfl (yld rfl rfl) (fun hg => ?_) (fun hg => ⟨fun h => absurd h hg, Ext.refl _⟩)
    obtain rfl := h23_ hg
    obtain rfl := h26_ hg
    refine (does_fcmp (.inr (.inr (.inr (.inl rfl)))) (ev rfl) (ev rfl)).mono ?_; rintro _ _ ⟨rfl, rfl⟩
    exact ⟨fun _ => (by show _ = _; simp only [hβ3]), Ext.refl _⟩
  refine RW_d (fun v47 => [(.agg #[(Fl r1), (Fl r3), (Fl r5), (Fl r7), (Fl r9), (Fl r11)]), (Pt b14 0), (Bo false), v22, v23, v24, v25, v26, v27, v28, v29, v30, v31, v32, v33, v34, v35, v36, v37, v38, v39, v40, v41, v42, v43, v44, v45, v46, v47, Ud, Ud, Ud, Ud, Ud, Ud, Ud, Ud, Ud]) rfl (fun _ => rfl) (fun u hu hF => ?_) (fun v47 => ?_)
  · have h20_ : v39 = (Bo (β1 && β2)) := hF.1
    have h27_ : (β1 && β2) = true → v46 = (Bo β3) := hF.2.1
    clear hF
    obtain rfl := h20_
    refine doesG_un rfl ((does_pick (b := (β1 && β2)) (ev rfl) (ev rfl) (ev rfl)).mono ?_); rintro _ _ ⟨rfl, rfl⟩; refine ⟨?_, Ext.refl _⟩; skip
    cases hbb : (β1 && β2) <;> simp [hbb] at h27_ ⊢
    all_goals (first | rfl | (subst h27_; rfl) | simp_all)
  refine RW_d (fun v48 => [(.agg #[(Fl r1), (Fl r3), (Fl r5), (Fl r7), (Fl r9), (Fl r11)]), (Pt b14 0), (Bo false), v22, v23, v24, v25, v26, v27, v28, v29, v30, v31, v32, v33, v34, v35, v36, v37, v38, v39, v40, v41, v42, v43, v44, v45, v46, v47, v48, Ud, Ud, Ud, Ud, Ud, Ud, Ud, Ud]) rfl (fun _ => rfl) (fun u hu hF => ?_) (fun v48 => ?_)
  · have h28_ : v47 = (Bo ((β1 && β2) && β3)) := hF.1
    clear hF
    obtain rfl := h28_
    refine doesG_un rfl ?_
    refine (does_move (u := (Bo ((β1 && β2) && β3))) (ev rfl)).mono ?_; rintro _ _ ⟨rfl, rfl⟩
    exact ⟨rfl, Ext.refl _⟩
  refine RW_d (fun v49 => [(.agg #[(Fl r1), (Fl r3), (Fl r5), (Fl r7), (Fl r9), (Fl r11)]), (Pt b14 0), (Bo false), v22, v23, v24, v25, v26, v27, v28, v29, v30, v31, v32, v33, v34, v35, v36, v37, v38, v39, v40, v41, v42, v43, v44, v45, v46, v47, v48, v49, Ud, Ud, Ud, Ud, Ud, Ud, Ud]) rfl (fun _ => rfl) (fun u hu hF => ?_) (fun v49 => ?_)
  · have h29_ : v48 = (Bo ((β1 && β2) && β3)) := hF.1
    clear hF
    obtain rfl := h29_
    refine doesG_g (b := ((β1 && β2) && β3)) rfl (yld rfl rfl) (fun hg => ?_) (fun hg => ⟨fun h => absurd h hg, Ext.refl _⟩)
    refine (does_fieldAddr (ev rfl) fa33_0).mono ?_; rintro _ _ ⟨rfl, rfl⟩
    exact ⟨fun _ => rfl, Ext.refl _⟩
  refine RW_d (fun v50 => [(.agg #[(Fl r1), (Fl r3), (Fl r5), (Fl r7), (Fl r9), (Fl r11)]), (Pt b14 0), (Bo false), v22, v23, v24, v25, v26, v27, v28, v29, v30, v31, v32, v33, v34, v35, v36, v37, v38, v39, v40, v41, v42, v43, v44, v45, v46, v47, v48, v49, v50, Ud, Ud, Ud, Ud, Ud, Ud]) rfl (fun _ => rfl) (fun u hu hF => ?_) (fun v50 => ?_)
  · have h30_ : ((β1 && β2) && β3) = true → v49 = (Pt b14 0) := hF.1
    have h29_ : v48 = (Bo ((β1 && β2) && β3)) := hF.2.1
    clear hF
    obtain rfl := h29_
    refine doesG_g (b := ((β1 && β2) && β3)) rfl (yld rfl rfl) (fun hg => ?_) (fun hg => ⟨fun h => absurd h hg, Ext.refl _⟩)
    obtain rfl := h30_ hg
    refine (does_fieldAddr (ev rfl) fa31_2).mono ?_; rintro _ _ ⟨rfl, rfl⟩
    exact ⟨fun _ => rfl, Ext.refl _⟩
  refine RW_d (fun v51 => [(.agg #[(Fl r1), (Fl r3), (Fl r5), (Fl r7), (Fl r9), (Fl r11)]), (Pt b14 0), (Bo false), v22, v23, v24, v25, v26, v27, v28, v29, v30, v31, v32, v33, v34, v35, v36, v37, v38, v39, v40, v41, v42, v43, v44, v45, v46, v47, v48, v49, v50, v51, Ud, Ud, Ud, Ud, Ud]) rfl (fun _ => rfl) (fun u hu hF => ?_) (fun v51 => ?_)
  · have h31_ : ((β1 && β2) && β3) = true → v50 = (Pt b14 2) := hF.1
    have h29_ : v48 = (Bo ((β1 && β2) && β3)) := hF.2.1
    clear hF
    obtain rfl := h29_
    refine doesG_g (b := ((β1 && β2) && β3)) rfl (yld rfl rfl) (fun hg => ?_) (fun hg => ⟨fun h => absurd h hg, Ext.refl _⟩)
    obtain rfl := h31_ hg
    refine (does_load (u := (Fl r5)) (ev rfl) Try.isAgg25 (Cells.at (Blk.cells (hB16.ext hu)) 2 rfl)).mono ?_; rintro _ _ ⟨rfl, rfl⟩
    exact ⟨fun _ => rfl, Ext.refl _⟩
  refine RW_d (fun v52 => [(.agg #[(Fl r1), (Fl r3), (Fl r5), (Fl r7), (Fl r9), (Fl r11)]), (Pt b14 0), (Bo false), v22, v23, v24, v25, v26, v27, v28, v29, v30, v31, v32, v33, v34, v35, v36, v37, v38, v39, v40, v41, v42, v43, v44, v45, v46, v47, v48, v49, v50, v51, v52, Ud, Ud, Ud, Ud]) rfl (fun _ => rfl) (fun u hu hF => ?_) (fun v52 => ?_)
  · have h29_ : v48 = (Bo ((β1 && β2) && β3)) := hF.1
    clear hF
    obtain rfl := h29_
    refine doesG_g (b := ((β1 && β2) && β3)) rfl (yld rfl rfl) (fun hg => ?_) (fun hg => ⟨fun h => absurd h hg, Ext.refl _⟩)
    refine (does_fieldAddr (ev rfl) fa33_1).mono ?_; rintro _ _ ⟨rfl, rfl⟩
    exact ⟨fun _ => rfl, Ext.refl _⟩
  refine RW_d (fun v53 => [(.agg #[(Fl r1), (Fl r3), (Fl r5), (Fl r7), (Fl r9), (Fl r11)]), (Pt b14 0), (Bo false), v22, v23, v24, v25, v26, v27, v28, v29, v30, v31, v32, v33, v34, v35, v36, v37, v38, v39, v40, v41, v42, v43, v44, v45, v46, v47, v48, v49, v50, v51, v52, v53, Ud, Ud, Ud]) rfl (fun _ => rfl) (fun u hu hF => ?_) (fun v53 => ?_)
  · have h33_ : ((β1 && β2) && β3) = true → v52 = (Pt b14 3) := hF.1
    have h29_ : v48 = (Bo ((β1 && β2) && β3)) := hF.2.1
    clear hF
    obtain rfl := h29_
    refine doesG_g (b := ((β1 && β2) && β3)) rfl (yld rfl rfl) (fun hg => ?_) (fun hg => ⟨fun h => absurd h hg, Ext.refl _⟩)
    obtain rfl := h33_ hg
    refine (does_fieldAddr (ev rfl) fa31_2).mono ?_; rintro _ _ ⟨rfl, rfl⟩
    exact ⟨fun _ => rfl, Ext.refl _⟩
  refine RW_d (fun v54 => [(.agg #[(Fl r1), (Fl r3), (Fl r5), (Fl r7), (Fl r9), (Fl r11)]), (Pt b14 0), (Bo false), v22, v23, v24, v25, v26, v27, v28, v29, v30, v31, v32, v33, v34, v35, v36, v37, v38, v39, v40, v41, v42, v43, v44, v45, v46, v47, v48, v49, v50, v51, v52, v53, v54, Ud, Ud]) rfl (fun _ => rfl) (fun u hu hF => ?_) (fun v54 => ?_)
  · have h34_ : ((β1 && β2) && β3) = true → v53 = (Pt b14 5) := hF.1
    have h29_ : v48 = (Bo ((β1 && β2) && β3)) := hF.2.1
    clear hF
    obtain rfl := h29_
    refine doesG_g (b := ((β1 && β2) && β3)) rfl (yld rfl rfl) (fun hg => ?_) (fun hg => ⟨fun h => absurd h hg, Ext.refl _⟩)
    obtain rfl := h34_ hg
    refine (does_load (u := (Fl r11)) (ev rfl) Try.isAgg25 (Cells.at (Blk.cells (hB16.ext hu)) 5 rfl)).mono ?_; rintro _ _ ⟨rfl, rfl⟩
    exact ⟨fun _ => rfl, Ext.refl _⟩
  refine RW_d (fun v55 => [(.agg #[(Fl r1), (Fl r3), (Fl r5), (Fl r7), (Fl r9), (Fl r11)]), (Pt b14 0), (Bo false), v22, v23, v24, v25, v26, v27, v28, v29, v30, v31, v32, v33, v34, v35, v36, v37, v38, v39, v40, v41, v42, v43, v44, v45, v46, v47, v48, v49, v50, v51, v52, v53, v54, v55, Ud]) rfl (fun _ => rfl) (fun u hu hF => ?_) (fun v55 => ?_)
  · have h32_ : ((β1 && β2) && β3) = true → v51 = (Fl r5) := hF.1
    have h35_ : ((β1 && β2) && β3) = true → v54 = (Fl r11) := hF.2.1
    have h29_ : v48 = (Bo ((β1 && β2) && β3)) := hF.2.2.1
    clear hF
    obtain rfl := h29_
    refine doesG_g (b := ((β1 && β2) && β3)) rfl (yld rfl rfl) (fun hg => ?_) (fun hg => ⟨fun h => absurd h hg, Ext.refl _⟩)
    obtain rfl := h32_ hg
    obtain rfl := h35_ hg
    refine (does_fcmp (.inr (.inr (.inr (.inl rfl)))) (ev rfl) (ev rfl)).mono ?_; rintro _ _ ⟨rfl, rfl⟩
    exact ⟨fun _ => (by show _ = _; simp only [hβ4]), Ext.refl _⟩
  refine RW_d (fun v56 => [(.agg #[(Fl r1), (Fl r3), (Fl r5), (Fl r7), (Fl r9), (Fl r11)]), (Pt b14 0), (Bo false), v22, v23, v24, v25, v26, v27, v28, v29, v30, v31, v32, v33, v34, v35, v36, v37, v38, v39, v40, v41, v42, v43, v44, v45, v46, v47, v48, v49, v50, v51, v52, v53, v54, v55, v56]) rfl (fun _ => rfl) (fun u hu hF => ?_) (fun v56 => ?_)
  · have h29_ : v48 = (Bo ((β1 && β2) && β3)) := hF.1
    have h36_ : ((β1 && β2) && β3) = true → v55 = (Bo β4) := hF.2.1
    clear hF
    obtain rfl := h29_
    refine doesG_un rfl ((does_pick (b := ((β1 && β2) && β3)) (ev rfl) (ev rfl) (ev rfl)).mono ?_); rintro _ _ ⟨rfl, rfl⟩; refine ⟨?_, Ext.refl _⟩; skip
    cases hbb : ((β1 && β2) && β3) <;> simp [hbb] at h36_ ⊢
    all_goals (first | rfl | (subst h36_; rfl) | simp_all)
  refine RW_fin ?_; intro w57 E58 hP59
  obtain ⟨⟨⟨⟨⟨⟨⟨⟨⟨⟨⟨⟨⟨⟨⟨⟨⟨⟨⟨⟨⟨⟨⟨⟨⟨⟨⟨⟨⟨⟨⟨⟨⟨⟨⟨-, -⟩, -⟩, -⟩, -⟩, -⟩, -⟩, -⟩, -⟩, -⟩, -⟩, -⟩, -⟩, -⟩, -⟩, -⟩, -⟩, -⟩, -⟩, -⟩, -⟩, -⟩, -⟩, -⟩, -⟩, -⟩, -⟩, -⟩, -⟩, -⟩, -⟩, -⟩, -⟩, -⟩, -⟩, q60⟩ := hP59
  have X61 := Ext.gr X20 E58
  have q60 : v56 = (Bo (((β1 && β2) && β3) && β4)) := q60
  obtain rfl := q60
  show wpList _ _ _ _ (fr [(.agg #[(Fl r1), (Fl r3), (Fl r5), (Fl r7), (Fl r9), (Fl r11)]), (Pt b14 0), (Bo false), v22, v23, v24, v25, v26, v27, v28, v29, v30, v31, v32, v33, v34, v35, v36, v37, v38, v39, v40, v41, v42, v43, v44, v45, v46, v47, v48, v49, v50, v51, v52, v53, v54, v55, (Bo (((β1 && β2) && β3) && β4))]) _
  refine q_is (l' := [(.agg #[(Fl r1), (Fl r3), (Fl r5), (Fl r7), (Fl r9), (Fl r11)]), (Pt b14 0), (Bo (((β1 && β2) && β3) && β4)), v22, v23, v24, v25, v26, v27, v28, v29, v30, v31, v32, v33, v34, v35, v36, v37, v38, v39, v40, v41, v42, v43, v44, v45, v46, v47, v48, v49, v50, v51, v52, v53, v54, v55, (Bo (((β1 && β2) && β3) && β4))]) rfl rfl (does_assign (u := (Bo (((β1 && β2) && β3) && β4))) (ev rfl)) rfl ?_
  refine wpList_nil (hK21 _ _ ?_)
  refine wp_ret ?_
  refine ret_val (v := (Bo (((β1 && β2) && β3) && β4))) (res_T rfl (slot rfl)) X61 ?_
  have x62 : (isBox A_b) = (((β1 && β2) && β3) && β4) := by first | rfl | (simp only [isBox, h2, h4, h6, h8, h10, h12, hβ1, hβ2, hβ3, hβ4]; done) | (simp [isBox, h2, h4, h6, h8, h10, h12, hβ1, hβ2, hβ3, hβ4]; done)
  exact (by first | rfl | rw [x62])

/- impl.IsInBox -/
theorem c_impl_IsInBox (b : List Value) (A_b : Bx) (p : List Value) (A_p : V3) (w : World) (hv_b : RBx w A_b b) (hv_p : RV3 w A_p p) : Gives Try.prog 22 #[(.agg b.toArray), (.agg p.toArray)] w (fun v w' => v = (Bo (isBox A_b && inBox A_b A_p))) := by
  obtain ⟨r1, r3, r5, r7, r9, r11, rfl, h2, h4, h6, h8, h10, h12⟩ := hv_b
  obtain ⟨r13, r15, r17, rfl, h14, h16, h18⟩ := hv_p
  refine enter [(.agg #[(Fl r1), (Fl r3), (Fl r5), (Fl r7), (Fl r9), (Fl r11)]), (.agg #[(Fl r13), (Fl r15), (Fl r17)]), Ud, Ud, Ud, Ud, Ud, Ud, Ud, Ud, Ud, Ud, Ud, Ud, Ud, Ud, Ud, Ud, Ud, Ud, Ud, Ud, Ud, Ud, Ud, Ud, Ud, Ud, Ud, Ud, Ud, Ud, Ud, Ud, Ud, Ud, Ud, Ud, Ud, Ud, Ud, Ud, Ud, Ud, Ud, Ud, Ud, Ud, Ud, Ud, Ud, Ud, Ud, Ud, Ud, Ud, Ud] Try.func22 rfl Try.ntmps22 rfl ?_
  refine wp_seq_k fun K19 hK19 => ?_
  refine wp_region_lit ?_
  refine seqd rfl rfl (does_box (u := (.agg #[(Fl r1), (Fl r3), (Fl r5), (Fl r7), (Fl r9), (Fl r11)])) (ev rfl)) ?_; rintro _ w24 ⟨b20, rfl, hb21, hB22, E23⟩
  have g25 : w.heap.size ≤ b20 := Nat.le_trans (Below.size (Ext.refl w)) hb21
  change Blk _ _ [(Fl r1), (Fl r3), (Fl r5), (Fl r7), (Fl r9), (Fl r11)] at hB22
  have X26 := Ext.gr (Ext.refl w) E23
  show wpList _ _ _ _ (fr [(.agg #[(Fl r1), (Fl r3), (Fl r5), (Fl r7), (Fl r9), (Fl r11)]), (.agg #[(Fl r13), (Fl r15), (Fl r17)]), (Pt b20 0), Ud, Ud, Ud, Ud, Ud, Ud, Ud, Ud, Ud, Ud, Ud, Ud, Ud, Ud, Ud, Ud, Ud, Ud, Ud, Ud, Ud, Ud, Ud, Ud, Ud, Ud, Ud, Ud, Ud, Ud, Ud, Ud, Ud, Ud, Ud, Ud, Ud, Ud, Ud, Ud, Ud, Ud, Ud, Ud, Ud, Ud, Ud, Ud, Ud, Ud, Ud, Ud, Ud, Ud]) _
  refine seqd rfl rfl (does_box (u := (.agg #[(Fl r13), (Fl r15), (Fl r17)])) (ev rfl)) ?_; rintro _ w31 ⟨b27, rfl, hb28, hB29, E30⟩
  have n32 : b20 < b27 := Nat.lt_of_lt_of_le (Blk.lt hB22) hb28
  have g33 : w.heap.size ≤ b27 := Nat.le_trans (Below.size X26) hb28
  change Blk _ _ [(Fl r13), (Fl r15), (Fl r17)] at hB29
  have X34 := Ext.gr X26 E30
  show wpList _ _ _ _ (fr [(.agg #[(Fl r1), (Fl r3), (Fl r5), (Fl r7), (Fl r9), (Fl r11)]), (.agg #[(Fl r13), (Fl r15), (Fl r17)]), (Pt b20 0), (Pt b27 0), Ud, Ud, Ud, Ud, Ud, Ud, Ud, Ud, Ud, Ud, Ud, Ud, Ud, Ud, Ud, Ud, Ud, Ud, Ud, Ud, Ud, Ud, Ud, Ud, Ud, Ud, Ud, Ud, Ud, Ud, Ud, Ud, Ud, Ud, Ud, Ud, Ud, Ud, Ud, Ud, Ud, Ud, Ud, Ud, Ud, Ud, Ud, Ud, Ud, Ud, Ud, Ud, Ud]) _
  refine q_is (l' := [(.agg #[(Fl r1), (Fl r3), (Fl r5), (Fl r7), (Fl r9), (Fl r11)]), (.agg #[(Fl r13), (Fl r15), (Fl r17)]), (Pt b20 0), (Pt b27 0), (Bo false), Ud, Ud, Ud, Ud, Ud, Ud, Ud, Ud, Ud, Ud, Ud, Ud, Ud, Ud, Ud, Ud, Ud, Ud, Ud, Ud, Ud, Ud, Ud, Ud, Ud, Ud, Ud, Ud, Ud, Ud, Ud, Ud, Ud, Ud, Ud, Ud, Ud, Ud, Ud, Ud, Ud, Ud, Ud, Ud, Ud, Ud, Ud, Ud, Ud, Ud, Ud, Ud]) rfl rfl (does_assign (u := (Bo false)) (ev rfl)) rfl ?_
  refine wpList_nil (hK19 _ _ ?_)
  refine wp_seq_k fun K35 hK35 => ?_
  obtain ⟨β1, hβ1⟩ : ∃ b : Bool, b = (fcmp .geq (ford .f32 (cf .f32 r13) (cf .f32 r1))) := ⟨_, rfl⟩
  obtain ⟨β2, hβ2⟩ : ∃ b : Bool, b = (fcmp .geq (ford .f32 (cf .f32 r15) (cf .f32 r3))) := ⟨_, rfl⟩
  obtain ⟨β3, hβ3⟩ : ∃ b : Bool, b = (fcmp .geq (ford .f32 (cf .f32 r17) (cf .f32 r5))) := ⟨_, rfl⟩
  obtain ⟨β4, hβ4⟩ : ∃ b : Bool, b = (fcmp .leq (ford .f32 (cf .f32 r13) (cf .f32 r7))) := ⟨_, rfl⟩
  obtain ⟨β5, hβ5⟩ : ∃ b : Bool, b = (fcmp .leq (ford .f32 (cf .f32 r15) (cf .f32 r9))) := ⟨_, rfl⟩
  obtain ⟨β6, hβ6⟩ : ∃ b : Bool, b = ((((β1 && β2) && β3) && β4) && β5) := ⟨_, rfl⟩
  obtain ⟨β7, hβ7⟩ : ∃ b : Bool, b = (fcmp .leq (ford .f32 (cf .f32 r17) (cf .f32 r11))) := ⟨_, rfl⟩
  refine region_text (
    [Fact.pure [] (fun v => v = (Pt b27 0)),
    Fact.pure [6] (fun v => v = (Fl r13)),
    Fact.pure [] (fun v => v = (Pt b20 0)),
    Fact.pure [8] (fun v => v = (Pt b20 0)),
    Fact.pure [9] (fun v => v = (Fl r1)),
    Fact.pure [7, 10] (fun v => v = (Bo β1)),
    Fact.pure [11] (fun v => v = (Bo β1)),
    Fact.pure [12] (fun v => β1 = true → v = (Pt b27 1)),
    Fact.pure [13, 12] (fun v => β1 = true → v = (Fl r15)),
    Fact.pure [12] (fun v => β1 = true → v = (Pt b20 0)),
    Fact.pure [15, 12] (fun v => β1 = true → v = (Pt b20 1)),
    Fact.pure [16, 12] (fun v => β1 = true → v = (Fl r3)),
    Fact.pure [14, 17, 12] (fun v => β1 = true → v = (Bo β2)),
    Fact.pure [12, 18] (fun v => v = (Bo (β1 && β2))),
    Fact.pure [19] (fun v => v = (Bo (β1 && β2))),
    Fact.pure [20] (fun v => (β1 && β2) = true → v = (Pt b27 2)),
    Fact.pure [21, 20] (fun v => (β1 && β2) = true → v = (Fl r17)),
    Fact.pure [20] (fun v => (β1 && β2) = true → v = (Pt b20 0)),
    Fact.pure [23, 20] (fun v => (β1 && β2) = true → v = (Pt b20 2)),
    Fact.pure [24, 20] (fun v => (β1 && β2) = true → v = (Fl r5)),
    Fact.pure [22, 25, 20] (fun v => (β1 && β2) = true → v = (Bo β3)),
    Fact.pure [20, 26] (fun v => v = (Bo ((β1 && β2) && β3))),
    Fact.pure [27] (fun v => v = (Bo ((β1 && β2) && β3))),
    Fact.pure [28] (fun v => ((β1 && β2) && β3) = true → v = (Pt b27 0)),
    Fact.pure [29, 28] (fun v => ((β1 && β2) && β3) = true → v = (Fl r13)),
    Fact.pure [28] (fun v => ((β1 && β2) && β3) = true → v = (Pt b20 3)),
    Fact.pure [31, 28] (fun v => ((β1 && β2) && β3) = true → v = (Pt b20 3)),
    Fact.pure [32, 28] (fun v => ((β1 && β2) && β3) = true → v = (Fl r7)),
    Fact.pure [30, 33, 28] (fun v => ((β1 && β2) && β3) = true → v = (Bo β4)),
    Fact.pure [28, 34] (fun v => v = (Bo (((β1 && β2) && β3) && β4))),
    Fact.pure [35] (fun v => v = (Bo (((β1 && β2) && β3) && β4))),
    Fact.pure [36] (fun v => (((β1 && β2) && β3) && β4) = true → v = (Pt b27 1)),
    Fact.pure [37, 36] (fun v => (((β1 && β2) && β3) && β4) = true → v = (Fl r15)),
    Fact.pure [36] (fun v => (((β1 && β2) && β3) && β4) = true → v = (Pt b20 3)),
    Fact.pure [39, 36] (fun v => (((β1 && β2) && β3) && β4) = true → v = (Pt b20 4)),
    Fact.pure [40, 36] (fun v => (((β1 && β2) && β3) && β4) = true → v = (Fl r9)),
    Fact.pure [38, 41, 36] (fun v => (((β1 && β2) && β3) && β4) = true → v = (Bo β5)),
    Fact.pure [36, 42] (fun v => v = (Bo β6)),
    Fact.pure [43] (fun v => v = (Bo β6)),
    Fact.pure [44] (fun v => β6 = true → v = (Pt b27 2)),
    Fact.pure [45, 44] (fun v => β6 = true → v = (Fl r17)),
    Fact.pure [44] (fun v => β6 = true → v = (Pt b20 3)),
    Fact.pure [47, 44] (fun v => β6 = true → v = (Pt b20 5)),
    Fact.pure [48, 44] (fun v => β6 = true → v = (Fl r11)),
    Fact.pure [46, 49, 44] (fun v => β6 = true → v = (Bo β7)),
    Fact.pure [44, 50] (fun v => v = (Bo (β6 && β7)))]) (by simp [Fact.pure, Fact.mem]) ?_
  refine RW_d (fun v36 => [(.agg #[(Fl r1), (Fl r3), (Fl r5), (Fl r7), (Fl r9), (Fl r11)]), (.agg #[(Fl r13), (Fl r15), (Fl r17)]), (Pt b20 0), (Pt b27 0), (Bo false), Ud, v36, Ud, Ud, Ud, Ud, Ud, Ud, Ud, Ud, Ud, Ud, Ud, Ud, Ud, Ud, Ud, Ud, Ud, Ud, Ud, Ud, Ud, Ud, Ud, Ud, Ud, Ud, Ud, Ud, Ud, Ud, Ud, Ud, Ud, Ud, Ud, Ud, Ud, Ud, Ud, Ud, Ud, Ud, Ud, Ud, Ud, Ud, Ud, Ud, Ud, Ud]) rfl (fun _ => rfl) (fun u hu hF => ?_) (fun v36 => ?_)
  · clear hF
    refine doesG_un rfl ?_
    refine (does_fieldAddr (ev rfl) fa31_0).mono ?_; rintro _ _ ⟨rfl, rfl⟩
    exact ⟨rfl, Ext.refl _⟩
  refine RW_d (fun v37 => [(.agg #[(Fl r1), (Fl r3), (Fl r5), (Fl r7), (Fl r9), (Fl r11)]), (.agg #[(Fl r13), (Fl r15), (Fl r17)]), (Pt b20 0), (Pt b27 0), (Bo false), Ud, v36, v37, Ud, Ud, Ud, Ud, Ud, Ud, Ud, Ud, Ud, Ud, Ud, Ud, Ud, Ud, Ud, Ud, Ud, Ud, Ud, Ud, Ud, Ud, Ud, Ud, Ud, Ud, Ud, Ud, Ud, Ud, Ud, Ud, Ud, Ud, Ud, Ud, Ud, Ud, Ud, Ud, Ud, Ud, Ud, Ud, Ud, Ud, Ud, Ud, Ud]) rfl (fun _ => rfl) (fun u hu hF => ?_) (fun v37 => ?_)
  · have h6_ : v36 = (Pt b27 0) := hF.1
    clear hF
    obtain rfl := h6_
    refine doesG_un rfl ?_
    refine (does_load (u := (Fl r13)) (ev rfl) Try.isAgg25 (Cells.at (Blk.cells (hB29.ext hu)) 0 rfl)).mono ?_; rintro _ _ ⟨rfl, rfl⟩
    exact ⟨rfl, Ext.refl _⟩
  refine RW_d (fun v38 => [(.agg #[(Fl r1), (Fl r3), (Fl r5), (Fl r7), (Fl r9), (Fl r11)]), (.agg #[(Fl r13), (Fl r15), (Fl r17)]), (Pt b20 0), (Pt b27 0), (Bo false), Ud, v36, v37, v38, Ud, Ud, Ud, Ud, Ud, Ud, Ud, Ud, Ud, Ud, Ud, Ud, Ud, Ud, Ud, Ud, Ud, Ud, Ud, Ud, Ud, Ud, Ud, Ud, Ud, Ud, Ud, Ud, Ud, Ud, Ud, Ud, Ud, Ud, Ud, Ud, Ud, Ud, Ud, Ud, Ud, Ud, Ud, Ud, Ud, Ud, Ud, Ud]) rfl (fun _ => rfl) (fun u hu hF => ?_) (fun v38 => ?_)
  · clear hF
    refine doesG_un rfl ?_
    refine (does_fieldAddr (ev rfl) fa33_0).mono ?_; rintro _ _ ⟨rfl, rfl⟩
    exact ⟨rfl, Ext.refl _⟩
  refine RW_d (fun v39 => [(.agg #[(Fl r1), (Fl r3), (Fl r5), (Fl r7), (Fl r9), (Fl r11)]), (.agg #[(Fl r13), (Fl r15), (Fl r17)]), (Pt b20 0), (Pt b27 0), (Bo false), Ud, v36, v37, v38, v39, Ud, Ud, Ud, Ud, Ud, Ud, Ud, Ud, Ud, Ud, Ud, Ud, Ud, Ud, Ud, Ud, Ud, Ud, Ud, Ud, Ud, Ud, Ud, Ud, Ud, Ud, Ud, Ud, Ud, Ud, Ud, Ud, Ud, Ud, Ud, Ud, Ud, Ud, Ud, Ud, Ud, Ud, Ud, Ud, Ud, Ud, Ud]) rfl (fun _ => rfl) (fun u hu hF => ?_) (fun v39 => ?_)
  · have h8_ : v38 = (Pt b20 0) := hF.1
    clear hF
    obtain rfl := h8_
    refine doesG_un rfl ?_
    refine (does_fieldAddr (ev rfl) fa31_0).mono ?_; rintro _ _ ⟨rfl, rfl⟩
    exact ⟨rfl, Ext.refl _⟩
  refine RW_d (fun v40 => [(.agg #[(Fl r1), (Fl r3), (Fl r5), (Fl r7), (Fl r9), (Fl r11)]), (.agg #[(Fl r13), (Fl r15), (Fl r17)]), (Pt b20 0), (Pt b27 0), (Bo false), Ud, v36, v37, v38, v39, v40, Ud, Ud, Ud, Ud, Ud, Ud, Ud, Ud, Ud, Ud, Ud, Ud, Ud, Ud, Ud, Ud, Ud, Ud, Ud, Ud, Ud, Ud, Ud, Ud, Ud, Ud, Ud, Ud, Ud, Ud, Ud, Ud, Ud, Ud, Ud, Ud, Ud, Ud, Ud, Ud, Ud, Ud, Ud, Ud, Ud, Ud]) rfl (fun _ => rfl) (fun u hu hF => ?_) (fun v40 => ?_)
  · have h9_ : v39 = (Pt b20 0) := hF.1
    clear hF
    obtain rfl := h9_
    refine doesG_un rfl ?_
    refine (does_load (u := (Fl r1)) (ev rfl) Try.isAgg25 (Cells.at (Blk.cells ((hB22.ext E30).ext hu)) 0 rfl)).mono ?_; rintro _ _ ⟨rfl, rfl⟩
    exact ⟨rfl, Ext.refl _⟩
  refine RW_d (fun v41 => [(.agg #[(Fl r1), (Fl r3), (Fl r5), (Fl r7), (Fl r9), (Fl r11)]), (.agg #[(Fl r13), (Fl r15), (Fl r17)]), (Pt b20 0), (Pt b27 0), (Bo false), Ud, v36, v37, v38, v39, v40, v41, Ud, Ud, Ud, Ud, Ud, Ud, Ud, Ud, Ud, Ud, Ud, Ud, Ud, Ud, Ud, Ud, Ud, Ud, Ud, Ud, Ud, Ud, Ud, Ud, Ud, Ud, Ud, Ud, Ud, Ud, Ud, Ud, Ud, Ud, Ud, Ud, Ud, Ud, Ud, Ud, Ud, Ud, Ud, Ud, Ud]) rfl (fun _ => rfl) (fun u hu hF => ?_) (fun v41 => ?_)
  · have h7_ : v37 = (Fl r13) := hF.1
    have h10_ : v40 = (Fl r1) := hF.2.1
    clear hF
    obtain rfl := h7_
    obtain rfl := h10_
    refine doesG_un rfl ?_
    refine (does_fcmp (.inr (.inr (.inr (.inr (.inr rfl))))) (ev rfl) (ev rfl)).mono ?_; rintro _ _ ⟨rfl, rfl⟩
    exact ⟨(by show _ = _; simp only [hβ1]), Ext.refl _⟩
  refine RW_d (fun v42 => [(.agg #[(Fl r1), (Fl r3), (Fl r5), (Fl r7), (Fl r9), (Fl r11)]), (.agg #[(Fl r13), (Fl r15), (Fl r17)]), (Pt b20 0), (Pt b27 0), (Bo false), Ud, v36, v37, v38, v39, v40, v41, v42, Ud, Ud, Ud, Ud, Ud, Ud, Ud, Ud, Ud, Ud, Ud, Ud, Ud, Ud, Ud, Ud, Ud, Ud, Ud, Ud, Ud, Ud, Ud, Ud, Ud, Ud, Ud, Ud, Ud, Ud, Ud, Ud, Ud, Ud, Ud, Ud, Ud, Ud, Ud, Ud, Ud, Ud, Ud, Ud]) rfl (fun _ => rfl) (fun u hu hF => ?_) (fun v42 => ?_)
  · have h11_ : v41 = (Bo β1) := hF.1
    clear hF
    obtain rfl := h11_
    refine doesG_un rfl ?_
    refine (does_move (u := (Bo β1)) (ev rfl)).mono ?_; rintro _ _ ⟨rfl, rfl⟩
    exact ⟨rfl, Ext.refl _⟩
  refine RW_d (fun v43 => [(.agg #[(Fl r1), (Fl r3), (Fl r5), (Fl r7), (Fl r9), (Fl r11)]), (.agg #[(Fl r13), (Fl r15), (Fl r17)]), (Pt b20 0), (Pt b27 0), (Bo false), Ud, v36, v37, v38, v39, v40, v41, v42, v43, Ud, Ud, Ud, Ud, Ud, Ud, Ud, Ud, Ud, Ud, Ud, Ud, Ud, Ud, Ud, Ud, Ud, Ud, Ud, Ud, Ud, Ud, Ud, Ud, Ud, Ud, Ud, Ud, Ud, Ud, Ud, Ud, Ud, Ud, Ud, Ud, Ud, Ud, Ud, Ud, Ud, Ud, Ud]) rfl (fun _ => rfl) (fun u hu hF => ?_) (fun v43 => ?_)
  · have h12_ : v42 = (Bo β1) := hF.1
    clear hF
    obtain rfl := h12_
    refine doesG_g (b := β1) rfl (yld rfl rfl) (fun hg => ?_) (fun hg => ⟨fun h => absurd h hg, Ext.refl _⟩)
    refine (does_fieldAddr (ev rfl) fa31_1).mono ?_; rintro _ _ ⟨rfl, rfl⟩
    exact ⟨fun _ => rfl, Ext.refl _⟩
  refine RW_d (fun v44 => [(.agg #[(Fl r1), (Fl r3), (Fl r5), (Fl r7), (Fl r9), (Fl r11)]), (.agg #[(Fl r13), (Fl r15), (Fl r17)]), (Pt b20 0), (Pt b27 0), (Bo false), Ud, v36, v37, v38, v39, v40, v41, v42, v43, v44, Ud, Ud, Ud, Ud, Ud, Ud, Ud, Ud, Ud, Ud, Ud, Ud, Ud, Ud, Ud, Ud, Ud, Ud, Ud, Ud, Ud, Ud, Ud, Ud, Ud, Ud, Ud, Ud, Ud, Ud, Ud, Ud, Ud, Ud, Ud, Ud, Ud, Ud, Ud, Ud, Ud, Ud]) rfl (fun _ => rfl) (fun u hu hF => ?_) (fun v44 => ?_)
  · have h13_ : β1 = true → v43 = (Pt b27 1) := hF.1
    have h12_ : v42 = (Bo β1) := hF.2.1
    clear hF
    obtain rfl := h12_
    refine doesG_g (b := β1) rfl (yld rfl rfl) (fun hg => ?_) (fun hg => ⟨fun h => absurd h hg, Ext.refl _⟩)
    obtain rfl := h13_ hg
    refine (does_load (u := (Fl r15)) (ev rfl) Try.isAgg25 (Cells.at (Blk.cells (hB29.ext hu)) 1 rfl)).mono ?_; rintro _ _ ⟨rfl, rfl⟩
    exact ⟨fun _ => rfl, Ext.refl _⟩
  refine RW_d (fun v45 => [(.agg #[(Fl r1), (Fl r3), (Fl r5), (Fl r7), (Fl r9), (Fl r11)]), (.agg #[(Fl r13), (Fl r15), (Fl r17)]), (Pt b20 0), (Pt b27 0), (Bo false), Ud, v36, v37, v38, v39, v40, v41, v42, v43, v44, v45, Ud, Ud, Ud, Ud, Ud, Ud, Ud, Ud, Ud, Ud, Ud, Ud, Ud, Ud, Ud, Ud, Ud, Ud, Ud, Ud, Ud, Ud, Ud, Ud, Ud, Ud, Ud, Ud, Ud, Ud, Ud, Ud, Ud, Ud, Ud, Ud, Ud, Ud, Ud, Ud, Ud]) rfl (fun _ => rfl) (fun u hu hF => ?_) (fun v45 => ?_)
  · have h12_ : v42 = (Bo β1) := hF.1
    clear hF
    obtain rfl := h12_
    refine doesG_g (b := β1) rfl (yld rfl rfl) (fun hg => ?_) (fun hg => ⟨fun h => absurd h hg, Ext.refl _⟩)
    refine (does_fieldAddr (ev rfl) fa33_0).mono ?_; rintro _ _ ⟨rfl, rfl⟩
    exact ⟨fun _ => rfl, Ext.refl _⟩
  refine RW_d (fun v46 => [(.agg #[(Fl r1), (Fl r3), (Fl r5), (Fl r7), (Fl r9), (Fl r11)]), (.agg #[(Fl r13), (Fl r15), (Fl r17)]), (Pt b20 0), (Pt b27 0), (Bo false), Ud, v36, v37, v38, v39, v40, v41, v42, v43, v44, v45, v46, Ud, Ud, Ud, Ud, Ud, Ud, Ud, Ud, Ud, Ud, Ud, Ud, Ud, Ud, Ud, Ud, Ud, Ud, Ud, Ud, Ud, Ud, Ud, Ud, Ud, Ud, Ud, Ud, Ud, Ud, Ud, Ud, Ud, Ud, Ud, Ud, Ud, Ud, Ud, Ud]) rfl (fun _ => rfl) (fun u hu hF => ?_) (fun v46 => ?_)
  · have h15_ : β1 = true → v45 = (Pt b20 0) := hF.1
    have h12_ : v42 = (Bo β1) := hF.2.1
    clear hF
    obtain rfl := h12_
    refine doesG_g (b := β1) rfl (yld rfl rfl) (fun hg => ?_) (fun hg => ⟨fun h => absurd h hg, Ext.refl _⟩)
    obtain rfl := h15_ hg
    refine (does_fieldAddr (ev rfl) fa31_1).mono ?_; rintro _ _ ⟨rfl, rfl⟩
    exact ⟨fun _ => rfl, Ext.refl _⟩
  refine RW_d (fun v47 => [(.agg #[(Fl r1), (Fl r3), (Fl r5), (Fl r7), (Fl r9), (Fl r11)]), (.agg #[(Fl r13), (Fl r15), (Fl r17)]), (Pt b20 0), (Pt b27 0), (Bo false), Ud, v36, v37, v38, v39, v40, v41, v42, v43, v44, v45, v46, v47, Ud, Ud, Ud, Ud, Ud, Ud, Ud, Ud, Ud, Ud, Ud, Ud, Ud, Ud, Ud, Ud, Ud, Ud, Ud, Ud, Ud, Ud, Ud, Ud, Ud, Ud, Ud, Ud, Ud, Ud, Ud, Ud, Ud, Ud, Ud, Ud, Ud, Ud, Ud]) rfl (fun _ => rfl) (fun u hu hF => ?_) (fun v47 => ?_)
  · have h16_ : β1 = true → v46 = (Pt b20 1) := hF.1
    have h12_ : v42 = (Bo β1) := hF.2.1
    clear hF
    obtain rfl := h12_
    refine doesG_g (b := β1) rfl (yld rfl rfl) (fun hg => ?_) (fun hg => ⟨fun h => absurd h hg, Ext.refl _⟩)
    obtain rfl := h16_ hg
    refine (does_load (u := (Fl r3)) (ev rfl) Try.isAgg25 (Cells.at (Blk.cells ((hB22.ext E30).ext hu)) 1 rfl)).mono ?_; rintro _ _ ⟨rfl, rfl⟩
    exact ⟨fun _ => rfl, Ext.refl _⟩
  refine RW_d (fun v48 => [(.agg #[(Fl r1), (Fl r3), (Fl r5), (Fl r7), (Fl r9), (Fl r11)]), (.agg #[(Fl r13), (Fl r15), (Fl r17)]), (Pt b20 0), (Pt b27 0), (Bo false), Ud, v36, v37, v38, v39, v40, v41, v42, v43, v44, v45, v46, v47, v48, Ud, Ud, Ud, Ud, Ud, Ud, Ud, Ud, Ud, Ud, Ud, Ud, Ud, Ud, Ud, Ud, Ud, Ud, Ud, Ud, Ud, Ud, Ud, Ud, Ud, Ud, Ud, Ud, Ud, Ud, Ud, Ud, Ud, Ud, Ud, Ud, Ud, Ud]) rfl (fun _ => rfl) (fun u hu hF => ?_) (fun v48 => ?_)
  · have h14_ : β1 = true → v44 = (Fl r15) := hF.1
    have h17_ : β1 = true → v47 = (Fl r3) := hF.2.1
    have h12_ : v42 = (Bo β1) := hF.2.2.1
    clear hF
    obtain rfl := h12_
    refine doesG_g (b := β1) rfl (yld rfl rfl) (fun hg => ?_) (fun hg => ⟨fun h => absurd h hg, Ext.refl _⟩)
    obtain rfl := h14_ hg
    obtain rfl := h17_ hg
    refine (does_fcmp (.inr (.inr (.inr (.inr (.inr rfl))))) (ev rfl) (ev rfl)).mono ?_; rintro _ _ ⟨rfl, rfl⟩
    exact ⟨fun _ => (by show _ = _; simp only [hβ2]), Ext.refl _⟩
  refine RW_d (fun v49 => [(.agg #[(Fl r1), (Fl r3), (Fl r5), (Fl r7), (Fl r9), (Fl r11)]), (.agg #[(Fl r13), (Fl r15), (Fl r17)]), (Pt b20 0), (Pt b27 0), (Bo false), Ud, v36, v37, v38, v39, v40, v41, v42, v43, v44, v45, v46, v47, v48, v49, Ud, Ud, Ud, Ud, Ud, Ud, Ud, Ud, Ud, Ud, Ud, Ud, Ud, Ud, Ud, Ud, Ud, Ud, Ud, Ud, Ud, Ud, Ud, Ud, Ud, Ud, Ud, Ud, Ud, Ud, Ud, Ud, Ud, Ud, Ud, Ud, Ud]) rfl (fun _ => rfl) (fun u hu hF => ?_) (fun v49 => ?_)
  · have h12_ : v42 = (Bo β1) := hF.1
    have h18_ : β1 = true → v48 = (Bo β2) := hF.2.1
    clear hF
    obtain rfl := h12_
    refine doesG_un rfl ((does_pick (b := β1) (ev rfl) (ev rfl) (ev rfl)).mono ?_); rintro _ _ ⟨rfl, rfl⟩; refine ⟨?_, Ext.refl _⟩; skip
    cases hbb : β1 <;> simp [hbb] at h18_ ⊢
    all_goals (first | rfl | (subst h18_; rfl) | simp_all)
  refine RW_d (fun v50 => [(.agg #[(Fl r1), (Fl r3), (Fl r5), (Fl r7), (Fl r9), (Fl r11)]), (.agg #[(Fl r13), (Fl r15), (Fl r17)]), (Pt b20 0), (Pt b27 0), (Bo false), Ud, v36, v37, v38, v39, v40, v41, v42, v43, v44, v45, v46, v47, v48, v49, v50, Ud, Ud, Ud, Ud, Ud, Ud, Ud, Ud, Ud, Ud, Ud, Ud, Ud, Ud, Ud, Ud, Ud, Ud, Ud, Ud, Ud, Ud, Ud, Ud, Ud, Ud, Ud, Ud, Ud, Ud, Ud, Ud, Ud, Ud, Ud, Ud]) rfl (fun _ => rfl) (fun u hu hF => ?_) (fun v50 => ?_)
  · have h19_ : v49 = (Bo (β1 && β2)) := hF.1
    clear hF
    obtain rfl := h19_
    refine doesG_un rfl ?_
    refine (does_move (u := (Bo (β1 && β2))) (ev rfl)).mono ?_; rintro _ _ ⟨rfl, rfl⟩
    exact ⟨rfl, Ext.refl _⟩
  refine RW_d (fun v51 => [(.agg #[(Fl r1), (Fl r3), (Fl r5), (Fl r7), (Fl r9), (Fl r11)]), (.agg #[(Fl r13), (Fl r15), (Fl r17)]), (Pt b20 0), (Pt b27 0), (Bo false), Ud, v36, v37, v38, v39, v40, v41, v42, v43, v44, v45, v46, v47, v48, v49, v50, v51, Ud, Ud, Ud, Ud, Ud, Ud, Ud, Ud, Ud, Ud, Ud, Ud, Ud, Ud, Ud, Ud, Ud, Ud, Ud, Ud, Ud, Ud, Ud, Ud, Ud, Ud, Ud, Ud, Ud, Ud, Ud, Ud, Ud, Ud, Ud]) rfl (fun _ => rfl) (fun u hu hF => ?_) (fun v51 => ?_)
  · have h20_ : v50 = (Bo (β1 && β2)) := hF.1
    clear hF
    obtain rfl := h20_
    refine doesG_g (b := (β1 && β2)) rfl (yld rfl rfl) (fun hg => ?_) (fun hg => ⟨fun h => absurd h hg, Ext.refl _⟩)
    refine (does_fieldAddr (ev rfl) fa31_2).mono ?_; rintro _ _ ⟨rfl, rfl⟩
    exact ⟨fun _ => rfl, Ext.refl _⟩
  refine RW_d (fun v52 => [(.agg #[(Fl r1), (Fl r3), (Fl r5), (Fl r7), (Fl r9), (Fl r11)]), (.agg #[(Fl r13), (Fl r15), (Fl r17)]), (Pt b20 0), (Pt b27 0), (Bo false), Ud, v36, v37, v38, v39, v40, v41, v42, v43, v44, v45, v46, v47, v48, v49, v50, v51, v52, Ud, Ud, Ud, Ud, Ud, Ud, Ud, Ud, Ud, Ud, Ud, Ud, Ud, Ud, Ud, Ud, Ud, Ud, Ud, Ud, Ud, Ud, Ud, Ud, Ud, Ud, Ud, Ud, Ud, Ud, Ud, Ud, Ud, Ud]) rfl (fun _ => rfl) (fun u hu hF => ?_) (fun v52 => ?_)
  · have h21_ : (β1 && β2) = true → v51 = (Pt b27 2) := hF.1
    have h20_ : v50 = (Bo (β1 && β2)) := hF.2.1
    clear hF
    obtain rfl := h20_
    refine doesG_g (b := (β1 && β2)) rfl (yld rfl rfl) (fun hg => ?_) (fun hg => ⟨fun h => absurd h hg, Ext.refl _⟩)
    obtain rfl := h21_ hg
    refine (does_load (u := (Fl r17)) (ev rfl) Try.isAgg25 (Cells.at (Blk.cells (hB29.ext hu)) 2 rfl)).mono ?_; rintro _ _ ⟨rfl, rfl⟩
    exact ⟨fun _ => rfl, Ext.refl _⟩
  refine RW_d (fun v53 => [(.agg #[(Fl r1), (Fl r3), (Fl r5), (Fl r7), (Fl r9), (Fl r11)]), (.agg #[(Fl r13), (Fl r15), (Fl r17)]), (Pt b20 0), (Pt b27 0), (Bo false), Ud, v36, v37, v38, v39, v40, v41, v42, v43, v44, v45, v46, v47, v48, v49, v50, v51, v52, v53, Ud, Ud, Ud, Ud, Ud, Ud, Ud, Ud, Ud, Ud, Ud, Ud, Ud, Ud, Ud, Ud, Ud, Ud, Ud, Ud, Ud, Ud, Ud, Ud, Ud, Ud, Ud, Ud, Ud, Ud, Ud, Ud, Ud]) rfl (fun _ => rfl) (fun u hu hF => ?_) (fun v53 => ?_)
  · have h20_ : v50 = (Bo (β1 && β2)) := hF.1
    clear hF
    obtain rfl := h20_
    refine doesG_g (b := (β1 && β2)) rfl (yld rfl rfl) (fun hg => ?_) (fun hg => ⟨fun h => absurd h hg, Ext.refl _⟩)
    refine (does_fieldAddr (ev rfl) fa33_0).mono ?_; rintro _ _ ⟨rfl, rfl⟩
    exact ⟨fun _ => rfl, Ext.refl _⟩
  refine RW_d (fun v54 => [(.agg #[(Fl r1), (Fl r3), (Fl r5), (Fl r7), (Fl r9), (Fl r11)]), (.agg #[(Fl r13), (Fl r15), (Fl r17)]), (Pt b20 0), (Pt b27 0), (Bo false), Ud, v36, v37, v38, v39, v40, v41, v42, v43, v44, v45, v46, v47, v48, v49, v50, v51, v52, v53, v54, Ud, Ud, Ud, Ud, Ud, Ud, Ud, Ud, Ud, Ud, Ud, Ud, Ud, Ud, Ud, Ud, Ud, Ud, Ud, Ud, Ud, Ud, Ud, Ud, Ud, Ud, Ud, Ud, Ud, Ud, Ud, Ud]) rfl (fun _ => rfl) (fun u hu hF => ?_) (fun v54 => ?_)
  · have h23_ : (β1 && β2) = true → v53 = (Pt b20 0) := hF.1
    have h20_ : v50 = (Bo (β1 && β2)) := hF.2.1
    clear hF
    obtain rfl := h20_
    refine doesG_g (b := (β1 && β2)) rfl (yld rfl rfl) (fun hg => ?_) (fun hg => ⟨fun h => absurd h hg, Ext.refl _⟩)
    obtain rfl := h23_ hg
    refine (does_fieldAddr (ev rfl) fa31_2).mono ?_; rintro _ _ ⟨rfl, rfl⟩
    exact ⟨fun _ => rfl, Ext.refl _⟩
  refine RW_d (fun v55 => [(.agg #[(Fl r1), (Fl r3), (Fl r5), (Fl r7), (Fl r9), (Fl r11)]), (.agg #[(Fl r13), (Fl r15), (Fl r17)]), (Pt b20 0), (Pt b27 0), (Bo false), Ud, v36, v37, v38, v39, v40, v41, v42, v43, v44, v45, v46, v47, v48, v49, v50, v51, v52, v53, v54, v55, Ud, Ud, Ud, Ud, Ud, Ud, Ud, Ud, Ud, Ud, Ud, Ud, Ud, Ud, Ud, Ud, Ud, Ud, Ud, Ud, Ud, Ud, Ud, Ud, Ud, Ud, Ud, Ud, Ud, Ud, Ud]) rfl (fun _ => rfl) (fun u hu hF => ?_) (fun v55 => ?_)
  · have h24_ : (β1 && β2) = true → v54 = (Pt b20 2) := hF.1
    have h20_ : v50 = (Bo (β1 && β2)) := hF.2.1
    clear hF
    obtain rfl := h20_
    refine doesG_g (b := (β1 && β2)) rfl (yld rfl rfl) (fun hg => ?_) (fun hg => ⟨fun h => absurd h hg, Ext.refl _⟩)
    obtain rfl := h24_ hg
    refine (does_load (u := (Fl r5)) (ev rfl) Try.isAgg25 (Cells.at (Blk.cells ((hB22.ext E30).ext hu)) 2 rfl)).mono ?_; rintro _ _ ⟨rfl, rfl⟩
    exact ⟨fun _ => rfl, Ext.refl _⟩
  refine RW_d (fun v56 => [(.agg #[(Fl r1), (Fl r3), (Fl r5), (Fl r7), (Fl r9), (Fl r11)]), (.agg #[(Fl r13), (Fl r15), (Fl r17)]), (Pt b20 0), (Pt b27 0), (Bo false), Ud, v36, v37, v38, v39, v40, v41, v42, v43, v44, v45, v46, v47, v48, v49, v50, v51, v52, v53, v54, v55, v56, Ud, Ud, Ud, Ud, Ud, Ud, Ud, Ud, Ud, Ud, Ud, Ud, Ud, Ud, Ud, Ud, Ud, Ud, Ud, Ud, Ud, Ud, Ud, Ud, Ud, Ud, Ud, Ud, Ud, Ud]) rfl (fun _ => rfl) (fun u hu hF => ?_) (fun v56 => ?_)
  · have h22_ : (β1 && β2) = true → v52 = (Fl r17) := hF.1
    have h25_ : (β1 && β2) = true → v55 = (Fl r5) := hF.2.1
    have h20_ : v50 = (Bo (β1 && β2)) := hF.2.2.1
    clear hF
    obtain rfl := h20_
    refine doesG_g (b := (β1 && β2)) rfl (yld rfl rfl) (fun hg => ?_) (fun hg => ⟨fun h => absurd h hg, Ext.refl _⟩)
    obtain rfl := h22_ hg
    obtain rfl := h25_ hg
    refine (does_fcmp (.inr (.inr (.inr (.inr (.inr rfl))))) (ev rfl) (ev rfl)).mono ?_; rintro _ _ ⟨rfl, rfl⟩
    exact ⟨fun _ => (by show _ = _; simp only [hβ3]), Ext.refl _⟩
  refine RW_d (fun v57 => [(.agg #[(Fl r1), (Fl r3), (Fl r5), (Fl r7), (Fl r9), (Fl r11)]), (.agg #[(Fl r13), (Fl r15), (Fl r17)]), (Pt b20 0), (Pt b27 0), (Bo false), Ud, v36, v37, v38, v39, v40, v41, v42, v43, v44, v45, v46, v47, v48, v49, v50, v51, v52, v53, v54, v55, v56, v57, Ud, Ud, Ud, Ud, Ud, Ud, Ud, Ud, Ud, Ud, Ud, Ud, Ud, Ud, Ud, Ud, Ud, Ud, Ud, Ud, Ud, Ud, Ud, Ud, Ud, Ud, Ud, Ud, Ud]) rfl (fun _ => rfl) (fun u hu hF => ?_) (fun v57 => ?_)
  · have h20_ : v50 = (Bo (β1 && β2)) := hF.1
    have h26_ : (β1 && β2) = true → v56 = (Bo β3) := hF.2.1
    clear hF
    obtain rfl := h20_
    refine doesG_un rfl ((does_pick (b := (β1 && β2)) (ev rfl) (ev rfl) (ev rfl)).mono ?_); rintro _ _ ⟨rfl, rfl⟩; refine ⟨?_, Ext.refl _⟩; skip
    cases hbb : (β1 && β2) <;> simp [hbb] at h26_ ⊢
    all_goals (first | rfl | (subst h26_; rfl) | simp_all)
  refine RW_d (fun v58 => [(.agg #[(Fl r1), (Fl r3), (Fl r5), (Fl r7), (Fl r9), (Fl r11)]), (.agg #[(Fl r13), (Fl r15), (Fl r17)]), (Pt b20 0), (Pt b27 0), (Bo false), Ud, v36, v37, v38, v39, v40, v41, v42, v43, v44, v45, v46, v47, v48, v49, v50, v51, v52, v53, v54, v55, v56, v57, v58, Ud, Ud, Ud, Ud, Ud, Ud, Ud, Ud, Ud, Ud, Ud, Ud, Ud, Ud, Ud, Ud, Ud, Ud, Ud, Ud, Ud, Ud, Ud, Ud, Ud, Ud, Ud, Ud]) rfl (fun _ => rfl) (fun u hu hF => ?_) (fun v58 => ?_)
  · have h27_ : v57 = (Bo ((β1 && β2) && β3)) := hF.1
    clear hF
    obtain rfl := h27_
    refine doesG_un rfl ?_
    refine (does_move (u := (Bo ((β1 && β2) && β3))) (ev rfl)).mono ?_; rintro _ _ ⟨rfl, rfl⟩
    exact ⟨rfl, Ext.refl _⟩
  refine RW_d (fun v59 => [(.agg #[(Fl r1), (Fl r3), (Fl r5), (Fl r7), (Fl r9), (Fl r11)]), (.agg #[(Fl r13), (Fl r15), (Fl r17)]), (Pt b20 0), (Pt b27 0), (Bo false), Ud, v36, v37, v38, v39, v40, v41, v42, v43, v44, v45, v46, v47, v48, v49, v50, v51, v52, v53, v54, v55, v56, v57, v58, v59, Ud, Ud, Ud, Ud, Ud, Ud, Ud, Ud, Ud, Ud, Ud, Ud, Ud, Ud, Ud, Ud, Ud, Ud, Ud, Ud, Ud, Ud, Ud, Ud, Ud, Ud, Ud]) rfl (fun _ => rfl) (fun u hu hF => ?_) (fun v59 => ?_)
  · have h28_ : v58 = (Bo ((β1 && β2) && β3)) := hF.1
    clear hF
    obtain rfl := h28_
    refine doesG_g (b := ((β1 && β2) && β3)) rfl (yld rfl rfl) (fun hg => ?_) (fun hg => ⟨fun h => absurd h hg, Ext.refl _⟩)
    refine (does_fieldAddr (ev rfl) fa31_0).mono ?_; rintro _ _ ⟨rfl, rfl⟩
    exact ⟨fun _ => rfl, Ext.refl _⟩
  refine RW_d (fun v60 => [(.agg #[(Fl r1), (Fl r3), (Fl r5), (Fl r7), (Fl r9), (Fl r11)]), (.agg #[(Fl r13), (Fl r15), (Fl r17)]), (Pt b20 0), (Pt b27 0), (Bo false), Ud, v36, v37, v38, v39, v40, v41, v42, v43, v44, v45, v46, v47, v48, v49, v50, v51, v52, v53, v54, v55, v56, v57, v58, v59, v60, Ud, Ud, Ud, Ud, Ud, Ud, Ud, Ud, Ud, Ud, Ud, Ud, Ud, Ud, Ud, Ud, Ud, Ud, Ud, Ud, Ud, Ud, Ud, Ud, Ud, Ud]) rfl (fun _ => rfl) (fun u hu hF => ?_) (fun v60 => ?_)
  · have h29_ : ((β1 && β2) && β3) = true → v59 = (Pt b27 0) := hF.1
    have h28_ : v58 = (Bo ((β1 && β2) && β3)) := hF.2.1
    clear hF
    obtain rfl := h28_
    refine doesG_g (b := ((β1 && β2) && β3)) rfl (yld rfl rfl) (fun hg => ?_) (fun hg => ⟨fun h => absurd h hg, Ext.refl _⟩)
    obtain rfl := h29_ hg
    refine (does_load (u := (Fl r13)) (ev rfl) Try.isAgg25 (Cells.at (Blk.cells (hB29.ext hu)) 0 rfl)).mono ?_; rintro _ _ ⟨rfl, rfl⟩
    exact ⟨fun _ => rfl, Ext.refl _⟩
  refine RW_d (fun v61 => [(.agg #[(Fl r1), (Fl r3), (Fl r5), (Fl r7), (Fl r9), (Fl r11)]), (.agg #[(Fl r13), (Fl r15), (Fl r17)]), (Pt b20 0), (Pt b27 0), (Bo false), Ud, v36, v37, v38, v39, v40, v41, v42, v43, v44, v45, v46, v47, v48, v49, v50, v51, v52, v53, v54, v55, v56, v57, v58, v59, v60, v61, Ud, Ud, Ud, Ud, Ud, Ud, Ud, Ud, Ud, Ud, Ud, Ud, Ud, Ud, Ud, Ud, Ud, Ud, Ud, Ud, Ud, Ud, Ud, Ud, Ud]) rfl (fun _ => rfl) (fun u hu hF => ?_) (fun v61 => ?_)
  · have h28_ : v58 = (Bo ((β1 && β2) && β3)) := hF.1
    clear hF
    obtain rfl := h28_
    refine doesG_g (b := ((β1 && β2) && β3)) rfl (yld rfl rfl) (fun hg => ?_) (fun hg => ⟨fun h => absurd h hg, Ext.refl _⟩)
    refine (does_fieldAddr (ev rfl) fa33_1).mono ?_; rintro _ _ ⟨rfl, rfl⟩
    exact ⟨fun _ => rfl, Ext.refl _⟩
  refine RW_d (fun v62 => [(.agg #[(Fl r1), (Fl r3), (Fl r5), (Fl r7), (Fl r9), (Fl r11)]), (.agg #[(Fl r13), (Fl r15), (Fl r17)]), (Pt b20 0), (Pt b27 0), (Bo false), Ud, v36, v37, v38, v39, v40, v41, v42, v43, v44, v45, v46, v47, v48, v49, v50, v51, v52, v53, v54, v55, v56, v57, v58, v59, v60, v61, v62, Ud, Ud, Ud, Ud, Ud, Ud, Ud, Ud, Ud, Ud, Ud, Ud, Ud, Ud, Ud, Ud, Ud, Ud, Ud, Ud, Ud, Ud, Ud, Ud]) rfl (fun _ => rfl) (fun u hu hF => ?_) (fun v62 => ?_)
  · have h31_ : ((β1 && β2) && β3) = true → v61 = (Pt b20 3) := hF.1
    have h28_ : v58 = (Bo ((β1 && β2) && β3)) := hF.2.1
    clear hF
    obtain rfl := h28_
    refine doesG_g (b := ((β1 && β2) && β3)) rfl (yld rfl rfl) (fun hg => ?_) (fun hg => ⟨fun h => absurd h hg, Ext.refl _⟩)
    obtain rfl := h31_ hg
    refine (does_fieldAddr (ev rfl) fa31_0).mono ?_; rintro _ _ ⟨rfl, rfl⟩
    exact ⟨fun _ => rfl, Ext.refl _⟩
  refine RW_d (fun v63 => [(.agg #[(Fl r1), (Fl r3), (Fl r5), (Fl r7), (Fl r9), (Fl r11)]), (.agg #[(Fl r13), (Fl r15), (Fl r17)]), (Pt b20 0), (Pt b27 0), (Bo false), Ud, v36, v37, v38, v39, v40, v41, v42, v43, v44, v45, v46, v47, v48, v49, v50, v51, v52, v53, v54, v55, v56, v57, v58, v59, v60, v61, v62, v63, Ud, Ud, Ud, Ud, Ud, Ud, Ud, Ud, Ud, Ud, Ud, Ud, Ud, Ud, Ud, Ud, Ud, Ud, Ud, Ud, Ud, Ud, Ud]) rfl (fun _ => rfl) (fun u hu hF => ?_) (fun v63 => ?_)
  · have h32_ : ((β1 && β2) && β3) = true → v62 = (Pt b20 3) := hF.1
    have h28_ : v58 = (Bo ((β1 && β2) && β3)) := hF.2.1
    clear hF
    obtain rfl := h28_
    refine doesG_g (b := ((β1 && β2) && β3)) rfl (yld rfl rfl) (fun hg => ?_) (fun hg => ⟨fun h => absurd h hg, Ext.refl _⟩)
    obtain rfl := h32_ hg
    refine (does_load (u := (Fl r7)) (ev rfl) Try.isAgg25 (Cells.at (Blk.cells ((hB22.ext E30).ext hu)) 3 rfl)).mono ?_; rintro _ _ ⟨rfl, rfl⟩
    exact ⟨fun _ => rfl, Ext.refl _⟩
  refine RW_d (fun v64 => [(.agg #[(Fl r1), (Fl r3), (Fl r5), (Fl r7), (Fl r9), (Fl r11)]), (.agg #[(Fl r13), (Fl r15), (Fl r17)]), (Pt b20 0), (Pt b27 0), (Bo false), Ud, v36, v37, v38, v39, v40, v41, v42, v43, v44, v45, v46, v47, v48, v49, v50, v51, v52, v53, v54, v55, v56, v57, v58, v59, v60, v61, v62, v63, v64, Ud, Ud, Ud, Ud, Ud, Ud, Ud, Ud, Ud, Ud, Ud, Ud, Ud, Ud, Ud, Ud, Ud, Ud, Ud, Ud, Ud, Ud]) rfl (fun _ => rfl) (fun u hu hF => ?_) (fun v64 => ?_)
  · have h30_ : ((β1 && β2) && β3) = true → v60 = (Fl r13) := hF.1
    have h33_ : ((β1 && β2) && β3) = true → v63 = (Fl r7) := hF.2.1
    have h28_ : v58 = (Bo ((β1 && β2) && β3)) := hF.2.2.1
    clear hF
    obtain rfl := h28_
    refine doesG_g (b := ((β1 && β2) && β3)) rfl (yld rfl rfl) (fun hg => ?_) (fun hg => ⟨fun h => absurd h hg, Ext.refl _⟩)
    obtain rfl := h30_ hg
    obtain rfl := h33_ hg
    refine (does_fcmp (.inr (.inr (.inr (.inl rfl)))) (ev rfl) (ev rfl)).mono ?_; rintro _ _ ⟨rfl, rfl⟩
    exact ⟨fun _ => (by show _ = _; simp only [hβ4]), Ext.refl _⟩
  refine RW_d (fun v65 => [(.agg #[(Fl r1), (Fl r3), (Fl r5), (Fl r7), (Fl r9), (Fl r11)]), (.agg #[(Fl r13), (Fl r15), (Fl r17)]), (Pt b20 0), (Pt b27 0), (Bo false), Ud, v36, v37, v38, v39, v40, v41, v42, v43, v44, v45, v46, v47, v48, v49, v50, v51, v52, v53, v54, v55, v56, v57, v58, v59, v60, v61, v62, v63, v64, v65, Ud, Ud, Ud, Ud, Ud, Ud, Ud, Ud, Ud, Ud, Ud, Ud, Ud, Ud, Ud, Ud, Ud, Ud, Ud, Ud, Ud]) rfl (fun _ => rfl) (fun u hu hF => ?_) (fun v65 => ?_)
  · have h28_ : v58 = (Bo ((β1 && β2) && β3)) := hF.1
    have h34_ : ((β1 && β2) && β3) = true → v64 = (Bo β4) := hF.2.1
    clear hF
    obtain rfl := h28_
    refine doesG_un rfl ((does_pick (b := ((β1 && β2) && β3)) (ev rfl) (ev rfl) (ev rfl)).mono ?_); rintro _ _ ⟨rfl, rfl⟩; refine ⟨?_, Ext.refl _⟩; skip
    cases hbb : ((β1 && β2) && β3) <;> simp [hbb] at h34_ ⊢
    all_goals (first | rfl | (subst h34_; rfl) | simp_all)
  refine RW_d (fun v66 => [(.agg #[(Fl r1), (Fl r3), (Fl r5), (Fl r7), (Fl r9), (Fl r11)]), (.agg #[(Fl r13), (Fl r15), (Fl r17)]), (Pt b20 0), (Pt b27 0), (Bo false), Ud, v36, v37, v38, v39, v40, v41, v42, v43, v44, v45, v46, v47, v48, v49, v50, v51, v52, v53, v54, v55, v56, v57, v58, v59, v60, v61, v62, v63, v64, v65, v66, Ud, Ud, Ud, Ud, Ud, Ud, Ud, Ud, Ud, Ud, Ud, Ud, Ud, Ud, Ud, Ud, Ud, Ud, Ud, Ud]) rfl (fun _ => rfl) (fun u hu hF => ?_) (fun v66 => ?_)
  · have h35_ : v65 = (Bo (((β1 && β2) && β3) && β4)) := hF.1
    clear hF
    obtain rfl := h35_
    refine doesG_un rfl ?_
    refine (does_move (u := (Bo (((β1 && β2) && β3) && β4))) (ev rfl)).mono ?_; rintro _ _ ⟨rfl, rfl⟩
    exact ⟨rfl, Ext.refl _⟩
  refine RW_d (fun v67 => [(.agg #[(Fl r1), (Fl r3), (Fl r5), (Fl r7), (Fl r9), (Fl r11)]), (.agg #[(Fl r13), (Fl r15), (Fl r17)]), (Pt b20 0), (Pt b27 0), (Bo false), Ud, v36, v37, v38, v39, v40, v41, v42, v43, v44, v45, v46, v47, v48, v49, v50, v51, v52, v53, v54, v55, v56, v57, v58, v59, v60, v61, v62, v63, v64, v65, v66, v67, Ud, Ud, Ud, Ud, Ud, Ud, Ud, Ud, Ud, Ud, Ud, Ud, Ud, Ud, Ud, Ud, Ud, Ud, Ud]) rfl (fun _ => rfl) (fun u hu hF => ?_) (fun v67 => ?_)
  · have h36_ : v66 = (Bo (((β1 && β2) && β3) && β4)) := hF.1
    clear hF
    obtain rfl := h36_
    refine doesG_g (b := (((β1 && β2) && β3) && β4)) rfl (yld rfl rfl) (fun hg => ?_) (fun hg => ⟨fun h => absurd h hg, Ext.refl _⟩)
    refine (does_fieldAddr (ev rfl) fa31_1).mono ?_; rintro _ _ ⟨rfl, rfl⟩
    exact ⟨fun _ => rfl, Ext.refl _⟩
  refine RW_d (fun v68 => [(.agg #[(Fl r1), (Fl r3), (Fl r5), (Fl r7), (Fl r9), (Fl r11)]), (.agg #[(Fl r13), (Fl r15), (Fl r17)]), (Pt b20 0), (Pt b27 0), (Bo false), Ud, v36, v37, v38, v39, v40, v41, v42, v43, v44, v45, v46, v47, v48, v49, v50, v51, v52, v53, v54, v55, v56, v57, v58, v59, v60, v61, v62, v63, v64, v65, v66, v67, v68, Ud, Ud, Ud, Ud, Ud, Ud, Ud, Ud, Ud, Ud, Ud, Ud, Ud, Ud, Ud, Ud, Ud, Ud]) rfl (fun _ => rfl) (fun u hu hF => ?_) (fun v68 => ?_)
  · have h37_ : (((β1 && β2) && β3) && β4) = true → v67 = (Pt b27 1) := hF.1
    have h36_ : v66 = (Bo (((β1 && β2) && β3) && β4)) := hF.2.1
    clear hF
    obtain rfl := h36_
    refine doesG_g (b := (((β1 && β2) && β3) && β4)) rfl (yld rfl rfl) (fun hg => ?_) (fun hg => ⟨fun h => absurd h hg, Ext.refl _⟩)
    obtain rfl := h37_ hg
    refine (does_load (u := (Fl r15)) (ev rfl) Try.isAgg25 (Cells.at (Blk.cells (hB29.ext hu)) 1 rfl)).mono ?_; rintro _ _ ⟨rfl, rfl⟩
    exact ⟨fun _ => rfl, Ext.refl _⟩
  refine RW_d (fun v69 => [(.agg #[(Fl r1), (Fl r3), (Fl r5), (Fl r7), (Fl r9), (Fl r11)]), (.agg #[(Fl r13), (Fl r15), (Fl r17)]), (Pt b20 0), (Pt b27 0), (Bo false), Ud, v36, v37, v38, v39, v40, v41, v42, v43, v44, v45, v46, v47, v48, v49, v50, v51, v52, v53, v54, v55, v56, v57, v58, v59, v60, v61, v62, v63, v64, v65, v66, v67, v68, v69, Ud, Ud, Ud, Ud, Ud, Ud, Ud, Ud, Ud, Ud, Ud, Ud, Ud, Ud, Ud, Ud, Ud]) rfl (fun _ => rfl) (fun u hu hF => ?_) (fun v69 => ?_)
  · have h36_ : v66 = (Bo (((β1 && β2) && β3) && β4)) := hF.1
    clear hF
    obtain rfl := h36_
    refine doesG_g (b := (((β1 && β2) && β3) && β4)) rfl (yld rfl rfl) (fun hg => ?_) (fun hg => ⟨fun h => absurd h hg, Ext.refl _⟩)
    refine (does_fieldAddr (ev rfl) fa33_1).mono ?_; rintro _ _ ⟨rfl, rfl⟩
    exact ⟨fun _ => rfl, Ext.refl _⟩
  refine RW_d (fun v70 => [(.agg #[(Fl r1), (Fl r3), (Fl r5), (Fl r7), (Fl r9), (Fl r11)]), (.agg #[(Fl r13), (Fl r15), (Fl r17)]), (Pt b20 0), (Pt b27 0), (Bo false), Ud, v36, v37, v38, v39, v40, v41, v42, v43, v44, v45, v46, v47, v48, v49, v50, v51, v52, v53, v54, v55, v56, v57, v58, v59, v60, v61, v62, v63, v64, v65, v66, v67, v68, v69, v70, Ud, Ud, Ud, Ud, Ud, Ud, Ud, Ud, Ud, Ud, Ud, Ud, Ud, Ud, Ud, Ud]) rfl (fun _ => rfl) (fun u hu hF => ?_) (fun v70 => ?_)
  · have h39_ : (((β1 && β2) && β3) && β4) = true → v69 = (Pt b20 3) := hF.1
    have h36_ : v66 = (Bo (((β1 && β2) && β3) && β4)) := hF.2.1
    clear hF
    obtain rfl := h36_
    refine doesG_g (b := (((β1 && β2) && β3) && β4)) rfl (yld rfl rfl) (fun hg => ?_) (fun hg => ⟨fun h => absurd h hg, Ext.refl _⟩)
    obtain rfl := h39_ hg
    refine (does_fieldAddr (ev rfl) fa31_1).mono ?_; rintro _ _ ⟨rfl, rfl⟩
    exact ⟨fun _ => rfl, Ext.refl _⟩
  refine RW_d (fun v71 => [(.agg #[(Fl r1), (Fl r3), (Fl r5), (Fl r7), (Fl r9), (Fl r11)]), (.agg #[(Fl r13), (Fl r15), (Fl r17)]), (Pt b20 0), (Pt b27 0), (Bo false), Ud, v36, v37, v38, v39, v40, v41, v42, v43, v44, v45, v46, v47, v48, v49, v50, v51, v52, v53, v54, v55, v56, v57, v58, v59, v60, v61, v62, v63, v64, v65, v66, v67, v68, v69, v70, v71, Ud, Ud, Ud, Ud, Ud, Ud, Ud, Ud, Ud, Ud, Ud, Ud, Ud, Ud, Ud]) rfl (fun _ => rfl) (fun u hu hF => ?_) (fun v71 => ?_)
  · have h40_ : (((β1 && β2) && β3) && β4) = true → v70 = (Pt b20 4) := hF.1
    have h36_ : v66 = (Bo (((β1 && β2) && β3) && β4)) := hF.2.1
    clear hF
    obtain rfl := h36_
    refine doesG_g (b := (((β1 && β2) && β3) && β4)) rfl (yld rfl rfl) (fun hg => ?_) (fun hg => ⟨fun h => absurd h hg, Ext.refl _⟩)
    obtain rfl := h40_ hg
    refine (does_load (u := (Fl r9)) (ev rfl) Try.isAgg25 (Cells.at (Blk.cells ((hB22.ext E30).ext hu)) 4 rfl)).mono ?_; rintro _ _ ⟨rfl, rfl⟩
    exact ⟨fun _ => rfl, Ext.refl _⟩
  refine RW_d (fun v72 => [(.agg #[(Fl r1), (Fl r3), (Fl r5), (Fl r7), (Fl r9), (Fl r11)]), (.agg #[(Fl r13), (Fl r15), (Fl r17)]), (Pt b20 0), (Pt b27 0), (Bo false), Ud, v36, v37, v38, v39, v40, v41, v42, v43, v44, v45, v46, v47, v48, v49, v50, v51, v52, v53, v54, v55, v56, v57, v58, v59, v60, v61, v62, v63, v64, v65, v66, v67, v68, v69, v70, v71, v72, Ud, Ud, Ud, Ud, Ud, Ud, Ud, Ud, Ud, Ud, Ud, Ud, Ud, Ud]) rfl (fun _ => rfl) (fun u hu hF => ?_) (fun v72 => ?_)
  · have h38_ : (((β1 && β2) && β3) && β4) = true → v68 = (Fl r15) := hF.1
    have h41_ : (((β1 && β2) && β3) && β4) = true → v71 = (Fl r9) := hF.2.1
    have h36_ : v66 = (Bo (((β1 && β2) && β3) && β4)) := hF.2.2.1
    clear hF
    obtain rfl := h36_
    refine doesG_g (b := (((β1 && β2) && β3) && β4)) rfl (yld rfl rfl) (fun hg => ?_) (fun hg => ⟨fun h => absurd h hg, Ext.refl _⟩)
    obtain rfl := h38_ hg
    obtain rfl := h41_ hg
    refine (does_fcmp (.inr (.inr (.inr (.inl rfl)))) (ev rfl) (ev rfl)).mono ?_; rintro _ _ ⟨rfl, rfl⟩
    exact ⟨fun _ => (by show _ = _; simp only [hβ5]), Ext.refl _⟩
  refine RW_d (fun v73 => [(.agg #[(Fl r1), (Fl r3), (Fl r5), (Fl r7), (Fl r9), (Fl r11)]), (.agg #[(Fl r13), (Fl r15), (Fl r17)]), (Pt b20 0), (Pt b27 0), (Bo false), Ud, v36, v37, v38, v39, v40, v41, v42, v43, v44, v45, v46, v47, v48, v49, v50, v51, v52, v53, v54, v55, v56, v57, v58, v59, v60, v61, v62, v63, v64, v65, v66, v67, v68, v69, v70, v71, v72, v73, Ud, Ud, Ud, Ud, Ud, Ud, Ud, Ud, Ud, Ud, Ud, Ud, Ud]) rfl (fun _ => rfl) (fun u hu hF => ?_) (fun v73 => ?_)
  · have h36_ : v66 = (Bo (((β1 && β2) && β3) && β4)) := hF.1
    have h42_ : (((β1 && β2) && β3) && β4) = true → v72 = (Bo β5) := hF.2.1
    clear hF
    obtain rfl := h36_
    refine doesG_un rfl ((does_pick (b := (((β1 && β2) && β3) && β4)) (ev rfl) (ev rfl) (ev rfl)).mono ?_); rintro _ _ ⟨rfl, rfl⟩; refine ⟨?_, Ext.refl _⟩; rw [hβ6]; skip
    cases hbb : (((β1 && β2) && β3) && β4) <;> simp [hbb] at h42_ ⊢
    all_goals (first | rfl | (subst h42_; rfl) | simp_all)
  refine RW_d (fun v74 => [(.agg #[(Fl r1), (Fl r3), (Fl r5), (Fl r7), (Fl r9), (Fl r11)]), (.agg #[(Fl r13), (Fl r15), (Fl r17)]), (Pt b20 0), (Pt b27 0), (Bo false), Ud, v36, v37, v38, v39, v40, v41, v42, v43, v44, v45, v46, v47, v48, v49, v50, v51, v52, v53, v54, v55, v56, v57, v58, v59, v60, v61, v62, v63, v64, v65, v66, v67, v68, v69, v70, v71, v72, v73, v74, Ud, Ud, Ud, Ud, Ud, Ud, Ud, Ud, Ud, Ud, Ud, Ud]) rfl (fun _ => rfl) (fun u hu hF => ?_) (fun v74 => ?_)
  · have h43_ : v73 = (Bo β6) := hF.1
    clear hF
    obtain rfl := h43_
    refine doesG_un rfl ?_
    refine (does_move (u := (Bo β6)) (ev rfl)).mono ?_; rintro _ _ ⟨rfl, rfl⟩
    exact ⟨rfl, Ext.refl _⟩
  refine RW_d (fun v75 => [(.agg #[(Fl r1), (Fl r3), (Fl r5), (Fl r7), (Fl r9), (Fl r11)]), (.agg #[(Fl r13), (Fl r15), (Fl r17)]), (Pt b20 0), (Pt b27 0), (Bo false), Ud, v36, v37, v38, v39, v40, v41, v42, v43, v44, v45, v46, v47, v48, v49, v50, v51, v52, v53, v54, v55, v56, v57, v58, v59, v60, v61, v62, v63, v64, v65, v66, v67, v68, v69, v70, v71, v72, v73, v74, v75, Ud, Ud, Ud, Ud, Ud, Ud, Ud, Ud, Ud, Ud, Ud]) rfl (fun _ => rfl) (fun u hu hF => ?_) (fun v75 => ?_)
  · have h44_ : v74 = (Bo β6) := hF.1
    clear hF
    obtain rfl := h44_
    refine doesG_g (b := β6) rfl (yld rfl rfl) (fun hg => ?_) (fun hg => ⟨fun h => absurd h hg, Ext.refl _⟩)
    refine (does_fieldAddr (ev rfl) fa31_2).mono ?_; rintro _ _ ⟨rfl, rfl⟩
    exact ⟨fun _ => rfl, Ext.refl _⟩
  refine RW_d (fun v76 => [(.agg #[(Fl r1), (Fl r3), (Fl r5), (Fl r7), (Fl r9), (Fl r11)]), (.agg #[(Fl r13), (Fl r15), (Fl r17)]), (Pt b20 0), (Pt b27 0), (Bo false), Ud, v36, v37, v38, v39, v40, v41, v42, v43, v44, v45, v46, v47, v48, v49, v50, v51, v52, v53, v54, v55, v56, v57, v58, v59, v60, v61, v62, v63, v64, v65, v66, v67, v68, v69, v70, v71, v72, v73, v74, v75, v76, Ud, Ud, Ud, Ud, Ud, Ud, Ud, Ud, Ud, Ud]) rfl (fun _ => rfl) (fun u hu hF => ?_) (fun v76 => ?_)
  · have h45_ : β6 = true → v75 = (Pt b27 2) := hF.1
    have h44_ : v74 = (Bo β6) := hF.2.1
    clear hF
    obtain rfl := h44_
    refine doesG_g (b := β6) rfl (yld rfl rfl) (fun hg => ?_) (fun hg => ⟨fun h => absurd h hg, Ext.refl _⟩)
    obtain rfl := h45_ hg
    refine (does_load (u := (Fl r17)) (ev rfl) Try.isAgg25 (Cells.at (Blk.cells (hB29.ext hu)) 2 rfl)).mono ?_; rintro _ _ ⟨rfl, rfl⟩
    exact ⟨fun _ => rfl, Ext.refl _⟩
  refine RW_d (fun v77 => [(.agg #[(Fl r1), (Fl r3), (Fl r5), (Fl r7), (Fl r9), (Fl r11)]), (.agg #[(Fl r13), (Fl r15), (Fl r17)]), (Pt b20 0), (Pt b27 0), (Bo false), Ud, v36, v37, v38, v39, v40, v41, v42, v43, v44, v45, v46, v47, v48, v49, v50, v51, v52, v53, v54, v55, v56, v57, v58, v59, v60, v61, v62, v63, v64, v65, v66, v67, v68, v69, v70, v71, v72, v73, v74, v75, v76, v77, Ud, Ud, Ud, Ud, Ud, Ud, Ud, Ud, Ud]) rfl (fun _ => rfl) (fun u hu hF => ?_) (fun v77 => ?_)
  · have h44_ : v74 = (Bo β6) := hF.1
    clear hF
    obtain rfl := h44_
    refine doesG_g (b := β6) rfl (yld rfl rfl) (fun hg => ?_) (fun hg => ⟨fun h => absurd h hg, Ext.refl _⟩)
    refine (does_fieldAddr (ev rfl) fa33_1).mono ?_; rintro _ _ ⟨rfl, rfl⟩
    exact ⟨fun _ => rfl, Ext.refl _⟩
  refine RW_d (fun v78 => [(.agg #[(Fl r1), (Fl r3), (Fl r5), (Fl r7), (Fl r9), (Fl r11)]), (.agg #[(Fl r13), (Fl r15), (Fl r17)]), (Pt b20 0), (Pt b27 0), (Bo false), Ud, v36, v37, v38, v39, v40, v41, v42, v43, v44, v45, v46, v47, v48, v49, v50, v51, v52, v53, v54, v55, v56, v57, v58, v59, v60, v61, v62, v63, v64, v65, v66, v67, v68, v69, v70, v71, v72, v73, v74, v75, v76, v77, v78, Ud, Ud, Ud, Ud, Ud, Ud, Ud, Ud]) rfl (fun _ => rfl) (fun u hu hF => ?_) (fun v78 => ?_)
  · have h47_ : β6 = true → v77 = (Pt b20 3) := hF.1
    have h44_ : v74 = (Bo β6) := hF.2.1
    clear hF
    obtain rfl := h44_
    refine doesG_g (b := β6) rfl (yld rfl rfl) (fun hg => ?_) (fun hg => ⟨fun h => absurd h hg, Ext.refl _⟩)
    obtain rfl := h47_ hg
    refine (does_fieldAddr (ev rfl) fa31_2).mono ?_; rintro _ _ ⟨rfl, rfl⟩
    exact ⟨fun _ => rfl, Ext.refl _⟩
  refine RW_d (fun v79 => [(.agg #[(Fl r1), (Fl r3), (Fl r5), (Fl r7), (Fl r9), (Fl r11)]), (.agg #[(Fl r13), (Fl r15), (Fl r17)]), (Pt b20 0), (Pt b27 0), (Bo false), Ud, v36, v37, v38, v39, v40, v41, v42, v43, v44, v45, v46, v47, v48, v49, v50, v51, v52, v53, v54, v55, v56, v57, v58, v59, v60, v61, v62, v63, v64, v65, v66, v67, v68, v69, v70, v71, v72, v73, v74, v75, v76, v77, v78, v79, Ud, Ud, Ud, Ud, Ud, Ud, Ud]) rfl (fun _ => rfl) (fun u hu hF => ?_) (fun v79 => ?_)
  · have h48_ : β6 = true → v78 = (Pt b20 5) := hF.1
    have h44_ : v74 = (Bo β6) := hF.2.1
    clear hF
    obtain rfl := h44_
    refine doesG_g (b := β6) rfl (yld rfl rfl) (fun hg => ?_) (fun hg => ⟨fun h => absurd h hg, Ext.refl _⟩)
    obtain rfl := h48_ hg
    refine (does_load (u := (Fl r11)) (ev rfl) Try.isAgg25 (Cells.at (Blk.cells ((hB22.ext E30).ext hu)) 5 rfl)).mono ?_; rintro _ _ ⟨rfl, rfl⟩
    exact ⟨fun _ => rfl, Ext.refl _⟩
  refine RW_d (fun v80 => [(.agg #[(Fl r1), (Fl r3), (Fl r5), (Fl r7), (Fl r9), (Fl r11)]), (.agg #[(Fl r13), (Fl r15), (Fl r17)]), (Pt b20 0), (Pt b27 0), (Bo false), Ud, v36, v37, v38, v39, v40, v41, v42, v43, v44, v45, v46, v47, v48, v49, v50, v51, v52, v53, v54, v55, v56, v57, v58, v59, v60, v61, v62, v63, v64, v65, v66, v67, v68, v69, v70, v71, v72, v73, v74, v75, v76, v77, v78, v79, v80, Ud, Ud, Ud, Ud, Ud, Ud]) rfl (fun _ => rfl) (fun u hu hF => ?_) (fun v80 => ?_)
  · have h46_ : β6 = true → v76 = (Fl r17) := hF.1
    have h49_ : β6 = true → v79 = (Fl r11) := hF.2.1
    have h44_ : v74 = (Bo β6) := hF.2.2.1
    clear hF
    obtain rfl := h44_
    refine doesG_g (b := β6) rfl (yld rfl rfl) (fun hg => ?_) (fun hg => ⟨fun h => absurd h hg, Ext.refl _⟩)
    obtain rfl := h46_ hg
    obtain rfl := h49_ hg
    refine (does_fcmp (.inr (.inr (.inr (.inl rfl)))) (ev rfl) (ev rfl)).mono ?_; rintro _ _ ⟨rfl, rfl⟩
    exact ⟨fun _ => (by show _ = _; simp only [hβ7]), Ext.refl _⟩
  refine RW_d (fun v81 => [(.agg #[(Fl r1), (Fl r3), (Fl r5), (Fl r7), (Fl r9), (Fl r11)]), (.agg #[(Fl r13), (Fl r15), (Fl r17)]), (Pt b20 0), (Pt b27 0), (Bo false), Ud, v36, v37, v38, v39, v40, v41, v42, v43, v44, v45, v46, v47, v48, v49, v50, v51, v52, v53, v54, v55, v56, v57, v58, v59, v60, v61, v62, v63, v64, v65, v66, v67, v68, v69, v70, v71, v72, v73, v74, v75, v76, v77, v78, v79, v80, v81, Ud, Ud, Ud, Ud, Ud]) rfl (fun _ => rfl) (fun u hu hF => ?_) (fun v81 => ?_)
  · have h44_ : v74 = (Bo β6) := hF.1
    have h50_ : β6 = true → v80 = (Bo β7) := hF.2.1
    clear hF
    obtain rfl := h44_
    refine doesG_un rfl ((does_pick (b := β6) (ev rfl) (ev rfl) (ev rfl)).mono ?_); rintro _ _ ⟨rfl, rfl⟩; refine ⟨?_, Ext.refl _⟩; skip
    cases hbb : β6 <;> simp [hbb] at h50_ ⊢
    all_goals (first | rfl | (subst h50_; rfl) | simp_all)
  refine RW_fin ?_; intro w82 E83 hP84
  obtain ⟨⟨⟨⟨⟨⟨⟨⟨⟨⟨⟨⟨⟨⟨⟨⟨⟨⟨⟨⟨⟨⟨⟨⟨⟨⟨⟨⟨⟨⟨⟨⟨⟨⟨⟨⟨⟨⟨⟨⟨⟨⟨⟨⟨⟨⟨-, -⟩, -⟩, -⟩, -⟩, -⟩, -⟩, -⟩, -⟩, -⟩, -⟩, -⟩, -⟩, -⟩, -⟩, -⟩, -⟩, -⟩, -⟩, -⟩, -⟩, -⟩, -⟩, -⟩, -⟩, -⟩, -⟩, -⟩, -⟩, -⟩, -⟩, -⟩, -⟩, -⟩, -⟩, -⟩, -⟩, -⟩, -⟩, -⟩, -⟩, -⟩, -⟩, -⟩, -⟩, -⟩, q85⟩ := hP84
  have X86 := Ext.gr X34 E83
  have q85 : v81 = (Bo (β6 && β7)) := q85
  obtain rfl := q85
  show wpList _ _ _ _ (fr [(.agg #[(Fl r1), (Fl r3), (Fl r5), (Fl r7), (Fl r9), (Fl r11)]), (.agg #[(Fl r13), (Fl r15), (Fl r17)]), (Pt b20 0), (Pt b27 0), (Bo false), Ud, v36, v37, v38, v39, v40, v41, v42, v43, v44, v45, v46, v47, v48, v49, v50, v51, v52, v53, v54, v55, v56, v57, v58, v59, v60, v61, v62, v63, v64, v65, v66, v67, v68, v69, v70, v71, v72, v73, v74, v75, v76, v77, v78, v79, v80, (Bo (β6 && β7)), Ud, Ud, Ud, Ud, Ud]) _
  refine q_is (l' := [(.agg #[(Fl r1), (Fl r3), (Fl r5), (Fl r7), (Fl r9), (Fl r11)]), (.agg #[(Fl r13), (Fl r15), (Fl r17)]), (Pt b20 0), (Pt b27 0), (Bo false), (Bo (β6 && β7)), v36, v37, v38, v39, v40, v41, v42, v43, v44, v45, v46, v47, v48, v49, v50, v51, v52, v53, v54, v55, v56, v57, v58, v59, v60, v61, v62, v63, v64, v65, v66, v67, v68, v69, v70, v71, v72, v73, v74, v75, v76, v77, v78, v79, v80, (Bo (β6 && β7)), Ud, Ud, Ud, Ud, Ud]) rfl rfl (does_assign (u := (Bo (β6 && β7))) (ev rfl)) rfl ?_
  refine wpList_nil (hK35 _ _ ?_)
  refine wp_seq_k fun K87 hK87 => ?_
  obtain ⟨β8, hβ8⟩ : ∃ b : Bool, b = ((isBox A_b) && (β6 && β7)) := ⟨_, rfl⟩
  refine region_text (
    [Fact.pure [] (fun v => v = (.agg #[(Fl r1), (Fl r3), (Fl r5), (Fl r7), (Fl r9), (Fl r11)])),
    Fact.pure [52] (fun v => v = (Bo (isBox A_b))),
    Fact.pure [53] (fun v => v = (Bo (isBox A_b))),
    Fact.pure [54] (fun v => (isBox A_b) = true → v = (Bo (β6 && β7))),
    Fact.pure [54, 55] (fun v => v = (Bo β8))]) (by simp [Fact.pure, Fact.mem]) ?_
  refine RW_d (fun v88 => [(.agg #[(Fl r1), (Fl r3), (Fl r5), (Fl r7), (Fl r9), (Fl r11)]), (.agg #[(Fl r13), (Fl r15), (Fl r17)]), (Pt b20 0), (Pt b27 0), (Bo false), (Bo (β6 && β7)), v36, v37, v38, v39, v40, v41, v42, v43, v44, v45, v46, v47, v48, v49, v50, v51, v52, v53, v54, v55, v56, v57, v58, v59, v60, v61, v62, v63, v64, v65, v66, v67, v68, v69, v70, v71, v72, v73, v74, v75, v76, v77, v78, v79, v80, (Bo (β6 && β7)), v88, Ud, Ud, Ud, Ud]) rfl (fun _ => rfl) (fun u hu hF => ?_) (fun v88 => ?_)
  · clear hF
    refine doesG_un rfl ?_
    refine (does_loadAgg (cs := [(Fl r1), (Fl r3), (Fl r5), (Fl r7), (Fl r9), (Fl r11)]) (ev rfl) Try.isAgg33 Try.sizeOf33 (Blk.cells (((hB22.ext E30).ext E83).ext hu)) rfl).mono ?_; rintro _ _ ⟨rfl, rfl⟩
    exact ⟨rfl, Ext.refl _⟩
  refine RW_d (fun v89 => [(.agg #[(Fl r1), (Fl r3), (Fl r5), (Fl r7), (Fl r9), (Fl r11)]), (.agg #[(Fl r13), (Fl r15), (Fl r17)]), (Pt b20 0), (Pt b27 0), (Bo false), (Bo (β6 && β7)), v36, v37, v38, v39, v40, v41, v42, v43, v44, v45, v46, v47, v48, v49, v50, v51, v52, v53, v54, v55, v56, v57, v58, v59, v60, v61, v62, v63, v64, v65, v66, v67, v68, v69, v70, v71, v72, v73, v74, v75, v76, v77, v78, v79, v80, (Bo (β6 && β7)), v88, v89, Ud, Ud, Ud]) rfl (fun _ => rfl) (fun u hu hF => ?_) (fun v89 => ?_)
  · have h52_ : v88 = (.agg #[(Fl r1), (Fl r3), (Fl r5), (Fl r7), (Fl r9), (Fl r11)]) := hF.1
    clear hF
    obtain rfl := h52_
    refine doesG_un rfl ?_
    refine (does_call (args := #[(.agg #[(Fl r1), (Fl r3), (Fl r5), (Fl r7), (Fl r9), (Fl r11)])]) cal19 (evs rfl) (c_impl_ValidBox [(Fl r1), (Fl r3), (Fl r5), (Fl r7), (Fl r9), (Fl r11)] A_b _ ⟨r1, r3, r5, r7, r9, r11, rfl, h2, h4, h6, h8, h10, h12⟩)).mono ?_; rintro v u' ⟨hx, hv⟩
    exact ⟨hv, hx⟩
  refine RW_d (fun v90 => [(.agg #[(Fl r1), (Fl r3), (Fl r5), (Fl r7), (Fl r9), (Fl r11)]), (.agg #[(Fl r13), (Fl r15), (Fl r17)]), (Pt b20 0), (Pt b27 0), (Bo false), (Bo (β6 && β7)), v36, v37, v38, v39, v40, v41, v42, v43, v44, v45, v46, v47, v48, v49, v50, v51, v52, v53, v54, v55, v56, v57, v58, v59, v60, v61, v62, v63, v64, v65, v66, v67, v68, v69, v70, v71, v72, v73, v74, v75, v76, v77, v78, v79, v80, (Bo (β6 && β7)), v88, v89, v90, Ud, Ud]) rfl (fun _ => rfl) (fun u hu hF => ?_) (fun v90 => ?_)
  · have h53_ : v89 = (Bo (isBox A_b)) := hF.1
    clear hF
    obtain rfl := h53_
    refine doesG_un rfl ?_
    refine (does_move (u := (Bo (isBox A_b))) (ev rfl)).mono ?_; rintro _ _ ⟨rfl, rfl⟩
    exact ⟨rfl, Ext.refl _⟩
  refine RW_d (fun v91 => [(.agg #[(Fl r1), (Fl r3), (Fl r5), (Fl r7), (Fl r9), (Fl r11)]), (.agg #[(Fl r13), (Fl r15), (Fl r17)]), (Pt b20 0), (Pt b27 0), (Bo false), (Bo (β6 && β7)), v36, v37, v38, v39, v40, v41, v42, v43, v44, v45, v46, v47, v48, v49, v50, v51, v52, v53, v54, v55, v56, v57, v58, v59, v60, v61, v62, v63, v64, v65, v66, v67, v68, v69, v70, v71, v72, v73, v74, v75, v76, v77, v78, v79, v80, (Bo (β6 && β7)), v88, v89, v90, v91, Ud]) rfl (fun _ => rfl) (fun u hu hF => ?_) (fun v91 => ?_)
  · have h54_ : v90 = (Bo (isBox A_b)) := hF.1
    clear hF
    obtain rfl := h54_
    refine doesG_g (b := (isBox A_b)) rfl (yld rfl rfl) (fun hg => ?_) (fun hg => ⟨fun h => absurd h hg, Ext.refl _⟩)
    refine (does_move (u := (Bo (β6 && β7))) (ev rfl)).mono ?_; rintro _ _ ⟨rfl, rfl⟩
    exact ⟨fun _ => rfl, Ext.refl _⟩
  refine RW_d (fun v92 => [(.agg #[(Fl r1), (Fl r3), (Fl r5), (Fl r7), (Fl r9), (Fl r11)]), (.agg #[(Fl r13), (Fl r15), (Fl r17)]), (Pt b20 0), (Pt b27 0), (Bo false), (Bo (β6 && β7)), v36, v37, v38, v39, v40, v41, v42, v43, v44, v45, v46, v47, v48, v49, v50, v51, v52, v53, v54, v55, v56, v57, v58, v59, v60, v61, v62, v63, v64, v65, v66, v67, v68, v69, v70, v71, v72, v73, v74, v75, v76, v77, v78, v79, v80, (Bo (β6 && β7)), v88, v89, v90, v91, v92]) rfl (fun _ => rfl) (fun u hu hF => ?_) (fun v92 => ?_)
  · have h54_ : v90 = (Bo (isBox A_b)) := hF.1
    have h55_ : (isBox A_b) = true → v91 = (Bo (β6 && β7)) := hF.2.1
    clear hF
    obtain rfl := h54_
    refine doesG_un rfl ((does_pick (b := (isBox A_b)) (ev rfl) (ev rfl) (ev rfl)).mono ?_); rintro _ _ ⟨rfl, rfl⟩; refine ⟨?_, Ext.refl _⟩; rw [hβ8]; skip
    cases hbb : (isBox A_b) <;> simp [hbb] at h55_ ⊢
    all_goals (first | rfl | (subst h55_; rfl) | simp_all)
  refine RW_fin ?_; intro w93 E94 hP95
  obtain ⟨⟨⟨⟨⟨-, -⟩, -⟩, -⟩, -⟩, q96⟩ := hP95
  have X97 := Ext.gr X86 E94
  have q96 : v92 = (Bo β8) := q96
  obtain rfl := q96
  show wpList _ _ _ _ (fr [(.agg #[(Fl r1), (Fl r3), (Fl r5), (Fl r7), (Fl r9), (Fl r11)]), (.agg #[(Fl r13), (Fl r15), (Fl r17)]), (Pt b20 0), (Pt b27 0), (Bo false), (Bo (β6 && β7)), v36, v37, v38, v39, v40, v41, v42, v43, v44, v45, v46, v47, v48, v49, v50, v51, v52, v53, v54, v55, v56, v57, v58, v59, v60, v61, v62, v63, v64, v65, v66, v67, v68, v69, v70, v71, v72, v73, v74, v75, v76, v77, v78, v79, v80, (Bo (β6 && β7)), v88, v89, v90, v91, (Bo β8)]) _
  refine q_is (l' := [(.agg #[(Fl r1), (Fl r3), (Fl r5), (Fl r7), (Fl r9), (Fl r11)]), (.agg #[(Fl r13), (Fl r15), (Fl r17)]), (Pt b20 0), (Pt b27 0), (Bo β8), (Bo (β6 && β7)), v36, v37, v38, v39, v40, v41, v42, v43, v44, v45, v46, v47, v48, v49, v50, v51, v52, v53, v54, v55, v56, v57, v58, v59, v60, v61, v62, v63, v64, v65, v66, v67, v68, v69, v70, v71, v72, v73, v74, v75, v76, v77, v78, v79, v80, (Bo (β6 && β7)), v88, v89, v90, v91, (Bo β8)]) rfl rfl (does_assign (u := (Bo β8)) (ev rfl)) rfl ?_
  refine wpList_nil (hK87 _ _ ?_)
  refine wp_ret ?_
  refine ret_val (v := (Bo β8)) (res_T rfl (slot rfl)) X97 ?_
  have x98 : (isBox A_b && inBox A_b A_p) = β8 := by first | rfl | (simp only [inBox, h2, h4, h6, h8, h10, h12, h14, h16, h18, hβ1, hβ2, hβ3, hβ4, hβ5, hβ6, hβ7, hβ8]; ac_rfl)
  exact (by first | rfl | rw [x98])

/- laws.FnExactIsInBox -/
theorem c_laws_FnExactIsInBox (b : List Value) (A_b : Bx) (p : List Value) (A_p : V3) (w : World) (hv_b : RBx w A_b b) (hv_p : RV3 w A_p p) : Gives Try.prog 5 #[(.agg b.toArray), (.agg p.toArray)] w (fun v w' => v = (Bo true)) := by
  obtain ⟨r1, r3, r5, r7, r9, r11, rfl, h2, h4, h6, h8, h10, h12⟩ := hv_b
  obtain ⟨r13, r15, r17, rfl, h14, h16, h18⟩ := hv_p
  refine enter [(.agg #[(Fl r1), (Fl r3), (Fl r5), (Fl r7), (Fl r9), (Fl r11)]), (.agg #[(Fl r13), (Fl r15), (Fl r17)]), Ud, Ud, Ud, Ud, Ud, Ud, Ud, Ud, Ud, Ud, Ud, Ud, Ud, Ud, Ud, Ud, Ud, Ud] Try.func5 rfl Try.ntmps5 rfl ?_
  refine wp_seq_k fun K19 hK19 => ?_
  refine wp_region_lit ?_
  refine seqd rfl rfl (does_box (u := (.agg #[(Fl r1), (Fl r3), (Fl r5), (Fl r7), (Fl r9), (Fl r11)])) (ev rfl)) ?_; rintro _ w24 ⟨b20, rfl, hb21, hB22, E23⟩
  have g25 : w.heap.size ≤ b20 := Nat.le_trans (Below.size (Ext.refl w)) hb21
  change Blk _ _ [(Fl r1), (Fl r3), (Fl r5), (Fl r7), (Fl r9), (Fl r11)] at hB22
  have X26 := Ext.gr (Ext.refl w) E23
  show wpList _ _ _ _ (fr [(.agg #[(Fl r1), (Fl r3), (Fl r5), (Fl r7), (Fl r9), (Fl r11)]), (.agg #[(Fl r13), (Fl r15), (Fl r17)]), (Pt b20 0), Ud, Ud, Ud, Ud, Ud, Ud, Ud, Ud, Ud, Ud, Ud, Ud, Ud, Ud, Ud, Ud, Ud]) _
  refine seqd rfl rfl (does_box (u := (.agg #[(Fl r13), (Fl r15), (Fl r17)])) (ev rfl)) ?_; rintro _ w31 ⟨b27, rfl, hb28, hB29, E30⟩
  have n32 : b20 < b27 := Nat.lt_of_lt_of_le (Blk.lt hB22) hb28
  have g33 : w.heap.size ≤ b27 := Nat.le_trans (Below.size X26) hb28
  change Blk _ _ [(Fl r13), (Fl r15), (Fl r17)] at hB29
  have X34 := Ext.gr X26 E30
  show wpList _ _ _ _ (fr [(.agg #[(Fl r1), (Fl r3), (Fl r5), (Fl r7), (Fl r9), (Fl r11)]), (.agg #[(Fl r13), (Fl r15), (Fl r17)]), (Pt b20 0), (Pt b27 0), Ud, Ud, Ud, Ud, Ud, Ud, Ud, Ud, Ud, Ud, Ud, Ud, Ud, Ud, Ud, Ud]) _
  refine q_is (l' := [(.agg #[(Fl r1), (Fl r3), (Fl r5), (Fl r7), (Fl r9), (Fl r11)]), (.agg #[(Fl r13), (Fl r15), (Fl r17)]), (Pt b20 0), (Pt b27 0), (Bo false), Ud, Ud, Ud, Ud, Ud, Ud, Ud, Ud, Ud, Ud, Ud, Ud, Ud, Ud, Ud]) rfl rfl (does_assign (u := (Bo false)) (ev rfl)) rfl ?_
  refine wpList_nil (hK19 _ _ ?_)
  refine wp_seq_k fun K35 hK35 => ?_
  obtain ⟨β1, hβ1⟩ : ∃ b : Bool, b = (isBox A_b && inBox A_b A_p) := ⟨_, rfl⟩
  refine region_draw (
    [Fact.pure [] (fun v => v = (.agg #[(Fl r1), (Fl r3), (Fl r5), (Fl r7), (Fl r9), (Fl r11)])),
    Fact.pure [7] (fun v => ∃ cs_1 : List Value, v = (.agg cs_1.toArray) ∧ RBx w A_b cs_1),
    Fact.pure [] (fun v => v = (.agg #[(Fl r13), (Fl r15), (Fl r17)])),
    Fact.pure [9] (fun v => ∃ cs_1 : List Value, v = (.agg cs_1.toArray) ∧ RV3 w A_p cs_1),
    Fact.pure [8, 10] (fun v => v = (Bo β1))]) mixed (by kernel_rfl) (by intro _ _ d _ _ h; cases d <;> exact h) ?_
  obtain ⟨w36, hw38⟩ : ∃ w', w' = World.drew w31 := ⟨_, rfl⟩; rw [← hw38]; have E37 : Ext w31 w36 := by rw [hw38]; exact Ext.draw _
  clear hw38
  have X39 := Ext.gr X34 E37
  refine RW_d (fun v40 => [(.agg #[(Fl r1), (Fl r3), (Fl r5), (Fl r7), (Fl r9), (Fl r11)]), (.agg #[(Fl r13), (Fl r15), (Fl r17)]), (Pt b20 0), (Pt b27 0), (Bo false), Ud, Ud, v40, Ud, Ud, Ud, Ud, Ud, Ud, Ud, Ud, Ud, Ud, Ud, Ud]) rfl (fun _ => rfl) (fun u hu hF => ?_) (fun v40 => ?_)
  · clear hF
    refine doesG_un rfl ?_
    refine (does_loadAgg (cs := [(Fl r1), (Fl r3), (Fl r5), (Fl r7), (Fl r9), (Fl r11)]) (ev rfl) Try.isAgg29 Try.sizeOf29 (Blk.cells (((hB22.ext E30).ext E37).ext hu)) rfl).mono ?_; rintro _ _ ⟨rfl, rfl⟩
    exact ⟨rfl, Ext.refl _⟩
  refine RW_d (fun v41 => [(.agg #[(Fl r1), (Fl r3), (Fl r5), (Fl r7), (Fl r9), (Fl r11)]), (.agg #[(Fl r13), (Fl r15), (Fl r17)]), (Pt b20 0), (Pt b27 0), (Bo false), Ud, Ud, v40, v41, Ud, Ud, Ud, Ud, Ud, Ud, Ud, Ud, Ud, Ud, Ud]) rfl (fun _ => rfl) (fun u hu hF => ?_) (fun v41 => ?_)
  · have h7_ : v40 = (.agg #[(Fl r1), (Fl r3), (Fl r5), (Fl r7), (Fl r9), (Fl r11)]) := hF.1
    clear hF
    obtain rfl := h7_
    refine doesG_un rfl ?_
    refine (does_call (args := #[(.agg #[(Fl r1), (Fl r3), (Fl r5), (Fl r7), (Fl r9), (Fl r11)])]) cal18 (evs rfl) (c_laws_toBox [(Fl r1), (Fl r3), (Fl r5), (Fl r7), (Fl r9), (Fl r11)] A_b _ ⟨r1, r3, r5, r7, r9, r11, rfl, h2, h4, h6, h8, h10, h12⟩)).mono ?_; rintro v u' ⟨hx, ⟨csn1, hv, k0⟩⟩
    exact ⟨⟨csn1, hv, k0⟩, hx⟩
  refine RW_d (fun v42 => [(.agg #[(Fl r1), (Fl r3), (Fl r5), (Fl r7), (Fl r9), (Fl r11)]), (.agg #[(Fl r13), (Fl r15), (Fl r17)]), (Pt b20 0), (Pt b27 0), (Bo false), Ud, Ud, v40, v41, v42, Ud, Ud, Ud, Ud, Ud, Ud, Ud, Ud, Ud, Ud]) rfl (fun _ => rfl) (fun u hu hF => ?_) (fun v42 => ?_)
  · clear hF
    refine doesG_un rfl ?_
    refine (does_loadAgg (cs := [(Fl r13), (Fl r15), (Fl r17)]) (ev rfl) Try.isAgg27 Try.sizeOf27 (Blk.cells ((hB29.ext E37).ext hu)) rfl).mono ?_; rintro _ _ ⟨rfl, rfl⟩
    exact ⟨rfl, Ext.refl _⟩
  refine RW_d (fun v43 => [(.agg #[(Fl r1), (Fl r3), (Fl r5), (Fl r7), (Fl r9), (Fl r11)]), (.agg #[(Fl r13), (Fl r15), (Fl r17)]), (Pt b20 0), (Pt b27 0), (Bo false), Ud, Ud, v40, v41, v42, v43, Ud, Ud, Ud, Ud, Ud, Ud, Ud, Ud, Ud]) rfl (fun _ => rfl) (fun u hu hF => ?_) (fun v43 => ?_)
  · have h9_ : v42 = (.agg #[(Fl r13), (Fl r15), (Fl r17)]) := hF.1
    clear hF
    obtain rfl := h9_
    refine doesG_un rfl ?_
    refine (does_call (args := #[(.agg #[(Fl r13), (Fl r15), (Fl r17)])]) cal21 (evs rfl) (c_laws_toVector [(Fl r13), (Fl r15), (Fl r17)] A_p _ ⟨r13, r15, r17, rfl, h14, h16, h18⟩)).mono ?_; rintro v u' ⟨hx, ⟨csn1, hv, k0⟩⟩
    exact ⟨⟨csn1, hv, k0⟩, hx⟩
  refine RW_d (fun v44 => [(.agg #[(Fl r1), (Fl r3), (Fl r5), (Fl r7), (Fl r9), (Fl r11)]), (.agg #[(Fl r13), (Fl r15), (Fl r17)]), (Pt b20 0), (Pt b27 0), (Bo false), Ud, Ud, v40, v41, v42, v43, v44, Ud, Ud, Ud, Ud, Ud, Ud, Ud, Ud]) rfl (fun _ => rfl) (fun u hu hF => ?_) (fun v44 => ?_)
  · have h8_ : ∃ cs_1 : List Value, v41 = (.agg cs_1.toArray) ∧ RBx w A_b cs_1 := hF.1
    have h10_ : ∃ cs_1 : List Value, v43 = (.agg cs_1.toArray) ∧ RV3 w A_p cs_1 := hF.2.1
    clear hF
    obtain ⟨_, rfl, ⟨r8_1, r8_3, r8_5, r8_7, r8_9, r8_11, rfl, h8_2, h8_4, h8_6, h8_8, h8_10, h8_12⟩⟩ := h8_
    obtain ⟨_, rfl, ⟨r10_1, r10_3, r10_5, rfl, h10_2, h10_4, h10_6⟩⟩ := h10_
    refine doesG_un rfl ?_
    refine (does_call (args := #[(.agg #[(Fl r8_1), (Fl r8_3), (Fl r8_5), (Fl r8_7), (Fl r8_9), (Fl r8_11)]), (.agg #[(Fl r10_1), (Fl r10_3), (Fl r10_5)])]) cal20 (evs rfl) (c_spec_IsInBox [(Fl r8_1), (Fl r8_3), (Fl r8_5), (Fl r8_7), (Fl r8_9), (Fl r8_11)] A_b [(Fl r10_1), (Fl r10_3), (Fl r10_5)] A_p _ ⟨r8_1, r8_3, r8_5, r8_7, r8_9, r8_11, rfl, (by assumption), (by assumption), (by assumption), (by assumption), (by assumption), (by assumption)⟩ ⟨r10_1, r10_3, r10_5, rfl, (by assumption), (by assumption), (by assumption)⟩)).mono ?_; rintro v u' ⟨hx, hv⟩
    exact ⟨hv.trans (by simp only [hβ1, h8_2, h8_4, h8_6, h8_8, h8_10, h8_12, h10_2, h10_4, h10_6]), hx⟩
  refine RW_fin ?_; intro w45 E46 hP47
  obtain ⟨⟨⟨⟨⟨-, -⟩, -⟩, -⟩, -⟩, q48⟩ := hP47
  have X49 := Ext.gr X39 E46
  have q48 : v44 = (Bo β1) := q48
  obtain rfl := q48
  show wpList _ _ _ _ (fr [(.agg #[(Fl r1), (Fl r3), (Fl r5), (Fl r7), (Fl r9), (Fl r11)]), (.agg #[(Fl r13), (Fl r15), (Fl r17)]), (Pt b20 0), (Pt b27 0), (Bo false), Ud, Ud, v40, v41, v42, v43, (Bo β1), Ud, Ud, Ud, Ud, Ud, Ud, Ud, Ud]) _
  refine q_is (l' := [(.agg #[(Fl r1), (Fl r3), (Fl r5), (Fl r7), (Fl r9), (Fl r11)]), (.agg #[(Fl r13), (Fl r15), (Fl r17)]), (Pt b20 0), (Pt b27 0), (Bo false), (Bo β1), Ud, v40, v41, v42, v43, (Bo β1), Ud, Ud, Ud, Ud, Ud, Ud, Ud, Ud]) rfl rfl (does_assign (u := (Bo β1)) (ev rfl)) rfl ?_
  refine wpList_nil (hK35 _ _ ?_)
  refine wp_seq_k fun K50 hK50 => ?_
  obtain ⟨β2, hβ2⟩ : ∃ b : Bool, b = (isBox A_b && inBox A_b A_p) := ⟨_, rfl⟩
  refine region_draw (
    [Fact.pure [] (fun v => v = (.agg #[(Fl r1), (Fl r3), (Fl r5), (Fl r7), (Fl r9), (Fl r11)])),
    Fact.pure [12] (fun v => ∃ cs_1 : List Value, v = (.agg cs_1.toArray) ∧ RBx w A_b cs_1),
    Fact.pure [] (fun v => v = (.agg #[(Fl r13), (Fl r15), (Fl r17)])),
    Fact.pure [14] (fun v => ∃ cs_1 : List Value, v = (.agg cs_1.toArray) ∧ RV3 w A_p cs_1),
    Fact.pure [13, 15] (fun v => v = (Bo β2))]) mixed (by kernel_rfl) (by intro _ _ d _ _ h; cases d <;> exact h) ?_
  obtain ⟨w51, hw53⟩ : ∃ w', w' = World.drew w45 := ⟨_, rfl⟩; rw [← hw53]; have E52 : Ext w45 w51 := by rw [hw53]; exact Ext.draw _
  clear hw53
  have X54 := Ext.gr X49 E52
  refine RW_d (fun v55 => [(.agg #[(Fl r1), (Fl r3), (Fl r5), (Fl r7), (Fl r9), (Fl r11)]), (.agg #[(Fl r13), (Fl r15), (Fl r17)]), (Pt b20 0), (Pt b27 0), (Bo false), (Bo β1), Ud, v40, v41, v42, v43, (Bo β1), v55, Ud, Ud, Ud, Ud, Ud, Ud, Ud]) rfl (fun _ => rfl) (fun u hu hF => ?_) (fun v55 => ?_)
  · clear hF
    refine doesG_un rfl ?_
    refine (does_loadAgg (cs := [(Fl r1), (Fl r3), (Fl r5), (Fl r7), (Fl r9), (Fl r11)]) (ev rfl) Try.isAgg29 Try.sizeOf29 (Blk.cells (((((hB22.ext E30).ext E37).ext E46).ext E52).ext hu)) rfl).mono ?_; rintro _ _ ⟨rfl, rfl⟩
    exact ⟨rfl, Ext.refl _⟩
  refine RW_d (fun v56 => [(.agg #[(Fl r1), (Fl r3), (Fl r5), (Fl r7), (Fl r9), (Fl r11)]), (.agg #[(Fl r13), (Fl r15), (Fl r17)]), (Pt b20 0), (Pt b27 0), (Bo false), (Bo β1), Ud, v40, v41, v42, v43, (Bo β1), v55, v56, Ud, Ud, Ud, Ud, Ud, Ud]) rfl (fun _ => rfl) (fun u hu hF => ?_) (fun v56 => ?_)
  · have h12_ : v55 = (.agg #[(Fl r1), (Fl r3), (Fl r5), (Fl r7), (Fl r9), (Fl r11)]) := hF.1
    clear hF
    obtain rfl := h12_
    refine doesG_un rfl ?_
    refine (does_call (args := #[(.agg #[(Fl r1), (Fl r3), (Fl r5), (Fl r7), (Fl r9), (Fl r11)])]) cal18 (evs rfl) (c_laws_toBox [(Fl r1), (Fl r3), (Fl r5), (Fl r7), (Fl r9), (Fl r11)] A_b _ ⟨r1, r3, r5, r7, r9, r11, rfl, h2, h4, h6, h8, h10, h12⟩)).mono ?_; rintro v u' ⟨hx, ⟨csn1, hv, k0⟩⟩
    exact ⟨⟨csn1, hv, k0⟩, hx⟩
  refine RW_d (fun v57 => [(.agg #[(Fl r1), (Fl r3), (Fl r5), (Fl r7), (Fl r9), (Fl r11)]), (.agg #[(Fl r13), (Fl r15), (Fl r17)]), (Pt b20 0), (Pt b27 0), (Bo false), (Bo β1), Ud, v40, v41, v42, v43, (Bo β1), v55, v56, v57, Ud, Ud, Ud, Ud, Ud]) rfl (fun _ => rfl) (fun u hu hF => ?_) (fun v57 => ?_)
  · clear hF
    refine doesG_un rfl ?_
    refine (does_loadAgg (cs := [(Fl r13), (Fl r15), (Fl r17)]) (ev rfl) Try.isAgg27 Try.sizeOf27 (Blk.cells ((((hB29.ext E37).ext E46).ext E52).ext hu)) rfl).mono ?_; rintro _ _ ⟨rfl, rfl⟩
    exact ⟨rfl, Ext.refl _⟩
  refine RW_d (fun v58 => [(.agg #[(Fl r1), (Fl r3), (Fl r5), (Fl r7), (Fl r9), (Fl r11)]), (.agg #[(Fl r13), (Fl r15), (Fl r17)]), (Pt b20 0), (Pt b27 0), (Bo false), (Bo β1), Ud, v40, v41, v42, v43, (Bo β1), v55, v56, v57, v58, Ud, Ud, Ud, Ud]) rfl (fun _ => rfl) (fun u hu hF => ?_) (fun v58 => ?_)
  · have h14_ : v57 = (.agg #[(Fl r13), (Fl r15), (Fl r17)]) := hF.1
    clear hF
    obtain rfl := h14_
    refine doesG_un rfl ?_
    refine (does_call (args := #[(.agg #[(Fl r13), (Fl r15), (Fl r17)])]) cal21 (evs rfl) (c_laws_toVector [(Fl r13), (Fl r15), (Fl r17)] A_p _ ⟨r13, r15, r17, rfl, h14, h16, h18⟩)).mono ?_; rintro v u' ⟨hx, ⟨csn1, hv, k0⟩⟩
    exact ⟨⟨csn1, hv, k0⟩, hx⟩
  refine RW_d (fun v59 => [(.agg #[(Fl r1), (Fl r3), (Fl r5), (Fl r7), (Fl r9), (Fl r11)]), (.agg #[(Fl r13), (Fl r15), (Fl r17)]), (Pt b20 0), (Pt b27 0), (Bo false), (Bo β1), Ud, v40, v41, v42, v43, (Bo β1), v55, v56, v57, v58, v59, Ud, Ud, Ud]) rfl (fun _ => rfl) (fun u hu hF => ?_) (fun v59 => ?_)
  · have h13_ : ∃ cs_1 : List Value, v56 = (.agg cs_1.toArray) ∧ RBx w A_b cs_1 := hF.1
    have h15_ : ∃ cs_1 : List Value, v58 = (.agg cs_1.toArray) ∧ RV3 w A_p cs_1 := hF.2.1
    clear hF
    obtain ⟨_, rfl, ⟨r13_1, r13_3, r13_5, r13_7, r13_9, r13_11, rfl, h13_2, h13_4, h13_6, h13_8, h13_10, h13_12⟩⟩ := h13_
    obtain ⟨_, rfl, ⟨r15_1, r15_3, r15_5, rfl, h15_2, h15_4, h15_6⟩⟩ := h15_
    refine doesG_un rfl ?_
    refine (does_call (args := #[(.agg #[(Fl r13_1), (Fl r13_3), (Fl r13_5), (Fl r13_7), (Fl r13_9), (Fl r13_11)]), (.agg #[(Fl r15_1), (Fl r15_3), (Fl r15_5)])]) cal22 (evs rfl) (c_impl_IsInBox [(Fl r13_1), (Fl r13_3), (Fl r13_5), (Fl r13_7), (Fl r13_9), (Fl r13_11)] A_b [(Fl r15_1), (Fl r15_3), (Fl r15_5)] A_p _ ⟨r13_1, r13_3, r13_5, r13_7, r13_9, r13_11, rfl, (by assumption), (by assumption), (by assumption), (by assumption), (by assumption), (by assumption)⟩ ⟨r15_1, r15_3, r15_5, rfl, (by assumption), (by assumption), (by assumption)⟩)).mono ?_; rintro v u' ⟨hx, hv⟩
    exact ⟨hv.trans (by simp only [hβ2, h13_2, h13_4, h13_6, h13_8, h13_10, h13_12, h15_2, h15_4, h15_6]), hx⟩
  refine RW_fin ?_; intro w60 E61 hP62
  obtain ⟨⟨⟨⟨⟨-, -⟩, -⟩, -⟩, -⟩, q63⟩ := hP62
  have X64 := Ext.gr X54 E61
  have q63 : v59 = (Bo β2) := q63
  obtain rfl := q63
  show wpList _ _ _ _ (fr [(.agg #[(Fl r1), (Fl r3), (Fl r5), (Fl r7), (Fl r9), (Fl r11)]), (.agg #[(Fl r13), (Fl r15), (Fl r17)]), (Pt b20 0), (Pt b27 0), (Bo false), (Bo β1), Ud, v40, v41, v42, v43, (Bo β1), v55, v56, v57, v58, (Bo β2), Ud, Ud, Ud]) _
  refine q_is (l' := [(.agg #[(Fl r1), (Fl r3), (Fl r5), (Fl r7), (Fl r9), (Fl r11)]), (.agg #[(Fl r13), (Fl r15), (Fl r17)]), (Pt b20 0), (Pt b27 0), (Bo false), (Bo β1), (Bo β2), v40, v41, v42, v43, (Bo β1), v55, v56, v57, v58, (Bo β2), Ud, Ud, Ud]) rfl rfl (does_assign (u := (Bo β2)) (ev rfl)) rfl ?_
  refine wpList_nil (hK50 _ _ ?_)
  refine wp_seq_k fun K65 hK65 => ?_
  refine wp_seq_k fun K66 hK66 => ?_
  refine wp_region_lit ?_
  refine q_is (l' := [(.agg #[(Fl r1), (Fl r3), (Fl r5), (Fl r7), (Fl r9), (Fl r11)]), (.agg #[(Fl r13), (Fl r15), (Fl r17)]), (Pt b20 0), (Pt b27 0), (Bo false), (Bo β1), (Bo β2), v40, v41, v42, v43, (Bo β1), v55, v56, v57, v58, (Bo β2), (Bo β2), Ud, Ud]) rfl rfl (does_move (u := (Bo β2)) (ev rfl)) rfl ?_
  refine q_is (l' := [(.agg #[(Fl r1), (Fl r3), (Fl r5), (Fl r7), (Fl r9), (Fl r11)]), (.agg #[(Fl r13), (Fl r15), (Fl r17)]), (Pt b20 0), (Pt b27 0), (Bo false), (Bo β1), (Bo β2), v40, v41, v42, v43, (Bo β1), v55, v56, v57, v58, (Bo β2), (Bo β2), (Bo β1), Ud]) rfl rfl (does_move (u := (Bo β1)) (ev rfl)) rfl ?_
  refine q_is (l' := [(.agg #[(Fl r1), (Fl r3), (Fl r5), (Fl r7), (Fl r9), (Fl r11)]), (.agg #[(Fl r13), (Fl r15), (Fl r17)]), (Pt b20 0), (Pt b27 0), (Bo false), (Bo β1), (Bo β2), v40, v41, v42, v43, (Bo β1), v55, v56, v57, v58, (Bo β2), (Bo β2), (Bo β1), (Bo (β2 != β1))]) rfl rfl (does_bne (p := β2) (q := β1) Try.underlying4 (ev rfl) (ev rfl)) rfl ?_
  refine wpList_nil (hK66 _ _ ?_)
  refine wp_cond_split (t := β2 != β1) (ev rfl) (fun c67 => ?_) (fun c67 => ?_)
  · have c67' := c67
    (try simp only [hβ1, hβ2] at c67')
    (try simp only [icmp, Bool.and_eq_true, Bool.or_eq_true, Bool.and_eq_false_iff, Bool.or_eq_false_iff, Bool.not_eq_true', Bool.not_eq_false', decide_eq_true_eq, decide_eq_false_iff_not, beq_iff_eq, bne_iff_ne, beq_eq_false_iff_ne, bne_eq_false_iff_eq] at c67')
    refine wp_seq_k fun K68 hK68 => ?_
    refine wp_region_lit ?_
    refine q_is (l' := [(.agg #[(Fl r1), (Fl r3), (Fl r5), (Fl r7), (Fl r9), (Fl r11)]), (.agg #[(Fl r13), (Fl r15), (Fl r17)]), (Pt b20 0), (Pt b27 0), (Bo false), (Bo β1), (Bo β2), v40, v41, v42, v43, (Bo β1), v55, v56, v57, v58, (Bo β2), (Bo β2), (Bo β1), (Bo (β2 != β1))]) rfl rfl (does_assign (u := (Bo false)) (ev rfl)) rfl ?_
    refine wpList_nil (hK68 _ _ ?_)
    refine wp_ret ?_
    dsimp only [Exit.then, Exit.inBlock]
    refine ret_val (v := (Bo false)) (res_T rfl (slot rfl)) X64 ?_
    try simp only [h2, h4, h6, h8, h10, h12, h14, h16, h18, hβ1, hβ2] at c67
    have x69 : true = false := by first | rfl | (simp only [sameF_self, sameV_self, sameB_self, sameR_self, bne_self_eq_false, h2, h4, h6, h8, h10, h12, h14, h16, h18, hβ1, hβ2, c67]; done) | (simp [sameF_self, sameV_self, sameB_self, sameR_self, bne_self_eq_false, h2, h4, h6, h8, h10, h12, h14, h16, h18, hβ1, hβ2, c67]; done) | (revert c67; simp +contextual [sameF_self, sameV_self, sameB_self, sameR_self, bne_self_eq_false, h2, h4, h6, h8, h10, h12, h14, h16, h18, hβ1, hβ2]; done)
    exact (by first | rfl | rw [x69])
  have c67' := c67
  (try simp only [hβ1, hβ2] at c67')
  (try simp only [icmp, Bool.and_eq_true, Bool.or_eq_true, Bool.and_eq_false_iff, Bool.or_eq_false_iff, Bool.not_eq_true', Bool.not_eq_false', decide_eq_true_eq, decide_eq_false_iff_not, beq_iff_eq, bne_iff_ne, beq_eq_false_iff_ne, bne_eq_false_iff_eq] at c67')
  refine wp_skip (hK65 _ _ ?_)
  refine wp_seq_k fun K70 hK70 => ?_
  refine wp_region_lit ?_
  refine q_is (l' := [(.agg #[(Fl r1), (Fl r3), (Fl r5), (Fl r7), (Fl r9), (Fl r11)]), (.agg #[(Fl r13), (Fl r15), (Fl r17)]), (Pt b20 0), (Pt b27 0), (Bo true), (Bo β1), (Bo β2), v40, v41, v42, v43, (Bo β1), v55, v56, v57, v58, (Bo β2), (Bo β2), (Bo β1), (Bo (β2 != β1))]) rfl rfl (does_assign (u := (Bo true)) (ev rfl)) rfl ?_
  refine wpList_nil (hK70 _ _ ?_)
  refine wp_ret ?_
  refine ret_val (v := (Bo true)) (res_T rfl (slot rfl)) X64 ?_
  try simp only [h2, h4, h6, h8, h10, h12, h14, h16, h18, hβ1, hβ2] at c67
  exact rfl

end Go.Proofs.Ythmejogjmjjmgaa
