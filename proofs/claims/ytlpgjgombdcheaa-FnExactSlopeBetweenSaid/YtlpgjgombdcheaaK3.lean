/- contracts of functions, each walked once -/
import Derived.Test.YtlpgjgombdcheaaK2
namespace Go.Proofs.Ytlpgjgombdcheaa
open Go Go.RowKit
set_option maxRecDepth 100000
set_option maxHeartbeats 3200000
set_option linter.unusedVariables false
set_option linter.unusedSimpArgs false

set_option maxHeartbeats 20000000 in
/- spec.SlopeBetween -/
theorem c_spec_SlopeBetween (g : List Value) (A_g : GridT) (p : List Value) (A_p : V3) (w : World) (hv_g : RGridT w A_g g) (hv_p : RV3 w A_p p) : Gives Try.prog 12 #[(.agg g.toArray), (.agg p.toArray)] w (fun v w' => ∃ cs_1 : List Value, v = (.tuple #[(.agg cs_1.toArray), (Bo (slpOk A_g A_p))]) ∧ RV3 w (slpV A_g A_p) cs_1) := by
  obtain ⟨r1, r3, r5, r7, y9, rfl, h2, h4, h6, h8, h10⟩ := hv_g
  obtain ⟨r11, r13, r15, rfl, h12, h14, h16⟩ := hv_p
  have hs19 := h10; have hs19l := Sl.len h10; obtain ⟨p17, q18, rfl⟩ := Sl.shape h10
  refine enter [(.agg #[(Fl r1), (Fl r3), (Fl r5), (Fl r7), (Iv A_g.x), (Iv A_g.y), (Iv A_g.z), (.slice p17 A_g.vals.length q18)]), (.agg #[(Fl r11), (Fl r13), (Fl r15)]), Ud, Ud, Ud, Ud, Ud, Ud, Ud, Ud, Ud, Ud, Ud, Ud, Ud, Ud, Ud, Ud, Ud, Ud, Ud, Ud, Ud, Ud, Ud, Ud, Ud, Ud, Ud, Ud, Ud, Ud, Ud, Ud, Ud, Ud, Ud, Ud, Ud, Ud, Ud, Ud, Ud, Ud, Ud, Ud, Ud, Ud, Ud, Ud, Ud, Ud, Ud, Ud, Ud, Ud, Ud, Ud, Ud, Ud] Try.func12 rfl Try.ntmps12 rfl ?_
  refine wp_seq_k fun K20 hK20 => ?_
  refine wp_region_lit ?_
  refine seqd rfl rfl (does_box (u := (.agg #[(Fl r1), (Fl r3), (Fl r5), (Fl r7), (Iv A_g.x), (Iv A_g.y), (Iv A_g.z), (.slice p17 A_g.vals.length q18)])) (ev rfl)) ?_; rintro _ w25 ⟨b21, rfl, hb22, hB23, E24⟩
  have g26 : w.heap.size ≤ b21 := Nat.le_trans (Below.size (Ext.refl w)) hb22
  change Blk _ _ [(Fl r1), (Fl r3), (Fl r5), (Fl r7), (Iv A_g.x), (Iv A_g.y), (Iv A_g.z), (.slice p17 A_g.vals.length q18)] at hB23
  have X27 := Ext.gr (Ext.refl w) E24
  show wpList _ _ _ _ (fr [_, _, _, _, _, _, _, _, _, _, _, _, _, _, _, _, _, _, _, _, _, _, _, _, _, _, _, _, _, _, _, _, _, _, _, _, _, _, _, _, _, _, _, _, _, _, _, _, _, _, _, _, _, _, _, _, _, _, _, _]) _
  refine seqd rfl rfl (does_box (u := (.agg #[(Fl r11), (Fl r13), (Fl r15)])) (ev rfl)) ?_; rintro _ w32 ⟨b28, rfl, hb29, hB30, E31⟩
  have n33 : b21 < b28 := Nat.lt_of_lt_of_le (Blk.lt hB23) hb29
  have g34 : w.heap.size ≤ b28 := Nat.le_trans (Below.size X27) hb29
  change Blk _ _ [(Fl r11), (Fl r13), (Fl r15)] at hB30
  have X35 := Ext.gr X27 E31
  show wpList _ _ _ _ (fr [_, _, _, _, _, _, _, _, _, _, _, _, _, _, _, _, _, _, _, _, _, _, _, _, _, _, _, _, _, _, _, _, _, _, _, _, _, _, _, _, _, _, _, _, _, _, _, _, _, _, _, _, _, _, _, _, _, _, _, _]) _
  refine seqd rfl rfl (does_alloc z31) ?_; rintro _ w40 ⟨b36, rfl, hb37, hB38, E39⟩
  have n41 : b21 < b36 := Nat.lt_of_lt_of_le (Blk.lt (hB23.ext E31)) hb37
  have n42 : b28 < b36 := Nat.lt_of_lt_of_le (Blk.lt hB30) hb37
  have g43 : w.heap.size ≤ b36 := Nat.le_trans (Below.size X35) hb37
  change Blk _ _ [(Fl 0), (Fl 0), (Fl 0)] at hB38
  have X44 := Ext.gr X35 E39
  show wpList _ _ _ _ (fr [_, _, _, _, _, _, _, _, _, _, _, _, _, _, _, _, _, _, _, _, _, _, _, _, _, _, _, _, _, _, _, _, _, _, _, _, _, _, _, _, _, _, _, _, _, _, _, _, _, _, _, _, _, _, _, _, _, _, _, _]) _
  refine q_is rfl rfl (does_assign (u := (Bo false)) (ev rfl)) (by dsimp only [List.set]; try rfl) ?_
  refine wpList_nil (hK20 _ _ ?_)
  refine wp_seq_k fun K45 hK45 => ?_
  refine wp_seq_k fun K46 hK46 => ?_
  refine wp_region_lit ?_
  refine seqd rfl rfl (does_call (args := #[(Pt b21 0)]) cal16 (evs rfl) (c_spec_l06Is b21 0 [(Fl r1), (Fl r3), (Fl r5), (Fl r7), (Iv A_g.x), (Iv A_g.y), (Iv A_g.z), (.slice p17 A_g.vals.length q18)] A_g _ (Blk.cells ((hB23.ext E31).ext E39)) ⟨r1, r3, r5, r7, (.slice p17 A_g.vals.length q18), rfl, h2, h4, h6, h8, (Sl.ext hs19 RF.mono X44)⟩)) ?_; rintro _ w48 ⟨E47, rfl⟩
  have X49 := Ext.gr X44 E47
  show wpList _ _ _ _ (fr [_, _, _, _, _, _, _, _, _, _, _, _, _, _, _, _, _, _, _, _, _, _, _, _, _, _, _, _, _, _, _, _, _, _, _, _, _, _, _, _, _, _, _, _, _, _, _, _, _, _, _, _, _, _, _, _, _, _, _, _]) _
  refine q_is rfl rfl (does_not (ev rfl)) (by dsimp only [List.set]; try rfl) ?_
  refine wpList_nil (hK46 _ _ ?_)
  refine wp_cond_split (t := !(isGrid A_g)) (ev rfl) (fun c50 => ?_) (fun c50 => ?_)
  · rw [Bool.not_eq_true'] at c50
    have c50' := c50
    have hsf := slpOk_g (p := A_p) c50
    refine wp_seq_k fun K51 hK51 => ?_
    refine wp_region_lit ?_
    refine q_is rfl rfl (does_build (parts' := []) (cells := #[(Fl 0), (Fl 0), (Fl 0)]) (evp rfl) (by kernel_rfl)) (by dsimp only [List.set]; try rfl) ?_
    refine seqn rfl rfl (does_store (n := 3) (cs := [(Fl 0), (Fl 0), (Fl 0)]) (u := (.agg #[(Fl 0), (Fl 0), (Fl 0)])) (ev rfl) (ev rfl) Try.sizeOf31 rfl (hB38.ext E47) (Nat.le_of_ble_eq_true rfl) rfl) ?_; rintro _ w54 ⟨rfl, W52, hB53⟩
    change Blk _ _ [(Fl 0), (Fl 0), (Fl 0)] at hB53
    have X55 := Below.wr X49 W52 g43
    refine q_is rfl rfl (does_assign (u := (Bo false)) (ev rfl)) (by dsimp only [List.set]; try rfl) ?_
    refine wpList_nil (hK51 _ _ ?_)
    refine wp_ret ?_
    dsimp only [Exit.then, Exit.inBlock]
    refine ret_val (v := (.tuple #[(.agg #[(Fl 0), (Fl 0), (Fl 0)]), (Bo false)])) (res_CT rfl (slot rfl) (run_loadAgg (cs := [(Fl 0), (Fl 0), (Fl 0)]) Try.isAgg31 Try.sizeOf31 (Blk.cells hB53) rfl) (slot rfl)) X55 ?_
    try simp only [h2, h4, h6, h8, h12, h14, h16] at c50
    have x56 : (slpOk A_g A_p) = false := by first | exact hsf | (rw [slpV_f hsf] <;> rfl) | exact slpOk_t hgg hs0 hs1 hs2 | (rw [slpV_t (slpOk_t hgg hs0 hs1 hs2)]; simp only [h2, h4, h6, h8, h12, h14, h16, c50, setV_0, setV_1, setV_2, pickV_0, pickV_1, pickV_2]; rfl)
    have x57 : cf .f32 0 = (slpV A_g A_p).x := by first | exact hsf | (rw [slpV_f hsf] <;> rfl) | exact slpOk_t hgg hs0 hs1 hs2 | (rw [slpV_t (slpOk_t hgg hs0 hs1 hs2)]; simp only [h2, h4, h6, h8, h12, h14, h16, c50, setV_0, setV_1, setV_2, pickV_0, pickV_1, pickV_2]; rfl)
    have x58 : cf .f32 0 = (slpV A_g A_p).y := by first | exact hsf | (rw [slpV_f hsf] <;> rfl) | exact slpOk_t hgg hs0 hs1 hs2 | (rw [slpV_t (slpOk_t hgg hs0 hs1 hs2)]; simp only [h2, h4, h6, h8, h12, h14, h16, c50, setV_0, setV_1, setV_2, pickV_0, pickV_1, pickV_2]; rfl)
    have x59 : cf .f32 0 = (slpV A_g A_p).z := by first | exact hsf | (rw [slpV_f hsf] <;> rfl) | exact slpOk_t hgg hs0 hs1 hs2 | (rw [slpV_t (slpOk_t hgg hs0 hs1 hs2)]; simp only [h2, h4, h6, h8, h12, h14, h16, c50, setV_0, setV_1, setV_2, pickV_0, pickV_1, pickV_2]; rfl)
    exact ⟨[(Fl 0), (Fl 0), (Fl 0)], (by first | rfl | rw [x56]), ⟨0, 0, 0, rfl, x57, x58, x59⟩⟩
  rw [Bool.not_eq_false'] at c50
  have c50' := c50
  have hgg := c50
  refine wp_skip (hK45 _ _ ?_)
  refine wp_seq_k fun K60 hK60 => ?_
  refine wp_region_lit ?_
  refine q_is rfl rfl (does_build (parts' := []) (cells := #[(Fl 0), (Fl 0), (Fl 0)]) (evp rfl) (by kernel_rfl)) (by dsimp only [List.set]; try rfl) ?_
  refine seqd rfl rfl (does_alloc z31) ?_; rintro _ w65 ⟨b61, rfl, hb62, hB63, E64⟩
  have n66 : b21 < b61 := Nat.lt_of_lt_of_le (Blk.lt (((hB23.ext E31).ext E39).ext E47)) hb62
  have n67 : b28 < b61 := Nat.lt_of_lt_of_le (Blk.lt ((hB30.ext E39).ext E47)) hb62
  have n68 : b36 < b61 := Nat.lt_of_lt_of_le (Blk.lt (hB38.ext E47)) hb62
  have g69 : w.heap.size ≤ b61 := Nat.le_trans (Below.size X49) hb62
  change Blk _ _ [(Fl 0), (Fl 0), (Fl 0)] at hB63
  have X70 := Ext.gr X49 E64
  show wpList _ _ _ _ (fr [_, _, _, _, _, _, _, _, _, _, _, _, _, _, _, _, _, _, _, _, _, _, _, _, _, _, _, _, _, _, _, _, _, _, _, _, _, _, _, _, _, _, _, _, _, _, _, _, _, _, _, _, _, _, _, _, _, _, _, _]) _
  refine seqn rfl rfl (does_store (n := 3) (cs := [(Fl 0), (Fl 0), (Fl 0)]) (u := (.agg #[(Fl 0), (Fl 0), (Fl 0)])) (ev rfl) (ev rfl) Try.sizeOf31 rfl hB63 (Nat.le_of_ble_eq_true rfl) rfl) ?_; rintro _ w73 ⟨rfl, W71, hB72⟩
  change Blk _ _ [(Fl 0), (Fl 0), (Fl 0)] at hB72
  have X74 := Below.wr X70 W71 g69
  refine wpList_nil (hK60 _ _ ?_)
  refine wp_seq_k fun K75 hK75 => ?_
  refine wp_seq_k fun K76 hK76 => ?_
  refine wp_region_lit ?_
  refine q_is rfl rfl (does_assign (u := (Iv 0)) (ev rfl)) (by dsimp only [List.set]; try rfl) ?_
  refine wpList_nil (hK76 _ _ ?_)
  refine wp_block ?_
  refine loop_unroll 4 ?_
  refine un_step ?_
  refine wp_seq_k fun K77 hK77 => ?_
  refine wp_seq_k fun K78 hK78 => ?_
  refine wp_region_lit ?_
  refine q_is rfl rfl (does_move (u := (Iv 0)) (ev rfl)) (by dsimp only [List.set]; try rfl) ?_
  refine q_is rfl rfl (does_icmp (p := 0) (q := 3) (.inr (.inr (.inl rfl))) (ev rfl) (ev rfl)) (by dsimp only [List.set]; try rfl) ?_
  refine wpList_nil (hK78 _ _ ?_)
  refine wp_cond_true (ev rfl) ?_
  refine wp_skip (hK77 _ _ ?_)
  refine wp_seq_k fun K79 hK79 => ?_
  refine wp_block ?_
  refine wp_seq_k fun K80 hK80 => ?_
  refine wp_region_lit ?_
  refine q_is rfl rfl (does_loadAgg (cs := [(Fl r11), (Fl r13), (Fl r15)]) (ev rfl) Try.isAgg31 Try.sizeOf31 (Blk.cells ((((hB30.ext E39).ext E47).ext E64).wr W71 (Nat.ne_of_lt n67))) rfl) (by dsimp only [List.set]; try rfl) ?_
  refine q_is rfl rfl (does_move (u := (Iv 0)) (ev rfl)) (by dsimp only [List.set]; try rfl) ?_
  refine seqd rfl rfl (does_call (args := #[(.agg #[(Fl r11), (Fl r13), (Fl r15)]), (Iv 0)]) cal24 (evs rfl) (c_spec_l02Pick [(Fl r11), (Fl r13), (Fl r15)] A_p 0 _ ⟨r11, r13, r15, rfl, h12, h14, h16⟩)) ?_; rintro _ w82 ⟨E81, ⟨r83, rfl, h84⟩⟩
  have X85 := Ext.gr X74 E81
  show wpList _ _ _ _ (fr [_, _, _, _, _, _, _, _, _, _, _, _, _, _, _, _, _, _, _, _, _, _, _, _, _, _, _, _, _, _, _, _, _, _, _, _, _, _, _, _, _, _, _, _, _, _, _, _, _, _, _, _, _, _, _, _, _, _, _, _]) _
  refine q_is rfl rfl (does_assign (u := (Fl r83)) (ev rfl)) (by dsimp only [List.set]; try rfl) ?_
  refine wpList_nil (hK80 _ _ ?_)
  refine wp_seq_k fun K86 hK86 => ?_
  refine wp_region_lit ?_
  refine q_is rfl rfl (does_loadAgg (cs := [(Fl r11), (Fl r13), (Fl r15)]) (ev rfl) Try.isAgg31 Try.sizeOf31 (Blk.cells (((((hB30.ext E39).ext E47).ext E64).wr W71 (Nat.ne_of_lt n67)).ext E81)) rfl) (by dsimp only [List.set]; try rfl) ?_
  refine q_is rfl rfl (does_move (u := (Iv 0)) (ev rfl)) (by dsimp only [List.set]; try rfl) ?_
  refine q_is rfl rfl (does_move (u := (Fl r83)) (ev rfl)) (by dsimp only [List.set]; try rfl) ?_
  refine q_is rfl rfl (does_fieldAddr (ev rfl) fa33_1) (by dsimp only [List.set]; try rfl) ?_
  refine q_is rfl rfl (does_load (u := (Fl r7)) (ev rfl) Try.isAgg22 (Cells.at (Blk.cells ((((((hB23.ext E31).ext E39).ext E47).ext E64).wr W71 (Nat.ne_of_lt n66)).ext E81)) 3 rfl)) (by dsimp only [List.set]; try rfl) ?_
  refine seqd rfl rfl (does_float (.inl rfl) (ev rfl) (ev rfl)) ?_; rintro _ w90 ⟨r87, rfl, h88, E89⟩
  have X91 := Ext.gr X85 E89
  show wpList _ _ _ _ (fr [_, _, _, _, _, _, _, _, _, _, _, _, _, _, _, _, _, _, _, _, _, _, _, _, _, _, _, _, _, _, _, _, _, _, _, _, _, _, _, _, _, _, _, _, _, _, _, _, _, _, _, _, _, _, _, _, _, _, _, _]) _
  refine seqd rfl rfl (does_call (args := #[(.agg #[(Fl r11), (Fl r13), (Fl r15)]), (Iv 0), (Fl r87)]) cal25 (evs rfl) (c_spec_l02Set [(Fl r11), (Fl r13), (Fl r15)] A_p 0 r87 _ ⟨r11, r13, r15, rfl, h12, h14, h16⟩)) ?_; rintro _ w93 ⟨E92, ⟨_, rfl, ⟨r94, r96, r98, rfl, h95, h97, h99⟩⟩⟩
  have X100 := Ext.gr X91 E92
  show wpList _ _ _ _ (fr [_, _, _, _, _, _, _, _, _, _, _, _, _, _, _, _, _, _, _, _, _, _, _, _, _, _, _, _, _, _, _, _, _, _, _, _, _, _, _, _, _, _, _, _, _, _, _, _, _, _, _, _, _, _, _, _, _, _, _, _]) _
  refine seqd rfl rfl (does_alloc z31) ?_; rintro _ w105 ⟨b101, rfl, hb102, hB103, E104⟩
  have n106 : b21 < b101 := Nat.lt_of_lt_of_le (Blk.lt ((((((((hB23.ext E31).ext E39).ext E47).ext E64).wr W71 (Nat.ne_of_lt n66)).ext E81).ext E89).ext E92)) hb102
  have n107 : b28 < b101 := Nat.lt_of_lt_of_le (Blk.lt (((((((hB30.ext E39).ext E47).ext E64).wr W71 (Nat.ne_of_lt n67)).ext E81).ext E89).ext E92)) hb102
  have n108 : b36 < b101 := Nat.lt_of_lt_of_le (Blk.lt ((((((hB38.ext E47).ext E64).wr W71 (Nat.ne_of_lt n68)).ext E81).ext E89).ext E92)) hb102
  have n109 : b61 < b101 := Nat.lt_of_lt_of_le (Blk.lt (((hB72.ext E81).ext E89).ext E92)) hb102
  have g110 : w.heap.size ≤ b101 := Nat.le_trans (Below.size X100) hb102
  change Blk _ _ [(Fl 0), (Fl 0), (Fl 0)] at hB103
  have X111 := Ext.gr X100 E104
  show wpList _ _ _ _ (fr [_, _, _, _, _, _, _, _, _, _, _, _, _, _, _, _, _, _, _, _, _, _, _, _, _, _, _, _, _, _, _, _, _, _, _, _, _, _, _, _, _, _, _, _, _, _, _, _, _, _, _, _, _, _, _, _, _, _, _, _]) _
  refine seqn rfl rfl (does_store (n := 3) (cs := [(Fl 0), (Fl 0), (Fl 0)]) (u := (.agg #[(Fl r94), (Fl r96), (Fl r98)])) (ev rfl) (ev rfl) Try.sizeOf31 rfl hB103 (Nat.le_of_ble_eq_true rfl) rfl) ?_; rintro _ w114 ⟨rfl, W112, hB113⟩
  change Blk _ _ [(Fl r94), (Fl r96), (Fl r98)] at hB113
  have X115 := Below.wr X111 W112 g110
  refine wpList_nil (hK86 _ _ ?_)
  refine wp_seq_k fun K116 hK116 => ?_
  refine wp_region_lit ?_
  refine q_is rfl rfl (does_loadAgg (cs := [(Fl r11), (Fl r13), (Fl r15)]) (ev rfl) Try.isAgg31 Try.sizeOf31 (Blk.cells (((((((((hB30.ext E39).ext E47).ext E64).wr W71 (Nat.ne_of_lt n67)).ext E81).ext E89).ext E92).ext E104).wr W112 (Nat.ne_of_lt n107))) rfl) (by dsimp only [List.set]; try rfl) ?_
  refine q_is rfl rfl (does_move (u := (Iv 0)) (ev rfl)) (by dsimp only [List.set]; try rfl) ?_
  refine q_is rfl rfl (does_move (u := (Fl r83)) (ev rfl)) (by dsimp only [List.set]; try rfl) ?_
  refine q_is rfl rfl (does_fieldAddr (ev rfl) fa33_1) (by dsimp only [List.set]; try rfl) ?_
  refine q_is rfl rfl (does_load (u := (Fl r7)) (ev rfl) Try.isAgg22 (Cells.at (Blk.cells ((((((((((hB23.ext E31).ext E39).ext E47).ext E64).wr W71 (Nat.ne_of_lt n66)).ext E81).ext E89).ext E92).ext E104).wr W112 (Nat.ne_of_lt n106))) 3 rfl)) (by dsimp only [List.set]; try rfl) ?_
  refine seqd rfl rfl (does_float (.inr (.inl rfl)) (ev rfl) (ev rfl)) ?_; rintro _ w120 ⟨r117, rfl, h118, E119⟩
  have X121 := Ext.gr X115 E119
  show wpList _ _ _ _ (fr [_, _, _, _, _, _, _, _, _, _, _, _, _, _, _, _, _, _, _, _, _, _, _, _, _, _, _, _, _, _, _, _, _, _, _, _, _, _, _, _, _, _, _, _, _, _, _, _, _, _, _, _, _, _, _, _, _, _, _, _]) _
  refine seqd rfl rfl (does_call (args := #[(.agg #[(Fl r11), (Fl r13), (Fl r15)]), (Iv 0), (Fl r117)]) cal25 (evs rfl) (c_spec_l02Set [(Fl r11), (Fl r13), (Fl r15)] A_p 0 r117 _ ⟨r11, r13, r15, rfl, h12, h14, h16⟩)) ?_; rintro _ w123 ⟨E122, ⟨_, rfl, ⟨r124, r126, r128, rfl, h125, h127, h129⟩⟩⟩
  have X130 := Ext.gr X121 E122
  show wpList _ _ _ _ (fr [_, _, _, _, _, _, _, _, _, _, _, _, _, _, _, _, _, _, _, _, _, _, _, _, _, _, _, _, _, _, _, _, _, _, _, _, _, _, _, _, _, _, _, _, _, _, _, _, _, _, _, _, _, _, _, _, _, _, _, _]) _
  refine seqd rfl rfl (does_alloc z31) ?_; rintro _ w135 ⟨b131, rfl, hb132, hB133, E134⟩
  have n136 : b21 < b131 := Nat.lt_of_lt_of_le (Blk.lt ((((((((((((hB23.ext E31).ext E39).ext E47).ext E64).wr W71 (Nat.ne_of_lt n66)).ext E81).ext E89).ext E92).ext E104).wr W112 (Nat.ne_of_lt n106)).ext E119).ext E122)) hb132
  have n137 : b28 < b131 := Nat.lt_of_lt_of_le (Blk.lt (((((((((((hB30.ext E39).ext E47).ext E64).wr W71 (Nat.ne_of_lt n67)).ext E81).ext E89).ext E92).ext E104).wr W112 (Nat.ne_of_lt n107)).ext E119).ext E122)) hb132
  have n138 : b36 < b131 := Nat.lt_of_lt_of_le (Blk.lt ((((((((((hB38.ext E47).ext E64).wr W71 (Nat.ne_of_lt n68)).ext E81).ext E89).ext E92).ext E104).wr W112 (Nat.ne_of_lt n108)).ext E119).ext E122)) hb132
  have n139 : b61 < b131 := Nat.lt_of_lt_of_le (Blk.lt (((((((hB72.ext E81).ext E89).ext E92).ext E104).wr W112 (Nat.ne_of_lt n109)).ext E119).ext E122)) hb132
  have n140 : b101 < b131 := Nat.lt_of_lt_of_le (Blk.lt ((hB113.ext E119).ext E122)) hb132
  have g141 : w.heap.size ≤ b131 := Nat.le_trans (Below.size X130) hb132
  change Blk _ _ [(Fl 0), (Fl 0), (Fl 0)] at hB133
  have X142 := Ext.gr X130 E134
  show wpList _ _ _ _ (fr [_, _, _, _, _, _, _, _, _, _, _, _, _, _, _, _, _, _, _, _, _, _, _, _, _, _, _, _, _, _, _, _, _, _, _, _, _, _, _, _, _, _, _, _, _, _, _, _, _, _, _, _, _, _, _, _, _, _, _, _]) _
  refine seqn rfl rfl (does_store (n := 3) (cs := [(Fl 0), (Fl 0), (Fl 0)]) (u := (.agg #[(Fl r124), (Fl r126), (Fl r128)])) (ev rfl) (ev rfl) Try.sizeOf31 rfl hB133 (Nat.le_of_ble_eq_true rfl) rfl) ?_; rintro _ w145 ⟨rfl, W143, hB144⟩
  change Blk _ _ [(Fl r124), (Fl r126), (Fl r128)] at hB144
  have X146 := Below.wr X142 W143 g141
  refine wpList_nil (hK116 _ _ ?_)
  refine wp_seq_k fun K147 hK147 => ?_
  refine wp_seq_k fun K148 hK148 => ?_
  obtain ⟨β1, hβ1⟩ : ∃ b : Bool, b = (finV (setV A_p 0 (cf .f32 r87))) := ⟨_, rfl⟩
  obtain ⟨β2, hβ2⟩ : ∃ b : Bool, b = (finV (setV A_p 0 (cf .f32 r117))) := ⟨_, rfl⟩
  refine region_text (
    [Fact.pure [] (fun v => v = (.agg #[(Fl r94), (Fl r96), (Fl r98)])),
    Fact.pure [37] (fun v => v = (Bo β1)),
    Fact.pure [38] (fun v => v = (Bo (!β1))),
    Fact.pure [39] (fun v => v = (Bo (!β1))),
    Fact.pure [40] (fun v => (!β1) = false → v = (.agg #[(Fl r124), (Fl r126), (Fl r128)])),
    Fact.pure [41, 40] (fun v => (!β1) = false → v = (Bo β2)),
    Fact.pure [42, 40] (fun v => (!β1) = false → v = (Bo (!β2))),
    Fact.pure [40, 43] (fun v => v = (Bo ((!β1) || (!β2))))]) (by simp [Fact.pure, Fact.mem]) ?_
  refine RW_d _ rfl (fun v => by dsimp only [List.set]; try rfl) (fun u hu hF => ?_) (fun v149 => ?_)
  · clear hF
    refine doesG_un rfl ?_
    refine (does_loadAgg (cs := [(Fl r94), (Fl r96), (Fl r98)]) (ev rfl) Try.isAgg31 Try.sizeOf31 (Blk.cells (((((hB113.ext E119).ext E122).ext E134).wr W143 (Nat.ne_of_lt n140)).ext hu)) rfl).mono ?_; rintro _ _ ⟨rfl, rfl⟩
    exact ⟨rfl, Ext.refl _⟩
  refine RW_d _ rfl (fun v => by dsimp only [List.set]; try rfl) (fun u hu hF => ?_) (fun v150 => ?_)
  · have h37_ : v149 = (.agg #[(Fl r94), (Fl r96), (Fl r98)]) := hF.1
    clear hF
    refine doesG_un rfl ?_
    obtain rfl := h37_
    refine (does_call (args := #[(.agg #[(Fl r94), (Fl r96), (Fl r98)])]) cal17 (evs rfl) (c_spec_l01VFinite [(Fl r94), (Fl r96), (Fl r98)] (setV A_p 0 (cf .f32 r87)) _ ⟨r94, r96, r98, rfl, h95, h97, h99⟩)).mono ?_; rintro v u' ⟨hx, hv⟩
    exact ⟨hv.trans (by simp only [hβ1]), hx⟩
  refine RW_d _ rfl (fun v => by dsimp only [List.set]; try rfl) (fun u hu hF => ?_) (fun v151 => ?_)
  · have h38_ : v150 = (Bo β1) := hF.1
    clear hF
    refine doesG_un rfl ?_
    obtain rfl := h38_
    refine (does_not (ev rfl)).mono ?_; rintro _ _ ⟨rfl, rfl⟩
    exact ⟨rfl, Ext.refl _⟩
  refine RW_d _ rfl (fun v => by dsimp only [List.set]; try rfl) (fun u hu hF => ?_) (fun v152 => ?_)
  · have h39_ : v151 = (Bo (!β1)) := hF.1
    clear hF
    refine doesG_un rfl ?_
    obtain rfl := h39_
    refine (does_move (u := (Bo (!β1))) (ev rfl)).mono ?_; rintro _ _ ⟨rfl, rfl⟩
    exact ⟨rfl, Ext.refl _⟩
  refine RW_d _ rfl (fun v => by dsimp only [List.set]; try rfl) (fun u hu hF => ?_) (fun v153 => ?_)
  · have h40_ : v152 = (Bo (!β1)) := hF.1
    clear hF
    obtain rfl := h40_
    refine doesG_g (b := (!β1)) rfl (yld rfl rfl) (fun hg1 => ?_) (fun hc => ⟨fun hg1 => absurd hg1 hc, Ext.refl _⟩)
    refine (does_loadAgg (cs := [(Fl r124), (Fl r126), (Fl r128)]) (ev rfl) Try.isAgg31 Try.sizeOf31 (Blk.cells (hB144.ext hu)) rfl).mono ?_; rintro _ _ ⟨rfl, rfl⟩
    exact ⟨fun _ => rfl, Ext.refl _⟩
  refine RW_d _ rfl (fun v => by dsimp only [List.set]; try rfl) (fun u hu hF => ?_) (fun v154 => ?_)
  · have h41_ : (!β1) = false → v153 = (.agg #[(Fl r124), (Fl r126), (Fl r128)]) := hF.1
    have h40_ : v152 = (Bo (!β1)) := hF.2.1
    clear hF
    obtain rfl := h40_
    refine doesG_g (b := (!β1)) rfl (yld rfl rfl) (fun hg1 => ?_) (fun hc => ⟨fun hg1 => absurd hg1 hc, Ext.refl _⟩)
    obtain rfl := h41_ hg1
    refine (does_call (args := #[(.agg #[(Fl r124), (Fl r126), (Fl r128)])]) cal17 (evs rfl) (c_spec_l01VFinite [(Fl r124), (Fl r126), (Fl r128)] (setV A_p 0 (cf .f32 r117)) _ ⟨r124, r126, r128, rfl, h125, h127, h129⟩)).mono ?_; rintro v u' ⟨hx, hv⟩
    exact ⟨fun _ => hv.trans (by simp only [hβ2]), hx⟩
  refine RW_d _ rfl (fun v => by dsimp only [List.set]; try rfl) (fun u hu hF => ?_) (fun v155 => ?_)
  · have h42_ : (!β1) = false → v154 = (Bo β2) := hF.1
    have h40_ : v152 = (Bo (!β1)) := hF.2.1
    clear hF
    obtain rfl := h40_
    refine doesG_g (b := (!β1)) rfl (yld rfl rfl) (fun hg1 => ?_) (fun hc => ⟨fun hg1 => absurd hg1 hc, Ext.refl _⟩)
    obtain rfl := h42_ hg1
    refine (does_not (ev rfl)).mono ?_; rintro _ _ ⟨rfl, rfl⟩
    exact ⟨fun _ => rfl, Ext.refl _⟩
  refine RW_d _ rfl (fun v => by dsimp only [List.set]; try rfl) (fun u hu hF => ?_) (fun v156 => ?_)
  · have h40_ : v152 = (Bo (!β1)) := hF.1
    have h43_ : (!β1) = false → v155 = (Bo (!β2)) := hF.2.1
    clear hF
    refine doesG_un rfl ?_
    skip
    obtain rfl := h40_
    refine (does_pick (b := (!β1)) (ev rfl) (ev rfl) (ev rfl)).mono ?_; rintro _ _ ⟨rfl, rfl⟩; refine ⟨?_, Ext.refl _⟩; skip
    cases hbb : (!β1)
    all_goals first | rfl | (have e_ := h43_ hbb; subst e_; rfl) | (simp [hbb] at h43_ ⊢; first | done | rfl | (subst h43_; rfl) | simp_all) | (simp [hbb] at h43_ ⊢; done)
  refine RW_fin ?_; intro w157 E158 hP159
  obtain ⟨⟨⟨⟨⟨⟨⟨⟨-, -⟩, -⟩, -⟩, -⟩, -⟩, -⟩, -⟩, q160⟩ := hP159
  have X161 := Ext.gr X146 E158
  have q160 : v156 = (Bo ((!β1) || (!β2))) := q160
  obtain rfl := q160
  show wpList _ _ _ _ (fr [_, _, _, _, _, _, _, _, _, _, _, _, _, _, _, _, _, _, _, _, _, _, _, _, _, _, _, _, _, _, _, _, _, _, _, _, _, _, _, _, _, _, _, _, _, _, _, _, _, _, _, _, _, _, _, _, _, _, _, _]) _
  refine wpList_nil (hK148 _ _ ?_)
  refine wp_cond_split (t := (!β1) || (!β2)) (ev rfl) (fun c162 => ?_) (fun c162 => ?_)
  · have c162' := c162
    (try simp only [hβ1, hβ2] at c162')
    (try simp only [icmp, Bool.and_eq_true, Bool.or_eq_true, Bool.and_eq_false_iff, Bool.or_eq_false_iff, Bool.not_eq_true', Bool.not_eq_false', decide_eq_true_eq, decide_eq_false_iff_not, beq_iff_eq, bne_iff_ne, beq_eq_false_iff_ne, bne_eq_false_iff_eq] at c162')
    have hfb := c162'
    simp only [h2, h4, h6, h8, h12, h14, h16, h84, h88, h95, h97, h99, h118, h125, h127, h129, hβ1, hβ2, setV_0, setV_1, setV_2, pickV_0, pickV_1, pickV_2] at c162'
    have hsf : slpOk A_g A_p = false := by first | exact slpOk_0 c162' | exact slpOk_1 c162' | exact slpOk_2 c162'
    refine wp_seq_k fun K163 hK163 => ?_
    refine wp_region_lit ?_
    refine q_is rfl rfl (does_build (parts' := []) (cells := #[(Fl 0), (Fl 0), (Fl 0)]) (evp rfl) (by kernel_rfl)) (by dsimp only [List.set]; try rfl) ?_
    refine seqn rfl rfl (does_store (n := 3) (cs := [(Fl 0), (Fl 0), (Fl 0)]) (u := (.agg #[(Fl 0), (Fl 0), (Fl 0)])) (ev rfl) (ev rfl) Try.sizeOf31 rfl (((((((((((((hB38.ext E47).ext E64).wr W71 (Nat.ne_of_lt n68)).ext E81).ext E89).ext E92).ext E104).wr W112 (Nat.ne_of_lt n108)).ext E119).ext E122).ext E134).wr W143 (Nat.ne_of_lt n138)).ext E158) (Nat.le_of_ble_eq_true rfl) rfl) ?_; rintro _ w166 ⟨rfl, W164, hB165⟩
    change Blk _ _ [(Fl 0), (Fl 0), (Fl 0)] at hB165
    have X167 := Below.wr X161 W164 g43
    refine q_is rfl rfl (does_assign (u := (Bo false)) (ev rfl)) (by dsimp only [List.set]; try rfl) ?_
    refine wpList_nil (hK163 _ _ ?_)
    refine wp_ret ?_
    dsimp only [Exit.then, Exit.inBlock]
    refine ret_val (v := (.tuple #[(.agg #[(Fl 0), (Fl 0), (Fl 0)]), (Bo false)])) (res_CT rfl (slot rfl) (run_loadAgg (cs := [(Fl 0), (Fl 0), (Fl 0)]) Try.isAgg31 Try.sizeOf31 (Blk.cells hB165) rfl) (slot rfl)) X167 ?_
    try simp only [h2, h4, h6, h8, h12, h14, h16, h84, h88, h95, h97, h99, h118, h125, h127, h129, hβ1, hβ2] at c50 c162
    have x168 : (slpOk A_g A_p) = false := by first | exact hsf | (rw [slpV_f hsf] <;> rfl) | exact slpOk_t hgg hs0 hs1 hs2 | (rw [slpV_t (slpOk_t hgg hs0 hs1 hs2)]; simp only [h2, h4, h6, h8, h12, h14, h16, h84, h88, h95, h97, h99, h118, h125, h127, h129, hβ1, hβ2, c50, c162, setV_0, setV_1, setV_2, pickV_0, pickV_1, pickV_2]; rfl)
    have x169 : cf .f32 0 = (slpV A_g A_p).x := by first | exact hsf | (rw [slpV_f hsf] <;> rfl) | exact slpOk_t hgg hs0 hs1 hs2 | (rw [slpV_t (slpOk_t hgg hs0 hs1 hs2)]; simp only [h2, h4, h6, h8, h12, h14, h16, h84, h88, h95, h97, h99, h118, h125, h127, h129, hβ1, hβ2, c50, c162, setV_0, setV_1, setV_2, pickV_0, pickV_1, pickV_2]; rfl)
    have x170 : cf .f32 0 = (slpV A_g A_p).y := by first | exact hsf | (rw [slpV_f hsf] <;> rfl) | exact slpOk_t hgg hs0 hs1 hs2 | (rw [slpV_t (slpOk_t hgg hs0 hs1 hs2)]; simp only [h2, h4, h6, h8, h12, h14, h16, h84, h88, h95, h97, h99, h118, h125, h127, h129, hβ1, hβ2, c50, c162, setV_0, setV_1, setV_2, pickV_0, pickV_1, pickV_2]; rfl)
    have x171 : cf .f32 0 = (slpV A_g A_p).z := by first | exact hsf | (rw [slpV_f hsf] <;> rfl) | exact slpOk_t hgg hs0 hs1 hs2 | (rw [slpV_t (slpOk_t hgg hs0 hs1 hs2)]; simp only [h2, h4, h6, h8, h12, h14, h16, h84, h88, h95, h97, h99, h118, h125, h127, h129, hβ1, hβ2, c50, c162, setV_0, setV_1, setV_2, pickV_0, pickV_1, pickV_2]; rfl)
    exact ⟨[(Fl 0), (Fl 0), (Fl 0)], (by first | rfl | rw [x168]), ⟨0, 0, 0, rfl, x169, x170, x171⟩⟩
  have c162' := c162
  (try simp only [hβ1, hβ2] at c162')
  (try simp only [icmp, Bool.and_eq_true, Bool.or_eq_true, Bool.and_eq_false_iff, Bool.or_eq_false_iff, Bool.not_eq_true', Bool.not_eq_false', decide_eq_true_eq, decide_eq_false_iff_not, beq_iff_eq, bne_iff_ne, beq_eq_false_iff_ne, bne_eq_false_iff_eq] at c162')
  have hfb := c162'
  simp only [h2, h4, h6, h8, h12, h14, h16, h84, h88, h95, h97, h99, h118, h125, h127, h129, hβ1, hβ2, setV_0, setV_1, setV_2, pickV_0, pickV_1, pickV_2] at c162'
  try (have hs0 : finV (hi0 A_g A_p) = true ∧ finV (lo0 A_g A_p) = true := c162')
  try (have hs1 : finV (hi1 A_g A_p) = true ∧ finV (lo1 A_g A_p) = true := c162')
  try (have hs2 : finV (hi2 A_g A_p) = true ∧ finV (lo2 A_g A_p) = true := c162')
  refine wp_skip (hK147 _ _ ?_)
  refine wp_seq_k fun K172 hK172 => ?_
  refine region_draw (
    [Fact.pure [] (fun v => v = (.agg #[(Fl r94), (Fl r96), (Fl r98)])),
    Fact.pure [46] (fun v => ∃ r_1 : Nat, v = (Fl r_1) ∧ cf .f32 r_1 = readG A_g (setV A_p 0 (cf .f32 r87))),
    Fact.pure [] (fun v => v = (.agg #[(Fl r124), (Fl r126), (Fl r128)])),
    Fact.pure [48] (fun v => ∃ r_1 : Nat, v = (Fl r_1) ∧ cf .f32 r_1 = readG A_g (setV A_p 0 (cf .f32 r117))),
    Fact.pure [47, 49] (fun v => ∃ r_1 : Nat, v = (Fl r_1) ∧ cf .f32 r_1 = fop .sub .f32 (readG A_g (setV A_p 0 (cf .f32 r87))) (readG A_g (setV A_p 0 (cf .f32 r117))))]) mixed (by kernel_rfl) (by intro _ _ d _ _ h; cases d <;> exact h) ?_
  obtain ⟨w173, hw175⟩ : ∃ w', w' = World.drew w157 := ⟨_, rfl⟩; rw [← hw175]; have E174 : Ext w157 w173 := by rw [hw175]; exact Ext.draw _
  clear hw175
  have X176 := Ext.gr X161 E174
  refine RW_d _ rfl (fun v => by dsimp only [List.set]; try rfl) (fun u hu hF => ?_) (fun v177 => ?_)
  · clear hF
    refine doesG_un rfl ?_
    refine (does_loadAgg (cs := [(Fl r94), (Fl r96), (Fl r98)]) (ev rfl) Try.isAgg31 Try.sizeOf31 (Blk.cells (((((((hB113.ext E119).ext E122).ext E134).wr W143 (Nat.ne_of_lt n140)).ext E158).ext E174).ext hu)) rfl).mono ?_; rintro _ _ ⟨rfl, rfl⟩
    exact ⟨rfl, Ext.refl _⟩
  refine RW_d _ rfl (fun v => by dsimp only [List.set]; try rfl) (fun u hu hF => ?_) (fun v178 => ?_)
  · have h46_ : v177 = (.agg #[(Fl r94), (Fl r96), (Fl r98)]) := hF.1
    clear hF
    refine doesG_un rfl ?_
    obtain rfl := h46_
    refine (does_call (args := #[(Pt b21 0), (.agg #[(Fl r94), (Fl r96), (Fl r98)])]) cal18 (evs rfl) (c_spec_l06Read b21 0 [(Fl r1), (Fl r3), (Fl r5), (Fl r7), (Iv A_g.x), (Iv A_g.y), (Iv A_g.z), (.slice p17 A_g.vals.length q18)] A_g [(Fl r94), (Fl r96), (Fl r98)] (setV A_p 0 (cf .f32 r87)) _ (Blk.cells (((((((((((((((((hB23.ext E31).ext E39).ext E47).ext E64).wr W71 (Nat.ne_of_lt n66)).ext E81).ext E89).ext E92).ext E104).wr W112 (Nat.ne_of_lt n106)).ext E119).ext E122).ext E134).wr W143 (Nat.ne_of_lt n136)).ext E158).ext E174).ext hu)) ⟨r1, r3, r5, r7, (.slice p17 A_g.vals.length q18), rfl, h2, h4, h6, h8, (Sl.ext (Sl.ext hs19 RF.mono (Ext.gr X161 E174)) RF.mono hu)⟩ ⟨r94, r96, r98, rfl, h95, h97, h99⟩ (by exact hgg) (by exact hfb.1))).mono ?_; rintro v u' ⟨hx, ⟨rn1, hv, k0⟩⟩
    exact ⟨⟨rn1, hv, (by simp only [k0])⟩, hx⟩
  refine RW_d _ rfl (fun v => by dsimp only [List.set]; try rfl) (fun u hu hF => ?_) (fun v179 => ?_)
  · clear hF
    refine doesG_un rfl ?_
    refine (does_loadAgg (cs := [(Fl r124), (Fl r126), (Fl r128)]) (ev rfl) Try.isAgg31 Try.sizeOf31 (Blk.cells (((hB144.ext E158).ext E174).ext hu)) rfl).mono ?_; rintro _ _ ⟨rfl, rfl⟩
    exact ⟨rfl, Ext.refl _⟩
  refine RW_d _ rfl (fun v => by dsimp only [List.set]; try rfl) (fun u hu hF => ?_) (fun v180 => ?_)
  · have h48_ : v179 = (.agg #[(Fl r124), (Fl r126), (Fl r128)]) := hF.1
    clear hF
    refine doesG_un rfl ?_
    obtain rfl := h48_
    refine (does_call (args := #[(Pt b21 0), (.agg #[(Fl r124), (Fl r126), (Fl r128)])]) cal18 (evs rfl) (c_spec_l06Read b21 0 [(Fl r1), (Fl r3), (Fl r5), (Fl r7), (Iv A_g.x), (Iv A_g.y), (Iv A_g.z), (.slice p17 A_g.vals.length q18)] A_g [(Fl r124), (Fl r126), (Fl r128)] (setV A_p 0 (cf .f32 r117)) _ (Blk.cells (((((((((((((((((hB23.ext E31).ext E39).ext E47).ext E64).wr W71 (Nat.ne_of_lt n66)).ext E81).ext E89).ext E92).ext E104).wr W112 (Nat.ne_of_lt n106)).ext E119).ext E122).ext E134).wr W143 (Nat.ne_of_lt n136)).ext E158).ext E174).ext hu)) ⟨r1, r3, r5, r7, (.slice p17 A_g.vals.length q18), rfl, h2, h4, h6, h8, (Sl.ext (Sl.ext hs19 RF.mono (Ext.gr X161 E174)) RF.mono hu)⟩ ⟨r124, r126, r128, rfl, h125, h127, h129⟩ (by exact hgg) (by exact hfb.2))).mono ?_; rintro v u' ⟨hx, ⟨rn1, hv, k0⟩⟩
    exact ⟨⟨rn1, hv, (by simp only [k0])⟩, hx⟩
  refine RW_d _ rfl (fun v => by dsimp only [List.set]; try rfl) (fun u hu hF => ?_) (fun v181 => ?_)
  · have h47_ : ∃ r_1 : Nat, v178 = (Fl r_1) ∧ cf .f32 r_1 = readG A_g (setV A_p 0 (cf .f32 r87)) := hF.1
    have h49_ : ∃ r_1 : Nat, v180 = (Fl r_1) ∧ cf .f32 r_1 = readG A_g (setV A_p 0 (cf .f32 r117)) := hF.2.1
    clear hF
    refine doesG_un rfl ?_
    obtain ⟨r47_1, rfl, h47_2⟩ := h47_
    obtain ⟨r49_1, rfl, h49_2⟩ := h49_
    refine (does_float (.inr (.inl rfl)) (ev rfl) (ev rfl)).mono ?_; rintro _ _ ⟨r, rfl, hr, hx⟩
    exact ⟨⟨r, rfl, (by simp only [hr, h47_2, h49_2])⟩, hx⟩
  refine RW_fin ?_; intro w182 E183 hP184
  obtain ⟨⟨⟨⟨⟨-, -⟩, -⟩, -⟩, -⟩, q185⟩ := hP184
  have X186 := Ext.gr X176 E183
  have q185 : ∃ r_1 : Nat, v181 = (Fl r_1) ∧ cf .f32 r_1 = fop .sub .f32 (readG A_g (setV A_p 0 (cf .f32 r87))) (readG A_g (setV A_p 0 (cf .f32 r117))) := q185
  obtain ⟨r187, rfl, h188⟩ := q185
  show wpList _ _ _ _ (fr [_, _, _, _, _, _, _, _, _, _, _, _, _, _, _, _, _, _, _, _, _, _, _, _, _, _, _, _, _, _, _, _, _, _, _, _, _, _, _, _, _, _, _, _, _, _, _, _, _, _, _, _, _, _, _, _, _, _, _, _]) _
  refine q_is rfl rfl (does_assign (u := (Fl r187)) (ev rfl)) (by dsimp only [List.set]; try rfl) ?_
  refine wpList_nil (hK172 _ _ ?_)
  refine wp_region_lit ?_
  refine q_is rfl rfl (does_loadAgg (cs := [(Fl 0), (Fl 0), (Fl 0)]) (ev rfl) Try.isAgg31 Try.sizeOf31 (Blk.cells ((((((((((((hB72.ext E81).ext E89).ext E92).ext E104).wr W112 (Nat.ne_of_lt n109)).ext E119).ext E122).ext E134).wr W143 (Nat.ne_of_lt n139)).ext E158).ext E174).ext E183)) rfl) (by dsimp only [List.set]; try rfl) ?_
  refine q_is rfl rfl (does_move (u := (Iv 0)) (ev rfl)) (by dsimp only [List.set]; try rfl) ?_
  refine q_is rfl rfl (does_move (u := (Fl r187)) (ev rfl)) (by dsimp only [List.set]; try rfl) ?_
  refine q_is rfl rfl (does_fieldAddr (ev rfl) fa33_1) (by dsimp only [List.set]; try rfl) ?_
  refine q_is rfl rfl (does_load (u := (Fl r7)) (ev rfl) Try.isAgg22 (Cells.at (Blk.cells (((((((((((((((((hB23.ext E31).ext E39).ext E47).ext E64).wr W71 (Nat.ne_of_lt n66)).ext E81).ext E89).ext E92).ext E104).wr W112 (Nat.ne_of_lt n106)).ext E119).ext E122).ext E134).wr W143 (Nat.ne_of_lt n136)).ext E158).ext E174).ext E183)) 3 rfl)) (by dsimp only [List.set]; try rfl) ?_
  refine seqd rfl rfl (does_float (.inr (.inr (.inl rfl))) (ev rfl) (ev rfl)) ?_; rintro _ w192 ⟨r189, rfl, h190, E191⟩
  have X193 := Ext.gr X186 E191
  show wpList _ _ _ _ (fr [_, _, _, _, _, _, _, _, _, _, _, _, _, _, _, _, _, _, _, _, _, _, _, _, _, _, _, _, _, _, _, _, _, _, _, _, _, _, _, _, _, _, _, _, _, _, _, _, _, _, _, _, _, _, _, _, _, _, _, _]) _
  refine seqd rfl rfl (does_float (.inr (.inr (.inr rfl))) (ev rfl) (ev rfl)) ?_; rintro _ w197 ⟨r194, rfl, h195, E196⟩
  have X198 := Ext.gr X193 E196
  show wpList _ _ _ _ (fr [_, _, _, _, _, _, _, _, _, _, _, _, _, _, _, _, _, _, _, _, _, _, _, _, _, _, _, _, _, _, _, _, _, _, _, _, _, _, _, _, _, _, _, _, _, _, _, _, _, _, _, _, _, _, _, _, _, _, _, _]) _
  refine seqd rfl rfl (does_call (args := #[(.agg #[(Fl 0), (Fl 0), (Fl 0)]), (Iv 0), (Fl r194)]) cal25 (evs rfl) (c_spec_l02Set [(Fl 0), (Fl 0), (Fl 0)] (V3.mk (cf .f32 0) (cf .f32 0) (cf .f32 0)) 0 r194 _ ⟨0, 0, 0, rfl, rfl, rfl, rfl⟩)) ?_; rintro _ w200 ⟨E199, ⟨_, rfl, ⟨r201, r203, r205, rfl, h202, h204, h206⟩⟩⟩
  have X207 := Ext.gr X198 E199
  show wpList _ _ _ _ (fr [_, _, _, _, _, _, _, _, _, _, _, _, _, _, _, _, _, _, _, _, _, _, _, _, _, _, _, _, _, _, _, _, _, _, _, _, _, _, _, _, _, _, _, _, _, _, _, _, _, _, _, _, _, _, _, _, _, _, _, _]) _
  refine seqn rfl rfl (does_store (n := 3) (cs := [(Fl 0), (Fl 0), (Fl 0)]) (u := (.agg #[(Fl r201), (Fl r203), (Fl r205)])) (ev rfl) (ev rfl) Try.sizeOf31 rfl (((((((((((((((hB72.ext E81).ext E89).ext E92).ext E104).wr W112 (Nat.ne_of_lt n109)).ext E119).ext E122).ext E134).wr W143 (Nat.ne_of_lt n139)).ext E158).ext E174).ext E183).ext E191).ext E196).ext E199) (Nat.le_of_ble_eq_true rfl) rfl) ?_; rintro _ w210 ⟨rfl, W208, hB209⟩
  change Blk _ _ [(Fl r201), (Fl r203), (Fl r205)] at hB209
  have X211 := Below.wr X207 W208 g69
  refine wpList_nil (hK79 _ _ ?_)
  refine wp_region_lit ?_
  refine q_is rfl rfl (does_move (u := (Iv 0)) (ev rfl)) (by dsimp only [List.set]; try rfl) ?_
  refine q_is rfl rfl (does_iarith (p := 0) (q := 1) (r := (1)) (ev rfl) (ev rfl) (.inl ⟨rfl, rfl⟩)) (by dsimp only [List.set]; try rfl) ?_
  refine q_is rfl rfl (does_assign (u := (Iv 1)) (ev rfl)) (by dsimp only [List.set]; try rfl) ?_
  refine wpList_nil ?_
  refine un_step ?_
  refine wp_seq_k fun K212 hK212 => ?_
  refine wp_seq_k fun K213 hK213 => ?_
  refine wp_region_lit ?_
  refine q_is rfl rfl (does_move (u := (Iv 1)) (ev rfl)) (by dsimp only [List.set]; try rfl) ?_
  refine q_is rfl rfl (does_icmp (p := 1) (q := 3) (.inr (.inr (.inl rfl))) (ev rfl) (ev rfl)) (by dsimp only [List.set]; try rfl) ?_
  refine wpList_nil (hK213 _ _ ?_)
  refine wp_cond_true (ev rfl) ?_
  refine wp_skip (hK212 _ _ ?_)
  refine wp_seq_k fun K214 hK214 => ?_
  refine wp_block ?_
  refine wp_seq_k fun K215 hK215 => ?_
  refine wp_region_lit ?_
  refine q_is rfl rfl (does_loadAgg (cs := [(Fl r11), (Fl r13), (Fl r15)]) (ev rfl) Try.isAgg31 Try.sizeOf31 (Blk.cells ((((((((((((((((((((hB30.ext E39).ext E47).ext E64).wr W71 (Nat.ne_of_lt n67)).ext E81).ext E89).ext E92).ext E104).wr W112 (Nat.ne_of_lt n107)).ext E119).ext E122).ext E134).wr W143 (Nat.ne_of_lt n137)).ext E158).ext E174).ext E183).ext E191).ext E196).ext E199).wr W208 (Nat.ne_of_lt n67))) rfl) (by dsimp only [List.set]; try rfl) ?_
  refine q_is rfl rfl (does_move (u := (Iv 1)) (ev rfl)) (by dsimp only [List.set]; try rfl) ?_
  refine seqd rfl rfl (does_call (args := #[(.agg #[(Fl r11), (Fl r13), (Fl r15)]), (Iv 1)]) cal24 (evs rfl) (c_spec_l02Pick [(Fl r11), (Fl r13), (Fl r15)] A_p 1 _ ⟨r11, r13, r15, rfl, h12, h14, h16⟩)) ?_; rintro _ w217 ⟨E216, ⟨r218, rfl, h219⟩⟩
  have X220 := Ext.gr X211 E216
  show wpList _ _ _ _ (fr [_, _, _, _, _, _, _, _, _, _, _, _, _, _, _, _, _, _, _, _, _, _, _, _, _, _, _, _, _, _, _, _, _, _, _, _, _, _, _, _, _, _, _, _, _, _, _, _, _, _, _, _, _, _, _, _, _, _, _, _]) _
  refine q_is rfl rfl (does_assign (u := (Fl r218)) (ev rfl)) (by dsimp only [List.set]; try rfl) ?_
  refine wpList_nil (hK215 _ _ ?_)
  refine wp_seq_k fun K221 hK221 => ?_
  refine wp_region_lit ?_
  refine q_is rfl rfl (does_loadAgg (cs := [(Fl r11), (Fl r13), (Fl r15)]) (ev rfl) Try.isAgg31 Try.sizeOf31 (Blk.cells (((((((((((((((((((((hB30.ext E39).ext E47).ext E64).wr W71 (Nat.ne_of_lt n67)).ext E81).ext E89).ext E92).ext E104).wr W112 (Nat.ne_of_lt n107)).ext E119).ext E122).ext E134).wr W143 (Nat.ne_of_lt n137)).ext E158).ext E174).ext E183).ext E191).ext E196).ext E199).wr W208 (Nat.ne_of_lt n67)).ext E216)) rfl) (by dsimp only [List.set]; try rfl) ?_
  refine q_is rfl rfl (does_move (u := (Iv 1)) (ev rfl)) (by dsimp only [List.set]; try rfl) ?_
  refine q_is rfl rfl (does_move (u := (Fl r218)) (ev rfl)) (by dsimp only [List.set]; try rfl) ?_
  refine q_is rfl rfl (does_fieldAddr (ev rfl) fa33_1) (by dsimp only [List.set]; try rfl) ?_
  refine q_is rfl rfl (does_load (u := (Fl r7)) (ev rfl) Try.isAgg22 (Cells.at (Blk.cells ((((((((((((((((((((((hB23.ext E31).ext E39).ext E47).ext E64).wr W71 (Nat.ne_of_lt n66)).ext E81).ext E89).ext E92).ext E104).wr W112 (Nat.ne_of_lt n106)).ext E119).ext E122).ext E134).wr W143 (Nat.ne_of_lt n136)).ext E158).ext E174).ext E183).ext E191).ext E196).ext E199).wr W208 (Nat.ne_of_lt n66)).ext E216)) 3 rfl)) (by dsimp only [List.set]; try rfl) ?_
  refine seqd rfl rfl (does_float (.inl rfl) (ev rfl) (ev rfl)) ?_; rintro _ w225 ⟨r222, rfl, h223, E224⟩
  have X226 := Ext.gr X220 E224
  show wpList _ _ _ _ (fr [_, _, _, _, _, _, _, _, _, _, _, _, _, _, _, _, _, _, _, _, _, _, _, _, _, _, _, _, _, _, _, _, _, _, _, _, _, _, _, _, _, _, _, _, _, _, _, _, _, _, _, _, _, _, _, _, _, _, _, _]) _
  refine seqd rfl rfl (does_call (args := #[(.agg #[(Fl r11), (Fl r13), (Fl r15)]), (Iv 1), (Fl r222)]) cal25 (evs rfl) (c_spec_l02Set [(Fl r11), (Fl r13), (Fl r15)] A_p 1 r222 _ ⟨r11, r13, r15, rfl, h12, h14, h16⟩)) ?_; rintro _ w228 ⟨E227, ⟨_, rfl, ⟨r229, r231, r233, rfl, h230, h232, h234⟩⟩⟩
  have X235 := Ext.gr X226 E227
  show wpList _ _ _ _ (fr [_, _, _, _, _, _, _, _, _, _, _, _, _, _, _, _, _, _, _, _, _, _, _, _, _, _, _, _, _, _, _, _, _, _, _, _, _, _, _, _, _, _, _, _, _, _, _, _, _, _, _, _, _, _, _, _, _, _, _, _]) _
  refine seqd rfl rfl (does_alloc z31) ?_; rintro _ w240 ⟨b236, rfl, hb237, hB238, E239⟩
  have n241 : b21 < b236 := Nat.lt_of_lt_of_le (Blk.lt ((((((((((((((((((((((((hB23.ext E31).ext E39).ext E47).ext E64).wr W71 (Nat.ne_of_lt n66)).ext E81).ext E89).ext E92).ext E104).wr W112 (Nat.ne_of_lt n106)).ext E119).ext E122).ext E134).wr W143 (Nat.ne_of_lt n136)).ext E158).ext E174).ext E183).ext E191).ext E196).ext E199).wr W208 (Nat.ne_of_lt n66)).ext E216).ext E224).ext E227)) hb237
  have n242 : b28 < b236 := Nat.lt_of_lt_of_le (Blk.lt (((((((((((((((((((((((hB30.ext E39).ext E47).ext E64).wr W71 (Nat.ne_of_lt n67)).ext E81).ext E89).ext E92).ext E104).wr W112 (Nat.ne_of_lt n107)).ext E119).ext E122).ext E134).wr W143 (Nat.ne_of_lt n137)).ext E158).ext E174).ext E183).ext E191).ext E196).ext E199).wr W208 (Nat.ne_of_lt n67)).ext E216).ext E224).ext E227)) hb237
  have n243 : b36 < b236 := Nat.lt_of_lt_of_le (Blk.lt ((((((((((((((((((((((hB38.ext E47).ext E64).wr W71 (Nat.ne_of_lt n68)).ext E81).ext E89).ext E92).ext E104).wr W112 (Nat.ne_of_lt n108)).ext E119).ext E122).ext E134).wr W143 (Nat.ne_of_lt n138)).ext E158).ext E174).ext E183).ext E191).ext E196).ext E199).wr W208 (Nat.ne_of_lt n68)).ext E216).ext E224).ext E227)) hb237
  have n244 : b101 < b236 := Nat.lt_of_lt_of_le (Blk.lt ((((((((((((((hB113.ext E119).ext E122).ext E134).wr W143 (Nat.ne_of_lt n140)).ext E158).ext E174).ext E183).ext E191).ext E196).ext E199).wr W208 (Nat.ne_of_gt n109)).ext E216).ext E224).ext E227)) hb237
  have n245 : b131 < b236 := Nat.lt_of_lt_of_le (Blk.lt ((((((((((hB144.ext E158).ext E174).ext E183).ext E191).ext E196).ext E199).wr W208 (Nat.ne_of_gt n139)).ext E216).ext E224).ext E227)) hb237
  have n246 : b61 < b236 := Nat.lt_of_lt_of_le (Blk.lt (((hB209.ext E216).ext E224).ext E227)) hb237
  have g247 : w.heap.size ≤ b236 := Nat.le_trans (Below.size X235) hb237
  change Blk _ _ [(Fl 0), (Fl 0), (Fl 0)] at hB238
  have X248 := Ext.gr X235 E239
  show wpList _ _ _ _ (fr [_, _, _, _, _, _, _, _, _, _, _, _, _, _, _, _, _, _, _, _, _, _, _, _, _, _, _, _, _, _, _, _, _, _, _, _, _, _, _, _, _, _, _, _, _, _, _, _, _, _, _, _, _, _, _, _, _, _, _, _]) _
  refine seqn rfl rfl (does_store (n := 3) (cs := [(Fl 0), (Fl 0), (Fl 0)]) (u := (.agg #[(Fl r229), (Fl r231), (Fl r233)])) (ev rfl) (ev rfl) Try.sizeOf31 rfl hB238 (Nat.le_of_ble_eq_true rfl) rfl) ?_; rintro _ w251 ⟨rfl, W249, hB250⟩
  change Blk _ _ [(Fl r229), (Fl r231), (Fl r233)] at hB250
  have X252 := Below.wr X248 W249 g247
  refine wpList_nil (hK221 _ _ ?_)
  refine wp_seq_k fun K253 hK253 => ?_
  refine wp_region_lit ?_
  refine q_is rfl rfl (does_loadAgg (cs := [(Fl r11), (Fl r13), (Fl r15)]) (ev rfl) Try.isAgg31 Try.sizeOf31 (Blk.cells (((((((((((((((((((((((((hB30.ext E39).ext E47).ext E64).wr W71 (Nat.ne_of_lt n67)).ext E81).ext E89).ext E92).ext E104).wr W112 (Nat.ne_of_lt n107)).ext E119).ext E122).ext E134).wr W143 (Nat.ne_of_lt n137)).ext E158).ext E174).ext E183).ext E191).ext E196).ext E199).wr W208 (Nat.ne_of_lt n67)).ext E216).ext E224).ext E227).ext E239).wr W249 (Nat.ne_of_lt n242))) rfl) (by dsimp only [List.set]; try rfl) ?_
  refine q_is rfl rfl (does_move (u := (Iv 1)) (ev rfl)) (by dsimp only [List.set]; try rfl) ?_
  refine q_is rfl rfl (does_move (u := (Fl r218)) (ev rfl)) (by dsimp only [List.set]; try rfl) ?_
  refine q_is rfl rfl (does_fieldAddr (ev rfl) fa33_1) (by dsimp only [List.set]; try rfl) ?_
  refine q_is rfl rfl (does_load (u := (Fl r7)) (ev rfl) Try.isAgg22 (Cells.at (Blk.cells ((((((((((((((((((((((((((hB23.ext E31).ext E39).ext E47).ext E64).wr W71 (Nat.ne_of_lt n66)).ext E81).ext E89).ext E92).ext E104).wr W112 (Nat.ne_of_lt n106)).ext E119).ext E122).ext E134).wr W143 (Nat.ne_of_lt n136)).ext E158).ext E174).ext E183).ext E191).ext E196).ext E199).wr W208 (Nat.ne_of_lt n66)).ext E216).ext E224).ext E227).ext E239).wr W249 (Nat.ne_of_lt n241))) 3 rfl)) (by dsimp only [List.set]; try rfl) ?_
  refine seqd rfl rfl (does_float (.inr (.inl rfl)) (ev rfl) (ev rfl)) ?_; rintro _ w257 ⟨r254, rfl, h255, E256⟩
  have X258 := Ext.gr X252 E256
  show wpList _ _ _ _ (fr [_, _, _, _, _, _, _, _, _, _, _, _, _, _, _, _, _, _, _, _, _, _, _, _, _, _, _, _, _, _, _, _, _, _, _, _, _, _, _, _, _, _, _, _, _, _, _, _, _, _, _, _, _, _, _, _, _, _, _, _]) _
  refine seqd rfl rfl (does_call (args := #[(.agg #[(Fl r11), (Fl r13), (Fl r15)]), (Iv 1), (Fl r254)]) cal25 (evs rfl) (c_spec_l02Set [(Fl r11), (Fl r13), (Fl r15)] A_p 1 r254 _ ⟨r11, r13, r15, rfl, h12, h14, h16⟩)) ?_; rintro _ w260 ⟨E259, ⟨_, rfl, ⟨r261, r263, r265, rfl, h262, h264, h266⟩⟩⟩
  have X267 := Ext.gr X258 E259
  show wpList _ _ _ _ (fr [_, _, _, _, _, _, _, _, _, _, _, _, _, _, _, _, _, _, _, _, _, _, _, _, _, _, _, _, _, _, _, _, _, _, _, _, _, _, _, _, _, _, _, _, _, _, _, _, _, _, _, _, _, _, _, _, _, _, _, _]) _
  refine seqd rfl rfl (does_alloc z31) ?_; rintro _ w272 ⟨b268, rfl, hb269, hB270, E271⟩
  have n273 : b21 < b268 := Nat.lt_of_lt_of_le (Blk.lt ((((((((((((((((((((((((((((hB23.ext E31).ext E39).ext E47).ext E64).wr W71 (Nat.ne_of_lt n66)).ext E81).ext E89).ext E92).ext E104).wr W112 (Nat.ne_of_lt n106)).ext E119).ext E122).ext E134).wr W143 (Nat.ne_of_lt n136)).ext E158).ext E174).ext E183).ext E191).ext E196).ext E199).wr W208 (Nat.ne_of_lt n66)).ext E216).ext E224).ext E227).ext E239).wr W249 (Nat.ne_of_lt n241)).ext E256).ext E259)) hb269
  have n274 : b28 < b268 := Nat.lt_of_lt_of_le (Blk.lt (((((((((((((((((((((((((((hB30.ext E39).ext E47).ext E64).wr W71 (Nat.ne_of_lt n67)).ext E81).ext E89).ext E92).ext E104).wr W112 (Nat.ne_of_lt n107)).ext E119).ext E122).ext E134).wr W143 (Nat.ne_of_lt n137)).ext E158).ext E174).ext E183).ext E191).ext E196).ext E199).wr W208 (Nat.ne_of_lt n67)).ext E216).ext E224).ext E227).ext E239).wr W249 (Nat.ne_of_lt n242)).ext E256).ext E259)) hb269
  have n275 : b36 < b268 := Nat.lt_of_lt_of_le (Blk.lt ((((((((((((((((((((((((((hB38.ext E47).ext E64).wr W71 (Nat.ne_of_lt n68)).ext E81).ext E89).ext E92).ext E104).wr W112 (Nat.ne_of_lt n108)).ext E119).ext E122).ext E134).wr W143 (Nat.ne_of_lt n138)).ext E158).ext E174).ext E183).ext E191).ext E196).ext E199).wr W208 (Nat.ne_of_lt n68)).ext E216).ext E224).ext E227).ext E239).wr W249 (Nat.ne_of_lt n243)).ext E256).ext E259)) hb269
  have n276 : b101 < b268 := Nat.lt_of_lt_of_le (Blk.lt ((((((((((((((((((hB113.ext E119).ext E122).ext E134).wr W143 (Nat.ne_of_lt n140)).ext E158).ext E174).ext E183).ext E191).ext E196).ext E199).wr W208 (Nat.ne_of_gt n109)).ext E216).ext E224).ext E227).ext E239).wr W249 (Nat.ne_of_lt n244)).ext E256).ext E259)) hb269
  have n277 : b131 < b268 := Nat.lt_of_lt_of_le (Blk.lt ((((((((((((((hB144.ext E158).ext E174).ext E183).ext E191).ext E196).ext E199).wr W208 (Nat.ne_of_gt n139)).ext E216).ext E224).ext E227).ext E239).wr W249 (Nat.ne_of_lt n245)).ext E256).ext E259)) hb269
  have n278 : b61 < b268 := Nat.lt_of_lt_of_le (Blk.lt (((((((hB209.ext E216).ext E224).ext E227).ext E239).wr W249 (Nat.ne_of_lt n246)).ext E256).ext E259)) hb269
  have n279 : b236 < b268 := Nat.lt_of_lt_of_le (Blk.lt ((hB250.ext E256).ext E259)) hb269
  have g280 : w.heap.size ≤ b268 := Nat.le_trans (Below.size X267) hb269
  change Blk _ _ [(Fl 0), (Fl 0), (Fl 0)] at hB270
  have X281 := Ext.gr X267 E271
  show wpList _ _ _ _ (fr [_, _, _, _, _, _, _, _, _, _, _, _, _, _, _, _, _, _, _, _, _, _, _, _, _, _, _, _, _, _, _, _, _, _, _, _, _, _, _, _, _, _, _, _, _, _, _, _, _, _, _, _, _, _, _, _, _, _, _, _]) _
  refine seqn rfl rfl (does_store (n := 3) (cs := [(Fl 0), (Fl 0), (Fl 0)]) (u := (.agg #[(Fl r261), (Fl r263), (Fl r265)])) (ev rfl) (ev rfl) Try.sizeOf31 rfl hB270 (Nat.le_of_ble_eq_true rfl) rfl) ?_; rintro _ w284 ⟨rfl, W282, hB283⟩
  change Blk _ _ [(Fl r261), (Fl r263), (Fl r265)] at hB283
  have X285 := Below.wr X281 W282 g280
  refine wpList_nil (hK253 _ _ ?_)
  refine wp_seq_k fun K286 hK286 => ?_
  refine wp_seq_k fun K287 hK287 => ?_
  obtain ⟨β3, hβ3⟩ : ∃ b : Bool, b = (finV (setV A_p 1 (cf .f32 r222))) := ⟨_, rfl⟩
  obtain ⟨β4, hβ4⟩ : ∃ b : Bool, b = (finV (setV A_p 1 (cf .f32 r254))) := ⟨_, rfl⟩
  refine region_text (
    [Fact.pure [] (fun v => v = (.agg #[(Fl r229), (Fl r231), (Fl r233)])),
    Fact.pure [37] (fun v => v = (Bo β3)),
    Fact.pure [38] (fun v => v = (Bo (!β3))),
    Fact.pure [39] (fun v => v = (Bo (!β3))),
    Fact.pure [40] (fun v => (!β3) = false → v = (.agg #[(Fl r261), (Fl r263), (Fl r265)])),
    Fact.pure [41, 40] (fun v => (!β3) = false → v = (Bo β4)),
    Fact.pure [42, 40] (fun v => (!β3) = false → v = (Bo (!β4))),
    Fact.pure [40, 43] (fun v => v = (Bo ((!β3) || (!β4))))]) (by simp [Fact.pure, Fact.mem]) ?_
  refine RW_d _ rfl (fun v => by dsimp only [List.set]; try rfl) (fun u hu hF => ?_) (fun v288 => ?_)
  · clear hF
    refine doesG_un rfl ?_
    refine (does_loadAgg (cs := [(Fl r229), (Fl r231), (Fl r233)]) (ev rfl) Try.isAgg31 Try.sizeOf31 (Blk.cells (((((hB250.ext E256).ext E259).ext E271).wr W282 (Nat.ne_of_lt n279)).ext hu)) rfl).mono ?_; rintro _ _ ⟨rfl, rfl⟩
    exact ⟨rfl, Ext.refl _⟩
  refine RW_d _ rfl (fun v => by dsimp only [List.set]; try rfl) (fun u hu hF => ?_) (fun v289 => ?_)
  · have h37_ : v288 = (.agg #[(Fl r229), (Fl r231), (Fl r233)]) := hF.1
    clear hF
    refine doesG_un rfl ?_
    obtain rfl := h37_
    refine (does_call (args := #[(.agg #[(Fl r229), (Fl r231), (Fl r233)])]) cal17 (evs rfl) (c_spec_l01VFinite [(Fl r229), (Fl r231), (Fl r233)] (setV A_p 1 (cf .f32 r222)) _ ⟨r229, r231, r233, rfl, h230, h232, h234⟩)).mono ?_; rintro v u' ⟨hx, hv⟩
    exact ⟨hv.trans (by simp only [hβ3]), hx⟩
  refine RW_d _ rfl (fun v => by dsimp only [List.set]; try rfl) (fun u hu hF => ?_) (fun v290 => ?_)
  · have h38_ : v289 = (Bo β3) := hF.1
    clear hF
    refine doesG_un rfl ?_
    obtain rfl := h38_
    refine (does_not (ev rfl)).mono ?_; rintro _ _ ⟨rfl, rfl⟩
    exact ⟨rfl, Ext.refl _⟩
  refine RW_d _ rfl (fun v => by dsimp only [List.set]; try rfl) (fun u hu hF => ?_) (fun v291 => ?_)
  · have h39_ : v290 = (Bo (!β3)) := hF.1
    clear hF
    refine doesG_un rfl ?_
    obtain rfl := h39_
    refine (does_move (u := (Bo (!β3))) (ev rfl)).mono ?_; rintro _ _ ⟨rfl, rfl⟩
    exact ⟨rfl, Ext.refl _⟩
  refine RW_d _ rfl (fun v => by dsimp only [List.set]; try rfl) (fun u hu hF => ?_) (fun v292 => ?_)
  · have h40_ : v291 = (Bo (!β3)) := hF.1
    clear hF
    obtain rfl := h40_
    refine doesG_g (b := (!β3)) rfl (yld rfl rfl) (fun hg1 => ?_) (fun hc => ⟨fun hg1 => absurd hg1 hc, Ext.refl _⟩)
    refine (does_loadAgg (cs := [(Fl r261), (Fl r263), (Fl r265)]) (ev rfl) Try.isAgg31 Try.sizeOf31 (Blk.cells (hB283.ext hu)) rfl).mono ?_; rintro _ _ ⟨rfl, rfl⟩
    exact ⟨fun _ => rfl, Ext.refl _⟩
  refine RW_d _ rfl (fun v => by dsimp only [List.set]; try rfl) (fun u hu hF => ?_) (fun v293 => ?_)
  · have h41_ : (!β3) = false → v292 = (.agg #[(Fl r261), (Fl r263), (Fl r265)]) := hF.1
    have h40_ : v291 = (Bo (!β3)) := hF.2.1
    clear hF
    obtain rfl := h40_
    refine doesG_g (b := (!β3)) rfl (yld rfl rfl) (fun hg1 => ?_) (fun hc => ⟨fun hg1 => absurd hg1 hc, Ext.refl _⟩)
    obtain rfl := h41_ hg1
    refine (does_call (args := #[(.agg #[(Fl r261), (Fl r263), (Fl r265)])]) cal17 (evs rfl) (c_spec_l01VFinite [(Fl r261), (Fl r263), (Fl r265)] (setV A_p 1 (cf .f32 r254)) _ ⟨r261, r263, r265, rfl, h262, h264, h266⟩)).mono ?_; rintro v u' ⟨hx, hv⟩
    exact ⟨fun _ => hv.trans (by simp only [hβ4]), hx⟩
  refine RW_d _ rfl (fun v => by dsimp only [List.set]; try rfl) (fun u hu hF => ?_) (fun v294 => ?_)
  · have h42_ : (!β3) = false → v293 = (Bo β4) := hF.1
    have h40_ : v291 = (Bo (!β3)) := hF.2.1
    clear hF
    obtain rfl := h40_
    refine doesG_g (b := (!β3)) rfl (yld rfl rfl) (fun hg1 => ?_) (fun hc => ⟨fun hg1 => absurd hg1 hc, Ext.refl _⟩)
    obtain rfl := h42_ hg1
    refine (does_not (ev rfl)).mono ?_; rintro _ _ ⟨rfl, rfl⟩
    exact ⟨fun _ => rfl, Ext.refl _⟩
  refine RW_d _ rfl (fun v => by dsimp only [List.set]; try rfl) (fun u hu hF => ?_) (fun v295 => ?_)
  · have h40_ : v291 = (Bo (!β3)) := hF.1
    have h43_ : (!β3) = false → v294 = (Bo (!β4)) := hF.2.1
    clear hF
    refine doesG_un rfl ?_
    skip
    obtain rfl := h40_
    refine (does_pick (b := (!β3)) (ev rfl) (ev rfl) (ev rfl)).mono ?_; rintro _ _ ⟨rfl, rfl⟩; refine ⟨?_, Ext.refl _⟩; skip
    cases hbb : (!β3)
    all_goals first | rfl | (have e_ := h43_ hbb; subst e_; rfl) | (simp [hbb] at h43_ ⊢; first | done | rfl | (subst h43_; rfl) | simp_all) | (simp [hbb] at h43_ ⊢; done)
  refine RW_fin ?_; intro w296 E297 hP298
  obtain ⟨⟨⟨⟨⟨⟨⟨⟨-, -⟩, -⟩, -⟩, -⟩, -⟩, -⟩, -⟩, q299⟩ := hP298
  have X300 := Ext.gr X285 E297
  have q299 : v295 = (Bo ((!β3) || (!β4))) := q299
  obtain rfl := q299
  show wpList _ _ _ _ (fr [_, _, _, _, _, _, _, _, _, _, _, _, _, _, _, _, _, _, _, _, _, _, _, _, _, _, _, _, _, _, _, _, _, _, _, _, _, _, _, _, _, _, _, _, _, _, _, _, _, _, _, _, _, _, _, _, _, _, _, _]) _
  refine wpList_nil (hK287 _ _ ?_)
  refine wp_cond_split (t := (!β3) || (!β4)) (ev rfl) (fun c301 => ?_) (fun c301 => ?_)
  · have c301' := c301
    (try simp only [hβ1, hβ2, hβ3, hβ4] at c301')
    (try simp only [icmp, Bool.and_eq_true, Bool.or_eq_true, Bool.and_eq_false_iff, Bool.or_eq_false_iff, Bool.not_eq_true', Bool.not_eq_false', decide_eq_true_eq, decide_eq_false_iff_not, beq_iff_eq, bne_iff_ne, beq_eq_false_iff_ne, bne_eq_false_iff_eq] at c301')
    have hfb := c301'
    simp only [h2, h4, h6, h8, h12, h14, h16, h84, h88, h95, h97, h99, h118, h125, h127, h129, hβ1, hβ2, h188, h190, h195, h202, h204, h206, h219, h223, h230, h232, h234, h255, h262, h264, h266, hβ3, hβ4, setV_0, setV_1, setV_2, pickV_0, pickV_1, pickV_2] at c301'
    have hsf : slpOk A_g A_p = false := by first | exact slpOk_0 c301' | exact slpOk_1 c301' | exact slpOk_2 c301'
    refine wp_seq_k fun K302 hK302 => ?_
    refine wp_region_lit ?_
    refine q_is rfl rfl (does_build (parts' := []) (cells := #[(Fl 0), (Fl 0), (Fl 0)]) (evp rfl) (by kernel_rfl)) (by dsimp only [List.set]; try rfl) ?_
    refine seqn rfl rfl (does_store (n := 3) (cs := [(Fl 0), (Fl 0), (Fl 0)]) (u := (.agg #[(Fl 0), (Fl 0), (Fl 0)])) (ev rfl) (ev rfl) Try.sizeOf31 rfl (((((((((((((((((((((((((((((hB38.ext E47).ext E64).wr W71 (Nat.ne_of_lt n68)).ext E81).ext E89).ext E92).ext E104).wr W112 (Nat.ne_of_lt n108)).ext E119).ext E122).ext E134).wr W143 (Nat.ne_of_lt n138)).ext E158).ext E174).ext E183).ext E191).ext E196).ext E199).wr W208 (Nat.ne_of_lt n68)).ext E216).ext E224).ext E227).ext E239).wr W249 (Nat.ne_of_lt n243)).ext E256).ext E259).ext E271).wr W282 (Nat.ne_of_lt n275)).ext E297) (Nat.le_of_ble_eq_true rfl) rfl) ?_; rintro _ w305 ⟨rfl, W303, hB304⟩
    change Blk _ _ [(Fl 0), (Fl 0), (Fl 0)] at hB304
    have X306 := Below.wr X300 W303 g43
    refine q_is rfl rfl (does_assign (u := (Bo false)) (ev rfl)) (by dsimp only [List.set]; try rfl) ?_
    refine wpList_nil (hK302 _ _ ?_)
    refine wp_ret ?_
    dsimp only [Exit.then, Exit.inBlock]
    refine ret_val (v := (.tuple #[(.agg #[(Fl 0), (Fl 0), (Fl 0)]), (Bo false)])) (res_CT rfl (slot rfl) (run_loadAgg (cs := [(Fl 0), (Fl 0), (Fl 0)]) Try.isAgg31 Try.sizeOf31 (Blk.cells hB304) rfl) (slot rfl)) X306 ?_
    try simp only [h2, h4, h6, h8, h12, h14, h16, h84, h88, h95, h97, h99, h118, h125, h127, h129, hβ1, hβ2, h188, h190, h195, h202, h204, h206, h219, h223, h230, h232, h234, h255, h262, h264, h266, hβ3, hβ4] at c50 c162 c301
    have x307 : (slpOk A_g A_p) = false := by first | exact hsf | (rw [slpV_f hsf] <;> rfl) | exact slpOk_t hgg hs0 hs1 hs2 | (rw [slpV_t (slpOk_t hgg hs0 hs1 hs2)]; simp only [h2, h4, h6, h8, h12, h14, h16, h84, h88, h95, h97, h99, h118, h125, h127, h129, hβ1, hβ2, h188, h190, h195, h202, h204, h206, h219, h223, h230, h232, h234, h255, h262, h264, h266, hβ3, hβ4, c50, c162, c301, setV_0, setV_1, setV_2, pickV_0, pickV_1, pickV_2]; rfl)
    have x308 : cf .f32 0 = (slpV A_g A_p).x := by first | exact hsf | (rw [slpV_f hsf] <;> rfl) | exact slpOk_t hgg hs0 hs1 hs2 | (rw [slpV_t (slpOk_t hgg hs0 hs1 hs2)]; simp only [h2, h4, h6, h8, h12, h14, h16, h84, h88, h95, h97, h99, h118, h125, h127, h129, hβ1, hβ2, h188, h190, h195, h202, h204, h206, h219, h223, h230, h232, h234, h255, h262, h264, h266, hβ3, hβ4, c50, c162, c301, setV_0, setV_1, setV_2, pickV_0, pickV_1, pickV_2]; rfl)
    have x309 : cf .f32 0 = (slpV A_g A_p).y := by first | exact hsf | (rw [slpV_f hsf] <;> rfl) | exact slpOk_t hgg hs0 hs1 hs2 | (rw [slpV_t (slpOk_t hgg hs0 hs1 hs2)]; simp only [h2, h4, h6, h8, h12, h14, h16, h84, h88, h95, h97, h99, h118, h125, h127, h129, hβ1, hβ2, h188, h190, h195, h202, h204, h206, h219, h223, h230, h232, h234, h255, h262, h264, h266, hβ3, hβ4, c50, c162, c301, setV_0, setV_1, setV_2, pickV_0, pickV_1, pickV_2]; rfl)
    have x310 : cf .f32 0 = (slpV A_g A_p).z := by first | exact hsf | (rw [slpV_f hsf] <;> rfl) | exact slpOk_t hgg hs0 hs1 hs2 | (rw [slpV_t (slpOk_t hgg hs0 hs1 hs2)]; simp only [h2, h4, h6, h8, h12, h14, h16, h84, h88, h95, h97, h99, h118, h125, h127, h129, hβ1, hβ2, h188, h190, h195, h202, h204, h206, h219, h223, h230, h232, h234, h255, h262, h264, h266, hβ3, hβ4, c50, c162, c301, setV_0, setV_1, setV_2, pickV_0, pickV_1, pickV_2]; rfl)
    exact ⟨[(Fl 0), (Fl 0), (Fl 0)], (by first | rfl | rw [x307]), ⟨0, 0, 0, rfl, x308, x309, x310⟩⟩
  have c301' := c301
  (try simp only [hβ1, hβ2, hβ3, hβ4] at c301')
  (try simp only [icmp, Bool.and_eq_true, Bool.or_eq_true, Bool.and_eq_false_iff, Bool.or_eq_false_iff, Bool.not_eq_true', Bool.not_eq_false', decide_eq_true_eq, decide_eq_false_iff_not, beq_iff_eq, bne_iff_ne, beq_eq_false_iff_ne, bne_eq_false_iff_eq] at c301')
  have hfb := c301'
  simp only [h2, h4, h6, h8, h12, h14, h16, h84, h88, h95, h97, h99, h118, h125, h127, h129, hβ1, hβ2, h188, h190, h195, h202, h204, h206, h219, h223, h230, h232, h234, h255, h262, h264, h266, hβ3, hβ4, setV_0, setV_1, setV_2, pickV_0, pickV_1, pickV_2] at c301'
  try (have hs0 : finV (hi0 A_g A_p) = true ∧ finV (lo0 A_g A_p) = true := c301')
  try (have hs1 : finV (hi1 A_g A_p) = true ∧ finV (lo1 A_g A_p) = true := c301')
  try (have hs2 : finV (hi2 A_g A_p) = true ∧ finV (lo2 A_g A_p) = true := c301')
  refine wp_skip (hK286 _ _ ?_)
  refine wp_seq_k fun K311 hK311 => ?_
  refine region_draw (
    [Fact.pure [] (fun v => v = (.agg #[(Fl r229), (Fl r231), (Fl r233)])),
    Fact.pure [46] (fun v => ∃ r_1 : Nat, v = (Fl r_1) ∧ cf .f32 r_1 = readG A_g (setV A_p 1 (cf .f32 r222))),
    Fact.pure [] (fun v => v = (.agg #[(Fl r261), (Fl r263), (Fl r265)])),
    Fact.pure [48] (fun v => ∃ r_1 : Nat, v = (Fl r_1) ∧ cf .f32 r_1 = readG A_g (setV A_p 1 (cf .f32 r254))),
    Fact.pure [47, 49] (fun v => ∃ r_1 : Nat, v = (Fl r_1) ∧ cf .f32 r_1 = fop .sub .f32 (readG A_g (setV A_p 1 (cf .f32 r222))) (readG A_g (setV A_p 1 (cf .f32 r254))))]) mixed (by kernel_rfl) (by intro _ _ d _ _ h; cases d <;> exact h) ?_
  obtain ⟨w312, hw314⟩ : ∃ w', w' = World.drew w296 := ⟨_, rfl⟩; rw [← hw314]; have E313 : Ext w296 w312 := by rw [hw314]; exact Ext.draw _
  clear hw314
  have X315 := Ext.gr X300 E313
  refine RW_d _ rfl (fun v => by dsimp only [List.set]; try rfl) (fun u hu hF => ?_) (fun v316 => ?_)
  · clear hF
    refine doesG_un rfl ?_
    refine (does_loadAgg (cs := [(Fl r229), (Fl r231), (Fl r233)]) (ev rfl) Try.isAgg31 Try.sizeOf31 (Blk.cells (((((((hB250.ext E256).ext E259).ext E271).wr W282 (Nat.ne_of_lt n279)).ext E297).ext E313).ext hu)) rfl).mono ?_; rintro _ _ ⟨rfl, rfl⟩
    exact ⟨rfl, Ext.refl _⟩
  refine RW_d _ rfl (fun v => by dsimp only [List.set]; try rfl) (fun u hu hF => ?_) (fun v317 => ?_)
  · have h46_ : v316 = (.agg #[(Fl r229), (Fl r231), (Fl r233)]) := hF.1
    clear hF
    refine doesG_un rfl ?_
    obtain rfl := h46_
    refine (does_call (args := #[(Pt b21 0), (.agg #[(Fl r229), (Fl r231), (Fl r233)])]) cal18 (evs rfl) (c_spec_l06Read b21 0 [(Fl r1), (Fl r3), (Fl r5), (Fl r7), (Iv A_g.x), (Iv A_g.y), (Iv A_g.z), (.slice p17 A_g.vals.length q18)] A_g [(Fl r229), (Fl r231), (Fl r233)] (setV A_p 1 (cf .f32 r222)) _ (Blk.cells (((((((((((((((((((((((((((((((((hB23.ext E31).ext E39).ext E47).ext E64).wr W71 (Nat.ne_of_lt n66)).ext E81).ext E89).ext E92).ext E104).wr W112 (Nat.ne_of_lt n106)).ext E119).ext E122).ext E134).wr W143 (Nat.ne_of_lt n136)).ext E158).ext E174).ext E183).ext E191).ext E196).ext E199).wr W208 (Nat.ne_of_lt n66)).ext E216).ext E224).ext E227).ext E239).wr W249 (Nat.ne_of_lt n241)).ext E256).ext E259).ext E271).wr W282 (Nat.ne_of_lt n273)).ext E297).ext E313).ext hu)) ⟨r1, r3, r5, r7, (.slice p17 A_g.vals.length q18), rfl, h2, h4, h6, h8, (Sl.ext (Sl.ext hs19 RF.mono (Ext.gr X300 E313)) RF.mono hu)⟩ ⟨r229, r231, r233, rfl, h230, h232, h234⟩ (by exact hgg) (by exact hfb.1))).mono ?_; rintro v u' ⟨hx, ⟨rn1, hv, k0⟩⟩
    exact ⟨⟨rn1, hv, (by simp only [k0])⟩, hx⟩
  refine RW_d _ rfl (fun v => by dsimp only [List.set]; try rfl) (fun u hu hF => ?_) (fun v318 => ?_)
  · clear hF
    refine doesG_un rfl ?_
    refine (does_loadAgg (cs := [(Fl r261), (Fl r263), (Fl r265)]) (ev rfl) Try.isAgg31 Try.sizeOf31 (Blk.cells (((hB283.ext E297).ext E313).ext hu)) rfl).mono ?_; rintro _ _ ⟨rfl, rfl⟩
    exact ⟨rfl, Ext.refl _⟩
  refine RW_d _ rfl (fun v => by dsimp only [List.set]; try rfl) (fun u hu hF => ?_) (fun v319 => ?_)
  · have h48_ : v318 = (.agg #[(Fl r261), (Fl r263), (Fl r265)]) := hF.1
    clear hF
    refine doesG_un rfl ?_
    obtain rfl := h48_
    refine (does_call (args := #[(Pt b21 0), (.agg #[(Fl r261), (Fl r263), (Fl r265)])]) cal18 (evs rfl) (c_spec_l06Read b21 0 [(Fl r1), (Fl r3), (Fl r5), (Fl r7), (Iv A_g.x), (Iv A_g.y), (Iv A_g.z), (.slice p17 A_g.vals.length q18)] A_g [(Fl r261), (Fl r263), (Fl r265)] (setV A_p 1 (cf .f32 r254)) _ (Blk.cells (((((((((((((((((((((((((((((((((hB23.ext E31).ext E39).ext E47).ext E64).wr W71 (Nat.ne_of_lt n66)).ext E81).ext E89).ext E92).ext E104).wr W112 (Nat.ne_of_lt n106)).ext E119).ext E122).ext E134).wr W143 (Nat.ne_of_lt n136)).ext E158).ext E174).ext E183).ext E191).ext E196).ext E199).wr W208 (Nat.ne_of_lt n66)).ext E216).ext E224).ext E227).ext E239).wr W249 (Nat.ne_of_lt n241)).ext E256).ext E259).ext E271).wr W282 (Nat.ne_of_lt n273)).ext E297).ext E313).ext hu)) ⟨r1, r3, r5, r7, (.slice p17 A_g.vals.length q18), rfl, h2, h4, h6, h8, (Sl.ext (Sl.ext hs19 RF.mono (Ext.gr X300 E313)) RF.mono hu)⟩ ⟨r261, r263, r265, rfl, h262, h264, h266⟩ (by exact hgg) (by exact hfb.2))).mono ?_; rintro v u' ⟨hx, ⟨rn1, hv, k0⟩⟩
    exact ⟨⟨rn1, hv, (by simp only [k0])⟩, hx⟩
  refine RW_d _ rfl (fun v => by dsimp only [List.set]; try rfl) (fun u hu hF => ?_) (fun v320 => ?_)
  · have h47_ : ∃ r_1 : Nat, v317 = (Fl r_1) ∧ cf .f32 r_1 = readG A_g (setV A_p 1 (cf .f32 r222)) := hF.1
    have h49_ : ∃ r_1 : Nat, v319 = (Fl r_1) ∧ cf .f32 r_1 = readG A_g (setV A_p 1 (cf .f32 r254)) := hF.2.1
    clear hF
    refine doesG_un rfl ?_
    obtain ⟨r47_1, rfl, h47_2⟩ := h47_
    obtain ⟨r49_1, rfl, h49_2⟩ := h49_
    refine (does_float (.inr (.inl rfl)) (ev rfl) (ev rfl)).mono ?_; rintro _ _ ⟨r, rfl, hr, hx⟩
    exact ⟨⟨r, rfl, (by simp only [hr, h47_2, h49_2])⟩, hx⟩
  refine RW_fin ?_; intro w321 E322 hP323
  obtain ⟨⟨⟨⟨⟨-, -⟩, -⟩, -⟩, -⟩, q324⟩ := hP323
  have X325 := Ext.gr X315 E322
  have q324 : ∃ r_1 : Nat, v320 = (Fl r_1) ∧ cf .f32 r_1 = fop .sub .f32 (readG A_g (setV A_p 1 (cf .f32 r222))) (readG A_g (setV A_p 1 (cf .f32 r254))) := q324
  obtain ⟨r326, rfl, h327⟩ := q324
  show wpList _ _ _ _ (fr [_, _, _, _, _, _, _, _, _, _, _, _, _, _, _, _, _, _, _, _, _, _, _, _, _, _, _, _, _, _, _, _, _, _, _, _, _, _, _, _, _, _, _, _, _, _, _, _, _, _, _, _, _, _, _, _, _, _, _, _]) _
  refine q_is rfl rfl (does_assign (u := (Fl r326)) (ev rfl)) (by dsimp only [List.set]; try rfl) ?_
  refine wpList_nil (hK311 _ _ ?_)
  refine wp_region_lit ?_
  refine q_is rfl rfl (does_loadAgg (cs := [(Fl r201), (Fl r203), (Fl r205)]) (ev rfl) Try.isAgg31 Try.sizeOf31 (Blk.cells ((((((((((((hB209.ext E216).ext E224).ext E227).ext E239).wr W249 (Nat.ne_of_lt n246)).ext E256).ext E259).ext E271).wr W282 (Nat.ne_of_lt n278)).ext E297).ext E313).ext E322)) rfl) (by dsimp only [List.set]; try rfl) ?_
  refine q_is rfl rfl (does_move (u := (Iv 1)) (ev rfl)) (by dsimp only [List.set]; try rfl) ?_
  refine q_is rfl rfl (does_move (u := (Fl r326)) (ev rfl)) (by dsimp only [List.set]; try rfl) ?_
  refine q_is rfl rfl (does_fieldAddr (ev rfl) fa33_1) (by dsimp only [List.set]; try rfl) ?_
  refine q_is rfl rfl (does_load (u := (Fl r7)) (ev rfl) Try.isAgg22 (Cells.at (Blk.cells (((((((((((((((((((((((((((((((((hB23.ext E31).ext E39).ext E47).ext E64).wr W71 (Nat.ne_of_lt n66)).ext E81).ext E89).ext E92).ext E104).wr W112 (Nat.ne_of_lt n106)).ext E119).ext E122).ext E134).wr W143 (Nat.ne_of_lt n136)).ext E158).ext E174).ext E183).ext E191).ext E196).ext E199).wr W208 (Nat.ne_of_lt n66)).ext E216).ext E224).ext E227).ext E239).wr W249 (Nat.ne_of_lt n241)).ext E256).ext E259).ext E271).wr W282 (Nat.ne_of_lt n273)).ext E297).ext E313).ext E322)) 3 rfl)) (by dsimp only [List.set]; try rfl) ?_
  refine seqd rfl rfl (does_float (.inr (.inr (.inl rfl))) (ev rfl) (ev rfl)) ?_; rintro _ w331 ⟨r328, rfl, h329, E330⟩
  have X332 := Ext.gr X325 E330
  show wpList _ _ _ _ (fr [_, _, _, _, _, _, _, _, _, _, _, _, _, _, _, _, _, _, _, _, _, _, _, _, _, _, _, _, _, _, _, _, _, _, _, _, _, _, _, _, _, _, _, _, _, _, _, _, _, _, _, _, _, _, _, _, _, _, _, _]) _
  refine seqd rfl rfl (does_float (.inr (.inr (.inr rfl))) (ev rfl) (ev rfl)) ?_; rintro _ w336 ⟨r333, rfl, h334, E335⟩
  have X337 := Ext.gr X332 E335
  show wpList _ _ _ _ (fr [_, _, _, _, _, _, _, _, _, _, _, _, _, _, _, _, _, _, _, _, _, _, _, _, _, _, _, _, _, _, _, _, _, _, _, _, _, _, _, _, _, _, _, _, _, _, _, _, _, _, _, _, _, _, _, _, _, _, _, _]) _
  refine seqd rfl rfl (does_call (args := #[(.agg #[(Fl r201), (Fl r203), (Fl r205)]), (Iv 1), (Fl r333)]) cal25 (evs rfl) (c_spec_l02Set [(Fl r201), (Fl r203), (Fl r205)] (setV (V3.mk (cf .f32 0) (cf .f32 0) (cf .f32 0)) 0 (cf .f32 r194)) 1 r333 _ ⟨r201, r203, r205, rfl, h202, h204, h206⟩)) ?_; rintro _ w339 ⟨E338, ⟨_, rfl, ⟨r340, r342, r344, rfl, h341, h343, h345⟩⟩⟩
  have X346 := Ext.gr X337 E338
  show wpList _ _ _ _ (fr [_, _, _, _, _, _, _, _, _, _, _, _, _, _, _, _, _, _, _, _, _, _, _, _, _, _, _, _, _, _, _, _, _, _, _, _, _, _, _, _, _, _, _, _, _, _, _, _, _, _, _, _, _, _, _, _, _, _, _, _]) _
  refine seqn rfl rfl (does_store (n := 3) (cs := [(Fl r201), (Fl r203), (Fl r205)]) (u := (.agg #[(Fl r340), (Fl r342), (Fl r344)])) (ev rfl) (ev rfl) Try.sizeOf31 rfl (((((((((((((((hB209.ext E216).ext E224).ext E227).ext E239).wr W249 (Nat.ne_of_lt n246)).ext E256).ext E259).ext E271).wr W282 (Nat.ne_of_lt n278)).ext E297).ext E313).ext E322).ext E330).ext E335).ext E338) (Nat.le_of_ble_eq_true rfl) rfl) ?_; rintro _ w349 ⟨rfl, W347, hB348⟩
  change Blk _ _ [(Fl r340), (Fl r342), (Fl r344)] at hB348
  have X350 := Below.wr X346 W347 g69
  refine wpList_nil (hK214 _ _ ?_)
  refine wp_region_lit ?_
  refine q_is rfl rfl (does_move (u := (Iv 1)) (ev rfl)) (by dsimp only [List.set]; try rfl) ?_
  refine q_is rfl rfl (does_iarith (p := 1) (q := 1) (r := (2)) (ev rfl) (ev rfl) (.inl ⟨rfl, rfl⟩)) (by dsimp only [List.set]; try rfl) ?_
  refine q_is rfl rfl (does_assign (u := (Iv 2)) (ev rfl)) (by dsimp only [List.set]; try rfl) ?_
  refine wpList_nil ?_
  refine un_step ?_
  refine wp_seq_k fun K351 hK351 => ?_
  refine wp_seq_k fun K352 hK352 => ?_
  refine wp_region_lit ?_
  refine q_is rfl rfl (does_move (u := (Iv 2)) (ev rfl)) (by dsimp only [List.set]; try rfl) ?_
  refine q_is rfl rfl (does_icmp (p := 2) (q := 3) (.inr (.inr (.inl rfl))) (ev rfl) (ev rfl)) (by dsimp only [List.set]; try rfl) ?_
  refine wpList_nil (hK352 _ _ ?_)
  refine wp_cond_true (ev rfl) ?_
  refine wp_skip (hK351 _ _ ?_)
  refine wp_seq_k fun K353 hK353 => ?_
  refine wp_block ?_
  refine wp_seq_k fun K354 hK354 => ?_
  refine wp_region_lit ?_
  refine q_is rfl rfl (does_loadAgg (cs := [(Fl r11), (Fl r13), (Fl r15)]) (ev rfl) Try.isAgg31 Try.sizeOf31 (Blk.cells ((((((((((((((((((((((((((((((((((((hB30.ext E39).ext E47).ext E64).wr W71 (Nat.ne_of_lt n67)).ext E81).ext E89).ext E92).ext E104).wr W112 (Nat.ne_of_lt n107)).ext E119).ext E122).ext E134).wr W143 (Nat.ne_of_lt n137)).ext E158).ext E174).ext E183).ext E191).ext E196).ext E199).wr W208 (Nat.ne_of_lt n67)).ext E216).ext E224).ext E227).ext E239).wr W249 (Nat.ne_of_lt n242)).ext E256).ext E259).ext E271).wr W282 (Nat.ne_of_lt n274)).ext E297).ext E313).ext E322).ext E330).ext E335).ext E338).wr W347 (Nat.ne_of_lt n67))) rfl) (by dsimp only [List.set]; try rfl) ?_
  refine q_is rfl rfl (does_move (u := (Iv 2)) (ev rfl)) (by dsimp only [List.set]; try rfl) ?_
  refine seqd rfl rfl (does_call (args := #[(.agg #[(Fl r11), (Fl r13), (Fl r15)]), (Iv 2)]) cal24 (evs rfl) (c_spec_l02Pick [(Fl r11), (Fl r13), (Fl r15)] A_p 2 _ ⟨r11, r13, r15, rfl, h12, h14, h16⟩)) ?_; rintro _ w356 ⟨E355, ⟨r357, rfl, h358⟩⟩
  have X359 := Ext.gr X350 E355
  show wpList _ _ _ _ (fr [_, _, _, _, _, _, _, _, _, _, _, _, _, _, _, _, _, _, _, _, _, _, _, _, _, _, _, _, _, _, _, _, _, _, _, _, _, _, _, _, _, _, _, _, _, _, _, _, _, _, _, _, _, _, _, _, _, _, _, _]) _
  refine q_is rfl rfl (does_assign (u := (Fl r357)) (ev rfl)) (by dsimp only [List.set]; try rfl) ?_
  refine wpList_nil (hK354 _ _ ?_)
  refine wp_seq_k fun K360 hK360 => ?_
  refine wp_region_lit ?_
  refine q_is rfl rfl (does_loadAgg (cs := [(Fl r11), (Fl r13), (Fl r15)]) (ev rfl) Try.isAgg31 Try.sizeOf31 (Blk.cells (((((((((((((((((((((((((((((((((((((hB30.ext E39).ext E47).ext E64).wr W71 (Nat.ne_of_lt n67)).ext E81).ext E89).ext E92).ext E104).wr W112 (Nat.ne_of_lt n107)).ext E119).ext E122).ext E134).wr W143 (Nat.ne_of_lt n137)).ext E158).ext E174).ext E183).ext E191).ext E196).ext E199).wr W208 (Nat.ne_of_lt n67)).ext E216).ext E224).ext E227).ext E239).wr W249 (Nat.ne_of_lt n242)).ext E256).ext E259).ext E271).wr W282 (Nat.ne_of_lt n274)).ext E297).ext E313).ext E322).ext E330).ext E335).ext E338).wr W347 (Nat.ne_of_lt n67)).ext E355)) rfl) (by dsimp only [List.set]; try rfl) ?_
  refine q_is rfl rfl (does_move (u := (Iv 2)) (ev rfl)) (by dsimp only [List.set]; try rfl) ?_
  refine q_is rfl rfl (does_move (u := (Fl r357)) (ev rfl)) (by dsimp only [List.set]; try rfl) ?_
  refine q_is rfl rfl (does_fieldAddr (ev rfl) fa33_1) (by dsimp only [List.set]; try rfl) ?_
  refine q_is rfl rfl (does_load (u := (Fl r7)) (ev rfl) Try.isAgg22 (Cells.at (Blk.cells ((((((((((((((((((((((((((((((((((((((hB23.ext E31).ext E39).ext E47).ext E64).wr W71 (Nat.ne_of_lt n66)).ext E81).ext E89).ext E92).ext E104).wr W112 (Nat.ne_of_lt n106)).ext E119).ext E122).ext E134).wr W143 (Nat.ne_of_lt n136)).ext E158).ext E174).ext E183).ext E191).ext E196).ext E199).wr W208 (Nat.ne_of_lt n66)).ext E216).ext E224).ext E227).ext E239).wr W249 (Nat.ne_of_lt n241)).ext E256).ext E259).ext E271).wr W282 (Nat.ne_of_lt n273)).ext E297).ext E313).ext E322).ext E330).ext E335).ext E338).wr W347 (Nat.ne_of_lt n66)).ext E355)) 3 rfl)) (by dsimp only [List.set]; try rfl) ?_
  refine seqd rfl rfl (does_float (.inl rfl) (ev rfl) (ev rfl)) ?_; rintro _ w364 ⟨r361, rfl, h362, E363⟩
  have X365 := Ext.gr X359 E363
  show wpList _ _ _ _ (fr [_, _, _, _, _, _, _, _, _, _, _, _, _, _, _, _, _, _, _, _, _, _, _, _, _, _, _, _, _, _, _, _, _, _, _, _, _, _, _, _, _, _, _, _, _, _, _, _, _, _, _, _, _, _, _, _, _, _, _, _]) _
  refine seqd rfl rfl (does_call (args := #[(.agg #[(Fl r11), (Fl r13), (Fl r15)]), (Iv 2), (Fl r361)]) cal25 (evs rfl) (c_spec_l02Set [(Fl r11), (Fl r13), (Fl r15)] A_p 2 r361 _ ⟨r11, r13, r15, rfl, h12, h14, h16⟩)) ?_; rintro _ w367 ⟨E366, ⟨_, rfl, ⟨r368, r370, r372, rfl, h369, h371, h373⟩⟩⟩
  have X374 := Ext.gr X365 E366
  show wpList _ _ _ _ (fr [_, _, _, _, _, _, _, _, _, _, _, _, _, _, _, _, _, _, _, _, _, _, _, _, _, _, _, _, _, _, _, _, _, _, _, _, _, _, _, _, _, _, _, _, _, _, _, _, _, _, _, _, _, _, _, _, _, _, _, _]) _
  refine seqd rfl rfl (does_alloc z31) ?_; rintro _ w379 ⟨b375, rfl, hb376, hB377, E378⟩
  have n380 : b21 < b375 := Nat.lt_of_lt_of_le (Blk.lt ((((((((((((((((((((((((((((((((((((((((hB23.ext E31).ext E39).ext E47).ext E64).wr W71 (Nat.ne_of_lt n66)).ext E81).ext E89).ext E92).ext E104).wr W112 (Nat.ne_of_lt n106)).ext E119).ext E122).ext E134).wr W143 (Nat.ne_of_lt n136)).ext E158).ext E174).ext E183).ext E191).ext E196).ext E199).wr W208 (Nat.ne_of_lt n66)).ext E216).ext E224).ext E227).ext E239).wr W249 (Nat.ne_of_lt n241)).ext E256).ext E259).ext E271).wr W282 (Nat.ne_of_lt n273)).ext E297).ext E313).ext E322).ext E330).ext E335).ext E338).wr W347 (Nat.ne_of_lt n66)).ext E355).ext E363).ext E366)) hb376
  have n381 : b28 < b375 := Nat.lt_of_lt_of_le (Blk.lt (((((((((((((((((((((((((((((((((((((((hB30.ext E39).ext E47).ext E64).wr W71 (Nat.ne_of_lt n67)).ext E81).ext E89).ext E92).ext E104).wr W112 (Nat.ne_of_lt n107)).ext E119).ext E122).ext E134).wr W143 (Nat.ne_of_lt n137)).ext E158).ext E174).ext E183).ext E191).ext E196).ext E199).wr W208 (Nat.ne_of_lt n67)).ext E216).ext E224).ext E227).ext E239).wr W249 (Nat.ne_of_lt n242)).ext E256).ext E259).ext E271).wr W282 (Nat.ne_of_lt n274)).ext E297).ext E313).ext E322).ext E330).ext E335).ext E338).wr W347 (Nat.ne_of_lt n67)).ext E355).ext E363).ext E366)) hb376
  have n382 : b36 < b375 := Nat.lt_of_lt_of_le (Blk.lt ((((((((((((((((((((((((((((((((((((((hB38.ext E47).ext E64).wr W71 (Nat.ne_of_lt n68)).ext E81).ext E89).ext E92).ext E104).wr W112 (Nat.ne_of_lt n108)).ext E119).ext E122).ext E134).wr W143 (Nat.ne_of_lt n138)).ext E158).ext E174).ext E183).ext E191).ext E196).ext E199).wr W208 (Nat.ne_of_lt n68)).ext E216).ext E224).ext E227).ext E239).wr W249 (Nat.ne_of_lt n243)).ext E256).ext E259).ext E271).wr W282 (Nat.ne_of_lt n275)).ext E297).ext E313).ext E322).ext E330).ext E335).ext E338).wr W347 (Nat.ne_of_lt n68)).ext E355).ext E363).ext E366)) hb376
  have n383 : b101 < b375 := Nat.lt_of_lt_of_le (Blk.lt ((((((((((((((((((((((((((((((hB113.ext E119).ext E122).ext E134).wr W143 (Nat.ne_of_lt n140)).ext E158).ext E174).ext E183).ext E191).ext E196).ext E199).wr W208 (Nat.ne_of_gt n109)).ext E216).ext E224).ext E227).ext E239).wr W249 (Nat.ne_of_lt n244)).ext E256).ext E259).ext E271).wr W282 (Nat.ne_of_lt n276)).ext E297).ext E313).ext E322).ext E330).ext E335).ext E338).wr W347 (Nat.ne_of_gt n109)).ext E355).ext E363).ext E366)) hb376
  have n384 : b131 < b375 := Nat.lt_of_lt_of_le (Blk.lt ((((((((((((((((((((((((((hB144.ext E158).ext E174).ext E183).ext E191).ext E196).ext E199).wr W208 (Nat.ne_of_gt n139)).ext E216).ext E224).ext E227).ext E239).wr W249 (Nat.ne_of_lt n245)).ext E256).ext E259).ext E271).wr W282 (Nat.ne_of_lt n277)).ext E297).ext E313).ext E322).ext E330).ext E335).ext E338).wr W347 (Nat.ne_of_gt n139)).ext E355).ext E363).ext E366)) hb376
  have n385 : b236 < b375 := Nat.lt_of_lt_of_le (Blk.lt ((((((((((((((hB250.ext E256).ext E259).ext E271).wr W282 (Nat.ne_of_lt n279)).ext E297).ext E313).ext E322).ext E330).ext E335).ext E338).wr W347 (Nat.ne_of_gt n246)).ext E355).ext E363).ext E366)) hb376
  have n386 : b268 < b375 := Nat.lt_of_lt_of_le (Blk.lt ((((((((((hB283.ext E297).ext E313).ext E322).ext E330).ext E335).ext E338).wr W347 (Nat.ne_of_gt n278)).ext E355).ext E363).ext E366)) hb376
  have n387 : b61 < b375 := Nat.lt_of_lt_of_le (Blk.lt (((hB348.ext E355).ext E363).ext E366)) hb376
  have g388 : w.heap.size ≤ b375 := Nat.le_trans (Below.size X374) hb376
  change Blk _ _ [(Fl 0), (Fl 0), (Fl 0)] at hB377
  have X389 := Ext.gr X374 E378
  show wpList _ _ _ _ (fr [_, _, _, _, _, _, _, _, _, _, _, _, _, _, _, _, _, _, _, _, _, _, _, _, _, _, _, _, _, _, _, _, _, _, _, _, _, _, _, _, _, _, _, _, _, _, _, _, _, _, _, _, _, _, _, _, _, _, _, _]) _
  refine seqn rfl rfl (does_store (n := 3) (cs := [(Fl 0), (Fl 0), (Fl 0)]) (u := (.agg #[(Fl r368), (Fl r370), (Fl r372)])) (ev rfl) (ev rfl) Try.sizeOf31 rfl hB377 (Nat.le_of_ble_eq_true rfl) rfl) ?_; rintro _ w392 ⟨rfl, W390, hB391⟩
  change Blk _ _ [(Fl r368), (Fl r370), (Fl r372)] at hB391
  have X393 := Below.wr X389 W390 g388
  refine wpList_nil (hK360 _ _ ?_)
  refine wp_seq_k fun K394 hK394 => ?_
  refine wp_region_lit ?_
  refine q_is rfl rfl (does_loadAgg (cs := [(Fl r11), (Fl r13), (Fl r15)]) (ev rfl) Try.isAgg31 Try.sizeOf31 (Blk.cells (((((((((((((((((((((((((((((((((((((((((hB30.ext E39).ext E47).ext E64).wr W71 (Nat.ne_of_lt n67)).ext E81).ext E89).ext E92).ext E104).wr W112 (Nat.ne_of_lt n107)).ext E119).ext E122).ext E134).wr W143 (Nat.ne_of_lt n137)).ext E158).ext E174).ext E183).ext E191).ext E196).ext E199).wr W208 (Nat.ne_of_lt n67)).ext E216).ext E224).ext E227).ext E239).wr W249 (Nat.ne_of_lt n242)).ext E256).ext E259).ext E271).wr W282 (Nat.ne_of_lt n274)).ext E297).ext E313).ext E322).ext E330).ext E335).ext E338).wr W347 (Nat.ne_of_lt n67)).ext E355).ext E363).ext E366).ext E378).wr W390 (Nat.ne_of_lt n381))) rfl) (by dsimp only [List.set]; try rfl) ?_
  refine q_is rfl rfl (does_move (u := (Iv 2)) (ev rfl)) (by dsimp only [List.set]; try rfl) ?_
  refine q_is rfl rfl (does_move (u := (Fl r357)) (ev rfl)) (by dsimp only [List.set]; try rfl) ?_
  refine q_is rfl rfl (does_fieldAddr (ev rfl) fa33_1) (by dsimp only [List.set]; try rfl) ?_
  refine q_is rfl rfl (does_load (u := (Fl r7)) (ev rfl) Try.isAgg22 (Cells.at (Blk.cells ((((((((((((((((((((((((((((((((((((((((((hB23.ext E31).ext E39).ext E47).ext E64).wr W71 (Nat.ne_of_lt n66)).ext E81).ext E89).ext E92).ext E104).wr W112 (Nat.ne_of_lt n106)).ext E119).ext E122).ext E134).wr W143 (Nat.ne_of_lt n136)).ext E158).ext E174).ext E183).ext E191).ext E196).ext E199).wr W208 (Nat.ne_of_lt n66)).ext E216).ext E224).ext E227).ext E239).wr W249 (Nat.ne_of_lt n241)).ext E256).ext E259).ext E271).wr W282 (Nat.ne_of_lt n273)).ext E297).ext E313).ext E322).ext E330).ext E335).ext E338).wr W347 (Nat.ne_of_lt n66)).ext E355).ext E363).ext E366).ext E378).wr W390 (Nat.ne_of_lt n380))) 3 rfl)) (by dsimp only [List.set]; try rfl) ?_
  refine seqd rfl rfl (does_float (.inr (.inl rfl)) (ev rfl) (ev rfl)) ?_; rintro _ w398 ⟨r395, rfl, h396, E397⟩
  have X399 := Ext.gr X393 E397
  show wpList _ _ _ _ (fr [_, _, _, _, _, _, _, _, _, _, _, _, _, _, _, _, _, _, _, _, _, _, _, _, _, _, _, _, _, _, _, _, _, _, _, _, _, _, _, _, _, _, _, _, _, _, _, _, _, _, _, _, _, _, _, _, _, _, _, _]) _
  refine seqd rfl rfl (does_call (args := #[(.agg #[(Fl r11), (Fl r13), (Fl r15)]), (Iv 2), (Fl r395)]) cal25 (evs rfl) (c_spec_l02Set [(Fl r11), (Fl r13), (Fl r15)] A_p 2 r395 _ ⟨r11, r13, r15, rfl, h12, h14, h16⟩)) ?_; rintro _ w401 ⟨E400, ⟨_, rfl, ⟨r402, r404, r406, rfl, h403, h405, h407⟩⟩⟩
  have X408 := Ext.gr X399 E400
  show wpList _ _ _ _ (fr [_, _, _, _, _, _, _, _, _, _, _, _, _, _, _, _, _, _, _, _, _, _, _, _, _, _, _, _, _, _, _, _, _, _, _, _, _, _, _, _, _, _, _, _, _, _, _, _, _, _, _, _, _, _, _, _, _, _, _, _]) _
  refine seqd rfl rfl (does_alloc z31) ?_; rintro _ w413 ⟨b409, rfl, hb410, hB411, E412⟩
  have n414 : b21 < b409 := Nat.lt_of_lt_of_le (Blk.lt ((((((((((((((((((((((((((((((((((((((((((((hB23.ext E31).ext E39).ext E47).ext E64).wr W71 (Nat.ne_of_lt n66)).ext E81).ext E89).ext E92).ext E104).wr W112 (Nat.ne_of_lt n106)).ext E119).ext E122).ext E134).wr W143 (Nat.ne_of_lt n136)).ext E158).ext E174).ext E183).ext E191).ext E196).ext E199).wr W208 (Nat.ne_of_lt n66)).ext E216).ext E224).ext E227).ext E239).wr W249 (Nat.ne_of_lt n241)).ext E256).ext E259).ext E271).wr W282 (Nat.ne_of_lt n273)).ext E297).ext E313).ext E322).ext E330).ext E335).ext E338).wr W347 (Nat.ne_of_lt n66)).ext E355).ext E363).ext E366).ext E378).wr W390 (Nat.ne_of_lt n380)).ext E397).ext E400)) hb410
  have n415 : b28 < b409 := Nat.lt_of_lt_of_le (Blk.lt (((((((((((((((((((((((((((((((((((((((((((hB30.ext E39).ext E47).ext E64).wr W71 (Nat.ne_of_lt n67)).ext E81).ext E89).ext E92).ext E104).wr W112 (Nat.ne_of_lt n107)).ext E119).ext E122).ext E134).wr W143 (Nat.ne_of_lt n137)).ext E158).ext E174).ext E183).ext E191).ext E196).ext E199).wr W208 (Nat.ne_of_lt n67)).ext E216).ext E224).ext E227).ext E239).wr W249 (Nat.ne_of_lt n242)).ext E256).ext E259).ext E271).wr W282 (Nat.ne_of_lt n274)).ext E297).ext E313).ext E322).ext E330).ext E335).ext E338).wr W347 (Nat.ne_of_lt n67)).ext E355).ext E363).ext E366).ext E378).wr W390 (Nat.ne_of_lt n381)).ext E397).ext E400)) hb410
  have n416 : b36 < b409 := Nat.lt_of_lt_of_le (Blk.lt ((((((((((((((((((((((((((((((((((((((((((hB38.ext E47).ext E64).wr W71 (Nat.ne_of_lt n68)).ext E81).ext E89).ext E92).ext E104).wr W112 (Nat.ne_of_lt n108)).ext E119).ext E122).ext E134).wr W143 (Nat.ne_of_lt n138)).ext E158).ext E174).ext E183).ext E191).ext E196).ext E199).wr W208 (Nat.ne_of_lt n68)).ext E216).ext E224).ext E227).ext E239).wr W249 (Nat.ne_of_lt n243)).ext E256).ext E259).ext E271).wr W282 (Nat.ne_of_lt n275)).ext E297).ext E313).ext E322).ext E330).ext E335).ext E338).wr W347 (Nat.ne_of_lt n68)).ext E355).ext E363).ext E366).ext E378).wr W390 (Nat.ne_of_lt n382)).ext E397).ext E400)) hb410
  have n417 : b101 < b409 := Nat.lt_of_lt_of_le (Blk.lt ((((((((((((((((((((((((((((((((((hB113.ext E119).ext E122).ext E134).wr W143 (Nat.ne_of_lt n140)).ext E158).ext E174).ext E183).ext E191).ext E196).ext E199).wr W208 (Nat.ne_of_gt n109)).ext E216).ext E224).ext E227).ext E239).wr W249 (Nat.ne_of_lt n244)).ext E256).ext E259).ext E271).wr W282 (Nat.ne_of_lt n276)).ext E297).ext E313).ext E322).ext E330).ext E335).ext E338).wr W347 (Nat.ne_of_gt n109)).ext E355).ext E363).ext E366).ext E378).wr W390 (Nat.ne_of_lt n383)).ext E397).ext E400)) hb410
  have n418 : b131 < b409 := Nat.lt_of_lt_of_le (Blk.lt ((((((((((((((((((((((((((((((hB144.ext E158).ext E174).ext E183).ext E191).ext E196).ext E199).wr W208 (Nat.ne_of_gt n139)).ext E216).ext E224).ext E227).ext E239).wr W249 (Nat.ne_of_lt n245)).ext E256).ext E259).ext E271).wr W282 (Nat.ne_of_lt n277)).ext E297).ext E313).ext E322).ext E330).ext E335).ext E338).wr W347 (Nat.ne_of_gt n139)).ext E355).ext E363).ext E366).ext E378).wr W390 (Nat.ne_of_lt n384)).ext E397).ext E400)) hb410
  have n419 : b236 < b409 := Nat.lt_of_lt_of_le (Blk.lt ((((((((((((((((((hB250.ext E256).ext E259).ext E271).wr W282 (Nat.ne_of_lt n279)).ext E297).ext E313).ext E322).ext E330).ext E335).ext E338).wr W347 (Nat.ne_of_gt n246)).ext E355).ext E363).ext E366).ext E378).wr W390 (Nat.ne_of_lt n385)).ext E397).ext E400)) hb410
  have n420 : b268 < b409 := Nat.lt_of_lt_of_le (Blk.lt ((((((((((((((hB283.ext E297).ext E313).ext E322).ext E330).ext E335).ext E338).wr W347 (Nat.ne_of_gt n278)).ext E355).ext E363).ext E366).ext E378).wr W390 (Nat.ne_of_lt n386)).ext E397).ext E400)) hb410
  have n421 : b61 < b409 := Nat.lt_of_lt_of_le (Blk.lt (((((((hB348.ext E355).ext E363).ext E366).ext E378).wr W390 (Nat.ne_of_lt n387)).ext E397).ext E400)) hb410
  have n422 : b375 < b409 := Nat.lt_of_lt_of_le (Blk.lt ((hB391.ext E397).ext E400)) hb410
  have g423 : w.heap.size ≤ b409 := Nat.le_trans (Below.size X408) hb410
  change Blk _ _ [(Fl 0), (Fl 0), (Fl 0)] at hB411
  have X424 := Ext.gr X408 E412
  show wpList _ _ _ _ (fr [_, _, _, _, _, _, _, _, _, _, _, _, _, _, _, _, _, _, _, _, _, _, _, _, _, _, _, _, _, _, _, _, _, _, _, _, _, _, _, _, _, _, _, _, _, _, _, _, _, _, _, _, _, _, _, _, _, _, _, _]) _
  refine seqn rfl rfl (does_store (n := 3) (cs := [(Fl 0), (Fl 0), (Fl 0)]) (u := (.agg #[(Fl r402), (Fl r404), (Fl r406)])) (ev rfl) (ev rfl) Try.sizeOf31 rfl hB411 (Nat.le_of_ble_eq_true rfl) rfl) ?_; rintro _ w427 ⟨rfl, W425, hB426⟩
  change Blk _ _ [(Fl r402), (Fl r404), (Fl r406)] at hB426
  have X428 := Below.wr X424 W425 g423
  refine wpList_nil (hK394 _ _ ?_)
  refine wp_seq_k fun K429 hK429 => ?_
  refine wp_seq_k fun K430 hK430 => ?_
  obtain ⟨β5, hβ5⟩ : ∃ b : Bool, b = (finV (setV A_p 2 (cf .f32 r361))) := ⟨_, rfl⟩
  obtain ⟨β6, hβ6⟩ : ∃ b : Bool, b = (finV (setV A_p 2 (cf .f32 r395))) := ⟨_, rfl⟩
  refine region_text (
    [Fact.pure [] (fun v => v = (.agg #[(Fl r368), (Fl r370), (Fl r372)])),
    Fact.pure [37] (fun v => v = (Bo β5)),
    Fact.pure [38] (fun v => v = (Bo (!β5))),
    Fact.pure [39] (fun v => v = (Bo (!β5))),
    Fact.pure [40] (fun v => (!β5) = false → v = (.agg #[(Fl r402), (Fl r404), (Fl r406)])),
    Fact.pure [41, 40] (fun v => (!β5) = false → v = (Bo β6)),
    Fact.pure [42, 40] (fun v => (!β5) = false → v = (Bo (!β6))),
    Fact.pure [40, 43] (fun v => v = (Bo ((!β5) || (!β6))))]) (by simp [Fact.pure, Fact.mem]) ?_
  refine RW_d _ rfl (fun v => by dsimp only [List.set]; try rfl) (fun u hu hF => ?_) (fun v431 => ?_)
  · clear hF
    refine doesG_un rfl ?_
    refine (does_loadAgg (cs := [(Fl r368), (Fl r370), (Fl r372)]) (ev rfl) Try.isAgg31 Try.sizeOf31 (Blk.cells (((((hB391.ext E397).ext E400).ext E412).wr W425 (Nat.ne_of_lt n422)).ext hu)) rfl).mono ?_; rintro _ _ ⟨rfl, rfl⟩
    exact ⟨rfl, Ext.refl _⟩
  refine RW_d _ rfl (fun v => by dsimp only [List.set]; try rfl) (fun u hu hF => ?_) (fun v432 => ?_)
  · have h37_ : v431 = (.agg #[(Fl r368), (Fl r370), (Fl r372)]) := hF.1
    clear hF
    refine doesG_un rfl ?_
    obtain rfl := h37_
    refine (does_call (args := #[(.agg #[(Fl r368), (Fl r370), (Fl r372)])]) cal17 (evs rfl) (c_spec_l01VFinite [(Fl r368), (Fl r370), (Fl r372)] (setV A_p 2 (cf .f32 r361)) _ ⟨r368, r370, r372, rfl, h369, h371, h373⟩)).mono ?_; rintro v u' ⟨hx, hv⟩
    exact ⟨hv.trans (by simp only [hβ5]), hx⟩
  refine RW_d _ rfl (fun v => by dsimp only [List.set]; try rfl) (fun u hu hF => ?_) (fun v433 => ?_)
  · have h38_ : v432 = (Bo β5) := hF.1
    clear hF
    refine doesG_un rfl ?_
    obtain rfl := h38_
    refine (does_not (ev rfl)).mono ?_; rintro _ _ ⟨rfl, rfl⟩
    exact ⟨rfl, Ext.refl _⟩
  refine RW_d _ rfl (fun v => by dsimp only [List.set]; try rfl) (fun u hu hF => ?_) (fun v434 => ?_)
  · have h39_ : v433 = (Bo (!β5)) := hF.1
    clear hF
    refine doesG_un rfl ?_
    obtain rfl := h39_
    refine (does_move (u := (Bo (!β5))) (ev rfl)).mono ?_; rintro _ _ ⟨rfl, rfl⟩
    exact ⟨rfl, Ext.refl _⟩
  refine RW_d _ rfl (fun v => by dsimp only [List.set]; try rfl) (fun u hu hF => ?_) (fun v435 => ?_)
  · have h40_ : v434 = (Bo (!β5)) := hF.1
    clear hF
    obtain rfl := h40_
    refine doesG_g (b := (!β5)) rfl (yld rfl rfl) (fun hg1 => ?_) (fun hc => ⟨fun hg1 => absurd hg1 hc, Ext.refl _⟩)
    refine (does_loadAgg (cs := [(Fl r402), (Fl r404), (Fl r406)]) (ev rfl) Try.isAgg31 Try.sizeOf31 (Blk.cells (hB426.ext hu)) rfl).mono ?_; rintro _ _ ⟨rfl, rfl⟩
    exact ⟨fun _ => rfl, Ext.refl _⟩
  refine RW_d _ rfl (fun v => by dsimp only [List.set]; try rfl) (fun u hu hF => ?_) (fun v436 => ?_)
  · have h41_ : (!β5) = false → v435 = (.agg #[(Fl r402), (Fl r404), (Fl r406)]) := hF.1
    have h40_ : v434 = (Bo (!β5)) := hF.2.1
    clear hF
    obtain rfl := h40_
    refine doesG_g (b := (!β5)) rfl (yld rfl rfl) (fun hg1 => ?_) (fun hc => ⟨fun hg1 => absurd hg1 hc, Ext.refl _⟩)
    obtain rfl := h41_ hg1
    refine (does_call (args := #[(.agg #[(Fl r402), (Fl r404), (Fl r406)])]) cal17 (evs rfl) (c_spec_l01VFinite [(Fl r402), (Fl r404), (Fl r406)] (setV A_p 2 (cf .f32 r395)) _ ⟨r402, r404, r406, rfl, h403, h405, h407⟩)).mono ?_; rintro v u' ⟨hx, hv⟩
    exact ⟨fun _ => hv.trans (by simp only [hβ6]), hx⟩
  refine RW_d _ rfl (fun v => by dsimp only [List.set]; try rfl) (fun u hu hF => ?_) (fun v437 => ?_)
  · have h42_ : (!β5) = false → v436 = (Bo β6) := hF.1
    have h40_ : v434 = (Bo (!β5)) := hF.2.1
    clear hF
    obtain rfl := h40_
    refine doesG_g (b := (!β5)) rfl (yld rfl rfl) (fun hg1 => ?_) (fun hc => ⟨fun hg1 => absurd hg1 hc, Ext.refl _⟩)
    obtain rfl := h42_ hg1
    refine (does_not (ev rfl)).mono ?_; rintro _ _ ⟨rfl, rfl⟩
    exact ⟨fun _ => rfl, Ext.refl _⟩
  refine RW_d _ rfl (fun v => by dsimp only [List.set]; try rfl) (fun u hu hF => ?_) (fun v438 => ?_)
  · have h40_ : v434 = (Bo (!β5)) := hF.1
    have h43_ : (!β5) = false → v437 = (Bo (!β6)) := hF.2.1
    clear hF
    refine doesG_un rfl ?_
    skip
    obtain rfl := h40_
    refine (does_pick (b := (!β5)) (ev rfl) (ev rfl) (ev rfl)).mono ?_; rintro _ _ ⟨rfl, rfl⟩; refine ⟨?_, Ext.refl _⟩; skip
    cases hbb : (!β5)
    all_goals first | rfl | (have e_ := h43_ hbb; subst e_; rfl) | (simp [hbb] at h43_ ⊢; first | done | rfl | (subst h43_; rfl) | simp_all) | (simp [hbb] at h43_ ⊢; done)
  refine RW_fin ?_; intro w439 E440 hP441
  obtain ⟨⟨⟨⟨⟨⟨⟨⟨-, -⟩, -⟩, -⟩, -⟩, -⟩, -⟩, -⟩, q442⟩ := hP441
  have X443 := Ext.gr X428 E440
  have q442 : v438 = (Bo ((!β5) || (!β6))) := q442
  obtain rfl := q442
  show wpList _ _ _ _ (fr [_, _, _, _, _, _, _, _, _, _, _, _, _, _, _, _, _, _, _, _, _, _, _, _, _, _, _, _, _, _, _, _, _, _, _, _, _, _, _, _, _, _, _, _, _, _, _, _, _, _, _, _, _, _, _, _, _, _, _, _]) _
  refine wpList_nil (hK430 _ _ ?_)
  refine wp_cond_split (t := (!β5) || (!β6)) (ev rfl) (fun c444 => ?_) (fun c444 => ?_)
  · have c444' := c444
    (try simp only [hβ1, hβ2, hβ3, hβ4, hβ5, hβ6] at c444')
    (try simp only [icmp, Bool.and_eq_true, Bool.or_eq_true, Bool.and_eq_false_iff, Bool.or_eq_false_iff, Bool.not_eq_true', Bool.not_eq_false', decide_eq_true_eq, decide_eq_false_iff_not, beq_iff_eq, bne_iff_ne, beq_eq_false_iff_ne, bne_eq_false_iff_eq] at c444')
    have hfb := c444'
    simp only [h2, h4, h6, h8, h12, h14, h16, h84, h88, h95, h97, h99, h118, h125, h127, h129, hβ1, hβ2, h188, h190, h195, h202, h204, h206, h219, h223, h230, h232, h234, h255, h262, h264, h266, hβ3, hβ4, h327, h329, h334, h341, h343, h345, h358, h362, h369, h371, h373, h396, h403, h405, h407, hβ5, hβ6, setV_0, setV_1, setV_2, pickV_0, pickV_1, pickV_2] at c444'
    have hsf : slpOk A_g A_p = false := by first | exact slpOk_0 c444' | exact slpOk_1 c444' | exact slpOk_2 c444'
    refine wp_seq_k fun K445 hK445 => ?_
    refine wp_region_lit ?_
    refine q_is rfl rfl (does_build (parts' := []) (cells := #[(Fl 0), (Fl 0), (Fl 0)]) (evp rfl) (by kernel_rfl)) (by dsimp only [List.set]; try rfl) ?_
    refine seqn rfl rfl (does_store (n := 3) (cs := [(Fl 0), (Fl 0), (Fl 0)]) (u := (.agg #[(Fl 0), (Fl 0), (Fl 0)])) (ev rfl) (ev rfl) Try.sizeOf31 rfl (((((((((((((((((((((((((((((((((((((((((((((hB38.ext E47).ext E64).wr W71 (Nat.ne_of_lt n68)).ext E81).ext E89).ext E92).ext E104).wr W112 (Nat.ne_of_lt n108)).ext E119).ext E122).ext E134).wr W143 (Nat.ne_of_lt n138)).ext E158).ext E174).ext E183).ext E191).ext E196).ext E199).wr W208 (Nat.ne_of_lt n68)).ext E216).ext E224).ext E227).ext E239).wr W249 (Nat.ne_of_lt n243)).ext E256).ext E259).ext E271).wr W282 (Nat.ne_of_lt n275)).ext E297).ext E313).ext E322).ext E330).ext E335).ext E338).wr W347 (Nat.ne_of_lt n68)).ext E355).ext E363).ext E366).ext E378).wr W390 (Nat.ne_of_lt n382)).ext E397).ext E400).ext E412).wr W425 (Nat.ne_of_lt n416)).ext E440) (Nat.le_of_ble_eq_true rfl) rfl) ?_; rintro _ w448 ⟨rfl, W446, hB447⟩
    change Blk _ _ [(Fl 0), (Fl 0), (Fl 0)] at hB447
    have X449 := Below.wr X443 W446 g43
    refine q_is rfl rfl (does_assign (u := (Bo false)) (ev rfl)) (by dsimp only [List.set]; try rfl) ?_
    refine wpList_nil (hK445 _ _ ?_)
    refine wp_ret ?_
    dsimp only [Exit.then, Exit.inBlock]
    refine ret_val (v := (.tuple #[(.agg #[(Fl 0), (Fl 0), (Fl 0)]), (Bo false)])) (res_CT rfl (slot rfl) (run_loadAgg (cs := [(Fl 0), (Fl 0), (Fl 0)]) Try.isAgg31 Try.sizeOf31 (Blk.cells hB447) rfl) (slot rfl)) X449 ?_
    try simp only [h2, h4, h6, h8, h12, h14, h16, h84, h88, h95, h97, h99, h118, h125, h127, h129, hβ1, hβ2, h188, h190, h195, h202, h204, h206, h219, h223, h230, h232, h234, h255, h262, h264, h266, hβ3, hβ4, h327, h329, h334, h341, h343, h345, h358, h362, h369, h371, h373, h396, h403, h405, h407, hβ5, hβ6] at c50 c162 c301 c444
    have x450 : (slpOk A_g A_p) = false := by first | exact hsf | (rw [slpV_f hsf] <;> rfl) | exact slpOk_t hgg hs0 hs1 hs2 | (rw [slpV_t (slpOk_t hgg hs0 hs1 hs2)]; simp only [h2, h4, h6, h8, h12, h14, h16, h84, h88, h95, h97, h99, h118, h125, h127, h129, hβ1, hβ2, h188, h190, h195, h202, h204, h206, h219, h223, h230, h232, h234, h255, h262, h264, h266, hβ3, hβ4, h327, h329, h334, h341, h343, h345, h358, h362, h369, h371, h373, h396, h403, h405, h407, hβ5, hβ6, c50, c162, c301, c444, setV_0, setV_1, setV_2, pickV_0, pickV_1, pickV_2]; rfl)
    have x451 : cf .f32 0 = (slpV A_g A_p).x := by first | exact hsf | (rw [slpV_f hsf] <;> rfl) | exact slpOk_t hgg hs0 hs1 hs2 | (rw [slpV_t (slpOk_t hgg hs0 hs1 hs2)]; simp only [h2, h4, h6, h8, h12, h14, h16, h84, h88, h95, h97, h99, h118, h125, h127, h129, hβ1, hβ2, h188, h190, h195, h202, h204, h206, h219, h223, h230, h232, h234, h255, h262, h264, h266, hβ3, hβ4, h327, h329, h334, h341, h343, h345, h358, h362, h369, h371, h373, h396, h403, h405, h407, hβ5, hβ6, c50, c162, c301, c444, setV_0, setV_1, setV_2, pickV_0, pickV_1, pickV_2]; rfl)
    have x452 : cf .f32 0 = (slpV A_g A_p).y := by first | exact hsf | (rw [slpV_f hsf] <;> rfl) | exact slpOk_t hgg hs0 hs1 hs2 | (rw [slpV_t (slpOk_t hgg hs0 hs1 hs2)]; simp only [h2, h4, h6, h8, h12, h14, h16, h84, h88, h95, h97, h99, h118, h125, h127, h129, hβ1, hβ2, h188, h190, h195, h202, h204, h206, h219, h223, h230, h232, h234, h255, h262, h264, h266, hβ3, hβ4, h327, h329, h334, h341, h343, h345, h358, h362, h369, h371, h373, h396, h403, h405, h407, hβ5, hβ6, c50, c162, c301, c444, setV_0, setV_1, setV_2, pickV_0, pickV_1, pickV_2]; rfl)
    have x453 : cf .f32 0 = (slpV A_g A_p).z := by first | exact hsf | (rw [slpV_f hsf] <;> rfl) | exact slpOk_t hgg hs0 hs1 hs2 | (rw [slpV_t (slpOk_t hgg hs0 hs1 hs2)]; simp only [h2, h4, h6, h8, h12, h14, h16, h84, h88, h95, h97, h99, h118, h125, h127, h129, hβ1, hβ2, h188, h190, h195, h202, h204, h206, h219, h223, h230, h232, h234, h255, h262, h264, h266, hβ3, hβ4, h327, h329, h334, h341, h343, h345, h358, h362, h369, h371, h373, h396, h403, h405, h407, hβ5, hβ6, c50, c162, c301, c444, setV_0, setV_1, setV_2, pickV_0, pickV_1, pickV_2]; rfl)
    exact ⟨[(Fl 0), (Fl 0), (Fl 0)], (by first | rfl | rw [x450]), ⟨0, 0, 0, rfl, x451, x452, x453⟩⟩
  have c444' := c444
  (try simp only [hβ1, hβ2, hβ3, hβ4, hβ5, hβ6] at c444')
  (try simp only [icmp, Bool.and_eq_true, Bool.or_eq_true, Bool.and_eq_false_iff, Bool.or_eq_false_iff, Bool.not_eq_true', Bool.not_eq_false', decide_eq_true_eq, decide_eq_false_iff_not, beq_iff_eq, bne_iff_ne, beq_eq_false_iff_ne, bne_eq_false_iff_eq] at c444')
  have hfb := c444'
  simp only [h2, h4, h6, h8, h12, h14, h16, h84, h88, h95, h97, h99, h118, h125, h127, h129, hβ1, hβ2, h188, h190, h195, h202, h204, h206, h219, h223, h230, h232, h234, h255, h262, h264, h266, hβ3, hβ4, h327, h329, h334, h341, h343, h345, h358, h362, h369, h371, h373, h396, h403, h405, h407, hβ5, hβ6, setV_0, setV_1, setV_2, pickV_0, pickV_1, pickV_2] at c444'
  try (have hs0 : finV (hi0 A_g A_p) = true ∧ finV (lo0 A_g A_p) = true := c444')
  try (have hs1 : finV (hi1 A_g A_p) = true ∧ finV (lo1 A_g A_p) = true := c444')
  try (have hs2 : finV (hi2 A_g A_p) = true ∧ finV (lo2 A_g A_p) = true := c444')
  refine wp_skip (hK429 _ _ ?_)
  refine wp_seq_k fun K454 hK454 => ?_
  refine region_draw (
    [Fact.pure [] (fun v => v = (.agg #[(Fl r368), (Fl r370), (Fl r372)])),
    Fact.pure [46] (fun v => ∃ r_1 : Nat, v = (Fl r_1) ∧ cf .f32 r_1 = readG A_g (setV A_p 2 (cf .f32 r361))),
    Fact.pure [] (fun v => v = (.agg #[(Fl r402), (Fl r404), (Fl r406)])),
    Fact.pure [48] (fun v => ∃ r_1 : Nat, v = (Fl r_1) ∧ cf .f32 r_1 = readG A_g (setV A_p 2 (cf .f32 r395))),
    Fact.pure [47, 49] (fun v => ∃ r_1 : Nat, v = (Fl r_1) ∧ cf .f32 r_1 = fop .sub .f32 (readG A_g (setV A_p 2 (cf .f32 r361))) (readG A_g (setV A_p 2 (cf .f32 r395))))]) mixed (by kernel_rfl) (by intro _ _ d _ _ h; cases d <;> exact h) ?_
  obtain ⟨w455, hw457⟩ : ∃ w', w' = World.drew w439 := ⟨_, rfl⟩; rw [← hw457]; have E456 : Ext w439 w455 := by rw [hw457]; exact Ext.draw _
  clear hw457
  have X458 := Ext.gr X443 E456
  refine RW_d _ rfl (fun v => by dsimp only [List.set]; try rfl) (fun u hu hF => ?_) (fun v459 => ?_)
  · clear hF
    refine doesG_un rfl ?_
    refine (does_loadAgg (cs := [(Fl r368), (Fl r370), (Fl r372)]) (ev rfl) Try.isAgg31 Try.sizeOf31 (Blk.cells (((((((hB391.ext E397).ext E400).ext E412).wr W425 (Nat.ne_of_lt n422)).ext E440).ext E456).ext hu)) rfl).mono ?_; rintro _ _ ⟨rfl, rfl⟩
    exact ⟨rfl, Ext.refl _⟩
  refine RW_d _ rfl (fun v => by dsimp only [List.set]; try rfl) (fun u hu hF => ?_) (fun v460 => ?_)
  · have h46_ : v459 = (.agg #[(Fl r368), (Fl r370), (Fl r372)]) := hF.1
    clear hF
    refine doesG_un rfl ?_
    obtain rfl := h46_
    refine (does_call (args := #[(Pt b21 0), (.agg #[(Fl r368), (Fl r370), (Fl r372)])]) cal18 (evs rfl) (c_spec_l06Read b21 0 [(Fl r1), (Fl r3), (Fl r5), (Fl r7), (Iv A_g.x), (Iv A_g.y), (Iv A_g.z), (.slice p17 A_g.vals.length q18)] A_g [(Fl r368), (Fl r370), (Fl r372)] (setV A_p 2 (cf .f32 r361)) _ (Blk.cells (((((((((((((((((((((((((((((((((((((((((((((((((hB23.ext E31).ext E39).ext E47).ext E64).wr W71 (Nat.ne_of_lt n66)).ext E81).ext E89).ext E92).ext E104).wr W112 (Nat.ne_of_lt n106)).ext E119).ext E122).ext E134).wr W143 (Nat.ne_of_lt n136)).ext E158).ext E174).ext E183).ext E191).ext E196).ext E199).wr W208 (Nat.ne_of_lt n66)).ext E216).ext E224).ext E227).ext E239).wr W249 (Nat.ne_of_lt n241)).ext E256).ext E259).ext E271).wr W282 (Nat.ne_of_lt n273)).ext E297).ext E313).ext E322).ext E330).ext E335).ext E338).wr W347 (Nat.ne_of_lt n66)).ext E355).ext E363).ext E366).ext E378).wr W390 (Nat.ne_of_lt n380)).ext E397).ext E400).ext E412).wr W425 (Nat.ne_of_lt n414)).ext E440).ext E456).ext hu)) ⟨r1, r3, r5, r7, (.slice p17 A_g.vals.length q18), rfl, h2, h4, h6, h8, (Sl.ext (Sl.ext hs19 RF.mono (Ext.gr X443 E456)) RF.mono hu)⟩ ⟨r368, r370, r372, rfl, h369, h371, h373⟩ (by exact hgg) (by exact hfb.1))).mono ?_; rintro v u' ⟨hx, ⟨rn1, hv, k0⟩⟩
    exact ⟨⟨rn1, hv, (by simp only [k0])⟩, hx⟩
  refine RW_d _ rfl (fun v => by dsimp only [List.set]; try rfl) (fun u hu hF => ?_) (fun v461 => ?_)
  · clear hF
    refine doesG_un rfl ?_
    refine (does_loadAgg (cs := [(Fl r402), (Fl r404), (Fl r406)]) (ev rfl) Try.isAgg31 Try.sizeOf31 (Blk.cells (((hB426.ext E440).ext E456).ext hu)) rfl).mono ?_; rintro _ _ ⟨rfl, rfl⟩
    exact ⟨rfl, Ext.refl _⟩
  refine RW_d _ rfl (fun v => by dsimp only [List.set]; try rfl) (fun u hu hF => ?_) (fun v462 => ?_)
  · have h48_ : v461 = (.agg #[(Fl r402), (Fl r404), (Fl r406)]) := hF.1
    clear hF
    refine doesG_un rfl ?_
    obtain rfl := h48_
    refine (does_call (args := #[(Pt b21 0), (.agg #[(Fl r402), (Fl r404), (Fl r406)])]) cal18 (evs rfl) (c_spec_l06Read b21 0 [(Fl r1), (Fl r3), (Fl r5), (Fl r7), (Iv A_g.x), (Iv A_g.y), (Iv A_g.z), (.slice p17 A_g.vals.length q18)] A_g [(Fl r402), (Fl r404), (Fl r406)] (setV A_p 2 (cf .f32 r395)) _ (Blk.cells (((((((((((((((((((((((((((((((((((((((((((((((((hB23.ext E31).ext E39).ext E47).ext E64).wr W71 (Nat.ne_of_lt n66)).ext E81).ext E89).ext E92).ext E104).wr W112 (Nat.ne_of_lt n106)).ext E119).ext E122).ext E134).wr W143 (Nat.ne_of_lt n136)).ext E158).ext E174).ext E183).ext E191).ext E196).ext E199).wr W208 (Nat.ne_of_lt n66)).ext E216).ext E224).ext E227).ext E239).wr W249 (Nat.ne_of_lt n241)).ext E256).ext E259).ext E271).wr W282 (Nat.ne_of_lt n273)).ext E297).ext E313).ext E322).ext E330).ext E335).ext E338).wr W347 (Nat.ne_of_lt n66)).ext E355).ext E363).ext E366).ext E378).wr W390 (Nat.ne_of_lt n380)).ext E397).ext E400).ext E412).wr W425 (Nat.ne_of_lt n414)).ext E440).ext E456).ext hu)) ⟨r1, r3, r5, r7, (.slice p17 A_g.vals.length q18), rfl, h2, h4, h6, h8, (Sl.ext (Sl.ext hs19 RF.mono (Ext.gr X443 E456)) RF.mono hu)⟩ ⟨r402, r404, r406, rfl, h403, h405, h407⟩ (by exact hgg) (by exact hfb.2))).mono ?_; rintro v u' ⟨hx, ⟨rn1, hv, k0⟩⟩
    exact ⟨⟨rn1, hv, (by simp only [k0])⟩, hx⟩
  refine RW_d _ rfl (fun v => by dsimp only [List.set]; try rfl) (fun u hu hF => ?_) (fun v463 => ?_)
  · have h47_ : ∃ r_1 : Nat, v460 = (Fl r_1) ∧ cf .f32 r_1 = readG A_g (setV A_p 2 (cf .f32 r361)) := hF.1
    have h49_ : ∃ r_1 : Nat, v462 = (Fl r_1) ∧ cf .f32 r_1 = readG A_g (setV A_p 2 (cf .f32 r395)) := hF.2.1
    clear hF
    refine doesG_un rfl ?_
    obtain ⟨r47_1, rfl, h47_2⟩ := h47_
    obtain ⟨r49_1, rfl, h49_2⟩ := h49_
    refine (does_float (.inr (.inl rfl)) (ev rfl) (ev rfl)).mono ?_; rintro _ _ ⟨r, rfl, hr, hx⟩
    exact ⟨⟨r, rfl, (by simp only [hr, h47_2, h49_2])⟩, hx⟩
  refine RW_fin ?_; intro w464 E465 hP466
  obtain ⟨⟨⟨⟨⟨-, -⟩, -⟩, -⟩, -⟩, q467⟩ := hP466
  have X468 := Ext.gr X458 E465
  have q467 : ∃ r_1 : Nat, v463 = (Fl r_1) ∧ cf .f32 r_1 = fop .sub .f32 (readG A_g (setV A_p 2 (cf .f32 r361))) (readG A_g (setV A_p 2 (cf .f32 r395))) := q467
  obtain ⟨r469, rfl, h470⟩ := q467
  show wpList _ _ _ _ (fr [_, _, _, _, _, _, _, _, _, _, _, _, _, _, _, _, _, _, _, _, _, _, _, _, _, _, _, _, _, _, _, _, _, _, _, _, _, _, _, _, _, _, _, _, _, _, _, _, _, _, _, _, _, _, _, _, _, _, _, _]) _
  refine q_is rfl rfl (does_assign (u := (Fl r469)) (ev rfl)) (by dsimp only [List.set]; try rfl) ?_
  refine wpList_nil (hK454 _ _ ?_)
  refine wp_region_lit ?_
  refine q_is rfl rfl (does_loadAgg (cs := [(Fl r340), (Fl r342), (Fl r344)]) (ev rfl) Try.isAgg31 Try.sizeOf31 (Blk.cells ((((((((((((hB348.ext E355).ext E363).ext E366).ext E378).wr W390 (Nat.ne_of_lt n387)).ext E397).ext E400).ext E412).wr W425 (Nat.ne_of_lt n421)).ext E440).ext E456).ext E465)) rfl) (by dsimp only [List.set]; try rfl) ?_
  refine q_is rfl rfl (does_move (u := (Iv 2)) (ev rfl)) (by dsimp only [List.set]; try rfl) ?_
  refine q_is rfl rfl (does_move (u := (Fl r469)) (ev rfl)) (by dsimp only [List.set]; try rfl) ?_
  refine q_is rfl rfl (does_fieldAddr (ev rfl) fa33_1) (by dsimp only [List.set]; try rfl) ?_
  refine q_is rfl rfl (does_load (u := (Fl r7)) (ev rfl) Try.isAgg22 (Cells.at (Blk.cells (((((((((((((((((((((((((((((((((((((((((((((((((hB23.ext E31).ext E39).ext E47).ext E64).wr W71 (Nat.ne_of_lt n66)).ext E81).ext E89).ext E92).ext E104).wr W112 (Nat.ne_of_lt n106)).ext E119).ext E122).ext E134).wr W143 (Nat.ne_of_lt n136)).ext E158).ext E174).ext E183).ext E191).ext E196).ext E199).wr W208 (Nat.ne_of_lt n66)).ext E216).ext E224).ext E227).ext E239).wr W249 (Nat.ne_of_lt n241)).ext E256).ext E259).ext E271).wr W282 (Nat.ne_of_lt n273)).ext E297).ext E313).ext E322).ext E330).ext E335).ext E338).wr W347 (Nat.ne_of_lt n66)).ext E355).ext E363).ext E366).ext E378).wr W390 (Nat.ne_of_lt n380)).ext E397).ext E400).ext E412).wr W425 (Nat.ne_of_lt n414)).ext E440).ext E456).ext E465)) 3 rfl)) (by dsimp only [List.set]; try rfl) ?_
  refine seqd rfl rfl (does_float (.inr (.inr (.inl rfl))) (ev rfl) (ev rfl)) ?_; rintro _ w474 ⟨r471, rfl, h472, E473⟩
  have X475 := Ext.gr X468 E473
  show wpList _ _ _ _ (fr [_, _, _, _, _, _, _, _, _, _, _, _, _, _, _, _, _, _, _, _, _, _, _, _, _, _, _, _, _, _, _, _, _, _, _, _, _, _, _, _, _, _, _, _, _, _, _, _, _, _, _, _, _, _, _, _, _, _, _, _]) _
  refine seqd rfl rfl (does_float (.inr (.inr (.inr rfl))) (ev rfl) (ev rfl)) ?_; rintro _ w479 ⟨r476, rfl, h477, E478⟩
  have X480 := Ext.gr X475 E478
  show wpList _ _ _ _ (fr [_, _, _, _, _, _, _, _, _, _, _, _, _, _, _, _, _, _, _, _, _, _, _, _, _, _, _, _, _, _, _, _, _, _, _, _, _, _, _, _, _, _, _, _, _, _, _, _, _, _, _, _, _, _, _, _, _, _, _, _]) _
  refine seqd rfl rfl (does_call (args := #[(.agg #[(Fl r340), (Fl r342), (Fl r344)]), (Iv 2), (Fl r476)]) cal25 (evs rfl) (c_spec_l02Set [(Fl r340), (Fl r342), (Fl r344)] (setV (setV (V3.mk (cf .f32 0) (cf .f32 0) (cf .f32 0)) 0 (cf .f32 r194)) 1 (cf .f32 r333)) 2 r476 _ ⟨r340, r342, r344, rfl, h341, h343, h345⟩)) ?_; rintro _ w482 ⟨E481, ⟨_, rfl, ⟨r483, r485, r487, rfl, h484, h486, h488⟩⟩⟩
  have X489 := Ext.gr X480 E481
  show wpList _ _ _ _ (fr [_, _, _, _, _, _, _, _, _, _, _, _, _, _, _, _, _, _, _, _, _, _, _, _, _, _, _, _, _, _, _, _, _, _, _, _, _, _, _, _, _, _, _, _, _, _, _, _, _, _, _, _, _, _, _, _, _, _, _, _]) _
  refine seqn rfl rfl (does_store (n := 3) (cs := [(Fl r340), (Fl r342), (Fl r344)]) (u := (.agg #[(Fl r483), (Fl r485), (Fl r487)])) (ev rfl) (ev rfl) Try.sizeOf31 rfl (((((((((((((((hB348.ext E355).ext E363).ext E366).ext E378).wr W390 (Nat.ne_of_lt n387)).ext E397).ext E400).ext E412).wr W425 (Nat.ne_of_lt n421)).ext E440).ext E456).ext E465).ext E473).ext E478).ext E481) (Nat.le_of_ble_eq_true rfl) rfl) ?_; rintro _ w492 ⟨rfl, W490, hB491⟩
  change Blk _ _ [(Fl r483), (Fl r485), (Fl r487)] at hB491
  have X493 := Below.wr X489 W490 g69
  refine wpList_nil (hK353 _ _ ?_)
  refine wp_region_lit ?_
  refine q_is rfl rfl (does_move (u := (Iv 2)) (ev rfl)) (by dsimp only [List.set]; try rfl) ?_
  refine q_is rfl rfl (does_iarith (p := 2) (q := 1) (r := (3)) (ev rfl) (ev rfl) (.inl ⟨rfl, rfl⟩)) (by dsimp only [List.set]; try rfl) ?_
  refine q_is rfl rfl (does_assign (u := (Iv 3)) (ev rfl)) (by dsimp only [List.set]; try rfl) ?_
  refine wpList_nil ?_
  refine un_step ?_
  refine wp_seq_k fun K494 hK494 => ?_
  refine wp_seq_k fun K495 hK495 => ?_
  refine wp_region_lit ?_
  refine q_is rfl rfl (does_move (u := (Iv 3)) (ev rfl)) (by dsimp only [List.set]; try rfl) ?_
  refine q_is rfl rfl (does_icmp (p := 3) (q := 3) (.inr (.inr (.inl rfl))) (ev rfl) (ev rfl)) (by dsimp only [List.set]; try rfl) ?_
  refine wpList_nil (hK495 _ _ ?_)
  refine wp_cond_false (ev rfl) ?_
  refine wp_exit ?_
  refine hK75 _ _ ?_
  refine wp_seq_k fun K496 hK496 => ?_
  refine wp_region_lit ?_
  refine q_is rfl rfl (does_loadAgg (cs := [(Fl r483), (Fl r485), (Fl r487)]) (ev rfl) Try.isAgg31 Try.sizeOf31 (Blk.cells hB491) rfl) (by dsimp only [List.set]; try rfl) ?_
  refine seqn rfl rfl (does_store (n := 3) (cs := [(Fl 0), (Fl 0), (Fl 0)]) (u := (.agg #[(Fl r483), (Fl r485), (Fl r487)])) (ev rfl) (ev rfl) Try.sizeOf31 rfl (((((((((((((((((((((((((((((((((((((((((((((((((((hB38.ext E47).ext E64).wr W71 (Nat.ne_of_lt n68)).ext E81).ext E89).ext E92).ext E104).wr W112 (Nat.ne_of_lt n108)).ext E119).ext E122).ext E134).wr W143 (Nat.ne_of_lt n138)).ext E158).ext E174).ext E183).ext E191).ext E196).ext E199).wr W208 (Nat.ne_of_lt n68)).ext E216).ext E224).ext E227).ext E239).wr W249 (Nat.ne_of_lt n243)).ext E256).ext E259).ext E271).wr W282 (Nat.ne_of_lt n275)).ext E297).ext E313).ext E322).ext E330).ext E335).ext E338).wr W347 (Nat.ne_of_lt n68)).ext E355).ext E363).ext E366).ext E378).wr W390 (Nat.ne_of_lt n382)).ext E397).ext E400).ext E412).wr W425 (Nat.ne_of_lt n416)).ext E440).ext E456).ext E465).ext E473).ext E478).ext E481).wr W490 (Nat.ne_of_lt n68)) (Nat.le_of_ble_eq_true rfl) rfl) ?_; rintro _ w499 ⟨rfl, W497, hB498⟩
  change Blk _ _ [(Fl r483), (Fl r485), (Fl r487)] at hB498
  have X500 := Below.wr X493 W497 g43
  refine q_is rfl rfl (does_assign (u := (Bo true)) (ev rfl)) (by dsimp only [List.set]; try rfl) ?_
  refine wpList_nil (hK496 _ _ ?_)
  refine wp_ret ?_
  refine ret_val (v := (.tuple #[(.agg #[(Fl r483), (Fl r485), (Fl r487)]), (Bo true)])) (res_CT rfl (slot rfl) (run_loadAgg (cs := [(Fl r483), (Fl r485), (Fl r487)]) Try.isAgg31 Try.sizeOf31 (Blk.cells hB498) rfl) (slot rfl)) X500 ?_
  try simp only [h2, h4, h6, h8, h12, h14, h16, h84, h88, h95, h97, h99, h118, h125, h127, h129, hβ1, hβ2, h188, h190, h195, h202, h204, h206, h219, h223, h230, h232, h234, h255, h262, h264, h266, hβ3, hβ4, h327, h329, h334, h341, h343, h345, h358, h362, h369, h371, h373, h396, h403, h405, h407, hβ5, hβ6, h470, h472, h477, h484, h486, h488] at c50 c162 c301 c444
  have x501 : (slpOk A_g A_p) = true := by first | exact hsf | (rw [slpV_f hsf] <;> rfl) | exact slpOk_t hgg hs0 hs1 hs2 | (rw [slpV_t (slpOk_t hgg hs0 hs1 hs2)]; simp only [h2, h4, h6, h8, h12, h14, h16, h84, h88, h95, h97, h99, h118, h125, h127, h129, hβ1, hβ2, h188, h190, h195, h202, h204, h206, h219, h223, h230, h232, h234, h255, h262, h264, h266, hβ3, hβ4, h327, h329, h334, h341, h343, h345, h358, h362, h369, h371, h373, h396, h403, h405, h407, hβ5, hβ6, h470, h472, h477, h484, h486, h488, c50, c162, c301, c444, setV_0, setV_1, setV_2, pickV_0, pickV_1, pickV_2]; rfl)
  have x502 : cf .f32 r483 = (slpV A_g A_p).x := by first | exact hsf | (rw [slpV_f hsf] <;> rfl) | exact slpOk_t hgg hs0 hs1 hs2 | (rw [slpV_t (slpOk_t hgg hs0 hs1 hs2)]; simp only [h2, h4, h6, h8, h12, h14, h16, h84, h88, h95, h97, h99, h118, h125, h127, h129, hβ1, hβ2, h188, h190, h195, h202, h204, h206, h219, h223, h230, h232, h234, h255, h262, h264, h266, hβ3, hβ4, h327, h329, h334, h341, h343, h345, h358, h362, h369, h371, h373, h396, h403, h405, h407, hβ5, hβ6, h470, h472, h477, h484, h486, h488, c50, c162, c301, c444, setV_0, setV_1, setV_2, pickV_0, pickV_1, pickV_2]; rfl)
  have x503 : cf .f32 r485 = (slpV A_g A_p).y := by first | exact hsf | (rw [slpV_f hsf] <;> rfl) | exact slpOk_t hgg hs0 hs1 hs2 | (rw [slpV_t (slpOk_t hgg hs0 hs1 hs2)]; simp only [h2, h4, h6, h8, h12, h14, h16, h84, h88, h95, h97, h99, h118, h125, h127, h129, hβ1, hβ2, h188, h190, h195, h202, h204, h206, h219, h223, h230, h232, h234, h255, h262, h264, h266, hβ3, hβ4, h327, h329, h334, h341, h343, h345, h358, h362, h369, h371, h373, h396, h403, h405, h407, hβ5, hβ6, h470, h472, h477, h484, h486, h488, c50, c162, c301, c444, setV_0, setV_1, setV_2, pickV_0, pickV_1, pickV_2]; rfl)
  have x504 : cf .f32 r487 = (slpV A_g A_p).z := by first | exact hsf | (rw [slpV_f hsf] <;> rfl) | exact slpOk_t hgg hs0 hs1 hs2 | (rw [slpV_t (slpOk_t hgg hs0 hs1 hs2)]; simp only [h2, h4, h6, h8, h12, h14, h16, h84, h88, h95, h97, h99, h118, h125, h127, h129, hβ1, hβ2, h188, h190, h195, h202, h204, h206, h219, h223, h230, h232, h234, h255, h262, h264, h266, hβ3, hβ4, h327, h329, h334, h341, h343, h345, h358, h362, h369, h371, h373, h396, h403, h405, h407, hβ5, hβ6, h470, h472, h477, h484, h486, h488, c50, c162, c301, c444, setV_0, setV_1, setV_2, pickV_0, pickV_1, pickV_2]; rfl)
  exact ⟨[(Fl r483), (Fl r485), (Fl r487)], (by first | rfl | rw [x501]), ⟨r483, r485, r487, rfl, x502, x503, x504⟩⟩

/- slices.IndexFunc[[]float32,float32] -/
theorem c_slices_IndexFunc_float32_float32 (xs : Value) (L_xs : List Nat) (f : Value) (pr_f : Nat → Bool) (w : World) (hv_xs : Sl RF 1 w xs L_xs) (hv_f : TellsF Try.prog f w pr_f) : Gives Try.prog 51 #[xs, f] w (fun v w' => v = (Iv (findI pr_f L_xs))) := by
  have hlen_xs := Sl.len hv_xs; obtain ⟨p_xs, q_xs, rfl⟩ := Sl.shape hv_xs
  obtain ⟨f_f, s_f, c_f, rfl, hcal_f, hg_f⟩ := hv_f
  refine enter [(.slice p_xs L_xs.length q_xs), (.func (.func f_f) s_f c_f), Ud, Ud, Ud, Ud, Ud, Ud, Ud, Ud, Ud, Ud, Ud, Ud, Ud, Ud, Ud, Ud, Ud] Try.func51 rfl Try.ntmps51 rfl ?_
  refine wp_seq_k fun K1 hK1 => ?_
  refine wp_region_lit ?_
  refine q_is (l' := [(.slice p_xs L_xs.length q_xs), (.func (.func f_f) s_f c_f), Ud, Ud, (Iv 0), Ud, Ud, Ud, Ud, Ud, Ud, Ud, Ud, Ud, Ud, Ud, Ud, Ud, Ud]) rfl rfl (does_assign (u := (Iv 0)) (ev rfl)) rfl ?_
  refine wpList_nil (hK1 _ _ ?_)
  refine wp_seq_k fun K2 hK2 => ?_
  refine wp_seq_k fun K3 hK3 => ?_
  refine wp_region_lit ?_
  refine q_is (l' := [(.slice p_xs L_xs.length q_xs), (.func (.func f_f) s_f c_f), Ud, Ud, (Iv 0), Ud, (.slice p_xs L_xs.length q_xs), Ud, Ud, Ud, Ud, Ud, Ud, Ud, Ud, Ud, Ud, Ud, Ud]) rfl rfl (does_move (u := (.slice p_xs L_xs.length q_xs)) (ev rfl)) rfl ?_
  refine q_is (l' := [(.slice p_xs L_xs.length q_xs), (.func (.func f_f) s_f c_f), Ud, Ud, (Iv 0), Ud, (.slice p_xs L_xs.length q_xs), (Iv (L_xs.length : Int)), Ud, Ud, Ud, Ud, Ud, Ud, Ud, Ud, Ud, Ud, Ud]) rfl rfl (does_len_slice Try.underlying25 (ev rfl)) rfl ?_
  refine q_is (l' := [(.slice p_xs L_xs.length q_xs), (.func (.func f_f) s_f c_f), Ud, Ud, (Iv 0), Ud, (.slice p_xs L_xs.length q_xs), (Iv (L_xs.length : Int)), (Iv 0), Ud, Ud, Ud, Ud, Ud, Ud, Ud, Ud, Ud, Ud]) rfl rfl (does_move (u := (Iv 0)) (ev rfl)) rfl ?_
  refine wpList_nil (hK3 _ _ ?_)
  refine wp_block ?_
  refine loop_ghost (σ := Nat) (fun k a w' => ∃ u4 : Nat → Value, a = fr [(.slice p_xs L_xs.length q_xs), (.func (.func f_f) s_f c_f), Ud, Ud, (u4 4), (u4 5), (.slice p_xs L_xs.length q_xs), (Iv (L_xs.length : Int)), (Iv (k : Int)), (u4 9), (u4 10), (u4 11), (u4 12), (u4 13), (u4 14), (u4 15), (u4 16), (u4 17), (u4 18)] ∧ Ext w w' ∧ (k ≤ L_xs.length ∧ NoneTo pr_f L_xs k)) (fun k => L_xs.length - k) 0 ?_ ?_
  · refine ⟨fun t => (([(.slice p_xs L_xs.length q_xs), (.func (.func f_f) s_f c_f), Ud, Ud, (Iv 0), Ud, (.slice p_xs L_xs.length q_xs), (Iv (L_xs.length : Int)), (Iv 0), Ud, Ud, Ud, Ud, Ud, Ud, Ud, Ud, Ud, Ud] : List Value)[t]?).getD undef, rfl, Ext.refl _, ?_⟩
    exact ⟨Nat.zero_le _, NoneTo.zero⟩
  · rintro k a w5 ⟨u4, rfl, E6, ⟨hk, hno⟩⟩
    have X8 := Ext.gr (Ext.refl w) E6
    refine wp_seq_k fun K9 hK9 => ?_
    refine wp_region_lit ?_
    refine q_is (l' := [(.slice p_xs L_xs.length q_xs), (.func (.func f_f) s_f c_f), Ud, Ud, (u4 4), (u4 5), (.slice p_xs L_xs.length q_xs), (Iv (L_xs.length : Int)), (Iv (k : Int)), (Bo (icmp .lss (k : Int) (L_xs.length : Int))), (u4 10), (u4 11), (u4 12), (u4 13), (u4 14), (u4 15), (u4 16), (u4 17), (u4 18)]) rfl rfl (does_icmp (p := (k : Int)) (q := (L_xs.length : Int)) (.inr (.inr (.inl rfl))) (ev rfl) (ev rfl)) rfl ?_
    refine wpList_nil (hK9 _ _ ?_)
    refine wp_seq_k fun K10 hK10 => ?_
    refine wp_cond_split (t := icmp .lss (k : Int) (L_xs.length : Int)) (ev rfl) (fun c11 => ?_) (fun c11 => ?_)
    · have c11' := c11
      (try simp only [icmp, Bool.and_eq_true, Bool.or_eq_true, Bool.and_eq_false_iff, Bool.or_eq_false_iff, Bool.not_eq_true', Bool.not_eq_false', decide_eq_true_eq, decide_eq_false_iff_not, beq_iff_eq, bne_iff_ne, beq_eq_false_iff_ne, bne_eq_false_iff_eq] at c11')
      refine wp_skip (hK10 _ _ ?_)
      refine wp_seq_k fun K12 hK12 => ?_
      refine wp_block ?_
      refine wp_seq_k fun K13 hK13 => ?_
      refine wp_region_lit ?_
      refine q_is (l' := [(.slice p_xs L_xs.length q_xs), (.func (.func f_f) s_f c_f), Ud, Ud, (u4 4), (u4 5), (.slice p_xs L_xs.length q_xs), (Iv (L_xs.length : Int)), (Iv (k : Int)), (Bo (icmp .lss (k : Int) (L_xs.length : Int))), (Iv (k : Int)), (u4 11), (u4 12), (u4 13), (u4 14), (u4 15), (u4 16), (u4 17), (u4 18)]) rfl rfl (does_move (u := (Iv (k : Int))) (ev rfl)) rfl ?_
      refine q_is (l' := [(.slice p_xs L_xs.length q_xs), (.func (.func f_f) s_f c_f), Ud, Ud, (u4 4), (Iv (k : Int)), (.slice p_xs L_xs.length q_xs), (Iv (L_xs.length : Int)), (Iv (k : Int)), (Bo (icmp .lss (k : Int) (L_xs.length : Int))), (Iv (k : Int)), (u4 11), (u4 12), (u4 13), (u4 14), (u4 15), (u4 16), (u4 17), (u4 18)]) rfl rfl (does_assign (u := (Iv (k : Int))) (ev rfl)) rfl ?_
      refine wpList_nil (hK13 _ _ ?_)
      refine wp_seq_k fun K14 hK14 => ?_
      refine wp_region_lit ?_
      refine q_is (l' := [(.slice p_xs L_xs.length q_xs), (.func (.func f_f) s_f c_f), Ud, Ud, (u4 4), (Iv (k : Int)), (.slice p_xs L_xs.length q_xs), (Iv (L_xs.length : Int)), (Iv (k : Int)), (Bo (icmp .lss (k : Int) (L_xs.length : Int))), (Iv (k : Int)), (.func (.func f_f) s_f c_f), (u4 12), (u4 13), (u4 14), (u4 15), (u4 16), (u4 17), (u4 18)]) rfl rfl (does_move (u := (.func (.func f_f) s_f c_f)) (ev rfl)) rfl ?_
      refine q_is (l' := [(.slice p_xs L_xs.length q_xs), (.func (.func f_f) s_f c_f), Ud, Ud, (u4 4), (Iv (k : Int)), (.slice p_xs L_xs.length q_xs), (Iv (L_xs.length : Int)), (Iv (k : Int)), (Bo (icmp .lss (k : Int) (L_xs.length : Int))), (Iv (k : Int)), (.func (.func f_f) s_f c_f), (.slice p_xs L_xs.length q_xs), (u4 13), (u4 14), (u4 15), (u4 16), (u4 17), (u4 18)]) rfl rfl (does_move (u := (.slice p_xs L_xs.length q_xs)) (ev rfl)) rfl ?_
      refine q_is (l' := [(.slice p_xs L_xs.length q_xs), (.func (.func f_f) s_f c_f), Ud, Ud, (u4 4), (Iv (k : Int)), (.slice p_xs L_xs.length q_xs), (Iv (L_xs.length : Int)), (Iv (k : Int)), (Bo (icmp .lss (k : Int) (L_xs.length : Int))), (Iv (k : Int)), (.func (.func f_f) s_f c_f), (.slice p_xs L_xs.length q_xs), (Iv (k : Int)), (u4 14), (u4 15), (u4 16), (u4 17), (u4 18)]) rfl rfl (does_move (u := (Iv (k : Int))) (ev rfl)) rfl ?_
      obtain ⟨el1, hel1⟩ : ∃ e, L_xs[k]? = some e := ⟨_, List.getElem?_eq_getElem (by omega)⟩
      refine seqd rfl rfl (does_indexSl (R := RF) (i := (k : Int)) (xs := L_xs) (e := el1) Try.underlying25 Try.sizeOf22 (ev rfl) (ev rfl) (Sl.ext hv_xs RF.mono X8) (by omega) hel1) ?_; rintro _ w5 ⟨b15, o16, _, rfl, hc18, ⟨r19, rfl, h20⟩, rfl⟩
      show wpList _ _ _ _ (fr [(.slice p_xs L_xs.length q_xs), (.func (.func f_f) s_f c_f), Ud, Ud, (u4 4), (Iv (k : Int)), (.slice p_xs L_xs.length q_xs), (Iv (L_xs.length : Int)), (Iv (k : Int)), (Bo (icmp .lss (k : Int) (L_xs.length : Int))), (Iv (k : Int)), (.func (.func f_f) s_f c_f), (.slice p_xs L_xs.length q_xs), (Iv (k : Int)), (Pt b15 o16), (u4 15), (u4 16), (u4 17), (u4 18)]) _
      refine q_is (l' := [(.slice p_xs L_xs.length q_xs), (.func (.func f_f) s_f c_f), Ud, Ud, (u4 4), (Iv (k : Int)), (.slice p_xs L_xs.length q_xs), (Iv (L_xs.length : Int)), (Iv (k : Int)), (Bo (icmp .lss (k : Int) (L_xs.length : Int))), (Iv (k : Int)), (.func (.func f_f) s_f c_f), (.slice p_xs L_xs.length q_xs), (Iv (k : Int)), (Pt b15 o16), (Fl r19), (u4 16), (u4 17), (u4 18)]) rfl rfl (does_load (u := (Fl r19)) (ev rfl) Try.isAgg22 (Cells.at hc18 0 rfl)) rfl ?_
      refine seqd rfl rfl (does_callf (args := #[(Fl r19)]) (ev rfl) hcal_f (evs rfl) (hg_f r19 _ X8)) ?_; rintro _ w22 ⟨E21, rfl⟩
      have X23 := Ext.gr X8 E21
      show wpList _ _ _ _ (fr [(.slice p_xs L_xs.length q_xs), (.func (.func f_f) s_f c_f), Ud, Ud, (u4 4), (Iv (k : Int)), (.slice p_xs L_xs.length q_xs), (Iv (L_xs.length : Int)), (Iv (k : Int)), (Bo (icmp .lss (k : Int) (L_xs.length : Int))), (Iv (k : Int)), (.func (.func f_f) s_f c_f), (.slice p_xs L_xs.length q_xs), (Iv (k : Int)), (Pt b15 o16), (Fl r19), (Bo (pr_f (cf .f32 r19))), (u4 17), (u4 18)]) _
      refine wpList_nil (hK14 _ _ ?_)
      refine wp_cond_split (t := pr_f (cf .f32 r19)) (ev rfl) (fun c24 => ?_) (fun c24 => ?_)
      · have c24' := c24
        refine wp_seq_k fun K25 hK25 => ?_
        refine wp_region_lit ?_
        refine q_is (l' := [(.slice p_xs L_xs.length q_xs), (.func (.func f_f) s_f c_f), Ud, Ud, (u4 4), (Iv (k : Int)), (.slice p_xs L_xs.length q_xs), (Iv (L_xs.length : Int)), (Iv (k : Int)), (Bo (icmp .lss (k : Int) (L_xs.length : Int))), (Iv (k : Int)), (.func (.func f_f) s_f c_f), (.slice p_xs L_xs.length q_xs), (Iv (k : Int)), (Pt b15 o16), (Fl r19), (Bo (pr_f (cf .f32 r19))), (Iv (k : Int)), (u4 18)]) rfl rfl (does_move (u := (Iv (k : Int))) (ev rfl)) rfl ?_
        refine q_is (l' := [(.slice p_xs L_xs.length q_xs), (.func (.func f_f) s_f c_f), Ud, Ud, (Iv (k : Int)), (Iv (k : Int)), (.slice p_xs L_xs.length q_xs), (Iv (L_xs.length : Int)), (Iv (k : Int)), (Bo (icmp .lss (k : Int) (L_xs.length : Int))), (Iv (k : Int)), (.func (.func f_f) s_f c_f), (.slice p_xs L_xs.length q_xs), (Iv (k : Int)), (Pt b15 o16), (Fl r19), (Bo (pr_f (cf .f32 r19))), (Iv (k : Int)), (u4 18)]) rfl rfl (does_assign (u := (Iv (k : Int))) (ev rfl)) rfl ?_
        refine wpList_nil (hK25 _ _ ?_)
        refine wp_ret ?_
        dsimp only [Exit.then, Exit.inBlock]
        refine ret_val (v := (Iv (k : Int))) (res_T rfl (slot rfl)) X23 ?_
        try simp only [hel1, h20] at c11 c24
        have x26 : (findI pr_f L_xs : Int) = (k : Int) := by first | exact findI_at hno (by assumption) (by simp_all) | exact findI_none hno (by omega)
        exact (by first | rfl | rw [x26])
      have c24' := c24
      refine wp_skip (hK12 _ _ ?_)
      refine wp_region_lit ?_
      refine q_is (l' := [(.slice p_xs L_xs.length q_xs), (.func (.func f_f) s_f c_f), Ud, Ud, (u4 4), (Iv (k : Int)), (.slice p_xs L_xs.length q_xs), (Iv (L_xs.length : Int)), (Iv (k : Int)), (Bo (icmp .lss (k : Int) (L_xs.length : Int))), (Iv (k : Int)), (.func (.func f_f) s_f c_f), (.slice p_xs L_xs.length q_xs), (Iv (k : Int)), (Pt b15 o16), (Fl r19), (Bo (pr_f (cf .f32 r19))), (u4 17), (Iv ((k : Int) + 1))]) rfl rfl (does_iarith (p := (k : Int)) (q := 1) (r := (k : Int) + 1) (ev rfl) (ev rfl) (.inl ⟨rfl, (in_i64 (by omega) (by omega)).symm⟩)) rfl ?_
      refine q_is (l' := [(.slice p_xs L_xs.length q_xs), (.func (.func f_f) s_f c_f), Ud, Ud, (u4 4), (Iv (k : Int)), (.slice p_xs L_xs.length q_xs), (Iv (L_xs.length : Int)), (Iv ((k : Int) + 1)), (Bo (icmp .lss (k : Int) (L_xs.length : Int))), (Iv (k : Int)), (.func (.func f_f) s_f c_f), (.slice p_xs L_xs.length q_xs), (Iv (k : Int)), (Pt b15 o16), (Fl r19), (Bo (pr_f (cf .f32 r19))), (u4 17), (Iv ((k : Int) + 1))]) rfl rfl (does_move (u := (Iv ((k : Int) + 1))) (ev rfl)) rfl ?_
      refine wpList_nil ?_
      refine ⟨k + 1, ⟨fun t => (([(.slice p_xs L_xs.length q_xs), (.func (.func f_f) s_f c_f), Ud, Ud, (u4 4), (Iv (k : Int)), (.slice p_xs L_xs.length q_xs), (Iv (L_xs.length : Int)), (Iv ((k : Int) + 1)), (Bo (icmp .lss (k : Int) (L_xs.length : Int))), (Iv (k : Int)), (.func (.func f_f) s_f c_f), (.slice p_xs L_xs.length q_xs), (Iv (k : Int)), (Pt b15 o16), (Fl r19), (Bo (pr_f (cf .f32 r19))), (u4 17), (Iv ((k : Int) + 1))] : List Value)[t]?).getD undef, ?_, (Ext.gr E6 E21), ?_⟩, ?_⟩
      · first | rfl | (simp only [Nat.cast_add, Nat.cast_one, Int.natCast_add, Int.natCast_one]; rfl)
      · exact ⟨by omega, NoneTo.step hno (by assumption) (by simp_all)⟩
      · omega
    have c11' := c11
    (try simp only [icmp, Bool.and_eq_true, Bool.or_eq_true, Bool.and_eq_false_iff, Bool.or_eq_false_iff, Bool.not_eq_true', Bool.not_eq_false', decide_eq_true_eq, decide_eq_false_iff_not, beq_iff_eq, bne_iff_ne, beq_eq_false_iff_ne, bne_eq_false_iff_eq] at c11')
    refine wp_exit ?_
    refine hK2 _ _ ?_
    refine wp_seq_k fun K27 hK27 => ?_
    refine wp_region_lit ?_
    refine q_is (l' := [(.slice p_xs L_xs.length q_xs), (.func (.func f_f) s_f c_f), Ud, Ud, (Iv (-1)), (u4 5), (.slice p_xs L_xs.length q_xs), (Iv (L_xs.length : Int)), (Iv (k : Int)), (Bo (icmp .lss (k : Int) (L_xs.length : Int))), (u4 10), (u4 11), (u4 12), (u4 13), (u4 14), (u4 15), (u4 16), (u4 17), (u4 18)]) rfl rfl (does_assign (u := (Iv (-1))) (ev rfl)) rfl ?_
    refine wpList_nil (hK27 _ _ ?_)
    refine wp_ret ?_
    refine ret_val (v := (Iv (-1))) (res_T rfl (slot rfl)) X8 ?_
    have x28 : (findI pr_f L_xs : Int) = (-1) := by first | exact findI_at hno (by assumption) (by simp_all) | exact findI_none hno (by omega)
    exact (by first | rfl | rw [x28])

/- slices.ContainsFunc[[]float32,float32] -/
theorem c_slices_ContainsFunc_float32_float32 (xs : Value) (L_xs : List Nat) (f : Value) (pr_f : Nat → Bool) (w : World) (hv_xs : Sl RF 1 w xs L_xs) (hv_f : TellsF Try.prog f w pr_f) : Gives Try.prog 47 #[xs, f] w (fun v w' => v = (Bo (L_xs.any pr_f))) := by
  have hlen_xs := Sl.len hv_xs; obtain ⟨p_xs, q_xs, rfl⟩ := Sl.shape hv_xs
  obtain ⟨f_f, s_f, c_f, rfl, hcal_f, hg_f⟩ := hv_f
  refine enter [(.slice p_xs L_xs.length q_xs), (.func (.func f_f) s_f c_f), Ud, Ud, Ud, Ud, Ud, Ud, Ud] Try.func47 rfl Try.ntmps47 rfl ?_
  refine wp_seq_k fun K1 hK1 => ?_
  refine wp_region_lit ?_
  refine q_is (l' := [(.slice p_xs L_xs.length q_xs), (.func (.func f_f) s_f c_f), Ud, Ud, (Bo false), Ud, Ud, Ud, Ud]) rfl rfl (does_assign (u := (Bo false)) (ev rfl)) rfl ?_
  refine wpList_nil (hK1 _ _ ?_)
  refine wp_seq_k fun K2 hK2 => ?_
  refine wp_region_lit ?_
  refine q_is (l' := [(.slice p_xs L_xs.length q_xs), (.func (.func f_f) s_f c_f), Ud, Ud, (Bo false), (.slice p_xs L_xs.length q_xs), Ud, Ud, Ud]) rfl rfl (does_move (u := (.slice p_xs L_xs.length q_xs)) (ev rfl)) rfl ?_
  refine q_is (l' := [(.slice p_xs L_xs.length q_xs), (.func (.func f_f) s_f c_f), Ud, Ud, (Bo false), (.slice p_xs L_xs.length q_xs), (.func (.func f_f) s_f c_f), Ud, Ud]) rfl rfl (does_move (u := (.func (.func f_f) s_f c_f)) (ev rfl)) rfl ?_
  refine seqd rfl rfl (does_call (args := #[(.slice p_xs L_xs.length q_xs), (.func (.func f_f) s_f c_f)]) cal51 (evs rfl) (c_slices_IndexFunc_float32_float32 (.slice p_xs L_xs.length q_xs) L_xs (.func (.func f_f) s_f c_f) pr_f _ hv_xs ⟨_, _, _, rfl, hcal_f, fun r u hu' => hg_f r u (Ext.gr (Ext.refl w) hu')⟩)) ?_; rintro _ w4 ⟨E3, rfl⟩
  have X5 := Ext.gr (Ext.refl w) E3
  show wpList _ _ _ _ (fr [(.slice p_xs L_xs.length q_xs), (.func (.func f_f) s_f c_f), Ud, Ud, (Bo false), (.slice p_xs L_xs.length q_xs), (.func (.func f_f) s_f c_f), (Iv (findI pr_f L_xs)), Ud]) _
  refine q_is (l' := [(.slice p_xs L_xs.length q_xs), (.func (.func f_f) s_f c_f), Ud, Ud, (Bo false), (.slice p_xs L_xs.length q_xs), (.func (.func f_f) s_f c_f), (Iv (findI pr_f L_xs)), (Bo (icmp .geq (findI pr_f L_xs) 0))]) rfl rfl (does_icmp (p := findI pr_f L_xs) (q := 0) (.inr (.inr (.inr (.inr (.inr rfl))))) (ev rfl) (ev rfl)) rfl ?_
  refine q_is (l' := [(.slice p_xs L_xs.length q_xs), (.func (.func f_f) s_f c_f), Ud, Ud, (Bo (icmp .geq (findI pr_f L_xs) 0)), (.slice p_xs L_xs.length q_xs), (.func (.func f_f) s_f c_f), (Iv (findI pr_f L_xs)), (Bo (icmp .geq (findI pr_f L_xs) 0))]) rfl rfl (does_assign (u := (Bo (icmp .geq (findI pr_f L_xs) 0))) (ev rfl)) rfl ?_
  refine wpList_nil (hK2 _ _ ?_)
  refine wp_ret ?_
  refine ret_val (v := (Bo (icmp .geq (findI pr_f L_xs) 0))) (res_T rfl (slot rfl)) X5 ?_
  have x6 : (L_xs.any pr_f) = (icmp .geq (findI pr_f L_xs) 0) := by first | with_reducible rfl | (simp only [findI_any]; done) | (simp [findI_any]; done) | rfl
  exact (by first | rfl | rw [x6])

/- impl.IsFinite -/
theorem c_impl_IsFinite (x : Nat) (w : World) : Gives Try.prog 46 #[(Fl x)] w (fun v w' => v = (Bo (finF (cf .f32 x)))) := by
  refine enter [(Fl x), Ud, Ud, Ud, Ud, Ud, Ud] Try.func46 rfl Try.ntmps46 rfl ?_
  refine wp_seq_k fun K1 hK1 => ?_
  refine wp_region_lit ?_
  refine q_is (l' := [(Fl x), Ud, (Bo false), Ud, Ud, Ud, Ud]) rfl rfl (does_assign (u := (Bo false)) (ev rfl)) rfl ?_
  refine wpList_nil (hK1 _ _ ?_)
  refine wp_seq_k fun K2 hK2 => ?_
  refine wp_region_lit ?_
  refine q_is (l' := [(Fl x), Ud, (Bo false), (Fl x), Ud, Ud, Ud]) rfl rfl (does_move (u := (Fl x)) (ev rfl)) rfl ?_
  refine q_is (l' := [(Fl x), Ud, (Bo false), (Fl x), (Fl x), Ud, Ud]) rfl rfl (does_move (u := (Fl x)) (ev rfl)) rfl ?_
  refine seqd rfl rfl (does_float (.inr (.inl rfl)) (ev rfl) (ev rfl)) ?_; rintro _ w6 ⟨r3, rfl, h4, E5⟩
  have X7 := Ext.gr (Ext.refl w) E5
  show wpList _ _ _ _ (fr [(Fl x), Ud, (Bo false), (Fl x), (Fl x), (Fl r3), Ud]) _
  refine q_is (l' := [(Fl x), Ud, (Bo false), (Fl x), (Fl x), (Fl r3), (Bo (fcmp .eql (ford .f32 (cf .f32 r3) (cf .f32 0))))]) rfl rfl (does_fcmp (.inl rfl) (ev rfl) (ev rfl)) rfl ?_
  refine q_is (l' := [(Fl x), Ud, (Bo (fcmp .eql (ford .f32 (cf .f32 r3) (cf .f32 0)))), (Fl x), (Fl x), (Fl r3), (Bo (fcmp .eql (ford .f32 (cf .f32 r3) (cf .f32 0))))]) rfl rfl (does_assign (u := (Bo (fcmp .eql (ford .f32 (cf .f32 r3) (cf .f32 0))))) (ev rfl)) rfl ?_
  refine wpList_nil (hK2 _ _ ?_)
  refine wp_ret ?_
  refine ret_val (v := (Bo (fcmp .eql (ford .f32 (cf .f32 r3) (cf .f32 0))))) (res_T rfl (slot rfl)) X7 ?_
  have x8 : (finF (cf .f32 x)) = (fcmp .eql (ford .f32 (cf .f32 r3) (cf .f32 0))) := by first | with_reducible rfl | (simp only [finF, h4]; done) | (simp [finF, h4]; done) | rfl
  exact (by first | rfl | rw [x8])

/- impl.finite$1 -/
theorem c_impl_finite_1 (x : Nat) (w : World) : Gives Try.prog 48 #[(Fl x)] w (fun v w' => v = (Bo (!finF (cf .f32 x)))) := by
  refine enter [(Fl x), Ud, Ud, Ud, Ud, Ud] Try.func48 rfl Try.ntmps48 rfl ?_
  refine wp_seq_k fun K1 hK1 => ?_
  refine wp_region_lit ?_
  refine q_is (l' := [(Fl x), Ud, (Bo false), Ud, Ud, Ud]) rfl rfl (does_assign (u := (Bo false)) (ev rfl)) rfl ?_
  refine wpList_nil (hK1 _ _ ?_)
  refine wp_seq_k fun K2 hK2 => ?_
  refine wp_region_lit ?_
  refine q_is (l' := [(Fl x), Ud, (Bo false), (Fl x), Ud, Ud]) rfl rfl (does_move (u := (Fl x)) (ev rfl)) rfl ?_
  refine seqd rfl rfl (does_call (args := #[(Fl x)]) cal46 (evs rfl) (c_impl_IsFinite x _)) ?_; rintro _ w4 ⟨E3, rfl⟩
  have X5 := Ext.gr (Ext.refl w) E3
  show wpList _ _ _ _ (fr [(Fl x), Ud, (Bo false), (Fl x), (Bo (finF (cf .f32 x))), Ud]) _
  refine q_is (l' := [(Fl x), Ud, (Bo false), (Fl x), (Bo (finF (cf .f32 x))), (Bo (!(finF (cf .f32 x))))]) rfl rfl (does_not (ev rfl)) rfl ?_
  refine q_is (l' := [(Fl x), Ud, (Bo (!(finF (cf .f32 x)))), (Fl x), (Bo (finF (cf .f32 x))), (Bo (!(finF (cf .f32 x))))]) rfl rfl (does_assign (u := (Bo (!(finF (cf .f32 x))))) (ev rfl)) rfl ?_
  refine wpList_nil (hK2 _ _ ?_)
  refine wp_ret ?_
  refine ret_val (v := (Bo (!(finF (cf .f32 x))))) (res_T rfl (slot rfl)) X5 ?_
  have x6 : (!finF (cf .f32 x)) = (!(finF (cf .f32 x))) := by first | with_reducible rfl | (simp only []; done) | (simp []; done) | rfl
  exact (by first | rfl | rw [x6])

/- impl.finite -/
theorem c_impl_finite (xs : Value) (L_xs : List Nat) (w : World) (hv_xs : Sl RF 1 w xs L_xs) : Gives Try.prog 37 #[xs] w (fun v w' => v = (Bo (!L_xs.any (fun x => !finF x)))) := by
  have hlen_xs := Sl.len hv_xs; obtain ⟨p_xs, q_xs, rfl⟩ := Sl.shape hv_xs
  refine enter [(.slice p_xs L_xs.length q_xs), Ud, Ud, Ud, Ud, Ud] Try.func37 rfl Try.ntmps37 rfl ?_
  refine wp_seq_k fun K1 hK1 => ?_
  refine wp_region_lit ?_
  refine q_is (l' := [(.slice p_xs L_xs.length q_xs), Ud, (Bo false), Ud, Ud, Ud]) rfl rfl (does_assign (u := (Bo false)) (ev rfl)) rfl ?_
  refine wpList_nil (hK1 _ _ ?_)
  refine wp_seq_k fun K2 hK2 => ?_
  refine wp_region_lit ?_
  refine q_is (l' := [(.slice p_xs L_xs.length q_xs), Ud, (Bo false), (.slice p_xs L_xs.length q_xs), Ud, Ud]) rfl rfl (does_move (u := (.slice p_xs L_xs.length q_xs)) (ev rfl)) rfl ?_
  refine seqd rfl rfl (does_call (args := #[(.slice p_xs L_xs.length q_xs), (.func (.func 48) #[] #[])]) cal47 (evs rfl) (c_slices_ContainsFunc_float32_float32 (.slice p_xs L_xs.length q_xs) L_xs (.func (.func 48) #[] #[]) (fun x => !finF x) _ hv_xs ⟨48, #[], #[], rfl, cal48, fun r u hu' => by simpa using (c_impl_finite_1 r u)⟩)) ?_; rintro _ w4 ⟨E3, rfl⟩
  have X5 := Ext.gr (Ext.refl w) E3
  show wpList _ _ _ _ (fr [(.slice p_xs L_xs.length q_xs), Ud, (Bo false), (.slice p_xs L_xs.length q_xs), (Bo (L_xs.any (fun x => !finF x))), Ud]) _
  refine q_is (l' := [(.slice p_xs L_xs.length q_xs), Ud, (Bo false), (.slice p_xs L_xs.length q_xs), (Bo (L_xs.any (fun x => !finF x))), (Bo (!(L_xs.any (fun x => !finF x))))]) rfl rfl (does_not (ev rfl)) rfl ?_
  refine q_is (l' := [(.slice p_xs L_xs.length q_xs), Ud, (Bo (!(L_xs.any (fun x => !finF x)))), (.slice p_xs L_xs.length q_xs), (Bo (L_xs.any (fun x => !finF x))), (Bo (!(L_xs.any (fun x => !finF x))))]) rfl rfl (does_assign (u := (Bo (!(L_xs.any (fun x => !finF x))))) (ev rfl)) rfl ?_
  refine wpList_nil (hK2 _ _ ?_)
  refine wp_ret ?_
  refine ret_val (v := (Bo (!(L_xs.any (fun x => !finF x))))) (res_T rfl (slot rfl)) X5 ?_
  have x6 : (!L_xs.any (fun x => !finF x)) = (!(L_xs.any (fun x => !finF x))) := by first | with_reducible rfl | (simp only []; done) | (simp []; done) | rfl
  exact (by first | rfl | rw [x6])

/- impl.finiteVector -/
theorem c_impl_finiteVector (v : List Value) (A_v : V3) (w : World) (hv_v : RV3 w A_v v) : Gives Try.prog 21 #[(.agg v.toArray)] w (fun v w' => v = (Bo (finV A_v))) := by
  obtain ⟨r1, r3, r5, rfl, h2, h4, h6⟩ := hv_v
  refine enter [(.agg #[(Fl r1), (Fl r3), (Fl r5)]), Ud, Ud, Ud, Ud, Ud, Ud, Ud, Ud, Ud, Ud] Try.func21 rfl Try.ntmps21 rfl ?_
  refine wp_seq_k fun K7 hK7 => ?_
  refine wp_region_lit ?_
  refine seqd rfl rfl (does_box (u := (.agg #[(Fl r1), (Fl r3), (Fl r5)])) (ev rfl)) ?_; rintro _ w12 ⟨b8, rfl, hb9, hB10, E11⟩
  have g13 : w.heap.size ≤ b8 := Nat.le_trans (Below.size (Ext.refl w)) hb9
  change Blk _ _ [(Fl r1), (Fl r3), (Fl r5)] at hB10
  have X14 := Ext.gr (Ext.refl w) E11
  show wpList _ _ _ _ (fr [(.agg #[(Fl r1), (Fl r3), (Fl r5)]), (Pt b8 0), Ud, Ud, Ud, Ud, Ud, Ud, Ud, Ud, Ud]) _
  refine q_is (l' := [(.agg #[(Fl r1), (Fl r3), (Fl r5)]), (Pt b8 0), (Bo false), Ud, Ud, Ud, Ud, Ud, Ud, Ud, Ud]) rfl rfl (does_assign (u := (Bo false)) (ev rfl)) rfl ?_
  refine wpList_nil (hK7 _ _ ?_)
  refine wp_seq_k fun K15 hK15 => ?_
  refine wp_region_lit ?_
  refine q_is (l' := [(.agg #[(Fl r1), (Fl r3), (Fl r5)]), (Pt b8 0), (Bo false), (Pt b8 0), Ud, Ud, Ud, Ud, Ud, Ud, Ud]) rfl rfl (does_fieldAddr (ev rfl) fa31_0) rfl ?_
  refine q_is (l' := [(.agg #[(Fl r1), (Fl r3), (Fl r5)]), (Pt b8 0), (Bo false), (Pt b8 0), (Fl r1), Ud, Ud, Ud, Ud, Ud, Ud]) rfl rfl (does_load (u := (Fl r1)) (ev rfl) Try.isAgg22 (Cells.at (Blk.cells hB10) 0 rfl)) rfl ?_
  refine q_is (l' := [(.agg #[(Fl r1), (Fl r3), (Fl r5)]), (Pt b8 0), (Bo false), (Pt b8 0), (Fl r1), (Pt b8 1), Ud, Ud, Ud, Ud, Ud]) rfl rfl (does_fieldAddr (ev rfl) fa31_1) rfl ?_
  refine q_is (l' := [(.agg #[(Fl r1), (Fl r3), (Fl r5)]), (Pt b8 0), (Bo false), (Pt b8 0), (Fl r1), (Pt b8 1), (Fl r3), Ud, Ud, Ud, Ud]) rfl rfl (does_load (u := (Fl r3)) (ev rfl) Try.isAgg22 (Cells.at (Blk.cells hB10) 1 rfl)) rfl ?_
  refine q_is (l' := [(.agg #[(Fl r1), (Fl r3), (Fl r5)]), (Pt b8 0), (Bo false), (Pt b8 0), (Fl r1), (Pt b8 1), (Fl r3), (Pt b8 2), Ud, Ud, Ud]) rfl rfl (does_fieldAddr (ev rfl) fa31_2) rfl ?_
  refine q_is (l' := [(.agg #[(Fl r1), (Fl r3), (Fl r5)]), (Pt b8 0), (Bo false), (Pt b8 0), (Fl r1), (Pt b8 1), (Fl r3), (Pt b8 2), (Fl r5), Ud, Ud]) rfl rfl (does_load (u := (Fl r5)) (ev rfl) Try.isAgg22 (Cells.at (Blk.cells hB10) 2 rfl)) rfl ?_
  refine seqd rfl rfl (does_buildSlice (e := 22) (parts' := [(0, (Fl r1)), (1, (Fl r3)), (2, (Fl r5))]) (cells := [(Fl r1), (Fl r3), (Fl r5)]) (evp rfl) (fun _ => by kernel_rfl)) ?_; rintro _ w20 ⟨b16, rfl, hb17, hB18, E19⟩
  have n21 : b8 < b16 := Nat.lt_of_lt_of_le (Blk.lt hB10) hb17
  have g22 : w.heap.size ≤ b16 := Nat.le_trans (Below.size X14) hb17
  have X23 := Ext.gr X14 E19
  show wpList _ _ _ _ (fr [(.agg #[(Fl r1), (Fl r3), (Fl r5)]), (Pt b8 0), (Bo false), (Pt b8 0), (Fl r1), (Pt b8 1), (Fl r3), (Pt b8 2), (Fl r5), (.slice (some ⟨b16, 0, none⟩) 3 3), Ud]) _
  refine seqd rfl rfl (does_call (args := #[(.slice (some ⟨b16, 0, none⟩) 3 3)]) cal37 (evs rfl) (c_impl_finite (.slice (some ⟨b16, 0, none⟩) 3 3) [(cf .f32 r1), (cf .f32 r3), (cf .f32 r5)] _ (Sl_lit3 hB18 ⟨_, rfl, rfl⟩ ⟨_, rfl, rfl⟩ ⟨_, rfl, rfl⟩))) ?_; rintro _ w25 ⟨E24, rfl⟩
  have X26 := Ext.gr X23 E24
  show wpList _ _ _ _ (fr [(.agg #[(Fl r1), (Fl r3), (Fl r5)]), (Pt b8 0), (Bo false), (Pt b8 0), (Fl r1), (Pt b8 1), (Fl r3), (Pt b8 2), (Fl r5), (.slice (some ⟨b16, 0, none⟩) 3 3), (Bo (!([(cf .f32 r1), (cf .f32 r3), (cf .f32 r5)]).any (fun x => !finF x)))]) _
  refine q_is (l' := [(.agg #[(Fl r1), (Fl r3), (Fl r5)]), (Pt b8 0), (Bo (!([(cf .f32 r1), (cf .f32 r3), (cf .f32 r5)]).any (fun x => !finF x))), (Pt b8 0), (Fl r1), (Pt b8 1), (Fl r3), (Pt b8 2), (Fl r5), (.slice (some ⟨b16, 0, none⟩) 3 3), (Bo (!([(cf .f32 r1), (cf .f32 r3), (cf .f32 r5)]).any (fun x => !finF x)))]) rfl rfl (does_assign (u := (Bo (!([(cf .f32 r1), (cf .f32 r3), (cf .f32 r5)]).any (fun x => !finF x)))) (ev rfl)) rfl ?_
  refine wpList_nil (hK15 _ _ ?_)
  refine wp_ret ?_
  refine ret_val (v := (Bo (!([(cf .f32 r1), (cf .f32 r3), (cf .f32 r5)]).any (fun x => !finF x)))) (res_T rfl (slot rfl)) X26 ?_
  have x27 : (finV A_v) = (!([(cf .f32 r1), (cf .f32 r3), (cf .f32 r5)]).any (fun x => !finF x)) := by first | with_reducible rfl | (simp only [finV, any3_finF, h2, h4, h6]; done) | (simp [finV, any3_finF, h2, h4, h6]; done) | rfl
  exact (by first | rfl | rw [x27])

/- impl.stepOk -/
theorem c_impl_stepOk (x : Nat) (w : World) : Gives Try.prog 34 #[(Fl x)] w (fun v w' => v = (Bo (finF (cf .f32 x) && posF (cf .f32 x)))) := by
  refine enter [(Fl x), Ud, Ud, Ud, Ud, Ud, Ud, Ud, Ud] Try.func34 rfl Try.ntmps34 rfl ?_
  refine wp_seq_k fun K1 hK1 => ?_
  refine wp_region_lit ?_
  refine q_is (l' := [(Fl x), Ud, (Bo false), Ud, Ud, Ud, Ud, Ud, Ud]) rfl rfl (does_assign (u := (Bo false)) (ev rfl)) rfl ?_
  refine wpList_nil (hK1 _ _ ?_)
  refine wp_seq_k fun K2 hK2 => ?_
  obtain ⟨β1, hβ1⟩ : ∃ b : Bool, b = (fcmp .gtr (ford .f32 (cf .f32 x) (cf .f32 0))) := ⟨_, rfl⟩
  refine region_text (
    [Fact.pure [] (fun v => v = (Fl x)),
    Fact.pure [3] (fun v => v = (Bo (finF (cf .f32 x)))),
    Fact.pure [4] (fun v => v = (Bo (finF (cf .f32 x)))),
    Fact.pure [5] (fun v => (finF (cf .f32 x)) = true → v = (Fl x)),
    Fact.pure [6, 5] (fun v => (finF (cf .f32 x)) = true → v = (Bo β1)),
    Fact.pure [5, 7] (fun v => v = (Bo ((finF (cf .f32 x)) && β1)))]) (by simp [Fact.pure, Fact.mem]) ?_
  refine RW_d (fun v3 => [(Fl x), Ud, (Bo false), v3, Ud, Ud, Ud, Ud, Ud]) rfl (fun _ => rfl) (fun u hu hF => ?_) (fun v3 => ?_)
  · clear hF
    refine doesG_un rfl ?_
    refine (does_move (u := (Fl x)) (ev rfl)).mono ?_; rintro _ _ ⟨rfl, rfl⟩
    exact ⟨rfl, Ext.refl _⟩
  refine RW_d (fun v4 => [(Fl x), Ud, (Bo false), v3, v4, Ud, Ud, Ud, Ud]) rfl (fun _ => rfl) (fun u hu hF => ?_) (fun v4 => ?_)
  · have h3_ : v3 = (Fl x) := hF.1
    clear hF
    refine doesG_un rfl ?_
    obtain rfl := h3_
    refine (does_call (args := #[(Fl x)]) cal46 (evs rfl) (c_impl_IsFinite x _)).mono ?_; rintro v u' ⟨hx, hv⟩
    exact ⟨hv, hx⟩
  refine RW_d (fun v5 => [(Fl x), Ud, (Bo false), v3, v4, v5, Ud, Ud, Ud]) rfl (fun _ => rfl) (fun u hu hF => ?_) (fun v5 => ?_)
  · have h4_ : v4 = (Bo (finF (cf .f32 x))) := hF.1
    clear hF
    refine doesG_un rfl ?_
    obtain rfl := h4_
    refine (does_move (u := (Bo (finF (cf .f32 x)))) (ev rfl)).mono ?_; rintro _ _ ⟨rfl, rfl⟩
    exact ⟨rfl, Ext.refl _⟩
  refine RW_d (fun v6 => [(Fl x), Ud, (Bo false), v3, v4, v5, v6, Ud, Ud]) rfl (fun _ => rfl) (fun u hu hF => ?_) (fun v6 => ?_)
  · have h5_ : v5 = (Bo (finF (cf .f32 x))) := hF.1
    clear hF
    obtain rfl := h5_
    refine doesG_g (b := (finF (cf .f32 x))) rfl (yld rfl rfl) (fun hg1 => ?_) (fun hc => ⟨fun hg1 => absurd hg1 hc, Ext.refl _⟩)
    refine (does_move (u := (Fl x)) (ev rfl)).mono ?_; rintro _ _ ⟨rfl, rfl⟩
    exact ⟨fun _ => rfl, Ext.refl _⟩
  refine RW_d (fun v7 => [(Fl x), Ud, (Bo false), v3, v4, v5, v6, v7, Ud]) rfl (fun _ => rfl) (fun u hu hF => ?_) (fun v7 => ?_)
  · have h6_ : (finF (cf .f32 x)) = true → v6 = (Fl x) := hF.1
    have h5_ : v5 = (Bo (finF (cf .f32 x))) := hF.2.1
    clear hF
    obtain rfl := h5_
    refine doesG_g (b := (finF (cf .f32 x))) rfl (yld rfl rfl) (fun hg1 => ?_) (fun hc => ⟨fun hg1 => absurd hg1 hc, Ext.refl _⟩)
    obtain rfl := h6_ hg1
    refine (does_fcmp (.inr (.inr (.inr (.inr (.inl rfl))))) (ev rfl) (ev rfl)).mono ?_; rintro _ _ ⟨rfl, rfl⟩
    exact ⟨fun _ => (by first | rfl | (show _ = _; simp only [hβ1]; done) | (show _ = _; simp only [hβ1]; rfl)), Ext.refl _⟩
  refine RW_d (fun v8 => [(Fl x), Ud, (Bo false), v3, v4, v5, v6, v7, v8]) rfl (fun _ => rfl) (fun u hu hF => ?_) (fun v8 => ?_)
  · have h5_ : v5 = (Bo (finF (cf .f32 x))) := hF.1
    have h7_ : (finF (cf .f32 x)) = true → v7 = (Bo β1) := hF.2.1
    clear hF
    refine doesG_un rfl ?_
    skip
    obtain rfl := h5_
    refine (does_pick (b := (finF (cf .f32 x))) (ev rfl) (ev rfl) (ev rfl)).mono ?_; rintro _ _ ⟨rfl, rfl⟩; refine ⟨?_, Ext.refl _⟩; skip
    cases hbb : (finF (cf .f32 x))
    all_goals first | rfl | (have e_ := h7_ hbb; subst e_; rfl) | (simp [hbb] at h7_ ⊢; first | done | rfl | (subst h7_; rfl) | simp_all) | (simp [hbb] at h7_ ⊢; done)
  refine RW_fin ?_; intro w9 E10 hP11
  obtain ⟨⟨⟨⟨⟨⟨-, -⟩, -⟩, -⟩, -⟩, -⟩, q12⟩ := hP11
  have X13 := Ext.gr (Ext.refl w) E10
  have q12 : v8 = (Bo ((finF (cf .f32 x)) && β1)) := q12
  obtain rfl := q12
  show wpList _ _ _ _ (fr [(Fl x), Ud, (Bo false), v3, v4, v5, v6, v7, (Bo ((finF (cf .f32 x)) && β1))]) _
  refine q_is (l' := [(Fl x), Ud, (Bo ((finF (cf .f32 x)) && β1)), v3, v4, v5, v6, v7, (Bo ((finF (cf .f32 x)) && β1))]) rfl rfl (does_assign (u := (Bo ((finF (cf .f32 x)) && β1))) (ev rfl)) rfl ?_
  refine wpList_nil (hK2 _ _ ?_)
  refine wp_ret ?_
  refine ret_val (v := (Bo ((finF (cf .f32 x)) && β1))) (res_T rfl (slot rfl)) X13 ?_
  have x14 : (finF (cf .f32 x) && posF (cf .f32 x)) = ((finF (cf .f32 x)) && β1) := by first | with_reducible rfl | (simp only [posF, hβ1]; done) | (simp [posF, hβ1]; done) | rfl
  exact (by first | rfl | rw [x14])

/- (*impl.Grid).counts -/
theorem c_impl_Grid_counts (g_b : Nat) (g_o : Nat) (g : List Value) (A_g : GridT) (w : World) (hc_g : Cells w g_b g_o g) (hv_g : RGridT w A_g g) : Gives Try.prog 35 #[(Pt g_b g_o)] w (fun v w' => v = (.agg #[(Iv A_g.x), (Iv A_g.y), (Iv A_g.z)])) := by
  obtain ⟨r1, r3, r5, r7, y9, rfl, h2, h4, h6, h8, h10⟩ := hv_g
  have hs13 := h10; have hs13l := Sl.len h10; obtain ⟨p11, q12, rfl⟩ := Sl.shape h10
  refine enter [(Pt g_b g_o), Ud, Ud, Ud, Ud, Ud, Ud, Ud, Ud, Ud, Ud, Ud, Ud, Ud, Ud, Ud] Try.func35 rfl Try.ntmps35 rfl ?_
  refine wp_seq_k fun K14 hK14 => ?_
  refine wp_region_lit ?_
  refine seqd rfl rfl (does_alloc z64) ?_; rintro _ w19 ⟨b15, rfl, hb16, hB17, E18⟩
  have n20 : g_b < b15 := Nat.lt_of_lt_of_le (cell_lt (Cells.at hc_g 0 rfl)) hb16
  have g21 : w.heap.size ≤ b15 := Nat.le_trans (Below.size (Ext.refl w)) hb16
  change Blk _ _ [(Iv 0), (Iv 0), (Iv 0)] at hB17
  have X22 := Ext.gr (Ext.refl w) E18
  show wpList _ _ _ _ (fr [(Pt g_b g_o), Ud, (Pt b15 0), Ud, Ud, Ud, Ud, Ud, Ud, Ud, Ud, Ud, Ud, Ud, Ud, Ud]) _
  refine wpList_nil (hK14 _ _ ?_)
  refine wp_seq_k fun K23 hK23 => ?_
  refine region_draw (
    [Fact.pure [] (fun v => v = (Pt g_b g_o)),
    Fact.pure [3] (fun v => v = (Pt g_b g_o)),
    Fact.pure [4] (fun v => v = (Pt g_b (g_o + 4))),
    Fact.pure [5] (fun v => v = (Iv A_g.x)),
    Fact.pure [] (fun v => v = (Pt g_b g_o)),
    Fact.pure [7] (fun v => v = (Pt g_b g_o)),
    Fact.pure [8] (fun v => v = (Pt g_b (g_o + 5))),
    Fact.pure [9] (fun v => v = (Iv A_g.y)),
    Fact.pure [] (fun v => v = (Pt g_b g_o)),
    Fact.pure [11] (fun v => v = (Pt g_b g_o)),
    Fact.pure [12] (fun v => v = (Pt g_b (g_o + 6))),
    Fact.pure [13] (fun v => v = (Iv A_g.z)),
    Fact.pure [6, 10, 14] (fun v => v = (.agg #[(Iv A_g.x), (Iv A_g.y), (Iv A_g.z)]))]) mixed (by kernel_rfl) (by intro _ _ d _ _ h; cases d <;> exact h) ?_
  obtain ⟨w24, hw26⟩ : ∃ w', w' = World.drew w19 := ⟨_, rfl⟩; rw [← hw26]; have E25 : Ext w19 w24 := by rw [hw26]; exact Ext.draw _
  clear hw26
  have X27 := Ext.gr X22 E25
  refine RW_d (fun v28 => [(Pt g_b g_o), Ud, (Pt b15 0), v28, Ud, Ud, Ud, Ud, Ud, Ud, Ud, Ud, Ud, Ud, Ud, Ud]) rfl (fun _ => rfl) (fun u hu hF => ?_) (fun v28 => ?_)
  · clear hF
    refine doesG_un rfl ?_
    refine (does_move (u := (Pt g_b g_o)) (ev rfl)).mono ?_; rintro _ _ ⟨rfl, rfl⟩
    exact ⟨rfl, Ext.refl _⟩
  refine RW_d (fun v29 => [(Pt g_b g_o), Ud, (Pt b15 0), v28, v29, Ud, Ud, Ud, Ud, Ud, Ud, Ud, Ud, Ud, Ud, Ud]) rfl (fun _ => rfl) (fun u hu hF => ?_) (fun v29 => ?_)
  · have h3_ : v28 = (Pt g_b g_o) := hF.1
    clear hF
    refine doesG_un rfl ?_
    obtain rfl := h3_
    refine (does_nilCheck (ev rfl)).mono ?_; rintro _ _ ⟨rfl, rfl⟩
    exact ⟨rfl, Ext.refl _⟩
  refine RW_d (fun v30 => [(Pt g_b g_o), Ud, (Pt b15 0), v28, v29, v30, Ud, Ud, Ud, Ud, Ud, Ud, Ud, Ud, Ud, Ud]) rfl (fun _ => rfl) (fun u hu hF => ?_) (fun v30 => ?_)
  · have h4_ : v29 = (Pt g_b g_o) := hF.1
    clear hF
    refine doesG_un rfl ?_
    obtain rfl := h4_
    refine (does_fieldAddr (ev rfl) fa33_2).mono ?_; rintro _ _ ⟨rfl, rfl⟩
    exact ⟨rfl, Ext.refl _⟩
  refine RW_d (fun v31 => [(Pt g_b g_o), Ud, (Pt b15 0), v28, v29, v30, v31, Ud, Ud, Ud, Ud, Ud, Ud, Ud, Ud, Ud]) rfl (fun _ => rfl) (fun u hu hF => ?_) (fun v31 => ?_)
  · have h5_ : v30 = (Pt g_b (g_o + 4)) := hF.1
    clear hF
    refine doesG_un rfl ?_
    obtain rfl := h5_
    refine (does_load (u := (Iv A_g.x)) (ev rfl) Try.isAgg2 (Cells.at ((hc_g.ext (Ext.gr X22 E25)).ext hu) 4 rfl)).mono ?_; rintro _ _ ⟨rfl, rfl⟩
    exact ⟨rfl, Ext.refl _⟩
  refine RW_d (fun v32 => [(Pt g_b g_o), Ud, (Pt b15 0), v28, v29, v30, v31, v32, Ud, Ud, Ud, Ud, Ud, Ud, Ud, Ud]) rfl (fun _ => rfl) (fun u hu hF => ?_) (fun v32 => ?_)
  · clear hF
    refine doesG_un rfl ?_
    refine (does_move (u := (Pt g_b g_o)) (ev rfl)).mono ?_; rintro _ _ ⟨rfl, rfl⟩
    exact ⟨rfl, Ext.refl _⟩
  refine RW_d (fun v33 => [(Pt g_b g_o), Ud, (Pt b15 0), v28, v29, v30, v31, v32, v33, Ud, Ud, Ud, Ud, Ud, Ud, Ud]) rfl (fun _ => rfl) (fun u hu hF => ?_) (fun v33 => ?_)
  · have h7_ : v32 = (Pt g_b g_o) := hF.1
    clear hF
    refine doesG_un rfl ?_
    obtain rfl := h7_
    refine (does_nilCheck (ev rfl)).mono ?_; rintro _ _ ⟨rfl, rfl⟩
    exact ⟨rfl, Ext.refl _⟩
  refine RW_d (fun v34 => [(Pt g_b g_o), Ud, (Pt b15 0), v28, v29, v30, v31, v32, v33, v34, Ud, Ud, Ud, Ud, Ud, Ud]) rfl (fun _ => rfl) (fun u hu hF => ?_) (fun v34 => ?_)
  · have h8_ : v33 = (Pt g_b g_o) := hF.1
    clear hF
    refine doesG_un rfl ?_
    obtain rfl := h8_
    refine (does_fieldAddr (ev rfl) fa33_3).mono ?_; rintro _ _ ⟨rfl, rfl⟩
    exact ⟨rfl, Ext.refl _⟩
  refine RW_d (fun v35 => [(Pt g_b g_o), Ud, (Pt b15 0), v28, v29, v30, v31, v32, v33, v34, v35, Ud, Ud, Ud, Ud, Ud]) rfl (fun _ => rfl) (fun u hu hF => ?_) (fun v35 => ?_)
  · have h9_ : v34 = (Pt g_b (g_o + 5)) := hF.1
    clear hF
    refine doesG_un rfl ?_
    obtain rfl := h9_
    refine (does_load (u := (Iv A_g.y)) (ev rfl) Try.isAgg2 (Cells.at ((hc_g.ext (Ext.gr X22 E25)).ext hu) 5 rfl)).mono ?_; rintro _ _ ⟨rfl, rfl⟩
    exact ⟨rfl, Ext.refl _⟩
  refine RW_d (fun v36 => [(Pt g_b g_o), Ud, (Pt b15 0), v28, v29, v30, v31, v32, v33, v34, v35, v36, Ud, Ud, Ud, Ud]) rfl (fun _ => rfl) (fun u hu hF => ?_) (fun v36 => ?_)
  · clear hF
    refine doesG_un rfl ?_
    refine (does_move (u := (Pt g_b g_o)) (ev rfl)).mono ?_; rintro _ _ ⟨rfl, rfl⟩
    exact ⟨rfl, Ext.refl _⟩
  refine RW_d (fun v37 => [(Pt g_b g_o), Ud, (Pt b15 0), v28, v29, v30, v31, v32, v33, v34, v35, v36, v37, Ud, Ud, Ud]) rfl (fun _ => rfl) (fun u hu hF => ?_) (fun v37 => ?_)
  · have h11_ : v36 = (Pt g_b g_o) := hF.1
    clear hF
    refine doesG_un rfl ?_
    obtain rfl := h11_
    refine (does_nilCheck (ev rfl)).mono ?_; rintro _ _ ⟨rfl, rfl⟩
    exact ⟨rfl, Ext.refl _⟩
  refine RW_d (fun v38 => [(Pt g_b g_o), Ud, (Pt b15 0), v28, v29, v30, v31, v32, v33, v34, v35, v36, v37, v38, Ud, Ud]) rfl (fun _ => rfl) (fun u hu hF => ?_) (fun v38 => ?_)
  · have h12_ : v37 = (Pt g_b g_o) := hF.1
    clear hF
    refine doesG_un rfl ?_
    obtain rfl := h12_
    refine (does_fieldAddr (ev rfl) fa33_4).mono ?_; rintro _ _ ⟨rfl, rfl⟩
    exact ⟨rfl, Ext.refl _⟩
  refine RW_d (fun v39 => [(Pt g_b g_o), Ud, (Pt b15 0), v28, v29, v30, v31, v32, v33, v34, v35, v36, v37, v38, v39, Ud]) rfl (fun _ => rfl) (fun u hu hF => ?_) (fun v39 => ?_)
  · have h13_ : v38 = (Pt g_b (g_o + 6)) := hF.1
    clear hF
    refine doesG_un rfl ?_
    obtain rfl := h13_
    refine (does_load (u := (Iv A_g.z)) (ev rfl) Try.isAgg2 (Cells.at ((hc_g.ext (Ext.gr X22 E25)).ext hu) 6 rfl)).mono ?_; rintro _ _ ⟨rfl, rfl⟩
    exact ⟨rfl, Ext.refl _⟩
  refine RW_d (fun v40 => [(Pt g_b g_o), Ud, (Pt b15 0), v28, v29, v30, v31, v32, v33, v34, v35, v36, v37, v38, v39, v40]) rfl (fun _ => rfl) (fun u hu hF => ?_) (fun v40 => ?_)
  · have h6_ : v31 = (Iv A_g.x) := hF.1
    have h10_ : v35 = (Iv A_g.y) := hF.2.1
    have h14_ : v39 = (Iv A_g.z) := hF.2.2.1
    clear hF
    refine doesG_un rfl ?_
    obtain rfl := h6_
    obtain rfl := h10_
    obtain rfl := h14_
    refine (does_build (parts' := [(0, (Iv A_g.x)), (1, (Iv A_g.y)), (2, (Iv A_g.z))]) (cells := #[(Iv A_g.x), (Iv A_g.y), (Iv A_g.z)]) (evp rfl) (by kernel_rfl)).mono ?_; rintro _ _ ⟨rfl, rfl⟩
    exact ⟨rfl, Ext.refl _⟩
  refine RW_fin ?_; intro w41 E42 hP43
  obtain ⟨⟨⟨⟨⟨⟨⟨⟨⟨⟨⟨⟨⟨-, -⟩, -⟩, -⟩, -⟩, -⟩, -⟩, -⟩, -⟩, -⟩, -⟩, -⟩, -⟩, q44⟩ := hP43
  have X45 := Ext.gr X27 E42
  have q44 : v40 = (.agg #[(Iv A_g.x), (Iv A_g.y), (Iv A_g.z)]) := q44
  obtain rfl := q44
  show wpList _ _ _ _ (fr [(Pt g_b g_o), Ud, (Pt b15 0), v28, v29, v30, v31, v32, v33, v34, v35, v36, v37, v38, v39, (.agg #[(Iv A_g.x), (Iv A_g.y), (Iv A_g.z)])]) _
  refine seqn rfl rfl (does_store (n := 3) (cs := [(Iv 0), (Iv 0), (Iv 0)]) (u := (.agg #[(Iv A_g.x), (Iv A_g.y), (Iv A_g.z)])) (ev rfl) (ev rfl) Try.sizeOf64 rfl ((hB17.ext E25).ext E42) (Nat.le_of_ble_eq_true rfl) rfl) ?_; rintro _ w48 ⟨rfl, W46, hB47⟩
  change Blk _ _ [(Iv A_g.x), (Iv A_g.y), (Iv A_g.z)] at hB47
  have X49 := Below.wr X45 W46 g21
  refine wpList_nil (hK23 _ _ ?_)
  refine wp_ret ?_
  refine ret_val (v := (.agg #[(Iv A_g.x), (Iv A_g.y), (Iv A_g.z)])) (res_C rfl (slot rfl) (run_loadAgg (cs := [(Iv A_g.x), (Iv A_g.y), (Iv A_g.z)]) Try.isAgg64 Try.sizeOf64 (Blk.cells hB47) rfl)) X49 ?_
  have x50 : (A_g.x : Int) = A_g.x := by first | with_reducible rfl | (simp only [h2, h4, h6, h8]; done) | (simp [h2, h4, h6, h8]; done) | rfl
  have x51 : (A_g.y : Int) = A_g.y := by first | with_reducible rfl | (simp only [h2, h4, h6, h8]; done) | (simp [h2, h4, h6, h8]; done) | rfl
  have x52 : (A_g.z : Int) = A_g.z := by first | with_reducible rfl | (simp only [h2, h4, h6, h8]; done) | (simp [h2, h4, h6, h8]; done) | rfl
  exact (by first | rfl | rw [x50, x51, x52] | rw [x52, x51, x50])

/- impl.in -/
theorem c_impl_in (n : Int) (low : Int) (high : Int) (w : World) : Gives Try.prog 36 #[(Iv n), (Iv low), (Iv high)] w (fun v w' => v = (Bo (inI n low high))) := by
  refine enter [(Iv n), (Iv low), (Iv high), Ud, Ud, Ud, Ud, Ud, Ud, Ud, Ud, Ud, Ud, Ud, Ud] Try.func36 rfl Try.ntmps36 rfl ?_
  refine wp_seq_k fun K1 hK1 => ?_
  refine wp_region_lit ?_
  refine q_is (l' := [(Iv n), (Iv low), (Iv high), Ud, Ud, Ud, (Bo false), Ud, Ud, Ud, Ud, Ud, Ud, Ud, Ud]) rfl rfl (does_assign (u := (Bo false)) (ev rfl)) rfl ?_
  refine wpList_nil (hK1 _ _ ?_)
  refine wp_seq_k fun K2 hK2 => ?_
  obtain ⟨β1, hβ1⟩ : ∃ b : Bool, b = ((icmp .geq n low) && (icmp .leq n high)) := ⟨_, rfl⟩
  refine region_text (
    [Fact.pure [] (fun v => v = (Iv n)),
    Fact.pure [] (fun v => v = (Iv low)),
    Fact.pure [7, 8] (fun v => v = (Bo (icmp .geq n low))),
    Fact.pure [9] (fun v => v = (Bo (icmp .geq n low))),
    Fact.pure [10] (fun v => (icmp .geq n low) = true → v = (Iv n)),
    Fact.pure [10] (fun v => (icmp .geq n low) = true → v = (Iv high)),
    Fact.pure [11, 12, 10] (fun v => (icmp .geq n low) = true → v = (Bo (icmp .leq n high))),
    Fact.pure [10, 13] (fun v => v = (Bo β1))]) (by simp [Fact.pure, Fact.mem]) ?_
  refine RW_d (fun v3 => [(Iv n), (Iv low), (Iv high), Ud, Ud, Ud, (Bo false), v3, Ud, Ud, Ud, Ud, Ud, Ud, Ud]) rfl (fun _ => rfl) (fun u hu hF => ?_) (fun v3 => ?_)
  · clear hF
    refine doesG_un rfl ?_
    refine (does_move (u := (Iv n)) (ev rfl)).mono ?_; rintro _ _ ⟨rfl, rfl⟩
    exact ⟨rfl, Ext.refl _⟩
  refine RW_d (fun v4 => [(Iv n), (Iv low), (Iv high), Ud, Ud, Ud, (Bo false), v3, v4, Ud, Ud, Ud, Ud, Ud, Ud]) rfl (fun _ => rfl) (fun u hu hF => ?_) (fun v4 => ?_)
  · clear hF
    refine doesG_un rfl ?_
    refine (does_move (u := (Iv low)) (ev rfl)).mono ?_; rintro _ _ ⟨rfl, rfl⟩
    exact ⟨rfl, Ext.refl _⟩
  refine RW_d (fun v5 => [(Iv n), (Iv low), (Iv high), Ud, Ud, Ud, (Bo false), v3, v4, v5, Ud, Ud, Ud, Ud, Ud]) rfl (fun _ => rfl) (fun u hu hF => ?_) (fun v5 => ?_)
  · have h7_ : v3 = (Iv n) := hF.1
    have h8_ : v4 = (Iv low) := hF.2.1
    clear hF
    refine doesG_un rfl ?_
    obtain rfl := h7_
    obtain rfl := h8_
    refine (does_icmp (p := n) (q := low) (.inr (.inr (.inr (.inr (.inr rfl))))) (ev rfl) (ev rfl)).mono ?_; rintro _ _ ⟨rfl, rfl⟩
    exact ⟨rfl, Ext.refl _⟩
  refine RW_d (fun v6 => [(Iv n), (Iv low), (Iv high), Ud, Ud, Ud, (Bo false), v3, v4, v5, v6, Ud, Ud, Ud, Ud]) rfl (fun _ => rfl) (fun u hu hF => ?_) (fun v6 => ?_)
  · have h9_ : v5 = (Bo (icmp .geq n low)) := hF.1
    clear hF
    refine doesG_un rfl ?_
    obtain rfl := h9_
    refine (does_move (u := (Bo (icmp .geq n low))) (ev rfl)).mono ?_; rintro _ _ ⟨rfl, rfl⟩
    exact ⟨rfl, Ext.refl _⟩
  refine RW_d (fun v7 => [(Iv n), (Iv low), (Iv high), Ud, Ud, Ud, (Bo false), v3, v4, v5, v6, v7, Ud, Ud, Ud]) rfl (fun _ => rfl) (fun u hu hF => ?_) (fun v7 => ?_)
  · have h10_ : v6 = (Bo (icmp .geq n low)) := hF.1
    clear hF
    obtain rfl := h10_
    refine doesG_g (b := (icmp .geq n low)) rfl (yld rfl rfl) (fun hg1 => ?_) (fun hc => ⟨fun hg1 => absurd hg1 hc, Ext.refl _⟩)
    refine (does_move (u := (Iv n)) (ev rfl)).mono ?_; rintro _ _ ⟨rfl, rfl⟩
    exact ⟨fun _ => rfl, Ext.refl _⟩
  refine RW_d (fun v8 => [(Iv n), (Iv low), (Iv high), Ud, Ud, Ud, (Bo false), v3, v4, v5, v6, v7, v8, Ud, Ud]) rfl (fun _ => rfl) (fun u hu hF => ?_) (fun v8 => ?_)
  · have h10_ : v6 = (Bo (icmp .geq n low)) := hF.1
    clear hF
    obtain rfl := h10_
    refine doesG_g (b := (icmp .geq n low)) rfl (yld rfl rfl) (fun hg1 => ?_) (fun hc => ⟨fun hg1 => absurd hg1 hc, Ext.refl _⟩)
    refine (does_move (u := (Iv high)) (ev rfl)).mono ?_; rintro _ _ ⟨rfl, rfl⟩
    exact ⟨fun _ => rfl, Ext.refl _⟩
  refine RW_d (fun v9 => [(Iv n), (Iv low), (Iv high), Ud, Ud, Ud, (Bo false), v3, v4, v5, v6, v7, v8, v9, Ud]) rfl (fun _ => rfl) (fun u hu hF => ?_) (fun v9 => ?_)
  · have h11_ : (icmp .geq n low) = true → v7 = (Iv n) := hF.1
    have h12_ : (icmp .geq n low) = true → v8 = (Iv high) := hF.2.1
    have h10_ : v6 = (Bo (icmp .geq n low)) := hF.2.2.1
    clear hF
    obtain rfl := h10_
    refine doesG_g (b := (icmp .geq n low)) rfl (yld rfl rfl) (fun hg1 => ?_) (fun hc => ⟨fun hg1 => absurd hg1 hc, Ext.refl _⟩)
    obtain rfl := h11_ hg1
    obtain rfl := h12_ hg1
    refine (does_icmp (p := n) (q := high) (.inr (.inr (.inr (.inl rfl)))) (ev rfl) (ev rfl)).mono ?_; rintro _ _ ⟨rfl, rfl⟩
    exact ⟨fun _ => rfl, Ext.refl _⟩
  refine RW_d (fun v10 => [(Iv n), (Iv low), (Iv high), Ud, Ud, Ud, (Bo false), v3, v4, v5, v6, v7, v8, v9, v10]) rfl (fun _ => rfl) (fun u hu hF => ?_) (fun v10 => ?_)
  · have h10_ : v6 = (Bo (icmp .geq n low)) := hF.1
    have h13_ : (icmp .geq n low) = true → v9 = (Bo (icmp .leq n high)) := hF.2.1
    clear hF
    refine doesG_un rfl ?_
    skip
    obtain rfl := h10_
    refine (does_pick (b := (icmp .geq n low)) (ev rfl) (ev rfl) (ev rfl)).mono ?_; rintro _ _ ⟨rfl, rfl⟩; refine ⟨?_, Ext.refl _⟩; rw [hβ1]; skip
    cases hbb : (icmp .geq n low)
    all_goals first | rfl | (have e_ := h13_ hbb; subst e_; rfl) | (simp [hbb] at h13_ ⊢; first | done | rfl | (subst h13_; rfl) | simp_all) | (simp [hbb] at h13_ ⊢; done)
  refine RW_fin ?_; intro w11 E12 hP13
  obtain ⟨⟨⟨⟨⟨⟨⟨⟨-, -⟩, -⟩, -⟩, -⟩, -⟩, -⟩, -⟩, q14⟩ := hP13
  have X15 := Ext.gr (Ext.refl w) E12
  have q14 : v10 = (Bo β1) := q14
  obtain rfl := q14
  show wpList _ _ _ _ (fr [(Iv n), (Iv low), (Iv high), Ud, Ud, Ud, (Bo false), v3, v4, v5, v6, v7, v8, v9, (Bo β1)]) _
  refine q_is (l' := [(Iv n), (Iv low), (Iv high), Ud, Ud, Ud, (Bo β1), v3, v4, v5, v6, v7, v8, v9, (Bo β1)]) rfl rfl (does_assign (u := (Bo β1)) (ev rfl)) rfl ?_
  refine wpList_nil (hK2 _ _ ?_)
  refine wp_ret ?_
  refine ret_val (v := (Bo β1)) (res_T rfl (slot rfl)) X15 ?_
  have x16 : (inI n low high) = β1 := by first | with_reducible rfl | (simp only [inI, hβ1]; done) | (simp [inI, hβ1]; done) | rfl
  exact (by first | rfl | rw [x16])

/- impl.ValidGrid -/
theorem c_impl_ValidGrid (g : List Value) (A_g : GridT) (w : World) (hv_g : RGridT w A_g g) : Gives Try.prog 20 #[(.agg g.toArray)] w (fun v w' => v = (Bo (isGrid A_g))) := by
  obtain ⟨r1, r3, r5, r7, y9, rfl, h2, h4, h6, h8, h10⟩ := hv_g
  have hs13 := h10; have hs13l := Sl.len h10; obtain ⟨p11, q12, rfl⟩ := Sl.shape h10
  refine enter [(.agg #[(Fl r1), (Fl r3), (Fl r5), (Fl r7), (Iv A_g.x), (Iv A_g.y), (Iv A_g.z), (.slice p11 A_g.vals.length q12)]), Ud, Ud, Ud, Ud, Ud, Ud, Ud, Ud, Ud, Ud, Ud, Ud, Ud, Ud, Ud, Ud, Ud, Ud, Ud, Ud, Ud, Ud, Ud, Ud, Ud, Ud, Ud, Ud, Ud, Ud, Ud, Ud, Ud, Ud, Ud, Ud, Ud, Ud, Ud, Ud] Try.func20 rfl Try.ntmps20 rfl ?_
  refine wp_seq_k fun K14 hK14 => ?_
  refine wp_region_lit ?_
  refine seqd rfl rfl (does_box (u := (.agg #[(Fl r1), (Fl r3), (Fl r5), (Fl r7), (Iv A_g.x), (Iv A_g.y), (Iv A_g.z), (.slice p11 A_g.vals.length q12)])) (ev rfl)) ?_; rintro _ w19 ⟨b15, rfl, hb16, hB17, E18⟩
  have g20 : w.heap.size ≤ b15 := Nat.le_trans (Below.size (Ext.refl w)) hb16
  change Blk _ _ [(Fl r1), (Fl r3), (Fl r5), (Fl r7), (Iv A_g.x), (Iv A_g.y), (Iv A_g.z), (.slice p11 A_g.vals.length q12)] at hB17
  have X21 := Ext.gr (Ext.refl w) E18
  show wpList _ _ _ _ (fr [_, _, _, _, _, _, _, _, _, _, _, _, _, _, _, _, _, _, _, _, _, _, _, _, _, _, _, _, _, _, _, _, _, _, _, _, _, _, _, _, _]) _
  refine q_is rfl rfl (does_assign (u := (Bo false)) (ev rfl)) (by dsimp only [List.set]; try rfl) ?_
  refine wpList_nil (hK14 _ _ ?_)
  refine wp_seq_k fun K22 hK22 => ?_
  refine wp_seq_k fun K23 hK23 => ?_
  obtain ⟨β1, hβ1⟩ : ∃ b : Bool, b = (finF (cf .f32 r7) && posF (cf .f32 r7)) := ⟨_, rfl⟩
  obtain ⟨β2, hβ2⟩ : ∃ b : Bool, b = ((!(finV A_g.low)) || (!β1)) := ⟨_, rfl⟩
  refine region_text (
    [Fact.pure [] (fun v => v = (Pt b15 0)),
    Fact.pure [6] (fun v => v = (.agg #[(Fl r1), (Fl r3), (Fl r5)])),
    Fact.pure [7] (fun v => v = (Bo (finV A_g.low))),
    Fact.pure [8] (fun v => v = (Bo (!(finV A_g.low)))),
    Fact.pure [9] (fun v => v = (Bo (!(finV A_g.low)))),
    Fact.pure [10] (fun v => (!(finV A_g.low)) = false → v = (Pt b15 3)),
    Fact.pure [11, 10] (fun v => (!(finV A_g.low)) = false → v = (Fl r7)),
    Fact.pure [12, 10] (fun v => (!(finV A_g.low)) = false → v = (Bo β1)),
    Fact.pure [13, 10] (fun v => (!(finV A_g.low)) = false → v = (Bo (!β1))),
    Fact.pure [10, 14] (fun v => v = (Bo β2))]) (by simp [Fact.pure, Fact.mem]) ?_
  refine RW_d _ rfl (fun v => by dsimp only [List.set]; try rfl) (fun u hu hF => ?_) (fun v24 => ?_)
  · clear hF
    refine doesG_un rfl ?_
    refine (does_fieldAddr (ev rfl) fa33_0).mono ?_; rintro _ _ ⟨rfl, rfl⟩
    exact ⟨rfl, Ext.refl _⟩
  refine RW_d _ rfl (fun v => by dsimp only [List.set]; try rfl) (fun u hu hF => ?_) (fun v25 => ?_)
  · have h6_ : v24 = (Pt b15 0) := hF.1
    clear hF
    refine doesG_un rfl ?_
    obtain rfl := h6_
    refine (does_loadAgg (cs := [(Fl r1), (Fl r3), (Fl r5)]) (ev rfl) Try.isAgg31 Try.sizeOf31 (Cells.sub (Blk.cells (hB17.ext hu)) 0 3) rfl).mono ?_; rintro _ _ ⟨rfl, rfl⟩
    exact ⟨rfl, Ext.refl _⟩
  refine RW_d _ rfl (fun v => by dsimp only [List.set]; try rfl) (fun u hu hF => ?_) (fun v26 => ?_)
  · have h7_ : v25 = (.agg #[(Fl r1), (Fl r3), (Fl r5)]) := hF.1
    clear hF
    refine doesG_un rfl ?_
    obtain rfl := h7_
    refine (does_call (args := #[(.agg #[(Fl r1), (Fl r3), (Fl r5)])]) cal21 (evs rfl) (c_impl_finiteVector [(Fl r1), (Fl r3), (Fl r5)] A_g.low _ ⟨r1, r3, r5, rfl, h2, h4, h6⟩)).mono ?_; rintro v u' ⟨hx, hv⟩
    exact ⟨hv, hx⟩
  refine RW_d _ rfl (fun v => by dsimp only [List.set]; try rfl) (fun u hu hF => ?_) (fun v27 => ?_)
  · have h8_ : v26 = (Bo (finV A_g.low)) := hF.1
    clear hF
    refine doesG_un rfl ?_
    obtain rfl := h8_
    refine (does_not (ev rfl)).mono ?_; rintro _ _ ⟨rfl, rfl⟩
    exact ⟨rfl, Ext.refl _⟩
  refine RW_d _ rfl (fun v => by dsimp only [List.set]; try rfl) (fun u hu hF => ?_) (fun v28 => ?_)
  · have h9_ : v27 = (Bo (!(finV A_g.low))) := hF.1
    clear hF
    refine doesG_un rfl ?_
    obtain rfl := h9_
    refine (does_move (u := (Bo (!(finV A_g.low)))) (ev rfl)).mono ?_; rintro _ _ ⟨rfl, rfl⟩
    exact ⟨rfl, Ext.refl _⟩
  refine RW_d _ rfl (fun v => by dsimp only [List.set]; try rfl) (fun u hu hF => ?_) (fun v29 => ?_)
  · have h10_ : v28 = (Bo (!(finV A_g.low))) := hF.1
    clear hF
    obtain rfl := h10_
    refine doesG_g (b := (!(finV A_g.low))) rfl (yld rfl rfl) (fun hg1 => ?_) (fun hc => ⟨fun hg1 => absurd hg1 hc, Ext.refl _⟩)
    refine (does_fieldAddr (ev rfl) fa33_1).mono ?_; rintro _ _ ⟨rfl, rfl⟩
    exact ⟨fun _ => rfl, Ext.refl _⟩
  refine RW_d _ rfl (fun v => by dsimp only [List.set]; try rfl) (fun u hu hF => ?_) (fun v30 => ?_)
  · have h11_ : (!(finV A_g.low)) = false → v29 = (Pt b15 3) := hF.1
    have h10_ : v28 = (Bo (!(finV A_g.low))) := hF.2.1
    clear hF
    obtain rfl := h10_
    refine doesG_g (b := (!(finV A_g.low))) rfl (yld rfl rfl) (fun hg1 => ?_) (fun hc => ⟨fun hg1 => absurd hg1 hc, Ext.refl _⟩)
    obtain rfl := h11_ hg1
    refine (does_load (u := (Fl r7)) (ev rfl) Try.isAgg22 (Cells.at (Blk.cells (hB17.ext hu)) 3 rfl)).mono ?_; rintro _ _ ⟨rfl, rfl⟩
    exact ⟨fun _ => rfl, Ext.refl _⟩
  refine RW_d _ rfl (fun v => by dsimp only [List.set]; try rfl) (fun u hu hF => ?_) (fun v31 => ?_)
  · have h12_ : (!(finV A_g.low)) = false → v30 = (Fl r7) := hF.1
    have h10_ : v28 = (Bo (!(finV A_g.low))) := hF.2.1
    clear hF
    obtain rfl := h10_
    refine doesG_g (b := (!(finV A_g.low))) rfl (yld rfl rfl) (fun hg1 => ?_) (fun hc => ⟨fun hg1 => absurd hg1 hc, Ext.refl _⟩)
    obtain rfl := h12_ hg1
    refine (does_call (args := #[(Fl r7)]) cal34 (evs rfl) (c_impl_stepOk r7 _)).mono ?_; rintro v u' ⟨hx, hv⟩
    exact ⟨fun _ => hv.trans (by simp only [hβ1]), hx⟩
  refine RW_d _ rfl (fun v => by dsimp only [List.set]; try rfl) (fun u hu hF => ?_) (fun v32 => ?_)
  · have h13_ : (!(finV A_g.low)) = false → v31 = (Bo β1) := hF.1
    have h10_ : v28 = (Bo (!(finV A_g.low))) := hF.2.1
    clear hF
    obtain rfl := h10_
    refine doesG_g (b := (!(finV A_g.low))) rfl (yld rfl rfl) (fun hg1 => ?_) (fun hc => ⟨fun hg1 => absurd hg1 hc, Ext.refl _⟩)
    obtain rfl := h13_ hg1
    refine (does_not (ev rfl)).mono ?_; rintro _ _ ⟨rfl, rfl⟩
    exact ⟨fun _ => rfl, Ext.refl _⟩
  refine RW_d _ rfl (fun v => by dsimp only [List.set]; try rfl) (fun u hu hF => ?_) (fun v33 => ?_)
  · have h10_ : v28 = (Bo (!(finV A_g.low))) := hF.1
    have h14_ : (!(finV A_g.low)) = false → v32 = (Bo (!β1)) := hF.2.1
    clear hF
    refine doesG_un rfl ?_
    skip
    obtain rfl := h10_
    refine (does_pick (b := (!(finV A_g.low))) (ev rfl) (ev rfl) (ev rfl)).mono ?_; rintro _ _ ⟨rfl, rfl⟩; refine ⟨?_, Ext.refl _⟩; rw [hβ2]; skip
    cases hbb : (!(finV A_g.low))
    all_goals first | rfl | (have e_ := h14_ hbb; subst e_; rfl) | (simp [hbb] at h14_ ⊢; first | done | rfl | (subst h14_; rfl) | simp_all) | (simp [hbb] at h14_ ⊢; done)
  refine RW_fin ?_; intro w34 E35 hP36
  obtain ⟨⟨⟨⟨⟨⟨⟨⟨⟨⟨-, -⟩, -⟩, -⟩, -⟩, -⟩, -⟩, -⟩, -⟩, -⟩, q37⟩ := hP36
  have X38 := Ext.gr X21 E35
  have q37 : v33 = (Bo β2) := q37
  obtain rfl := q37
  show wpList _ _ _ _ (fr [_, _, _, _, _, _, _, _, _, _, _, _, _, _, _, _, _, _, _, _, _, _, _, _, _, _, _, _, _, _, _, _, _, _, _, _, _, _, _, _, _]) _
  refine wpList_nil (hK23 _ _ ?_)
  refine wp_cond_split (t := β2) (ev rfl) (fun c39 => ?_) (fun c39 => ?_)
  · have c39' := c39
    (try simp only [hβ1, hβ2] at c39')
    (try simp only [icmp, Bool.and_eq_true, Bool.or_eq_true, Bool.and_eq_false_iff, Bool.or_eq_false_iff, Bool.not_eq_true', Bool.not_eq_false', decide_eq_true_eq, decide_eq_false_iff_not, beq_iff_eq, bne_iff_ne, beq_eq_false_iff_ne, bne_eq_false_iff_eq] at c39')
    refine wp_seq_k fun K40 hK40 => ?_
    refine wp_region_lit ?_
    refine q_is rfl rfl (does_assign (u := (Bo false)) (ev rfl)) (by dsimp only [List.set]; try rfl) ?_
    refine wpList_nil (hK40 _ _ ?_)
    refine wp_ret ?_
    dsimp only [Exit.then, Exit.inBlock]
    refine ret_val (v := (Bo false)) (res_T rfl (slot rfl)) X38 ?_
    try simp only [h2, h4, h6, h8, hβ1, hβ2] at c39
    have x41 : (isGrid A_g) = false := by first | with_reducible rfl | (simp only [isGrid, cntOk, prod3, h2, h4, h6, h8, hβ1, hβ2, c39]; done) | (simp [isGrid, cntOk, prod3, h2, h4, h6, h8, hβ1, hβ2, c39]; done) | (revert c39; simp +contextual [isGrid, cntOk, prod3, h2, h4, h6, h8, hβ1, hβ2]; done) | (rcases c39' with hh | hh <;> simp only [hh, isGrid, cntOk, prod3, h2, h4, h6, h8, hβ1, hβ2, c39]; done) | (rcases c39' with hh | hh <;> simp_all [isGrid, cntOk, prod3]; done) | (rcases c39' with hh | hh | hh <;> simp_all [isGrid, cntOk, prod3]; done) | (rcases c39' with hh | hh | hh | hh <;> simp_all [isGrid, cntOk, prod3]; done) | (simp_all [isGrid, cntOk, prod3]; done) | rfl
    exact (by first | rfl | rw [x41])
  have c39' := c39
  (try simp only [hβ1, hβ2] at c39')
  (try simp only [icmp, Bool.and_eq_true, Bool.or_eq_true, Bool.and_eq_false_iff, Bool.or_eq_false_iff, Bool.not_eq_true', Bool.not_eq_false', decide_eq_true_eq, decide_eq_false_iff_not, beq_iff_eq, bne_iff_ne, beq_eq_false_iff_ne, bne_eq_false_iff_eq] at c39')
  refine wp_skip (hK22 _ _ ?_)
  refine wp_seq_k fun K42 hK42 => ?_
  refine wp_seq_k fun K43 hK43 => ?_
  refine wp_region_lit ?_
  refine seqd rfl rfl (does_call (args := #[(Pt b15 0)]) cal35 (evs rfl) (c_impl_Grid_counts b15 0 [(Fl r1), (Fl r3), (Fl r5), (Fl r7), (Iv A_g.x), (Iv A_g.y), (Iv A_g.z), (.slice p11 A_g.vals.length q12)] A_g _ (Blk.cells (hB17.ext E35)) ⟨r1, r3, r5, r7, (.slice p11 A_g.vals.length q12), rfl, h2, h4, h6, h8, (Sl.ext hs13 RF.mono X38)⟩)) ?_; rintro _ w45 ⟨E44, rfl⟩
  have X46 := Ext.gr X38 E44
  show wpList _ _ _ _ (fr [_, _, _, _, _, _, _, _, _, _, _, _, _, _, _, _, _, _, _, _, _, _, _, _, _, _, _, _, _, _, _, _, _, _, _, _, _, _, _, _, _]) _
  refine q_is rfl rfl (does_move (u := (Iv 0)) (ev rfl)) (by dsimp only [List.set]; try rfl) ?_
  refine wpList_nil (hK43 _ _ ?_)
  refine wp_block ?_
  refine loop_unroll 4 ?_
  refine un_step ?_
  refine wp_seq_k fun K47 hK47 => ?_
  refine wp_region_lit ?_
  refine q_is rfl rfl (does_icmp (p := 0) (q := 3) (.inr (.inr (.inl rfl))) (ev rfl) (ev rfl)) (by dsimp only [List.set]; try rfl) ?_
  refine wpList_nil (hK47 _ _ ?_)
  refine wp_seq_k fun K48 hK48 => ?_
  refine wp_cond_true (ev rfl) ?_
  refine wp_skip (hK48 _ _ ?_)
  refine wp_seq_k fun K49 hK49 => ?_
  refine wp_block ?_
  refine wp_seq_k fun K50 hK50 => ?_
  refine wp_region_lit ?_
  refine q_is rfl rfl (does_index_run (r := (Iv A_g.x)) (ev rfl) (ev rfl) (fun w => ix64_0 _ _ _ w)) (by dsimp only [List.set]; try rfl) ?_
  refine q_is rfl rfl (does_assign (u := (Iv A_g.x)) (ev rfl)) (by dsimp only [List.set]; try rfl) ?_
  refine wpList_nil (hK50 _ _ ?_)
  refine wp_seq_k fun K51 hK51 => ?_
  refine wp_region_lit ?_
  refine q_is rfl rfl (does_move (u := (Iv A_g.x)) (ev rfl)) (by dsimp only [List.set]; try rfl) ?_
  refine seqd rfl rfl (does_call (args := #[(Iv A_g.x), (Iv 1), (Iv 16)]) cal36 (evs rfl) (c_impl_in A_g.x 1 16 _)) ?_; rintro _ w53 ⟨E52, rfl⟩
  have X54 := Ext.gr X46 E52
  show wpList _ _ _ _ (fr [_, _, _, _, _, _, _, _, _, _, _, _, _, _, _, _, _, _, _, _, _, _, _, _, _, _, _, _, _, _, _, _, _, _, _, _, _, _, _, _, _]) _
  refine q_is rfl rfl (does_not (ev rfl)) (by dsimp only [List.set]; try rfl) ?_
  refine wpList_nil (hK51 _ _ ?_)
  refine wp_cond_split (t := !(inI A_g.x 1 16)) (ev rfl) (fun c55 => ?_) (fun c55 => ?_)
  · rw [Bool.not_eq_true'] at c55
    have c55' := c55
    (try simp only [hβ1, hβ2] at c55')
    (try simp only [icmp, Bool.and_eq_true, Bool.or_eq_true, Bool.and_eq_false_iff, Bool.or_eq_false_iff, Bool.not_eq_true', Bool.not_eq_false', decide_eq_true_eq, decide_eq_false_iff_not, beq_iff_eq, bne_iff_ne, beq_eq_false_iff_ne, bne_eq_false_iff_eq] at c55')
    refine wp_seq_k fun K56 hK56 => ?_
    refine wp_region_lit ?_
    refine q_is rfl rfl (does_assign (u := (Bo false)) (ev rfl)) (by dsimp only [List.set]; try rfl) ?_
    refine wpList_nil (hK56 _ _ ?_)
    refine wp_ret ?_
    dsimp only [Exit.then, Exit.inBlock]
    refine ret_val (v := (Bo false)) (res_T rfl (slot rfl)) X54 ?_
    try simp only [h2, h4, h6, h8, hβ1, hβ2] at c39 c55
    have x57 : (isGrid A_g) = false := by first | with_reducible rfl | (simp only [isGrid, cntOk, prod3, h2, h4, h6, h8, hβ1, hβ2, c39, c55]; done) | (simp [isGrid, cntOk, prod3, h2, h4, h6, h8, hβ1, hβ2, c39, c55]; done) | (revert c39 c55; simp +contextual [isGrid, cntOk, prod3, h2, h4, h6, h8, hβ1, hβ2]; done) | (rcases c39' with hh | hh <;> simp only [hh, isGrid, cntOk, prod3, h2, h4, h6, h8, hβ1, hβ2, c39, c55]; done) | (rcases c55' with hh | hh <;> simp only [hh, isGrid, cntOk, prod3, h2, h4, h6, h8, hβ1, hβ2, c39, c55]; done) | (rcases c55' with hh | hh <;> simp_all [isGrid, cntOk, prod3]; done) | (rcases c55' with hh | hh | hh <;> simp_all [isGrid, cntOk, prod3]; done) | (rcases c55' with hh | hh | hh | hh <;> simp_all [isGrid, cntOk, prod3]; done) | (simp_all [isGrid, cntOk, prod3]; done) | rfl
    exact (by first | rfl | rw [x57])
  rw [Bool.not_eq_false'] at c55
  have c55' := c55
  (try simp only [hβ1, hβ2] at c55')
  (try simp only [icmp, Bool.and_eq_true, Bool.or_eq_true, Bool.and_eq_false_iff, Bool.or_eq_false_iff, Bool.not_eq_true', Bool.not_eq_false', decide_eq_true_eq, decide_eq_false_iff_not, beq_iff_eq, bne_iff_ne, beq_eq_false_iff_ne, bne_eq_false_iff_eq] at c55')
  refine wp_skip (hK49 _ _ ?_)
  refine wp_region_lit ?_
  refine q_is rfl rfl (does_iarith (p := 0) (q := 1) (r := (1)) (ev rfl) (ev rfl) (.inl ⟨rfl, rfl⟩)) (by dsimp only [List.set]; try rfl) ?_
  refine q_is rfl rfl (does_move (u := (Iv 1)) (ev rfl)) (by dsimp only [List.set]; try rfl) ?_
  refine wpList_nil ?_
  refine un_step ?_
  refine wp_seq_k fun K58 hK58 => ?_
  refine wp_region_lit ?_
  refine q_is rfl rfl (does_icmp (p := 1) (q := 3) (.inr (.inr (.inl rfl))) (ev rfl) (ev rfl)) (by dsimp only [List.set]; try rfl) ?_
  refine wpList_nil (hK58 _ _ ?_)
  refine wp_seq_k fun K59 hK59 => ?_
  refine wp_cond_true (ev rfl) ?_
  refine wp_skip (hK59 _ _ ?_)
  refine wp_seq_k fun K60 hK60 => ?_
  refine wp_block ?_
  refine wp_seq_k fun K61 hK61 => ?_
  refine wp_region_lit ?_
  refine q_is rfl rfl (does_index_run (r := (Iv A_g.y)) (ev rfl) (ev rfl) (fun w => ix64_1 _ _ _ w)) (by dsimp only [List.set]; try rfl) ?_
  refine q_is rfl rfl (does_assign (u := (Iv A_g.y)) (ev rfl)) (by dsimp only [List.set]; try rfl) ?_
  refine wpList_nil (hK61 _ _ ?_)
  refine wp_seq_k fun K62 hK62 => ?_
  refine wp_region_lit ?_
  refine q_is rfl rfl (does_move (u := (Iv A_g.y)) (ev rfl)) (by dsimp only [List.set]; try rfl) ?_
  refine seqd rfl rfl (does_call (args := #[(Iv A_g.y), (Iv 1), (Iv 16)]) cal36 (evs rfl) (c_impl_in A_g.y 1 16 _)) ?_; rintro _ w64 ⟨E63, rfl⟩
  have X65 := Ext.gr X54 E63
  show wpList _ _ _ _ (fr [_, _, _, _, _, _, _, _, _, _, _, _, _, _, _, _, _, _, _, _, _, _, _, _, _, _, _, _, _, _, _, _, _, _, _, _, _, _, _, _, _]) _
  refine q_is rfl rfl (does_not (ev rfl)) (by dsimp only [List.set]; try rfl) ?_
  refine wpList_nil (hK62 _ _ ?_)
  refine wp_cond_split (t := !(inI A_g.y 1 16)) (ev rfl) (fun c66 => ?_) (fun c66 => ?_)
  · rw [Bool.not_eq_true'] at c66
    have c66' := c66
    (try simp only [hβ1, hβ2] at c66')
    (try simp only [icmp, Bool.and_eq_true, Bool.or_eq_true, Bool.and_eq_false_iff, Bool.or_eq_false_iff, Bool.not_eq_true', Bool.not_eq_false', decide_eq_true_eq, decide_eq_false_iff_not, beq_iff_eq, bne_iff_ne, beq_eq_false_iff_ne, bne_eq_false_iff_eq] at c66')
    refine wp_seq_k fun K67 hK67 => ?_
    refine wp_region_lit ?_
    refine q_is rfl rfl (does_assign (u := (Bo false)) (ev rfl)) (by dsimp only [List.set]; try rfl) ?_
    refine wpList_nil (hK67 _ _ ?_)
    refine wp_ret ?_
    dsimp only [Exit.then, Exit.inBlock]
    refine ret_val (v := (Bo false)) (res_T rfl (slot rfl)) X65 ?_
    try simp only [h2, h4, h6, h8, hβ1, hβ2] at c39 c55 c66
    have x68 : (isGrid A_g) = false := by first | with_reducible rfl | (simp only [isGrid, cntOk, prod3, h2, h4, h6, h8, hβ1, hβ2, c39, c55, c66]; done) | (simp [isGrid, cntOk, prod3, h2, h4, h6, h8, hβ1, hβ2, c39, c55, c66]; done) | (revert c39 c55 c66; simp +contextual [isGrid, cntOk, prod3, h2, h4, h6, h8, hβ1, hβ2]; done) | (rcases c39' with hh | hh <;> simp only [hh, isGrid, cntOk, prod3, h2, h4, h6, h8, hβ1, hβ2, c39, c55, c66]; done) | (rcases c55' with hh | hh <;> simp only [hh, isGrid, cntOk, prod3, h2, h4, h6, h8, hβ1, hβ2, c39, c55, c66]; done) | (rcases c66' with hh | hh <;> simp only [hh, isGrid, cntOk, prod3, h2, h4, h6, h8, hβ1, hβ2, c39, c55, c66]; done) | (rcases c66' with hh | hh <;> simp_all [isGrid, cntOk, prod3]; done) | (rcases c66' with hh | hh | hh <;> simp_all [isGrid, cntOk, prod3]; done) | (rcases c66' with hh | hh | hh | hh <;> simp_all [isGrid, cntOk, prod3]; done) | (simp_all [isGrid, cntOk, prod3]; done) | rfl
    exact (by first | rfl | rw [x68])
  rw [Bool.not_eq_false'] at c66
  have c66' := c66
  (try simp only [hβ1, hβ2] at c66')
  (try simp only [icmp, Bool.and_eq_true, Bool.or_eq_true, Bool.and_eq_false_iff, Bool.or_eq_false_iff, Bool.not_eq_true', Bool.not_eq_false', decide_eq_true_eq, decide_eq_false_iff_not, beq_iff_eq, bne_iff_ne, beq_eq_false_iff_ne, bne_eq_false_iff_eq] at c66')
  refine wp_skip (hK60 _ _ ?_)
  refine wp_region_lit ?_
  refine q_is rfl rfl (does_iarith (p := 1) (q := 1) (r := (2)) (ev rfl) (ev rfl) (.inl ⟨rfl, rfl⟩)) (by dsimp only [List.set]; try rfl) ?_
  refine q_is rfl rfl (does_move (u := (Iv 2)) (ev rfl)) (by dsimp only [List.set]; try rfl) ?_
  refine wpList_nil ?_
  refine un_step ?_
  refine wp_seq_k fun K69 hK69 => ?_
  refine wp_region_lit ?_
  refine q_is rfl rfl (does_icmp (p := 2) (q := 3) (.inr (.inr (.inl rfl))) (ev rfl) (ev rfl)) (by dsimp only [List.set]; try rfl) ?_
  refine wpList_nil (hK69 _ _ ?_)
  refine wp_seq_k fun K70 hK70 => ?_
  refine wp_cond_true (ev rfl) ?_
  refine wp_skip (hK70 _ _ ?_)
  refine wp_seq_k fun K71 hK71 => ?_
  refine wp_block ?_
  refine wp_seq_k fun K72 hK72 => ?_
  refine wp_region_lit ?_
  refine q_is rfl rfl (does_index_run (r := (Iv A_g.z)) (ev rfl) (ev rfl) (fun w => ix64_2 _ _ _ w)) (by dsimp only [List.set]; try rfl) ?_
  refine q_is rfl rfl (does_assign (u := (Iv A_g.z)) (ev rfl)) (by dsimp only [List.set]; try rfl) ?_
  refine wpList_nil (hK72 _ _ ?_)
  refine wp_seq_k fun K73 hK73 => ?_
  refine wp_region_lit ?_
  refine q_is rfl rfl (does_move (u := (Iv A_g.z)) (ev rfl)) (by dsimp only [List.set]; try rfl) ?_
  refine seqd rfl rfl (does_call (args := #[(Iv A_g.z), (Iv 1), (Iv 16)]) cal36 (evs rfl) (c_impl_in A_g.z 1 16 _)) ?_; rintro _ w75 ⟨E74, rfl⟩
  have X76 := Ext.gr X65 E74
  show wpList _ _ _ _ (fr [_, _, _, _, _, _, _, _, _, _, _, _, _, _, _, _, _, _, _, _, _, _, _, _, _, _, _, _, _, _, _, _, _, _, _, _, _, _, _, _, _]) _
  refine q_is rfl rfl (does_not (ev rfl)) (by dsimp only [List.set]; try rfl) ?_
  refine wpList_nil (hK73 _ _ ?_)
  refine wp_cond_split (t := !(inI A_g.z 1 16)) (ev rfl) (fun c77 => ?_) (fun c77 => ?_)
  · rw [Bool.not_eq_true'] at c77
    have c77' := c77
    (try simp only [hβ1, hβ2] at c77')
    (try simp only [icmp, Bool.and_eq_true, Bool.or_eq_true, Bool.and_eq_false_iff, Bool.or_eq_false_iff, Bool.not_eq_true', Bool.not_eq_false', decide_eq_true_eq, decide_eq_false_iff_not, beq_iff_eq, bne_iff_ne, beq_eq_false_iff_ne, bne_eq_false_iff_eq] at c77')
    refine wp_seq_k fun K78 hK78 => ?_
    refine wp_region_lit ?_
    refine q_is rfl rfl (does_assign (u := (Bo false)) (ev rfl)) (by dsimp only [List.set]; try rfl) ?_
    refine wpList_nil (hK78 _ _ ?_)
    refine wp_ret ?_
    dsimp only [Exit.then, Exit.inBlock]
    refine ret_val (v := (Bo false)) (res_T rfl (slot rfl)) X76 ?_
    try simp only [h2, h4, h6, h8, hβ1, hβ2] at c39 c55 c66 c77
    have x79 : (isGrid A_g) = false := by first | with_reducible rfl | (simp only [isGrid, cntOk, prod3, h2, h4, h6, h8, hβ1, hβ2, c39, c55, c66, c77]; done) | (simp [isGrid, cntOk, prod3, h2, h4, h6, h8, hβ1, hβ2, c39, c55, c66, c77]; done) | (revert c39 c55 c66 c77; simp +contextual [isGrid, cntOk, prod3, h2, h4, h6, h8, hβ1, hβ2]; done) | (rcases c39' with hh | hh <;> simp only [hh, isGrid, cntOk, prod3, h2, h4, h6, h8, hβ1, hβ2, c39, c55, c66, c77]; done) | (rcases c55' with hh | hh <;> simp only [hh, isGrid, cntOk, prod3, h2, h4, h6, h8, hβ1, hβ2, c39, c55, c66, c77]; done) | (rcases c66' with hh | hh <;> simp only [hh, isGrid, cntOk, prod3, h2, h4, h6, h8, hβ1, hβ2, c39, c55, c66, c77]; done) | (rcases c77' with hh | hh <;> simp only [hh, isGrid, cntOk, prod3, h2, h4, h6, h8, hβ1, hβ2, c39, c55, c66, c77]; done) | (rcases c77' with hh | hh <;> simp_all [isGrid, cntOk, prod3]; done) | (rcases c77' with hh | hh | hh <;> simp_all [isGrid, cntOk, prod3]; done) | (rcases c77' with hh | hh | hh | hh <;> simp_all [isGrid, cntOk, prod3]; done) | (simp_all [isGrid, cntOk, prod3]; done) | rfl
    exact (by first | rfl | rw [x79])
  rw [Bool.not_eq_false'] at c77
  have c77' := c77
  (try simp only [hβ1, hβ2] at c77')
  (try simp only [icmp, Bool.and_eq_true, Bool.or_eq_true, Bool.and_eq_false_iff, Bool.or_eq_false_iff, Bool.not_eq_true', Bool.not_eq_false', decide_eq_true_eq, decide_eq_false_iff_not, beq_iff_eq, bne_iff_ne, beq_eq_false_iff_ne, bne_eq_false_iff_eq] at c77')
  refine wp_skip (hK71 _ _ ?_)
  refine wp_region_lit ?_
  refine q_is rfl rfl (does_iarith (p := 2) (q := 1) (r := (3)) (ev rfl) (ev rfl) (.inl ⟨rfl, rfl⟩)) (by dsimp only [List.set]; try rfl) ?_
  refine q_is rfl rfl (does_move (u := (Iv 3)) (ev rfl)) (by dsimp only [List.set]; try rfl) ?_
  refine wpList_nil ?_
  refine un_step ?_
  refine wp_seq_k fun K80 hK80 => ?_
  refine wp_region_lit ?_
  refine q_is rfl rfl (does_icmp (p := 3) (q := 3) (.inr (.inr (.inl rfl))) (ev rfl) (ev rfl)) (by dsimp only [List.set]; try rfl) ?_
  refine wpList_nil (hK80 _ _ ?_)
  refine wp_seq_k fun K81 hK81 => ?_
  refine wp_cond_false (ev rfl) ?_
  refine wp_exit ?_
  refine hK42 _ _ ?_
  refine wp_seq_k fun K82 hK82 => ?_
  refine wp_region_lit ?_
  refine q_is rfl rfl (does_fieldAddr (ev rfl) fa33_2) (by dsimp only [List.set]; try rfl) ?_
  refine q_is rfl rfl (does_load (u := (Iv A_g.x)) (ev rfl) Try.isAgg2 (Cells.at (Blk.cells (((((hB17.ext E35).ext E44).ext E52).ext E63).ext E74)) 4 rfl)) (by dsimp only [List.set]; try rfl) ?_
  refine q_is rfl rfl (does_fieldAddr (ev rfl) fa33_3) (by dsimp only [List.set]; try rfl) ?_
  refine q_is rfl rfl (does_load (u := (Iv A_g.y)) (ev rfl) Try.isAgg2 (Cells.at (Blk.cells (((((hB17.ext E35).ext E44).ext E52).ext E63).ext E74)) 5 rfl)) (by dsimp only [List.set]; try rfl) ?_
  refine q_is rfl rfl (does_iarith (p := A_g.x) (q := A_g.y) (r := IntKind.i64.wrap (A_g.x * A_g.y)) (ev rfl) (ev rfl) (.inr (.inr ⟨rfl, rfl⟩))) (by dsimp only [List.set]; try rfl) ?_
  refine q_is rfl rfl (does_fieldAddr (ev rfl) fa33_4) (by dsimp only [List.set]; try rfl) ?_
  refine q_is rfl rfl (does_load (u := (Iv A_g.z)) (ev rfl) Try.isAgg2 (Cells.at (Blk.cells (((((hB17.ext E35).ext E44).ext E52).ext E63).ext E74)) 6 rfl)) (by dsimp only [List.set]; try rfl) ?_
  refine q_is rfl rfl (does_iarith (p := IntKind.i64.wrap (A_g.x * A_g.y)) (q := A_g.z) (r := IntKind.i64.wrap ((IntKind.i64.wrap (A_g.x * A_g.y)) * A_g.z)) (ev rfl) (ev rfl) (.inr (.inr ⟨rfl, rfl⟩))) (by dsimp only [List.set]; try rfl) ?_
  refine q_is rfl rfl (does_assign (u := (Iv (IntKind.i64.wrap ((IntKind.i64.wrap (A_g.x * A_g.y)) * A_g.z)))) (ev rfl)) (by dsimp only [List.set]; try rfl) ?_
  refine wpList_nil (hK82 _ _ ?_)
  refine wp_seq_k fun K83 hK83 => ?_
  obtain ⟨β3, hβ3⟩ : ∃ b : Bool, b = (icmp .leq (IntKind.i64.wrap ((IntKind.i64.wrap (A_g.x * A_g.y)) * A_g.z)) 1024) := ⟨_, rfl⟩
  obtain ⟨β4, hβ4⟩ : ∃ b : Bool, b = (icmp .eql (A_g.vals.length : Int) (IntKind.i64.wrap ((IntKind.i64.wrap (A_g.x * A_g.y)) * A_g.z))) := ⟨_, rfl⟩
  refine region_text (
    [Fact.pure [] (fun v => v = (Iv (IntKind.i64.wrap ((IntKind.i64.wrap (A_g.x * A_g.y)) * A_g.z)))),
    Fact.pure [32] (fun v => v = (Bo β3)),
    Fact.pure [33] (fun v => v = (Bo β3)),
    Fact.pure [34] (fun v => β3 = true → v = (Pt b15 7)),
    Fact.pure [35, 34] (fun v => β3 = true → v = (.slice p11 A_g.vals.length q12)),
    Fact.pure [36, 34] (fun v => β3 = true → v = (Iv (A_g.vals.length : Int))),
    Fact.pure [34] (fun v => β3 = true → v = (Iv (IntKind.i64.wrap ((IntKind.i64.wrap (A_g.x * A_g.y)) * A_g.z)))),
    Fact.pure [37, 38, 34] (fun v => β3 = true → v = (Bo β4)),
    Fact.pure [34, 39] (fun v => v = (Bo (β3 && β4)))]) (by simp [Fact.pure, Fact.mem]) ?_
  refine RW_d _ rfl (fun v => by dsimp only [List.set]; try rfl) (fun u hu hF => ?_) (fun v84 => ?_)
  · clear hF
    refine doesG_un rfl ?_
    refine (does_move (u := (Iv (IntKind.i64.wrap ((IntKind.i64.wrap (A_g.x * A_g.y)) * A_g.z)))) (ev rfl)).mono ?_; rintro _ _ ⟨rfl, rfl⟩
    exact ⟨rfl, Ext.refl _⟩
  refine RW_d _ rfl (fun v => by dsimp only [List.set]; try rfl) (fun u hu hF => ?_) (fun v85 => ?_)
  · have h32_ : v84 = (Iv (IntKind.i64.wrap ((IntKind.i64.wrap (A_g.x * A_g.y)) * A_g.z))) := hF.1
    clear hF
    refine doesG_un rfl ?_
    obtain rfl := h32_
    refine (does_icmp (p := IntKind.i64.wrap ((IntKind.i64.wrap (A_g.x * A_g.y)) * A_g.z)) (q := 1024) (.inr (.inr (.inr (.inl rfl)))) (ev rfl) (ev rfl)).mono ?_; rintro _ _ ⟨rfl, rfl⟩
    exact ⟨(by first | rfl | (show _ = _; simp only [hβ3]; done) | (show _ = _; simp only [hβ3]; rfl)), Ext.refl _⟩
  refine RW_d _ rfl (fun v => by dsimp only [List.set]; try rfl) (fun u hu hF => ?_) (fun v86 => ?_)
  · have h33_ : v85 = (Bo β3) := hF.1
    clear hF
    refine doesG_un rfl ?_
    obtain rfl := h33_
    refine (does_move (u := (Bo β3)) (ev rfl)).mono ?_; rintro _ _ ⟨rfl, rfl⟩
    exact ⟨rfl, Ext.refl _⟩
  refine RW_d _ rfl (fun v => by dsimp only [List.set]; try rfl) (fun u hu hF => ?_) (fun v87 => ?_)
  · have h34_ : v86 = (Bo β3) := hF.1
    clear hF
    obtain rfl := h34_
    refine doesG_g (b := β3) rfl (yld rfl rfl) (fun hg1 => ?_) (fun hc => ⟨fun hg1 => absurd hg1 hc, Ext.refl _⟩)
    refine (does_fieldAddr (ev rfl) fa33_5).mono ?_; rintro _ _ ⟨rfl, rfl⟩
    exact ⟨fun _ => rfl, Ext.refl _⟩
  refine RW_d _ rfl (fun v => by dsimp only [List.set]; try rfl) (fun u hu hF => ?_) (fun v88 => ?_)
  · have h35_ : β3 = true → v87 = (Pt b15 7) := hF.1
    have h34_ : v86 = (Bo β3) := hF.2.1
    clear hF
    obtain rfl := h34_
    refine doesG_g (b := β3) rfl (yld rfl rfl) (fun hg1 => ?_) (fun hc => ⟨fun hg1 => absurd hg1 hc, Ext.refl _⟩)
    obtain rfl := h35_ hg1
    refine (does_load (u := (.slice p11 A_g.vals.length q12)) (ev rfl) Try.isAgg25 (Cells.at (Blk.cells ((((((hB17.ext E35).ext E44).ext E52).ext E63).ext E74).ext hu)) 7 rfl)).mono ?_; rintro _ _ ⟨rfl, rfl⟩
    exact ⟨fun _ => rfl, Ext.refl _⟩
  refine RW_d _ rfl (fun v => by dsimp only [List.set]; try rfl) (fun u hu hF => ?_) (fun v89 => ?_)
  · have h36_ : β3 = true → v88 = (.slice p11 A_g.vals.length q12) := hF.1
    have h34_ : v86 = (Bo β3) := hF.2.1
    clear hF
    obtain rfl := h34_
    refine doesG_g (b := β3) rfl (yld rfl rfl) (fun hg1 => ?_) (fun hc => ⟨fun hg1 => absurd hg1 hc, Ext.refl _⟩)
    obtain rfl := h36_ hg1
    refine (does_len_slice Try.underlying25 (ev rfl)).mono ?_; rintro _ _ ⟨rfl, rfl⟩
    exact ⟨fun _ => rfl, Ext.refl _⟩
  refine RW_d _ rfl (fun v => by dsimp only [List.set]; try rfl) (fun u hu hF => ?_) (fun v90 => ?_)
  · have h34_ : v86 = (Bo β3) := hF.1
    clear hF
    obtain rfl := h34_
    refine doesG_g (b := β3) rfl (yld rfl rfl) (fun hg1 => ?_) (fun hc => ⟨fun hg1 => absurd hg1 hc, Ext.refl _⟩)
    refine (does_move (u := (Iv (IntKind.i64.wrap ((IntKind.i64.wrap (A_g.x * A_g.y)) * A_g.z)))) (ev rfl)).mono ?_; rintro _ _ ⟨rfl, rfl⟩
    exact ⟨fun _ => rfl, Ext.refl _⟩
  refine RW_d _ rfl (fun v => by dsimp only [List.set]; try rfl) (fun u hu hF => ?_) (fun v91 => ?_)
  · have h37_ : β3 = true → v89 = (Iv (A_g.vals.length : Int)) := hF.1
    have h38_ : β3 = true → v90 = (Iv (IntKind.i64.wrap ((IntKind.i64.wrap (A_g.x * A_g.y)) * A_g.z))) := hF.2.1
    have h34_ : v86 = (Bo β3) := hF.2.2.1
    clear hF
    obtain rfl := h34_
    refine doesG_g (b := β3) rfl (yld rfl rfl) (fun hg1 => ?_) (fun hc => ⟨fun hg1 => absurd hg1 hc, Ext.refl _⟩)
    obtain rfl := h37_ hg1
    obtain rfl := h38_ hg1
    refine (does_icmp (p := (A_g.vals.length : Int)) (q := IntKind.i64.wrap ((IntKind.i64.wrap (A_g.x * A_g.y)) * A_g.z)) (.inl rfl) (ev rfl) (ev rfl)).mono ?_; rintro _ _ ⟨rfl, rfl⟩
    exact ⟨fun _ => (by first | rfl | (show _ = _; simp only [hβ4]; done) | (show _ = _; simp only [hβ4]; rfl)), Ext.refl _⟩
  refine RW_d _ rfl (fun v => by dsimp only [List.set]; try rfl) (fun u hu hF => ?_) (fun v92 => ?_)
  · have h34_ : v86 = (Bo β3) := hF.1
    have h39_ : β3 = true → v91 = (Bo β4) := hF.2.1
    clear hF
    refine doesG_un rfl ?_
    skip
    obtain rfl := h34_
    refine (does_pick (b := β3) (ev rfl) (ev rfl) (ev rfl)).mono ?_; rintro _ _ ⟨rfl, rfl⟩; refine ⟨?_, Ext.refl _⟩; skip
    cases hbb : β3
    all_goals first | rfl | (have e_ := h39_ hbb; subst e_; rfl) | (simp [hbb] at h39_ ⊢; first | done | rfl | (subst h39_; rfl) | simp_all) | (simp [hbb] at h39_ ⊢; done)
  refine RW_fin ?_; intro w93 E94 hP95
  obtain ⟨⟨⟨⟨⟨⟨⟨⟨⟨-, -⟩, -⟩, -⟩, -⟩, -⟩, -⟩, -⟩, -⟩, q96⟩ := hP95
  have X97 := Ext.gr X76 E94
  have q96 : v92 = (Bo (β3 && β4)) := q96
  obtain rfl := q96
  show wpList _ _ _ _ (fr [_, _, _, _, _, _, _, _, _, _, _, _, _, _, _, _, _, _, _, _, _, _, _, _, _, _, _, _, _, _, _, _, _, _, _, _, _, _, _, _, _]) _
  refine q_is rfl rfl (does_assign (u := (Bo (β3 && β4))) (ev rfl)) (by dsimp only [List.set]; try rfl) ?_
  refine wpList_nil (hK83 _ _ ?_)
  refine wp_ret ?_
  refine ret_val (v := (Bo (β3 && β4))) (res_T rfl (slot rfl)) X97 ?_
  try simp only [h2, h4, h6, h8, hβ1, hβ2, hβ3, hβ4] at c39 c55 c66 c77
  have x98 : (isGrid A_g) = (β3 && β4) := by first | with_reducible rfl | (simp only [isGrid, cntOk, prod3, h2, h4, h6, h8, hβ1, hβ2, hβ3, hβ4, c39, c55, c66, c77]; done) | (simp [isGrid, cntOk, prod3, h2, h4, h6, h8, hβ1, hβ2, hβ3, hβ4, c39, c55, c66, c77]; done) | (revert c39 c55 c66 c77; simp +contextual [isGrid, cntOk, prod3, h2, h4, h6, h8, hβ1, hβ2, hβ3, hβ4]; done) | (rcases c39' with hh | hh <;> simp only [hh, isGrid, cntOk, prod3, h2, h4, h6, h8, hβ1, hβ2, hβ3, hβ4, c39, c55, c66, c77]; done) | (rcases c55' with hh | hh <;> simp only [hh, isGrid, cntOk, prod3, h2, h4, h6, h8, hβ1, hβ2, hβ3, hβ4, c39, c55, c66, c77]; done) | (rcases c66' with hh | hh <;> simp only [hh, isGrid, cntOk, prod3, h2, h4, h6, h8, hβ1, hβ2, hβ3, hβ4, c39, c55, c66, c77]; done) | (rcases c77' with hh | hh <;> simp only [hh, isGrid, cntOk, prod3, h2, h4, h6, h8, hβ1, hβ2, hβ3, hβ4, c39, c55, c66, c77]; done) | (rcases c77' with hh | hh <;> simp_all [isGrid, cntOk, prod3]; done) | (rcases c77' with hh | hh | hh <;> simp_all [isGrid, cntOk, prod3]; done) | (rcases c77' with hh | hh | hh | hh <;> simp_all [isGrid, cntOk, prod3]; done) | (simp_all [isGrid, cntOk, prod3]; done) | rfl
  exact (by first | rfl | rw [x98])

/- impl.coordinates -/
theorem c_impl_coordinates (p : List Value) (A_p : V3) (w : World) (hv_p : RV3 w A_p p) : Gives Try.prog 26 #[(.agg p.toArray)] w (fun v w' => ∃ r_1 : Nat, ∃ r_2 : Nat, ∃ r_3 : Nat, v = (.agg #[(Fl r_1), (Fl r_2), (Fl r_3)]) ∧ cf .f32 r_1 = A_p.x ∧ cf .f32 r_2 = A_p.y ∧ cf .f32 r_3 = A_p.z) := by
  obtain ⟨r1, r3, r5, rfl, h2, h4, h6⟩ := hv_p
  refine enter [(.agg #[(Fl r1), (Fl r3), (Fl r5)]), Ud, Ud, Ud, Ud, Ud, Ud, Ud, Ud, Ud] Try.func26 rfl Try.ntmps26 rfl ?_
  refine wp_seq_k fun K7 hK7 => ?_
  refine wp_region_lit ?_
  refine seqd rfl rfl (does_box (u := (.agg #[(Fl r1), (Fl r3), (Fl r5)])) (ev rfl)) ?_; rintro _ w12 ⟨b8, rfl, hb9, hB10, E11⟩
  have g13 : w.heap.size ≤ b8 := Nat.le_trans (Below.size (Ext.refl w)) hb9
  change Blk _ _ [(Fl r1), (Fl r3), (Fl r5)] at hB10
  have X14 := Ext.gr (Ext.refl w) E11
  show wpList _ _ _ _ (fr [(.agg #[(Fl r1), (Fl r3), (Fl r5)]), (Pt b8 0), Ud, Ud, Ud, Ud, Ud, Ud, Ud, Ud]) _
  refine seqd rfl rfl (does_alloc z54) ?_; rintro _ w19 ⟨b15, rfl, hb16, hB17, E18⟩
  have n20 : b8 < b15 := Nat.lt_of_lt_of_le (Blk.lt hB10) hb16
  have g21 : w.heap.size ≤ b15 := Nat.le_trans (Below.size X14) hb16
  change Blk _ _ [(Fl 0), (Fl 0), (Fl 0)] at hB17
  have X22 := Ext.gr X14 E18
  show wpList _ _ _ _ (fr [(.agg #[(Fl r1), (Fl r3), (Fl r5)]), (Pt b8 0), (Pt b15 0), Ud, Ud, Ud, Ud, Ud, Ud, Ud]) _
  refine wpList_nil (hK7 _ _ ?_)
  refine wp_seq_k fun K23 hK23 => ?_
  refine wp_region_lit ?_
  refine q_is (l' := [(.agg #[(Fl r1), (Fl r3), (Fl r5)]), (Pt b8 0), (Pt b15 0), (Pt b8 0), Ud, Ud, Ud, Ud, Ud, Ud]) rfl rfl (does_fieldAddr (ev rfl) fa31_0) rfl ?_
  refine q_is (l' := [(.agg #[(Fl r1), (Fl r3), (Fl r5)]), (Pt b8 0), (Pt b15 0), (Pt b8 0), (Fl r1), Ud, Ud, Ud, Ud, Ud]) rfl rfl (does_load (u := (Fl r1)) (ev rfl) Try.isAgg22 (Cells.at (Blk.cells (hB10.ext E18)) 0 rfl)) rfl ?_
  refine q_is (l' := [(.agg #[(Fl r1), (Fl r3), (Fl r5)]), (Pt b8 0), (Pt b15 0), (Pt b8 0), (Fl r1), (Pt b8 1), Ud, Ud, Ud, Ud]) rfl rfl (does_fieldAddr (ev rfl) fa31_1) rfl ?_
  refine q_is (l' := [(.agg #[(Fl r1), (Fl r3), (Fl r5)]), (Pt b8 0), (Pt b15 0), (Pt b8 0), (Fl r1), (Pt b8 1), (Fl r3), Ud, Ud, Ud]) rfl rfl (does_load (u := (Fl r3)) (ev rfl) Try.isAgg22 (Cells.at (Blk.cells (hB10.ext E18)) 1 rfl)) rfl ?_
  refine q_is (l' := [(.agg #[(Fl r1), (Fl r3), (Fl r5)]), (Pt b8 0), (Pt b15 0), (Pt b8 0), (Fl r1), (Pt b8 1), (Fl r3), (Pt b8 2), Ud, Ud]) rfl rfl (does_fieldAddr (ev rfl) fa31_2) rfl ?_
  refine q_is (l' := [(.agg #[(Fl r1), (Fl r3), (Fl r5)]), (Pt b8 0), (Pt b15 0), (Pt b8 0), (Fl r1), (Pt b8 1), (Fl r3), (Pt b8 2), (Fl r5), Ud]) rfl rfl (does_load (u := (Fl r5)) (ev rfl) Try.isAgg22 (Cells.at (Blk.cells (hB10.ext E18)) 2 rfl)) rfl ?_
  refine q_is (l' := [(.agg #[(Fl r1), (Fl r3), (Fl r5)]), (Pt b8 0), (Pt b15 0), (Pt b8 0), (Fl r1), (Pt b8 1), (Fl r3), (Pt b8 2), (Fl r5), (.agg #[(Fl r1), (Fl r3), (Fl r5)])]) rfl rfl (does_build (parts' := [(0, (Fl r1)), (1, (Fl r3)), (2, (Fl r5))]) (cells := #[(Fl r1), (Fl r3), (Fl r5)]) (evp rfl) (by kernel_rfl)) rfl ?_
  refine seqn rfl rfl (does_store (n := 3) (cs := [(Fl 0), (Fl 0), (Fl 0)]) (u := (.agg #[(Fl r1), (Fl r3), (Fl r5)])) (ev rfl) (ev rfl) Try.sizeOf54 rfl hB17 (Nat.le_of_ble_eq_true rfl) rfl) ?_; rintro _ w26 ⟨rfl, W24, hB25⟩
  change Blk _ _ [(Fl r1), (Fl r3), (Fl r5)] at hB25
  have X27 := Below.wr X22 W24 g21
  refine wpList_nil (hK23 _ _ ?_)
  refine wp_ret ?_
  refine ret_val (v := (.agg #[(Fl r1), (Fl r3), (Fl r5)])) (res_C rfl (slot rfl) (run_loadAgg (cs := [(Fl r1), (Fl r3), (Fl r5)]) Try.isAgg54 Try.sizeOf54 (Blk.cells hB25) rfl)) X27 ?_
  have x28 : cf .f32 r1 = A_p.x := by first | with_reducible rfl | (simp only [h2, h4, h6]; done) | (simp [h2, h4, h6]; done) | rfl
  have x29 : cf .f32 r3 = A_p.y := by first | with_reducible rfl | (simp only [h2, h4, h6]; done) | (simp [h2, h4, h6]; done) | rfl
  have x30 : cf .f32 r5 = A_p.z := by first | with_reducible rfl | (simp only [h2, h4, h6]; done) | (simp [h2, h4, h6]; done) | rfl
  exact ⟨r1, r3, r5, rfl, x28, x29, x30⟩

/- (*impl.Grid).cell -/
theorem c_impl_Grid_cell (g_b : Nat) (g_o : Nat) (g : List Value) (A_g : GridT) (p_ : Nat) (low : Nat) (n : Int) (w : World) (hc_g : Cells w g_b g_o g) (hv_g : RGridT w A_g g) (hin : inR (ffloor (fwid (cellU (cf .f32 p_) (cf .f32 low) A_g.step n)))) (hn : 1 ≤ n ∧ n ≤ 16) : Gives Try.prog 38 #[(Pt g_b g_o), (Fl p_), (Fl low), (Iv n)] w (fun v w' => ∃ r_1 : Nat, v = (.tuple #[(Iv (cellI (cf .f32 p_) (cf .f32 low) A_g.step n)), (Iv (min (cellI (cf .f32 p_) (cf .f32 low) A_g.step n + 1) (n - 1))), (Fl r_1)]) ∧ cf .f32 r_1 = cellF (cf .f32 p_) (cf .f32 low) A_g.step n) := by
  obtain ⟨r1, r3, r5, r7, y9, rfl, h2, h4, h6, h8, h10⟩ := hv_g
  have hs13 := h10; have hs13l := Sl.len h10; obtain ⟨p11, q12, rfl⟩ := Sl.shape h10
  refine enter [(Pt g_b g_o), (Fl p_), (Fl low), (Iv n), Ud, Ud, Ud, Ud, Ud, Ud, Ud, Ud, Ud, Ud, Ud, Ud, Ud, Ud, Ud, Ud, Ud, Ud, Ud, Ud, Ud, Ud, Ud, Ud, Ud, Ud, Ud, Ud, Ud, Ud, Ud, Ud, Ud, Ud, Ud, Ud, Ud, Ud, Ud, Ud, Ud, Ud, Ud, Ud, Ud] Try.func38 rfl Try.ntmps38 rfl ?_
  refine wp_seq_k fun K14 hK14 => ?_
  refine wp_region_lit ?_
  refine q_is rfl rfl (does_assign (u := (Iv 0)) (ev rfl)) (by dsimp only [List.set]; try rfl) ?_
  refine q_is rfl rfl (does_assign (u := (Iv 0)) (ev rfl)) (by dsimp only [List.set]; try rfl) ?_
  refine q_is rfl rfl (does_assign (u := (Fl 0)) (ev rfl)) (by dsimp only [List.set]; try rfl) ?_
  refine wpList_nil (hK14 _ _ ?_)
  refine wp_seq_k fun K15 hK15 => ?_
  refine wp_region_lit ?_
  refine q_is rfl rfl (does_move (u := (Fl p_)) (ev rfl)) (by dsimp only [List.set]; try rfl) ?_
  refine q_is rfl rfl (does_move (u := (Fl low)) (ev rfl)) (by dsimp only [List.set]; try rfl) ?_
  refine seqd rfl rfl (does_float (.inr (.inl rfl)) (ev rfl) (ev rfl)) ?_; rintro _ w19 ⟨r16, rfl, h17, E18⟩
  have X20 := Ext.gr (Ext.refl w) E18
  show wpList _ _ _ _ (fr [_, _, _, _, _, _, _, _, _, _, _, _, _, _, _, _, _, _, _, _, _, _, _, _, _, _, _, _, _, _, _, _, _, _, _, _, _, _, _, _, _, _, _, _, _, _, _, _, _]) _
  refine q_is rfl rfl (does_move (u := (Pt g_b g_o)) (ev rfl)) (by dsimp only [List.set]; try rfl) ?_
  refine q_is rfl rfl (does_nilCheck (ev rfl)) (by dsimp only [List.set]; try rfl) ?_
  refine q_is rfl rfl (does_fieldAddr (ev rfl) fa33_1) (by dsimp only [List.set]; try rfl) ?_
  refine q_is rfl rfl (does_load (u := (Fl r7)) (ev rfl) Try.isAgg22 (Cells.at (hc_g.ext X20) 3 rfl)) (by dsimp only [List.set]; try rfl) ?_
  refine seqd rfl rfl (does_float (.inr (.inr (.inr rfl))) (ev rfl) (ev rfl)) ?_; rintro _ w24 ⟨r21, rfl, h22, E23⟩
  have X25 := Ext.gr X20 E23
  show wpList _ _ _ _ (fr [_, _, _, _, _, _, _, _, _, _, _, _, _, _, _, _, _, _, _, _, _, _, _, _, _, _, _, _, _, _, _, _, _, _, _, _, _, _, _, _, _, _, _, _, _, _, _, _, _]) _
  refine q_is rfl rfl (does_move (u := (Iv n)) (ev rfl)) (by dsimp only [List.set]; try rfl) ?_
  refine q_is rfl rfl (does_iarith (p := n) (q := 1) (r := n - 1) (ev rfl) (ev rfl) (.inr (.inl ⟨rfl, (in_i64 (by omega) (by omega)).symm⟩))) (by dsimp only [List.set]; try rfl) ?_
  refine q_is rfl rfl (does_conv_if (k := .f32) Try.underlying2 Try.underlying22 (ev rfl)) (by dsimp only [List.set]; try rfl) ?_
  refine q_is rfl rfl (does_assign (u := (Fl r21)) (ev rfl)) (by dsimp only [List.set]; try rfl) ?_
  refine q_is rfl rfl (does_assign (u := (Fl (FloatKind.f32.nearest (n - 1)))) (ev rfl)) (by dsimp only [List.set]; try rfl) ?_
  refine wpList_nil (hK15 _ _ ?_)
  refine wp_seq_k fun K26 hK26 => ?_
  refine wp_seq_k fun K27 hK27 => ?_
  refine wp_region_lit ?_
  refine q_is rfl rfl (does_move (u := (Fl r21)) (ev rfl)) (by dsimp only [List.set]; try rfl) ?_
  refine q_is rfl rfl (does_fcmp (.inr (.inr (.inl rfl))) (ev rfl) (ev rfl)) (by dsimp only [List.set]; try rfl) ?_
  refine wpList_nil (hK27 _ _ ?_)
  refine wp_cond_split (t := fcmp .lss (ford .f32 (cf .f32 r21) (cf .f32 0))) (ev rfl) (fun c28 => ?_) (fun c28 => ?_)
  · have c28' := c28
    (try simp only [h2, h4, h6, h8, h17, h22] at c28)
    refine wp_region_lit ?_
    refine q_is rfl rfl (does_assign (u := (Fl 0)) (ev rfl)) (by dsimp only [List.set]; try rfl) ?_
    refine wpList_nil (hK26 _ _ ?_)
    refine wp_seq_k fun K29 hK29 => ?_
    refine wp_seq_k fun K30 hK30 => ?_
    refine wp_region_lit ?_
    refine q_is rfl rfl (does_move (u := (Fl 0)) (ev rfl)) (by dsimp only [List.set]; try rfl) ?_
    refine q_is rfl rfl (does_move (u := (Fl (FloatKind.f32.nearest (n - 1)))) (ev rfl)) (by dsimp only [List.set]; try rfl) ?_
    refine q_is rfl rfl (does_fcmp (.inr (.inr (.inr (.inr (.inl rfl))))) (ev rfl) (ev rfl)) (by dsimp only [List.set]; try rfl) ?_
    refine wpList_nil (hK30 _ _ ?_)
    refine wp_cond_split (t := fcmp .gtr (ford .f32 (cf .f32 0) (cf .f32 (FloatKind.f32.nearest (n - 1))))) (ev rfl) (fun c31 => ?_) (fun c31 => ?_)
    · have c31' := c31
      (try simp only [h2, h4, h6, h8, h17, h22] at c31)
      refine wp_region_lit ?_
      refine q_is rfl rfl (does_move (u := (Fl (FloatKind.f32.nearest (n - 1)))) (ev rfl)) (by dsimp only [List.set]; try rfl) ?_
      refine q_is rfl rfl (does_assign (u := (Fl (FloatKind.f32.nearest (n - 1)))) (ev rfl)) (by dsimp only [List.set]; try rfl) ?_
      refine wpList_nil (hK29 _ _ ?_)
      refine wp_seq_k fun K32 hK32 => ?_
      refine wp_region_lit ?_
      refine q_is rfl rfl (does_move (u := (Fl (FloatKind.f32.nearest (n - 1)))) (ev rfl)) (by dsimp only [List.set]; try rfl) ?_
      refine seqd rfl rfl (does_widen Try.underlying22 Try.underlying37 (ev rfl)) ?_; rintro _ w36 ⟨r33, rfl, h34, E35⟩
      have X37 := Ext.gr X25 E35
      show wpList _ _ _ _ (fr [_, _, _, _, _, _, _, _, _, _, _, _, _, _, _, _, _, _, _, _, _, _, _, _, _, _, _, _, _, _, _, _, _, _, _, _, _, _, _, _, _, _, _, _, _, _, _, _, _]) _
      refine seqd rfl rfl (does_call (args := #[(Fd r33)]) cal45 (evs rfl) (c_math_Floor r33 _)) ?_; rintro _ w39 ⟨E38, ⟨r40, rfl, h41⟩⟩
      have X42 := Ext.gr X37 E38
      show wpList _ _ _ _ (fr [_, _, _, _, _, _, _, _, _, _, _, _, _, _, _, _, _, _, _, _, _, _, _, _, _, _, _, _, _, _, _, _, _, _, _, _, _, _, _, _, _, _, _, _, _, _, _, _, _]) _
      refine q_is rfl rfl (does_conv_fi (p := r40) Try.underlying37 Try.underlying2 (ev rfl) (by first | assumption | (simp only [h2, h4, h6, h8, h17, h22, h34, h41]; first | assumption | exact (by have hz := hin; simp only [cellU, nrF, h2, h4, h6, h8, h17, h22, h34, h41, c28, c31, if_true, if_false, Bool.false_eq_true, ↓reduceIte] at hz; exact hz)))) (by dsimp only [List.set]; try rfl) ?_
      refine q_is rfl rfl (does_move (u := (Iv n)) (ev rfl)) (by dsimp only [List.set]; try rfl) ?_
      refine q_is rfl rfl (does_iarith (p := n) (q := 2) (r := n - 2) (ev rfl) (ev rfl) (.inr (.inl ⟨rfl, (in_i64 (by omega) (by omega)).symm⟩))) (by dsimp only [List.set]; try rfl) ?_
      refine q_is rfl rfl (does_min (p := intOf (cf .f64 r40)) (q := n - 2) Try.underlying2 (ev rfl) (ev rfl)) (by dsimp only [List.set]; try rfl) ?_
      refine q_is rfl rfl (does_max (p := (min (intOf (cf .f64 r40)) (n - 2))) (q := 0) Try.underlying2 (ev rfl) (ev rfl)) (by dsimp only [List.set]; try rfl) ?_
      refine q_is rfl rfl (does_assign (u := (Iv (max (min (intOf (cf .f64 r40)) (n - 2)) 0))) (ev rfl)) (by dsimp only [List.set]; try rfl) ?_
      refine wpList_nil (hK32 _ _ ?_)
      refine wp_seq_k fun K43 hK43 => ?_
      refine wp_region_lit ?_
      refine q_is rfl rfl (does_move (u := (Iv (max (min (intOf (cf .f64 r40)) (n - 2)) 0))) (ev rfl)) (by dsimp only [List.set]; try rfl) ?_
      refine q_is rfl rfl (does_move (u := (Iv (max (min (intOf (cf .f64 r40)) (n - 2)) 0))) (ev rfl)) (by dsimp only [List.set]; try rfl) ?_
      refine q_is rfl rfl (does_iarith (p := (max (min (intOf (cf .f64 r40)) (n - 2)) 0)) (q := 1) (r := (max (min (intOf (cf .f64 r40)) (n - 2)) 0) + 1) (ev rfl) (ev rfl) (.inl ⟨rfl, (in_i64 (by omega) (by omega)).symm⟩)) (by dsimp only [List.set]; try rfl) ?_
      refine q_is rfl rfl (does_move (u := (Iv n)) (ev rfl)) (by dsimp only [List.set]; try rfl) ?_
      refine q_is rfl rfl (does_iarith (p := n) (q := 1) (r := n - 1) (ev rfl) (ev rfl) (.inr (.inl ⟨rfl, (in_i64 (by omega) (by omega)).symm⟩))) (by dsimp only [List.set]; try rfl) ?_
      refine q_is rfl rfl (does_min (p := (max (min (intOf (cf .f64 r40)) (n - 2)) 0) + 1) (q := n - 1) Try.underlying2 (ev rfl) (ev rfl)) (by dsimp only [List.set]; try rfl) ?_
      refine q_is rfl rfl (does_move (u := (Fl (FloatKind.f32.nearest (n - 1)))) (ev rfl)) (by dsimp only [List.set]; try rfl) ?_
      refine q_is rfl rfl (does_move (u := (Iv (max (min (intOf (cf .f64 r40)) (n - 2)) 0))) (ev rfl)) (by dsimp only [List.set]; try rfl) ?_
      refine q_is rfl rfl (does_conv_if (k := .f32) Try.underlying2 Try.underlying22 (ev rfl)) (by dsimp only [List.set]; try rfl) ?_
      refine seqd rfl rfl (does_float (.inr (.inl rfl)) (ev rfl) (ev rfl)) ?_; rintro _ w47 ⟨r44, rfl, h45, E46⟩
      have X48 := Ext.gr X42 E46
      show wpList _ _ _ _ (fr [_, _, _, _, _, _, _, _, _, _, _, _, _, _, _, _, _, _, _, _, _, _, _, _, _, _, _, _, _, _, _, _, _, _, _, _, _, _, _, _, _, _, _, _, _, _, _, _, _]) _
      refine q_is rfl rfl (does_assign (u := (Iv (max (min (intOf (cf .f64 r40)) (n - 2)) 0))) (ev rfl)) (by dsimp only [List.set]; try rfl) ?_
      refine q_is rfl rfl (does_assign (u := (Iv (min ((max (min (intOf (cf .f64 r40)) (n - 2)) 0) + 1) (n - 1)))) (ev rfl)) (by dsimp only [List.set]; try rfl) ?_
      refine q_is rfl rfl (does_assign (u := (Fl r44)) (ev rfl)) (by dsimp only [List.set]; try rfl) ?_
      refine wpList_nil (hK43 _ _ ?_)
      refine wp_ret ?_
      refine ret_val (v := (.tuple #[(Iv (max (min (intOf (cf .f64 r40)) (n - 2)) 0)), (Iv (min ((max (min (intOf (cf .f64 r40)) (n - 2)) 0) + 1) (n - 1))), (Fl r44)])) (res_TTT rfl (slot rfl) (slot rfl) (slot rfl)) X48 ?_
      try simp only [h2, h4, h6, h8, h17, h22, h34, h41, h45] at c28 c31
      have x49 : (cellI (cf .f32 p_) (cf .f32 low) A_g.step n : Int) = (max (min (intOf (cf .f64 r40)) (n - 2)) 0) := by first | rfl | (simp only [cellI, cellF, cellU, nrF, h2, h4, h6, h8, h17, h22, h34, h41, h45, c28, c31, if_true, if_false, Bool.false_eq_true, ↓reduceIte]; done) | (simp only [cellI, cellF, cellU, nrF, h2, h4, h6, h8, h17, h22, h34, h41, h45, c28, c31, if_true, if_false, Bool.false_eq_true, ↓reduceIte]; rfl)
      have x50 : (min (cellI (cf .f32 p_) (cf .f32 low) A_g.step n + 1) (n - 1) : Int) = (min ((max (min (intOf (cf .f64 r40)) (n - 2)) 0) + 1) (n - 1)) := by first | rfl | (simp only [cellI, cellF, cellU, nrF, h2, h4, h6, h8, h17, h22, h34, h41, h45, c28, c31, if_true, if_false, Bool.false_eq_true, ↓reduceIte]; done) | (simp only [cellI, cellF, cellU, nrF, h2, h4, h6, h8, h17, h22, h34, h41, h45, c28, c31, if_true, if_false, Bool.false_eq_true, ↓reduceIte]; rfl)
      have x51 : cf .f32 r44 = cellF (cf .f32 p_) (cf .f32 low) A_g.step n := by first | rfl | (simp only [cellI, cellF, cellU, nrF, h2, h4, h6, h8, h17, h22, h34, h41, h45, c28, c31, if_true, if_false, Bool.false_eq_true, ↓reduceIte]; done) | (simp only [cellI, cellF, cellU, nrF, h2, h4, h6, h8, h17, h22, h34, h41, h45, c28, c31, if_true, if_false, Bool.false_eq_true, ↓reduceIte]; rfl)
      exact ⟨r44, (by first | rfl | rw [x49, x50] | rw [x50, x49]), x51⟩
    have c31' := c31
    (try simp only [h2, h4, h6, h8, h17, h22] at c31)
    refine wp_skip (hK29 _ _ ?_)
    refine wp_seq_k fun K52 hK52 => ?_
    refine wp_region_lit ?_
    refine q_is rfl rfl (does_move (u := (Fl 0)) (ev rfl)) (by dsimp only [List.set]; try rfl) ?_
    refine seqd rfl rfl (does_widen Try.underlying22 Try.underlying37 (ev rfl)) ?_; rintro _ w56 ⟨r53, rfl, h54, E55⟩
    have X57 := Ext.gr X25 E55
    show wpList _ _ _ _ (fr [_, _, _, _, _, _, _, _, _, _, _, _, _, _, _, _, _, _, _, _, _, _, _, _, _, _, _, _, _, _, _, _, _, _, _, _, _, _, _, _, _, _, _, _, _, _, _, _, _]) _
    refine seqd rfl rfl (does_call (args := #[(Fd r53)]) cal45 (evs rfl) (c_math_Floor r53 _)) ?_; rintro _ w59 ⟨E58, ⟨r60, rfl, h61⟩⟩
    have X62 := Ext.gr X57 E58
    show wpList _ _ _ _ (fr [_, _, _, _, _, _, _, _, _, _, _, _, _, _, _, _, _, _, _, _, _, _, _, _, _, _, _, _, _, _, _, _, _, _, _, _, _, _, _, _, _, _, _, _, _, _, _, _, _]) _
    refine q_is rfl rfl (does_conv_fi (p := r60) Try.underlying37 Try.underlying2 (ev rfl) (by first | assumption | (simp only [h2, h4, h6, h8, h17, h22, h54, h61]; first | assumption | exact (by have hz := hin; simp only [cellU, nrF, h2, h4, h6, h8, h17, h22, h54, h61, c28, c31, if_true, if_false, Bool.false_eq_true, ↓reduceIte] at hz; exact hz)))) (by dsimp only [List.set]; try rfl) ?_
    refine q_is rfl rfl (does_move (u := (Iv n)) (ev rfl)) (by dsimp only [List.set]; try rfl) ?_
    refine q_is rfl rfl (does_iarith (p := n) (q := 2) (r := n - 2) (ev rfl) (ev rfl) (.inr (.inl ⟨rfl, (in_i64 (by omega) (by omega)).symm⟩))) (by dsimp only [List.set]; try rfl) ?_
    refine q_is rfl rfl (does_min (p := intOf (cf .f64 r60)) (q := n - 2) Try.underlying2 (ev rfl) (ev rfl)) (by dsimp only [List.set]; try rfl) ?_
    refine q_is rfl rfl (does_max (p := (min (intOf (cf .f64 r60)) (n - 2))) (q := 0) Try.underlying2 (ev rfl) (ev rfl)) (by dsimp only [List.set]; try rfl) ?_
    refine q_is rfl rfl (does_assign (u := (Iv (max (min (intOf (cf .f64 r60)) (n - 2)) 0))) (ev rfl)) (by dsimp only [List.set]; try rfl) ?_
    refine wpList_nil (hK52 _ _ ?_)
    refine wp_seq_k fun K63 hK63 => ?_
    refine wp_region_lit ?_
    refine q_is rfl rfl (does_move (u := (Iv (max (min (intOf (cf .f64 r60)) (n - 2)) 0))) (ev rfl)) (by dsimp only [List.set]; try rfl) ?_
    refine q_is rfl rfl (does_move (u := (Iv (max (min (intOf (cf .f64 r60)) (n - 2)) 0))) (ev rfl)) (by dsimp only [List.set]; try rfl) ?_
    refine q_is rfl rfl (does_iarith (p := (max (min (intOf (cf .f64 r60)) (n - 2)) 0)) (q := 1) (r := (max (min (intOf (cf .f64 r60)) (n - 2)) 0) + 1) (ev rfl) (ev rfl) (.inl ⟨rfl, (in_i64 (by omega) (by omega)).symm⟩)) (by dsimp only [List.set]; try rfl) ?_
    refine q_is rfl rfl (does_move (u := (Iv n)) (ev rfl)) (by dsimp only [List.set]; try rfl) ?_
    refine q_is rfl rfl (does_iarith (p := n) (q := 1) (r := n - 1) (ev rfl) (ev rfl) (.inr (.inl ⟨rfl, (in_i64 (by omega) (by omega)).symm⟩))) (by dsimp only [List.set]; try rfl) ?_
    refine q_is rfl rfl (does_min (p := (max (min (intOf (cf .f64 r60)) (n - 2)) 0) + 1) (q := n - 1) Try.underlying2 (ev rfl) (ev rfl)) (by dsimp only [List.set]; try rfl) ?_
    refine q_is rfl rfl (does_move (u := (Fl 0)) (ev rfl)) (by dsimp only [List.set]; try rfl) ?_
    refine q_is rfl rfl (does_move (u := (Iv (max (min (intOf (cf .f64 r60)) (n - 2)) 0))) (ev rfl)) (by dsimp only [List.set]; try rfl) ?_
    refine q_is rfl rfl (does_conv_if (k := .f32) Try.underlying2 Try.underlying22 (ev rfl)) (by dsimp only [List.set]; try rfl) ?_
    refine seqd rfl rfl (does_float (.inr (.inl rfl)) (ev rfl) (ev rfl)) ?_; rintro _ w67 ⟨r64, rfl, h65, E66⟩
    have X68 := Ext.gr X62 E66
    show wpList _ _ _ _ (fr [_, _, _, _, _, _, _, _, _, _, _, _, _, _, _, _, _, _, _, _, _, _, _, _, _, _, _, _, _, _, _, _, _, _, _, _, _, _, _, _, _, _, _, _, _, _, _, _, _]) _
    refine q_is rfl rfl (does_assign (u := (Iv (max (min (intOf (cf .f64 r60)) (n - 2)) 0))) (ev rfl)) (by dsimp only [List.set]; try rfl) ?_
    refine q_is rfl rfl (does_assign (u := (Iv (min ((max (min (intOf (cf .f64 r60)) (n - 2)) 0) + 1) (n - 1)))) (ev rfl)) (by dsimp only [List.set]; try rfl) ?_
    refine q_is rfl rfl (does_assign (u := (Fl r64)) (ev rfl)) (by dsimp only [List.set]; try rfl) ?_
    refine wpList_nil (hK63 _ _ ?_)
    refine wp_ret ?_
    refine ret_val (v := (.tuple #[(Iv (max (min (intOf (cf .f64 r60)) (n - 2)) 0)), (Iv (min ((max (min (intOf (cf .f64 r60)) (n - 2)) 0) + 1) (n - 1))), (Fl r64)])) (res_TTT rfl (slot rfl) (slot rfl) (slot rfl)) X68 ?_
    try simp only [h2, h4, h6, h8, h17, h22, h54, h61, h65] at c28 c31
    have x69 : (cellI (cf .f32 p_) (cf .f32 low) A_g.step n : Int) = (max (min (intOf (cf .f64 r60)) (n - 2)) 0) := by first | rfl | (simp only [cellI, cellF, cellU, nrF, h2, h4, h6, h8, h17, h22, h54, h61, h65, c28, c31, if_true, if_false, Bool.false_eq_true, ↓reduceIte]; done) | (simp only [cellI, cellF, cellU, nrF, h2, h4, h6, h8, h17, h22, h54, h61, h65, c28, c31, if_true, if_false, Bool.false_eq_true, ↓reduceIte]; rfl)
    have x70 : (min (cellI (cf .f32 p_) (cf .f32 low) A_g.step n + 1) (n - 1) : Int) = (min ((max (min (intOf (cf .f64 r60)) (n - 2)) 0) + 1) (n - 1)) := by first | rfl | (simp only [cellI, cellF, cellU, nrF, h2, h4, h6, h8, h17, h22, h54, h61, h65, c28, c31, if_true, if_false, Bool.false_eq_true, ↓reduceIte]; done) | (simp only [cellI, cellF, cellU, nrF, h2, h4, h6, h8, h17, h22, h54, h61, h65, c28, c31, if_true, if_false, Bool.false_eq_true, ↓reduceIte]; rfl)
    have x71 : cf .f32 r64 = cellF (cf .f32 p_) (cf .f32 low) A_g.step n := by first | rfl | (simp only [cellI, cellF, cellU, nrF, h2, h4, h6, h8, h17, h22, h54, h61, h65, c28, c31, if_true, if_false, Bool.false_eq_true, ↓reduceIte]; done) | (simp only [cellI, cellF, cellU, nrF, h2, h4, h6, h8, h17, h22, h54, h61, h65, c28, c31, if_true, if_false, Bool.false_eq_true, ↓reduceIte]; rfl)
    exact ⟨r64, (by first | rfl | rw [x69, x70] | rw [x70, x69]), x71⟩
  have c28' := c28
  (try simp only [h2, h4, h6, h8, h17, h22] at c28)
  refine wp_skip (hK26 _ _ ?_)
  refine wp_seq_k fun K72 hK72 => ?_
  refine wp_seq_k fun K73 hK73 => ?_
  refine wp_region_lit ?_
  refine q_is rfl rfl (does_move (u := (Fl r21)) (ev rfl)) (by dsimp only [List.set]; try rfl) ?_
  refine q_is rfl rfl (does_move (u := (Fl (FloatKind.f32.nearest (n - 1)))) (ev rfl)) (by dsimp only [List.set]; try rfl) ?_
  refine q_is rfl rfl (does_fcmp (.inr (.inr (.inr (.inr (.inl rfl))))) (ev rfl) (ev rfl)) (by dsimp only [List.set]; try rfl) ?_
  refine wpList_nil (hK73 _ _ ?_)
  refine wp_cond_split (t := fcmp .gtr (ford .f32 (cf .f32 r21) (cf .f32 (FloatKind.f32.nearest (n - 1))))) (ev rfl) (fun c74 => ?_) (fun c74 => ?_)
  · have c74' := c74
    (try simp only [h2, h4, h6, h8, h17, h22] at c74)
    refine wp_region_lit ?_
    refine q_is rfl rfl (does_move (u := (Fl (FloatKind.f32.nearest (n - 1)))) (ev rfl)) (by dsimp only [List.set]; try rfl) ?_
    refine q_is rfl rfl (does_assign (u := (Fl (FloatKind.f32.nearest (n - 1)))) (ev rfl)) (by dsimp only [List.set]; try rfl) ?_
    refine wpList_nil (hK72 _ _ ?_)
    refine wp_seq_k fun K75 hK75 => ?_
    refine wp_region_lit ?_
    refine q_is rfl rfl (does_move (u := (Fl (FloatKind.f32.nearest (n - 1)))) (ev rfl)) (by dsimp only [List.set]; try rfl) ?_
    refine seqd rfl rfl (does_widen Try.underlying22 Try.underlying37 (ev rfl)) ?_; rintro _ w79 ⟨r76, rfl, h77, E78⟩
    have X80 := Ext.gr X25 E78
    show wpList _ _ _ _ (fr [_, _, _, _, _, _, _, _, _, _, _, _, _, _, _, _, _, _, _, _, _, _, _, _, _, _, _, _, _, _, _, _, _, _, _, _, _, _, _, _, _, _, _, _, _, _, _, _, _]) _
    refine seqd rfl rfl (does_call (args := #[(Fd r76)]) cal45 (evs rfl) (c_math_Floor r76 _)) ?_; rintro _ w82 ⟨E81, ⟨r83, rfl, h84⟩⟩
    have X85 := Ext.gr X80 E81
    show wpList _ _ _ _ (fr [_, _, _, _, _, _, _, _, _, _, _, _, _, _, _, _, _, _, _, _, _, _, _, _, _, _, _, _, _, _, _, _, _, _, _, _, _, _, _, _, _, _, _, _, _, _, _, _, _]) _
    refine q_is rfl rfl (does_conv_fi (p := r83) Try.underlying37 Try.underlying2 (ev rfl) (by first | assumption | (simp only [h2, h4, h6, h8, h17, h22, h77, h84]; first | assumption | exact (by have hz := hin; simp only [cellU, nrF, h2, h4, h6, h8, h17, h22, h77, h84, c28, c74, if_true, if_false, Bool.false_eq_true, ↓reduceIte] at hz; exact hz)))) (by dsimp only [List.set]; try rfl) ?_
    refine q_is rfl rfl (does_move (u := (Iv n)) (ev rfl)) (by dsimp only [List.set]; try rfl) ?_
    refine q_is rfl rfl (does_iarith (p := n) (q := 2) (r := n - 2) (ev rfl) (ev rfl) (.inr (.inl ⟨rfl, (in_i64 (by omega) (by omega)).symm⟩))) (by dsimp only [List.set]; try rfl) ?_
    refine q_is rfl rfl (does_min (p := intOf (cf .f64 r83)) (q := n - 2) Try.underlying2 (ev rfl) (ev rfl)) (by dsimp only [List.set]; try rfl) ?_
    refine q_is rfl rfl (does_max (p := (min (intOf (cf .f64 r83)) (n - 2))) (q := 0) Try.underlying2 (ev rfl) (ev rfl)) (by dsimp only [List.set]; try rfl) ?_
    refine q_is rfl rfl (does_assign (u := (Iv (max (min (intOf (cf .f64 r83)) (n - 2)) 0))) (ev rfl)) (by dsimp only [List.set]; try rfl) ?_
    refine wpList_nil (hK75 _ _ ?_)
    refine wp_seq_k fun K86 hK86 => ?_
    refine wp_region_lit ?_
    refine q_is rfl rfl (does_move (u := (Iv (max (min (intOf (cf .f64 r83)) (n - 2)) 0))) (ev rfl)) (by dsimp only [List.set]; try rfl) ?_
    refine q_is rfl rfl (does_move (u := (Iv (max (min (intOf (cf .f64 r83)) (n - 2)) 0))) (ev rfl)) (by dsimp only [List.set]; try rfl) ?_
    refine q_is rfl rfl (does_iarith (p := (max (min (intOf (cf .f64 r83)) (n - 2)) 0)) (q := 1) (r := (max (min (intOf (cf .f64 r83)) (n - 2)) 0) + 1) (ev rfl) (ev rfl) (.inl ⟨rfl, (in_i64 (by omega) (by omega)).symm⟩)) (by dsimp only [List.set]; try rfl) ?_
    refine q_is rfl rfl (does_move (u := (Iv n)) (ev rfl)) (by dsimp only [List.set]; try rfl) ?_
    refine q_is rfl rfl (does_iarith (p := n) (q := 1) (r := n - 1) (ev rfl) (ev rfl) (.inr (.inl ⟨rfl, (in_i64 (by omega) (by omega)).symm⟩))) (by dsimp only [List.set]; try rfl) ?_
    refine q_is rfl rfl (does_min (p := (max (min (intOf (cf .f64 r83)) (n - 2)) 0) + 1) (q := n - 1) Try.underlying2 (ev rfl) (ev rfl)) (by dsimp only [List.set]; try rfl) ?_
    refine q_is rfl rfl (does_move (u := (Fl (FloatKind.f32.nearest (n - 1)))) (ev rfl)) (by dsimp only [List.set]; try rfl) ?_
    refine q_is rfl rfl (does_move (u := (Iv (max (min (intOf (cf .f64 r83)) (n - 2)) 0))) (ev rfl)) (by dsimp only [List.set]; try rfl) ?_
    refine q_is rfl rfl (does_conv_if (k := .f32) Try.underlying2 Try.underlying22 (ev rfl)) (by dsimp only [List.set]; try rfl) ?_
    refine seqd rfl rfl (does_float (.inr (.inl rfl)) (ev rfl) (ev rfl)) ?_; rintro _ w90 ⟨r87, rfl, h88, E89⟩
    have X91 := Ext.gr X85 E89
    show wpList _ _ _ _ (fr [_, _, _, _, _, _, _, _, _, _, _, _, _, _, _, _, _, _, _, _, _, _, _, _, _, _, _, _, _, _, _, _, _, _, _, _, _, _, _, _, _, _, _, _, _, _, _, _, _]) _
    refine q_is rfl rfl (does_assign (u := (Iv (max (min (intOf (cf .f64 r83)) (n - 2)) 0))) (ev rfl)) (by dsimp only [List.set]; try rfl) ?_
    refine q_is rfl rfl (does_assign (u := (Iv (min ((max (min (intOf (cf .f64 r83)) (n - 2)) 0) + 1) (n - 1)))) (ev rfl)) (by dsimp only [List.set]; try rfl) ?_
    refine q_is rfl rfl (does_assign (u := (Fl r87)) (ev rfl)) (by dsimp only [List.set]; try rfl) ?_
    refine wpList_nil (hK86 _ _ ?_)
    refine wp_ret ?_
    refine ret_val (v := (.tuple #[(Iv (max (min (intOf (cf .f64 r83)) (n - 2)) 0)), (Iv (min ((max (min (intOf (cf .f64 r83)) (n - 2)) 0) + 1) (n - 1))), (Fl r87)])) (res_TTT rfl (slot rfl) (slot rfl) (slot rfl)) X91 ?_
    try simp only [h2, h4, h6, h8, h17, h22, h77, h84, h88] at c28 c74
    have x92 : (cellI (cf .f32 p_) (cf .f32 low) A_g.step n : Int) = (max (min (intOf (cf .f64 r83)) (n - 2)) 0) := by first | rfl | (simp only [cellI, cellF, cellU, nrF, h2, h4, h6, h8, h17, h22, h77, h84, h88, c28, c74, if_true, if_false, Bool.false_eq_true, ↓reduceIte]; done) | (simp only [cellI, cellF, cellU, nrF, h2, h4, h6, h8, h17, h22, h77, h84, h88, c28, c74, if_true, if_false, Bool.false_eq_true, ↓reduceIte]; rfl)
    have x93 : (min (cellI (cf .f32 p_) (cf .f32 low) A_g.step n + 1) (n - 1) : Int) = (min ((max (min (intOf (cf .f64 r83)) (n - 2)) 0) + 1) (n - 1)) := by first | rfl | (simp only [cellI, cellF, cellU, nrF, h2, h4, h6, h8, h17, h22, h77, h84, h88, c28, c74, if_true, if_false, Bool.false_eq_true, ↓reduceIte]; done) | (simp only [cellI, cellF, cellU, nrF, h2, h4, h6, h8, h17, h22, h77, h84, h88, c28, c74, if_true, if_false, Bool.false_eq_true, ↓reduceIte]; rfl)
    have x94 : cf .f32 r87 = cellF (cf .f32 p_) (cf .f32 low) A_g.step n := by first | rfl | (simp only [cellI, cellF, cellU, nrF, h2, h4, h6, h8, h17, h22, h77, h84, h88, c28, c74, if_true, if_false, Bool.false_eq_true, ↓reduceIte]; done) | (simp only [cellI, cellF, cellU, nrF, h2, h4, h6, h8, h17, h22, h77, h84, h88, c28, c74, if_true, if_false, Bool.false_eq_true, ↓reduceIte]; rfl)
    exact ⟨r87, (by first | rfl | rw [x92, x93] | rw [x93, x92]), x94⟩
  have c74' := c74
  (try simp only [h2, h4, h6, h8, h17, h22] at c74)
  refine wp_skip (hK72 _ _ ?_)
  refine wp_seq_k fun K95 hK95 => ?_
  refine wp_region_lit ?_
  refine q_is rfl rfl (does_move (u := (Fl r21)) (ev rfl)) (by dsimp only [List.set]; try rfl) ?_
  refine seqd rfl rfl (does_widen Try.underlying22 Try.underlying37 (ev rfl)) ?_; rintro _ w99 ⟨r96, rfl, h97, E98⟩
  have X100 := Ext.gr X25 E98
  show wpList _ _ _ _ (fr [_, _, _, _, _, _, _, _, _, _, _, _, _, _, _, _, _, _, _, _, _, _, _, _, _, _, _, _, _, _, _, _, _, _, _, _, _, _, _, _, _, _, _, _, _, _, _, _, _]) _
  refine seqd rfl rfl (does_call (args := #[(Fd r96)]) cal45 (evs rfl) (c_math_Floor r96 _)) ?_; rintro _ w102 ⟨E101, ⟨r103, rfl, h104⟩⟩
  have X105 := Ext.gr X100 E101
  show wpList _ _ _ _ (fr [_, _, _, _, _, _, _, _, _, _, _, _, _, _, _, _, _, _, _, _, _, _, _, _, _, _, _, _, _, _, _, _, _, _, _, _, _, _, _, _, _, _, _, _, _, _, _, _, _]) _
  refine q_is rfl rfl (does_conv_fi (p := r103) Try.underlying37 Try.underlying2 (ev rfl) (by first | assumption | (simp only [h2, h4, h6, h8, h17, h22, h97, h104]; first | assumption | exact (by have hz := hin; simp only [cellU, nrF, h2, h4, h6, h8, h17, h22, h97, h104, c28, c74, if_true, if_false, Bool.false_eq_true, ↓reduceIte] at hz; exact hz)))) (by dsimp only [List.set]; try rfl) ?_
  refine q_is rfl rfl (does_move (u := (Iv n)) (ev rfl)) (by dsimp only [List.set]; try rfl) ?_
  refine q_is rfl rfl (does_iarith (p := n) (q := 2) (r := n - 2) (ev rfl) (ev rfl) (.inr (.inl ⟨rfl, (in_i64 (by omega) (by omega)).symm⟩))) (by dsimp only [List.set]; try rfl) ?_
  refine q_is rfl rfl (does_min (p := intOf (cf .f64 r103)) (q := n - 2) Try.underlying2 (ev rfl) (ev rfl)) (by dsimp only [List.set]; try rfl) ?_
  refine q_is rfl rfl (does_max (p := (min (intOf (cf .f64 r103)) (n - 2))) (q := 0) Try.underlying2 (ev rfl) (ev rfl)) (by dsimp only [List.set]; try rfl) ?_
  refine q_is rfl rfl (does_assign (u := (Iv (max (min (intOf (cf .f64 r103)) (n - 2)) 0))) (ev rfl)) (by dsimp only [List.set]; try rfl) ?_
  refine wpList_nil (hK95 _ _ ?_)
  refine wp_seq_k fun K106 hK106 => ?_
  refine wp_region_lit ?_
  refine q_is rfl rfl (does_move (u := (Iv (max (min (intOf (cf .f64 r103)) (n - 2)) 0))) (ev rfl)) (by dsimp only [List.set]; try rfl) ?_
  refine q_is rfl rfl (does_move (u := (Iv (max (min (intOf (cf .f64 r103)) (n - 2)) 0))) (ev rfl)) (by dsimp only [List.set]; try rfl) ?_
  refine q_is rfl rfl (does_iarith (p := (max (min (intOf (cf .f64 r103)) (n - 2)) 0)) (q := 1) (r := (max (min (intOf (cf .f64 r103)) (n - 2)) 0) + 1) (ev rfl) (ev rfl) (.inl ⟨rfl, (in_i64 (by omega) (by omega)).symm⟩)) (by dsimp only [List.set]; try rfl) ?_
  refine q_is rfl rfl (does_move (u := (Iv n)) (ev rfl)) (by dsimp only [List.set]; try rfl) ?_
  refine q_is rfl rfl (does_iarith (p := n) (q := 1) (r := n - 1) (ev rfl) (ev rfl) (.inr (.inl ⟨rfl, (in_i64 (by omega) (by omega)).symm⟩))) (by dsimp only [List.set]; try rfl) ?_
  refine q_is rfl rfl (does_min (p := (max (min (intOf (cf .f64 r103)) (n - 2)) 0) + 1) (q := n - 1) Try.underlying2 (ev rfl) (ev rfl)) (by dsimp only [List.set]; try rfl) ?_
  refine q_is rfl rfl (does_move (u := (Fl r21)) (ev rfl)) (by dsimp only [List.set]; try rfl) ?_
  refine q_is rfl rfl (does_move (u := (Iv (max (min (intOf (cf .f64 r103)) (n - 2)) 0))) (ev rfl)) (by dsimp only [List.set]; try rfl) ?_
  refine q_is rfl rfl (does_conv_if (k := .f32) Try.underlying2 Try.underlying22 (ev rfl)) (by dsimp only [List.set]; try rfl) ?_
  refine seqd rfl rfl (does_float (.inr (.inl rfl)) (ev rfl) (ev rfl)) ?_; rintro _ w110 ⟨r107, rfl, h108, E109⟩
  have X111 := Ext.gr X105 E109
  show wpList _ _ _ _ (fr [_, _, _, _, _, _, _, _, _, _, _, _, _, _, _, _, _, _, _, _, _, _, _, _, _, _, _, _, _, _, _, _, _, _, _, _, _, _, _, _, _, _, _, _, _, _, _, _, _]) _
  refine q_is rfl rfl (does_assign (u := (Iv (max (min (intOf (cf .f64 r103)) (n - 2)) 0))) (ev rfl)) (by dsimp only [List.set]; try rfl) ?_
  refine q_is rfl rfl (does_assign (u := (Iv (min ((max (min (intOf (cf .f64 r103)) (n - 2)) 0) + 1) (n - 1)))) (ev rfl)) (by dsimp only [List.set]; try rfl) ?_
  refine q_is rfl rfl (does_assign (u := (Fl r107)) (ev rfl)) (by dsimp only [List.set]; try rfl) ?_
  refine wpList_nil (hK106 _ _ ?_)
  refine wp_ret ?_
  refine ret_val (v := (.tuple #[(Iv (max (min (intOf (cf .f64 r103)) (n - 2)) 0)), (Iv (min ((max (min (intOf (cf .f64 r103)) (n - 2)) 0) + 1) (n - 1))), (Fl r107)])) (res_TTT rfl (slot rfl) (slot rfl) (slot rfl)) X111 ?_
  try simp only [h2, h4, h6, h8, h17, h22, h97, h104, h108] at c28 c74
  have x112 : (cellI (cf .f32 p_) (cf .f32 low) A_g.step n : Int) = (max (min (intOf (cf .f64 r103)) (n - 2)) 0) := by first | rfl | (simp only [cellI, cellF, cellU, nrF, h2, h4, h6, h8, h17, h22, h97, h104, h108, c28, c74, if_true, if_false, Bool.false_eq_true, ↓reduceIte]; done) | (simp only [cellI, cellF, cellU, nrF, h2, h4, h6, h8, h17, h22, h97, h104, h108, c28, c74, if_true, if_false, Bool.false_eq_true, ↓reduceIte]; rfl)
  have x113 : (min (cellI (cf .f32 p_) (cf .f32 low) A_g.step n + 1) (n - 1) : Int) = (min ((max (min (intOf (cf .f64 r103)) (n - 2)) 0) + 1) (n - 1)) := by first | rfl | (simp only [cellI, cellF, cellU, nrF, h2, h4, h6, h8, h17, h22, h97, h104, h108, c28, c74, if_true, if_false, Bool.false_eq_true, ↓reduceIte]; done) | (simp only [cellI, cellF, cellU, nrF, h2, h4, h6, h8, h17, h22, h97, h104, h108, c28, c74, if_true, if_false, Bool.false_eq_true, ↓reduceIte]; rfl)
  have x114 : cf .f32 r107 = cellF (cf .f32 p_) (cf .f32 low) A_g.step n := by first | rfl | (simp only [cellI, cellF, cellU, nrF, h2, h4, h6, h8, h17, h22, h97, h104, h108, c28, c74, if_true, if_false, Bool.false_eq_true, ↓reduceIte]; done) | (simp only [cellI, cellF, cellU, nrF, h2, h4, h6, h8, h17, h22, h97, h104, h108, c28, c74, if_true, if_false, Bool.false_eq_true, ↓reduceIte]; rfl)
  exact ⟨r107, (by first | rfl | rw [x112, x113] | rw [x113, x112]), x114⟩

/- (*impl.Grid).between$1 -/
theorem c_impl_Grid_between_1 (a_ : Nat) (b_ : Nat) (f_ : Nat) (w : World) : Gives Try.prog 39 #[(Fl a_), (Fl b_), (Fl f_)] w (fun v w' => ∃ r_1 : Nat, v = (Fl r_1) ∧ cf .f32 r_1 = mixF (cf .f32 a_) (cf .f32 b_) (cf .f32 f_)) := by
  refine enter [(Fl a_), (Fl b_), (Fl f_), Ud, Ud, Ud, Ud, Ud, Ud, Ud, Ud, Ud, Ud, Ud] Try.func39 rfl Try.ntmps39 rfl ?_
  refine wp_seq_k fun K1 hK1 => ?_
  refine wp_region_lit ?_
  refine q_is (l' := [(Fl a_), (Fl b_), (Fl f_), Ud, Ud, Ud, (Fl 0), Ud, Ud, Ud, Ud, Ud, Ud, Ud]) rfl rfl (does_assign (u := (Fl 0)) (ev rfl)) rfl ?_
  refine wpList_nil (hK1 _ _ ?_)
  refine wp_seq_k fun K2 hK2 => ?_
  refine wp_region_lit ?_
  refine q_is (l' := [(Fl a_), (Fl b_), (Fl f_), Ud, Ud, Ud, (Fl 0), (Fl a_), Ud, Ud, Ud, Ud, Ud, Ud]) rfl rfl (does_move (u := (Fl a_)) (ev rfl)) rfl ?_
  refine q_is (l' := [(Fl a_), (Fl b_), (Fl f_), Ud, Ud, Ud, (Fl 0), (Fl a_), (Fl f_), Ud, Ud, Ud, Ud, Ud]) rfl rfl (does_move (u := (Fl f_)) (ev rfl)) rfl ?_
  refine q_is (l' := [(Fl a_), (Fl b_), (Fl f_), Ud, Ud, Ud, (Fl 0), (Fl a_), (Fl f_), (Fl b_), Ud, Ud, Ud, Ud]) rfl rfl (does_move (u := (Fl b_)) (ev rfl)) rfl ?_
  refine q_is (l' := [(Fl a_), (Fl b_), (Fl f_), Ud, Ud, Ud, (Fl 0), (Fl a_), (Fl f_), (Fl b_), (Fl a_), Ud, Ud, Ud]) rfl rfl (does_move (u := (Fl a_)) (ev rfl)) rfl ?_
  refine seqd rfl rfl (does_float (.inr (.inl rfl)) (ev rfl) (ev rfl)) ?_; rintro _ w6 ⟨r3, rfl, h4, E5⟩
  have X7 := Ext.gr (Ext.refl w) E5
  show wpList _ _ _ _ (fr [(Fl a_), (Fl b_), (Fl f_), Ud, Ud, Ud, (Fl 0), (Fl a_), (Fl f_), (Fl b_), (Fl a_), (Fl r3), Ud, Ud]) _
  refine seqd rfl rfl (does_float (.inr (.inr (.inl rfl))) (ev rfl) (ev rfl)) ?_; rintro _ w11 ⟨r8, rfl, h9, E10⟩
  have X12 := Ext.gr X7 E10
  show wpList _ _ _ _ (fr [(Fl a_), (Fl b_), (Fl f_), Ud, Ud, Ud, (Fl 0), (Fl a_), (Fl f_), (Fl b_), (Fl a_), (Fl r3), (Fl r8), Ud]) _
  refine seqd rfl rfl (does_float (.inl rfl) (ev rfl) (ev rfl)) ?_; rintro _ w16 ⟨r13, rfl, h14, E15⟩
  have X17 := Ext.gr X12 E15
  show wpList _ _ _ _ (fr [(Fl a_), (Fl b_), (Fl f_), Ud, Ud, Ud, (Fl 0), (Fl a_), (Fl f_), (Fl b_), (Fl a_), (Fl r3), (Fl r8), (Fl r13)]) _
  refine q_is (l' := [(Fl a_), (Fl b_), (Fl f_), Ud, Ud, Ud, (Fl r13), (Fl a_), (Fl f_), (Fl b_), (Fl a_), (Fl r3), (Fl r8), (Fl r13)]) rfl rfl (does_assign (u := (Fl r13)) (ev rfl)) rfl ?_
  refine wpList_nil (hK2 _ _ ?_)
  refine wp_ret ?_
  refine ret_val (v := (Fl r13)) (res_T rfl (slot rfl)) X17 ?_
  have x18 : cf .f32 r13 = mixF (cf .f32 a_) (cf .f32 b_) (cf .f32 f_) := by first | with_reducible rfl | (simp only [mixF, h4, h9, h14]; done) | (simp [mixF, h4, h9, h14]; done) | rfl
  exact ⟨r13, rfl, x18⟩

/- (*impl.Grid).index -/
theorem c_impl_Grid_index (g_b : Nat) (g_o : Nat) (g : List Value) (A_g : GridT) (x : Int) (y : Int) (z : Int) (w : World) (hc_g : Cells w g_b g_o g) (hv_g : RGridT w A_g g) : Gives Try.prog 41 #[(Pt g_b g_o), (.agg #[(Iv x), (Iv y), (Iv z)])] w (fun v w' => v = (Iv (idxG A_g x y z))) := by
  obtain ⟨r1, r3, r5, r7, y9, rfl, h2, h4, h6, h8, h10⟩ := hv_g
  have hs13 := h10; have hs13l := Sl.len h10; obtain ⟨p11, q12, rfl⟩ := Sl.shape h10
  refine enter [(Pt g_b g_o), (.agg #[(Iv x), (Iv y), (Iv z)]), Ud, Ud, Ud, Ud, Ud, Ud, Ud, Ud, Ud, Ud, Ud, Ud, Ud, Ud, Ud, Ud, Ud, Ud, Ud, Ud, Ud] Try.func41 rfl Try.ntmps41 rfl ?_
  refine wp_seq_k fun K14 hK14 => ?_
  refine wp_region_lit ?_
  refine seqd rfl rfl (does_box (u := (.agg #[(Iv x), (Iv y), (Iv z)])) (ev rfl)) ?_; rintro _ w19 ⟨b15, rfl, hb16, hB17, E18⟩
  have n20 : g_b < b15 := Nat.lt_of_lt_of_le (cell_lt (Cells.at hc_g 0 rfl)) hb16
  have g21 : w.heap.size ≤ b15 := Nat.le_trans (Below.size (Ext.refl w)) hb16
  change Blk _ _ [(Iv x), (Iv y), (Iv z)] at hB17
  have X22 := Ext.gr (Ext.refl w) E18
  show wpList _ _ _ _ (fr [(Pt g_b g_o), (.agg #[(Iv x), (Iv y), (Iv z)]), Ud, (Pt b15 0), Ud, Ud, Ud, Ud, Ud, Ud, Ud, Ud, Ud, Ud, Ud, Ud, Ud, Ud, Ud, Ud, Ud, Ud, Ud]) _
  refine q_is (l' := [(Pt g_b g_o), (.agg #[(Iv x), (Iv y), (Iv z)]), Ud, (Pt b15 0), (Iv 0), Ud, Ud, Ud, Ud, Ud, Ud, Ud, Ud, Ud, Ud, Ud, Ud, Ud, Ud, Ud, Ud, Ud, Ud]) rfl rfl (does_assign (u := (Iv 0)) (ev rfl)) rfl ?_
  refine wpList_nil (hK14 _ _ ?_)
  refine wp_seq_k fun K23 hK23 => ?_
  refine region_draw (
    [Fact.pure [] (fun v => v = (Pt b15 0)),
    Fact.pure [5] (fun v => v = (Iv x)),
    Fact.pure [] (fun v => v = (Pt g_b g_o)),
    Fact.pure [7] (fun v => v = (Pt g_b g_o)),
    Fact.pure [8] (fun v => v = (Pt g_b (g_o + 4))),
    Fact.pure [9] (fun v => v = (Iv A_g.x)),
    Fact.pure [] (fun v => v = (Pt b15 1)),
    Fact.pure [11] (fun v => v = (Iv y)),
    Fact.pure [] (fun v => v = (Pt g_b g_o)),
    Fact.pure [13] (fun v => v = (Pt g_b g_o)),
    Fact.pure [14] (fun v => v = (Pt g_b (g_o + 5))),
    Fact.pure [15] (fun v => v = (Iv A_g.y)),
    Fact.pure [] (fun v => v = (Pt b15 2)),
    Fact.pure [17] (fun v => v = (Iv z)),
    Fact.pure [16, 18] (fun v => v = (Iv (IntKind.i64.wrap (A_g.y * z)))),
    Fact.pure [12, 19] (fun v => v = (Iv (IntKind.i64.wrap (y + (IntKind.i64.wrap (A_g.y * z)))))),
    Fact.pure [10, 20] (fun v => v = (Iv (IntKind.i64.wrap (A_g.x * (IntKind.i64.wrap (y + (IntKind.i64.wrap (A_g.y * z)))))))),
    Fact.pure [6, 21] (fun v => v = (Iv (IntKind.i64.wrap (x + (IntKind.i64.wrap (A_g.x * (IntKind.i64.wrap (y + (IntKind.i64.wrap (A_g.y * z))))))))))]) mixed (by kernel_rfl) (by intro _ _ d _ _ h; cases d <;> exact h) ?_
  obtain ⟨w24, hw26⟩ : ∃ w', w' = World.drew w19 := ⟨_, rfl⟩; rw [← hw26]; have E25 : Ext w19 w24 := by rw [hw26]; exact Ext.draw _
  clear hw26
  have X27 := Ext.gr X22 E25
  refine RW_d (fun v28 => [(Pt g_b g_o), (.agg #[(Iv x), (Iv y), (Iv z)]), Ud, (Pt b15 0), (Iv 0), v28, Ud, Ud, Ud, Ud, Ud, Ud, Ud, Ud, Ud, Ud, Ud, Ud, Ud, Ud, Ud, Ud, Ud]) rfl (fun _ => rfl) (fun u hu hF => ?_) (fun v28 => ?_)
  · clear hF
    refine doesG_un rfl ?_
    refine (does_indexAt_run (r := (Pt b15 0)) (ev rfl) (ev rfl) (fun w => ia64_0 _ _ w)).mono ?_; rintro _ _ ⟨rfl, rfl⟩
    exact ⟨rfl, Ext.refl _⟩
  refine RW_d (fun v29 => [(Pt g_b g_o), (.agg #[(Iv x), (Iv y), (Iv z)]), Ud, (Pt b15 0), (Iv 0), v28, v29, Ud, Ud, Ud, Ud, Ud, Ud, Ud, Ud, Ud, Ud, Ud, Ud, Ud, Ud, Ud, Ud]) rfl (fun _ => rfl) (fun u hu hF => ?_) (fun v29 => ?_)
  · have h5_ : v28 = (Pt b15 0) := hF.1
    clear hF
    refine doesG_un rfl ?_
    obtain rfl := h5_
    refine (does_load (u := (Iv x)) (ev rfl) Try.isAgg2 (Cells.at (Blk.cells ((hB17.ext E25).ext hu)) 0 rfl)).mono ?_; rintro _ _ ⟨rfl, rfl⟩
    exact ⟨rfl, Ext.refl _⟩
  refine RW_d (fun v30 => [(Pt g_b g_o), (.agg #[(Iv x), (Iv y), (Iv z)]), Ud, (Pt b15 0), (Iv 0), v28, v29, v30, Ud, Ud, Ud, Ud, Ud, Ud, Ud, Ud, Ud, Ud, Ud, Ud, Ud, Ud, Ud]) rfl (fun _ => rfl) (fun u hu hF => ?_) (fun v30 => ?_)
  · clear hF
    refine doesG_un rfl ?_
    refine (does_move (u := (Pt g_b g_o)) (ev rfl)).mono ?_; rintro _ _ ⟨rfl, rfl⟩
    exact ⟨rfl, Ext.refl _⟩
  refine RW_d (fun v31 => [(Pt g_b g_o), (.agg #[(Iv x), (Iv y), (Iv z)]), Ud, (Pt b15 0), (Iv 0), v28, v29, v30, v31, Ud, Ud, Ud, Ud, Ud, Ud, Ud, Ud, Ud, Ud, Ud, Ud, Ud, Ud]) rfl (fun _ => rfl) (fun u hu hF => ?_) (fun v31 => ?_)
  · have h7_ : v30 = (Pt g_b g_o) := hF.1
    clear hF
    refine doesG_un rfl ?_
    obtain rfl := h7_
    refine (does_nilCheck (ev rfl)).mono ?_; rintro _ _ ⟨rfl, rfl⟩
    exact ⟨rfl, Ext.refl _⟩
  refine RW_d (fun v32 => [(Pt g_b g_o), (.agg #[(Iv x), (Iv y), (Iv z)]), Ud, (Pt b15 0), (Iv 0), v28, v29, v30, v31, v32, Ud, Ud, Ud, Ud, Ud, Ud, Ud, Ud, Ud, Ud, Ud, Ud, Ud]) rfl (fun _ => rfl) (fun u hu hF => ?_) (fun v32 => ?_)
  · have h8_ : v31 = (Pt g_b g_o) := hF.1
    clear hF
    refine doesG_un rfl ?_
    obtain rfl := h8_
    refine (does_fieldAddr (ev rfl) fa33_2).mono ?_; rintro _ _ ⟨rfl, rfl⟩
    exact ⟨rfl, Ext.refl _⟩
  refine RW_d (fun v33 => [(Pt g_b g_o), (.agg #[(Iv x), (Iv y), (Iv z)]), Ud, (Pt b15 0), (Iv 0), v28, v29, v30, v31, v32, v33, Ud, Ud, Ud, Ud, Ud, Ud, Ud, Ud, Ud, Ud, Ud, Ud]) rfl (fun _ => rfl) (fun u hu hF => ?_) (fun v33 => ?_)
  · have h9_ : v32 = (Pt g_b (g_o + 4)) := hF.1
    clear hF
    refine doesG_un rfl ?_
    obtain rfl := h9_
    refine (does_load (u := (Iv A_g.x)) (ev rfl) Try.isAgg2 (Cells.at ((hc_g.ext (Ext.gr X22 E25)).ext hu) 4 rfl)).mono ?_; rintro _ _ ⟨rfl, rfl⟩
    exact ⟨rfl, Ext.refl _⟩
  refine RW_d (fun v34 => [(Pt g_b g_o), (.agg #[(Iv x), (Iv y), (Iv z)]), Ud, (Pt b15 0), (Iv 0), v28, v29, v30, v31, v32, v33, v34, Ud, Ud, Ud, Ud, Ud, Ud, Ud, Ud, Ud, Ud, Ud]) rfl (fun _ => rfl) (fun u hu hF => ?_) (fun v34 => ?_)
  · clear hF
    refine doesG_un rfl ?_
    refine (does_indexAt_run (r := (Pt b15 1)) (ev rfl) (ev rfl) (fun w => ia64_1 _ _ w)).mono ?_; rintro _ _ ⟨rfl, rfl⟩
    exact ⟨rfl, Ext.refl _⟩
  refine RW_d (fun v35 => [(Pt g_b g_o), (.agg #[(Iv x), (Iv y), (Iv z)]), Ud, (Pt b15 0), (Iv 0), v28, v29, v30, v31, v32, v33, v34, v35, Ud, Ud, Ud, Ud, Ud, Ud, Ud, Ud, Ud, Ud]) rfl (fun _ => rfl) (fun u hu hF => ?_) (fun v35 => ?_)
  · have h11_ : v34 = (Pt b15 1) := hF.1
    clear hF
    refine doesG_un rfl ?_
    obtain rfl := h11_
    refine (does_load (u := (Iv y)) (ev rfl) Try.isAgg2 (Cells.at (Blk.cells ((hB17.ext E25).ext hu)) 1 rfl)).mono ?_; rintro _ _ ⟨rfl, rfl⟩
    exact ⟨rfl, Ext.refl _⟩
  refine RW_d (fun v36 => [(Pt g_b g_o), (.agg #[(Iv x), (Iv y), (Iv z)]), Ud, (Pt b15 0), (Iv 0), v28, v29, v30, v31, v32, v33, v34, v35, v36, Ud, Ud, Ud, Ud, Ud, Ud, Ud, Ud, Ud]) rfl (fun _ => rfl) (fun u hu hF => ?_) (fun v36 => ?_)
  · clear hF
    refine doesG_un rfl ?_
    refine (does_move (u := (Pt g_b g_o)) (ev rfl)).mono ?_; rintro _ _ ⟨rfl, rfl⟩
    exact ⟨rfl, Ext.refl _⟩
  refine RW_d (fun v37 => [(Pt g_b g_o), (.agg #[(Iv x), (Iv y), (Iv z)]), Ud, (Pt b15 0), (Iv 0), v28, v29, v30, v31, v32, v33, v34, v35, v36, v37, Ud, Ud, Ud, Ud, Ud, Ud, Ud, Ud]) rfl (fun _ => rfl) (fun u hu hF => ?_) (fun v37 => ?_)
  · have h13_ : v36 = (Pt g_b g_o) := hF.1
    clear hF
    refine doesG_un rfl ?_
    obtain rfl := h13_
    refine (does_nilCheck (ev rfl)).mono ?_; rintro _ _ ⟨rfl, rfl⟩
    exact ⟨rfl, Ext.refl _⟩
  refine RW_d (fun v38 => [(Pt g_b g_o), (.agg #[(Iv x), (Iv y), (Iv z)]), Ud, (Pt b15 0), (Iv 0), v28, v29, v30, v31, v32, v33, v34, v35, v36, v37, v38, Ud, Ud, Ud, Ud, Ud, Ud, Ud]) rfl (fun _ => rfl) (fun u hu hF => ?_) (fun v38 => ?_)
  · have h14_ : v37 = (Pt g_b g_o) := hF.1
    clear hF
    refine doesG_un rfl ?_
    obtain rfl := h14_
    refine (does_fieldAddr (ev rfl) fa33_3).mono ?_; rintro _ _ ⟨rfl, rfl⟩
    exact ⟨rfl, Ext.refl _⟩
  refine RW_d (fun v39 => [(Pt g_b g_o), (.agg #[(Iv x), (Iv y), (Iv z)]), Ud, (Pt b15 0), (Iv 0), v28, v29, v30, v31, v32, v33, v34, v35, v36, v37, v38, v39, Ud, Ud, Ud, Ud, Ud, Ud]) rfl (fun _ => rfl) (fun u hu hF => ?_) (fun v39 => ?_)
  · have h15_ : v38 = (Pt g_b (g_o + 5)) := hF.1
    clear hF
    refine doesG_un rfl ?_
    obtain rfl := h15_
    refine (does_load (u := (Iv A_g.y)) (ev rfl) Try.isAgg2 (Cells.at ((hc_g.ext (Ext.gr X22 E25)).ext hu) 5 rfl)).mono ?_; rintro _ _ ⟨rfl, rfl⟩
    exact ⟨rfl, Ext.refl _⟩
  refine RW_d (fun v40 => [(Pt g_b g_o), (.agg #[(Iv x), (Iv y), (Iv z)]), Ud, (Pt b15 0), (Iv 0), v28, v29, v30, v31, v32, v33, v34, v35, v36, v37, v38, v39, v40, Ud, Ud, Ud, Ud, Ud]) rfl (fun _ => rfl) (fun u hu hF => ?_) (fun v40 => ?_)
  · clear hF
    refine doesG_un rfl ?_
    refine (does_indexAt_run (r := (Pt b15 2)) (ev rfl) (ev rfl) (fun w => ia64_2 _ _ w)).mono ?_; rintro _ _ ⟨rfl, rfl⟩
    exact ⟨rfl, Ext.refl _⟩
  refine RW_d (fun v41 => [(Pt g_b g_o), (.agg #[(Iv x), (Iv y), (Iv z)]), Ud, (Pt b15 0), (Iv 0), v28, v29, v30, v31, v32, v33, v34, v35, v36, v37, v38, v39, v40, v41, Ud, Ud, Ud, Ud]) rfl (fun _ => rfl) (fun u hu hF => ?_) (fun v41 => ?_)
  · have h17_ : v40 = (Pt b15 2) := hF.1
    clear hF
    refine doesG_un rfl ?_
    obtain rfl := h17_
    refine (does_load (u := (Iv z)) (ev rfl) Try.isAgg2 (Cells.at (Blk.cells ((hB17.ext E25).ext hu)) 2 rfl)).mono ?_; rintro _ _ ⟨rfl, rfl⟩
    exact ⟨rfl, Ext.refl _⟩
  refine RW_d (fun v42 => [(Pt g_b g_o), (.agg #[(Iv x), (Iv y), (Iv z)]), Ud, (Pt b15 0), (Iv 0), v28, v29, v30, v31, v32, v33, v34, v35, v36, v37, v38, v39, v40, v41, v42, Ud, Ud, Ud]) rfl (fun _ => rfl) (fun u hu hF => ?_) (fun v42 => ?_)
  · have h16_ : v39 = (Iv A_g.y) := hF.1
    have h18_ : v41 = (Iv z) := hF.2.1
    clear hF
    refine doesG_un rfl ?_
    obtain rfl := h16_
    obtain rfl := h18_
    refine (does_iarith (p := A_g.y) (q := z) (r := IntKind.i64.wrap (A_g.y * z)) (ev rfl) (ev rfl) (.inr (.inr ⟨rfl, rfl⟩))).mono ?_; rintro _ _ ⟨rfl, rfl⟩
    exact ⟨rfl, Ext.refl _⟩
  refine RW_d (fun v43 => [(Pt g_b g_o), (.agg #[(Iv x), (Iv y), (Iv z)]), Ud, (Pt b15 0), (Iv 0), v28, v29, v30, v31, v32, v33, v34, v35, v36, v37, v38, v39, v40, v41, v42, v43, Ud, Ud]) rfl (fun _ => rfl) (fun u hu hF => ?_) (fun v43 => ?_)
  · have h12_ : v35 = (Iv y) := hF.1
    have h19_ : v42 = (Iv (IntKind.i64.wrap (A_g.y * z))) := hF.2.1
    clear hF
    refine doesG_un rfl ?_
    obtain rfl := h12_
    obtain rfl := h19_
    refine (does_iarith (p := y) (q := IntKind.i64.wrap (A_g.y * z)) (r := IntKind.i64.wrap (y + (IntKind.i64.wrap (A_g.y * z)))) (ev rfl) (ev rfl) (.inl ⟨rfl, rfl⟩)).mono ?_; rintro _ _ ⟨rfl, rfl⟩
    exact ⟨rfl, Ext.refl _⟩
  refine RW_d (fun v44 => [(Pt g_b g_o), (.agg #[(Iv x), (Iv y), (Iv z)]), Ud, (Pt b15 0), (Iv 0), v28, v29, v30, v31, v32, v33, v34, v35, v36, v37, v38, v39, v40, v41, v42, v43, v44, Ud]) rfl (fun _ => rfl) (fun u hu hF => ?_) (fun v44 => ?_)
  · have h10_ : v33 = (Iv A_g.x) := hF.1
    have h20_ : v43 = (Iv (IntKind.i64.wrap (y + (IntKind.i64.wrap (A_g.y * z))))) := hF.2.1
    clear hF
    refine doesG_un rfl ?_
    obtain rfl := h10_
    obtain rfl := h20_
    refine (does_iarith (p := A_g.x) (q := IntKind.i64.wrap (y + (IntKind.i64.wrap (A_g.y * z)))) (r := IntKind.i64.wrap (A_g.x * (IntKind.i64.wrap (y + (IntKind.i64.wrap (A_g.y * z)))))) (ev rfl) (ev rfl) (.inr (.inr ⟨rfl, rfl⟩))).mono ?_; rintro _ _ ⟨rfl, rfl⟩
    exact ⟨rfl, Ext.refl _⟩
  refine RW_d (fun v45 => [(Pt g_b g_o), (.agg #[(Iv x), (Iv y), (Iv z)]), Ud, (Pt b15 0), (Iv 0), v28, v29, v30, v31, v32, v33, v34, v35, v36, v37, v38, v39, v40, v41, v42, v43, v44, v45]) rfl (fun _ => rfl) (fun u hu hF => ?_) (fun v45 => ?_)
  · have h6_ : v29 = (Iv x) := hF.1
    have h21_ : v44 = (Iv (IntKind.i64.wrap (A_g.x * (IntKind.i64.wrap (y + (IntKind.i64.wrap (A_g.y * z))))))) := hF.2.1
    clear hF
    refine doesG_un rfl ?_
    obtain rfl := h6_
    obtain rfl := h21_
    refine (does_iarith (p := x) (q := IntKind.i64.wrap (A_g.x * (IntKind.i64.wrap (y + (IntKind.i64.wrap (A_g.y * z)))))) (r := IntKind.i64.wrap (x + (IntKind.i64.wrap (A_g.x * (IntKind.i64.wrap (y + (IntKind.i64.wrap (A_g.y * z)))))))) (ev rfl) (ev rfl) (.inl ⟨rfl, rfl⟩)).mono ?_; rintro _ _ ⟨rfl, rfl⟩
    exact ⟨rfl, Ext.refl _⟩
  refine RW_fin ?_; intro w46 E47 hP48
  obtain ⟨⟨⟨⟨⟨⟨⟨⟨⟨⟨⟨⟨⟨⟨⟨⟨⟨⟨-, -⟩, -⟩, -⟩, -⟩, -⟩, -⟩, -⟩, -⟩, -⟩, -⟩, -⟩, -⟩, -⟩, -⟩, -⟩, -⟩, -⟩, q49⟩ := hP48
  have X50 := Ext.gr X27 E47
  have q49 : v45 = (Iv (IntKind.i64.wrap (x + (IntKind.i64.wrap (A_g.x * (IntKind.i64.wrap (y + (IntKind.i64.wrap (A_g.y * z))))))))) := q49
  obtain rfl := q49
  show wpList _ _ _ _ (fr [(Pt g_b g_o), (.agg #[(Iv x), (Iv y), (Iv z)]), Ud, (Pt b15 0), (Iv 0), v28, v29, v30, v31, v32, v33, v34, v35, v36, v37, v38, v39, v40, v41, v42, v43, v44, (Iv (IntKind.i64.wrap (x + (IntKind.i64.wrap (A_g.x * (IntKind.i64.wrap (y + (IntKind.i64.wrap (A_g.y * z)))))))))]) _
  refine q_is (l' := [(Pt g_b g_o), (.agg #[(Iv x), (Iv y), (Iv z)]), Ud, (Pt b15 0), (Iv (IntKind.i64.wrap (x + (IntKind.i64.wrap (A_g.x * (IntKind.i64.wrap (y + (IntKind.i64.wrap (A_g.y * z))))))))), v28, v29, v30, v31, v32, v33, v34, v35, v36, v37, v38, v39, v40, v41, v42, v43, v44, (Iv (IntKind.i64.wrap (x + (IntKind.i64.wrap (A_g.x * (IntKind.i64.wrap (y + (IntKind.i64.wrap (A_g.y * z)))))))))]) rfl rfl (does_assign (u := (Iv (IntKind.i64.wrap (x + (IntKind.i64.wrap (A_g.x * (IntKind.i64.wrap (y + (IntKind.i64.wrap (A_g.y * z)))))))))) (ev rfl)) rfl ?_
  refine wpList_nil (hK23 _ _ ?_)
  refine wp_ret ?_
  refine ret_val (v := (Iv (IntKind.i64.wrap (x + (IntKind.i64.wrap (A_g.x * (IntKind.i64.wrap (y + (IntKind.i64.wrap (A_g.y * z)))))))))) (res_T rfl (slot rfl)) X50 ?_
  have x51 : (idxG A_g x y z : Int) = (IntKind.i64.wrap (x + (IntKind.i64.wrap (A_g.x * (IntKind.i64.wrap (y + (IntKind.i64.wrap (A_g.y * z)))))))) := by first | with_reducible rfl | (simp only [idxG, h2, h4, h6, h8]; done) | (simp [idxG, h2, h4, h6, h8]; done) | rfl
  exact (by first | rfl | rw [x51])

/- (*impl.Grid).between$2 -/
theorem c_impl_Grid_between_2 (y_ : Int) (z_ : Int) (pal_b : Nat) (pal_o : Nat) (al : Value) (pr_al : Nat → Nat → Nat → Nat) (pg_b : Nat) (pg_o : Nat) (g_b : Nat) (g_o : Nat) (g : List Value) (A_g : GridT) (pf_b : Nat) (pf_o : Nat) (f0 : Int) (f1 : Int) (f2 : Int) (ps_b : Nat) (ps_o : Nat) (s0 : Int) (s1 : Int) (s2 : Int) (ph_b : Nat) (ph_o : Nat) (h0 : Nat) (h1 : Nat) (h2 : Nat) (w : World) (hv_al : ∃ fi fst cap, al = .func (.func fi) fst cap ∧ (∀ args w, (callFunc fi args).run Try.prog w = .ok (.enter fi args) w) ∧ ∀ (r t q : Nat) u, Ext w u → Gives Try.prog fi (fst ++ #[Fl r, Fl t, Fl q] ++ cap) u (fun v _ => ∃ o, v = Fl o ∧ cf .f32 o = pr_al (cf .f32 r) (cf .f32 t) (cf .f32 q))) (hc_pal : Cells w pal_b pal_o [al]) (hc_g : Cells w g_b g_o g) (hv_g : RGridT w A_g g) (hc_pg : Cells w pg_b pg_o [(Pt g_b g_o)]) (hc_pf : Cells w pf_b pf_o [(Iv f0), (Iv f1), (Iv f2)]) (hc_ps : Cells w ps_b ps_o [(Iv s0), (Iv s1), (Iv s2)]) (hc_ph : Cells w ph_b ph_o [(Fl h0), (Fl h1), (Fl h2)]) (hd0 : 0 ≤ idxG A_g f0 y_ z_ ∧ idxG A_g f0 y_ z_ < A_g.vals.length) (hd1 : 0 ≤ idxG A_g s0 y_ z_ ∧ idxG A_g s0 y_ z_ < A_g.vals.length) : Gives Try.prog 40 #[(Iv y_), (Iv z_), (Pt pal_b pal_o), (Pt pg_b pg_o), (Pt pf_b pf_o), (Pt ps_b ps_o), (Pt ph_b ph_o)] w (fun v w' => ∃ r_1 : Nat, v = (Fl r_1) ∧ cf .f32 r_1 = pr_al (vat A_g f0 y_ z_) (vat A_g s0 y_ z_) (cf .f32 h0)) := by
  obtain ⟨f_al, s_al, c_al, rfl, hcal_al, hg_al⟩ := hv_al
  obtain ⟨r1, r3, r5, r7, y9, rfl, h2, h4, h6, h8, h10⟩ := hv_g
  have hs13 := h10; have hs13l := Sl.len h10; obtain ⟨p11, q12, rfl⟩ := Sl.shape h10
  refine enter [(Iv y_), (Iv z_), (Pt pal_b pal_o), (Pt pg_b pg_o), (Pt pf_b pf_o), (Pt ps_b ps_o), (Pt ph_b ph_o), Ud, Ud, Ud, Ud, Ud, Ud, Ud, Ud, Ud, Ud, Ud, Ud, Ud, Ud, Ud, Ud, Ud, Ud, Ud, Ud, Ud, Ud, Ud, Ud, Ud, Ud, Ud, Ud, Ud, Ud, Ud, Ud, Ud] Try.func40 rfl Try.ntmps40 rfl ?_
  refine wp_seq_k fun K14 hK14 => ?_
  refine wp_region_lit ?_
  refine q_is rfl rfl (does_assign (u := (Fl 0)) (ev rfl)) (by dsimp only [List.set]; try rfl) ?_
  refine wpList_nil (hK14 _ _ ?_)
  refine wp_seq_k fun K15 hK15 => ?_
  obtain ⟨el1, hel1⟩ : ∃ e, A_g.vals[(idxG A_g f0 y_ z_).toNat]? = some e := ⟨_, List.getElem?_eq_getElem (by omega)⟩
  obtain ⟨el2, hel2⟩ : ∃ e, A_g.vals[(idxG A_g s0 y_ z_).toNat]? = some e := ⟨_, List.getElem?_eq_getElem (by omega)⟩
  refine region_draw (
    [Fact.pure [] (fun v => v = (.func (.func f_al) s_al c_al)),
    Fact.pure [] (fun v => v = (Pt g_b g_o)),
    Fact.pure [11] (fun v => v = (Pt g_b g_o)),
    Fact.pure [12] (fun v => v = (Pt g_b (g_o + 7))),
    Fact.pure [13] (fun v => v = (.slice p11 A_g.vals.length q12)),
    Fact.pure [] (fun v => v = (Pt g_b g_o)),
    Fact.pure [] (fun v => v = (Pt pf_b pf_o)),
    Fact.pure [16] (fun v => v = (Iv f0)),
    Fact.pure [] (fun v => v = (Iv y_)),
    Fact.pure [] (fun v => v = (Iv z_)),
    Fact.pure [17, 18, 19] (fun v => v = (.agg #[(Iv f0), (Iv y_), (Iv z_)])),
    Fact.pure [15, 20] (fun v => v = (Iv (idxG A_g f0 y_ z_))),
    Fact.mem [14, 21] (fun v w' => PtrR RF w' v el1) (by intro v w1 w2 hx h; exact h.ext RF.mono hx),
    Fact.pure [22] (fun v => ∃ r_1 : Nat, v = (Fl r_1) ∧ cf .f32 r_1 = el1),
    Fact.pure [] (fun v => v = (Pt g_b g_o)),
    Fact.pure [24] (fun v => v = (Pt g_b g_o)),
    Fact.pure [25] (fun v => v = (Pt g_b (g_o + 7))),
    Fact.pure [26] (fun v => v = (.slice p11 A_g.vals.length q12)),
    Fact.pure [] (fun v => v = (Pt g_b g_o)),
    Fact.pure [] (fun v => v = (Pt ps_b ps_o)),
    Fact.pure [29] (fun v => v = (Iv s0)),
    Fact.pure [] (fun v => v = (Iv y_)),
    Fact.pure [] (fun v => v = (Iv z_)),
    Fact.pure [30, 31, 32] (fun v => v = (.agg #[(Iv s0), (Iv y_), (Iv z_)])),
    Fact.pure [28, 33] (fun v => v = (Iv (idxG A_g s0 y_ z_))),
    Fact.mem [27, 34] (fun v w' => PtrR RF w' v el2) (by intro v w1 w2 hx h; exact h.ext RF.mono hx),
    Fact.pure [35] (fun v => ∃ r_1 : Nat, v = (Fl r_1) ∧ cf .f32 r_1 = el2),
    Fact.pure [] (fun v => v = (Pt ph_b ph_o)),
    Fact.pure [37] (fun v => v = (Fl h0)),
    Fact.pure [23, 36, 38, 10] (fun v => ∃ r_1 : Nat, v = (Fl r_1) ∧ cf .f32 r_1 = pr_al el1 el2 (cf .f32 h0))]) mixed (by kernel_rfl) (by intro _ _ d _ _ h; cases d <;> exact h) ?_
  obtain ⟨w16, hw18⟩ : ∃ w', w' = World.drew w := ⟨_, rfl⟩; rw [← hw18]; have E17 : Ext w w16 := by rw [hw18]; exact Ext.draw _
  clear hw18
  have X19 := Ext.gr (Ext.refl w) E17
  refine RW_d _ rfl (fun v => by dsimp only [List.set]; try rfl) (fun u hu hF => ?_) (fun v20 => ?_)
  · clear hF
    refine doesG_un rfl ?_
    refine (does_load (u := (.func (.func f_al) s_al c_al)) (ev rfl) Try.isAgg63 (Cells.at ((hc_pal.ext (Ext.gr (Ext.refl w) E17)).ext hu) 0 rfl)).mono ?_; rintro _ _ ⟨rfl, rfl⟩
    exact ⟨rfl, Ext.refl _⟩
  refine RW_d _ rfl (fun v => by dsimp only [List.set]; try rfl) (fun u hu hF => ?_) (fun v21 => ?_)
  · clear hF
    refine doesG_un rfl ?_
    refine (does_load (u := (Pt g_b g_o)) (ev rfl) Try.isAgg45 (Cells.at ((hc_pg.ext (Ext.gr (Ext.refl w) E17)).ext hu) 0 rfl)).mono ?_; rintro _ _ ⟨rfl, rfl⟩
    exact ⟨rfl, Ext.refl _⟩
  refine RW_d _ rfl (fun v => by dsimp only [List.set]; try rfl) (fun u hu hF => ?_) (fun v22 => ?_)
  · have h11_ : v21 = (Pt g_b g_o) := hF.1
    clear hF
    refine doesG_un rfl ?_
    obtain rfl := h11_
    refine (does_nilCheck (ev rfl)).mono ?_; rintro _ _ ⟨rfl, rfl⟩
    exact ⟨rfl, Ext.refl _⟩
  refine RW_d _ rfl (fun v => by dsimp only [List.set]; try rfl) (fun u hu hF => ?_) (fun v23 => ?_)
  · have h12_ : v22 = (Pt g_b g_o) := hF.1
    clear hF
    refine doesG_un rfl ?_
    obtain rfl := h12_
    refine (does_fieldAddr (ev rfl) fa33_5).mono ?_; rintro _ _ ⟨rfl, rfl⟩
    exact ⟨rfl, Ext.refl _⟩
  refine RW_d _ rfl (fun v => by dsimp only [List.set]; try rfl) (fun u hu hF => ?_) (fun v24 => ?_)
  · have h13_ : v23 = (Pt g_b (g_o + 7)) := hF.1
    clear hF
    refine doesG_un rfl ?_
    obtain rfl := h13_
    refine (does_load (u := (.slice p11 A_g.vals.length q12)) (ev rfl) Try.isAgg25 (Cells.at ((hc_g.ext (Ext.gr (Ext.refl w) E17)).ext hu) 7 rfl)).mono ?_; rintro _ _ ⟨rfl, rfl⟩
    exact ⟨rfl, Ext.refl _⟩
  refine RW_d _ rfl (fun v => by dsimp only [List.set]; try rfl) (fun u hu hF => ?_) (fun v25 => ?_)
  · clear hF
    refine doesG_un rfl ?_
    refine (does_load (u := (Pt g_b g_o)) (ev rfl) Try.isAgg45 (Cells.at ((hc_pg.ext (Ext.gr (Ext.refl w) E17)).ext hu) 0 rfl)).mono ?_; rintro _ _ ⟨rfl, rfl⟩
    exact ⟨rfl, Ext.refl _⟩
  refine RW_d _ rfl (fun v => by dsimp only [List.set]; try rfl) (fun u hu hF => ?_) (fun v26 => ?_)
  · clear hF
    refine doesG_un rfl ?_
    refine (does_indexAt_run (r := (Pt pf_b pf_o)) (ev rfl) (ev rfl) (fun w => ia64_0 _ _ w)).mono ?_; rintro _ _ ⟨rfl, rfl⟩
    exact ⟨rfl, Ext.refl _⟩
  refine RW_d _ rfl (fun v => by dsimp only [List.set]; try rfl) (fun u hu hF => ?_) (fun v27 => ?_)
  · have h16_ : v26 = (Pt pf_b pf_o) := hF.1
    clear hF
    refine doesG_un rfl ?_
    obtain rfl := h16_
    refine (does_load (u := (Iv f0)) (ev rfl) Try.isAgg2 (Cells.at ((hc_pf.ext (Ext.gr (Ext.refl w) E17)).ext hu) 0 rfl)).mono ?_; rintro _ _ ⟨rfl, rfl⟩
    exact ⟨rfl, Ext.refl _⟩
  refine RW_d _ rfl (fun v => by dsimp only [List.set]; try rfl) (fun u hu hF => ?_) (fun v28 => ?_)
  · clear hF
    refine doesG_un rfl ?_
    refine (does_move (u := (Iv y_)) (ev rfl)).mono ?_; rintro _ _ ⟨rfl, rfl⟩
    exact ⟨rfl, Ext.refl _⟩
  refine RW_d _ rfl (fun v => by dsimp only [List.set]; try rfl) (fun u hu hF => ?_) (fun v29 => ?_)
  · clear hF
    refine doesG_un rfl ?_
    refine (does_move (u := (Iv z_)) (ev rfl)).mono ?_; rintro _ _ ⟨rfl, rfl⟩
    exact ⟨rfl, Ext.refl _⟩
  refine RW_d _ rfl (fun v => by dsimp only [List.set]; try rfl) (fun u hu hF => ?_) (fun v30 => ?_)
  · have h17_ : v27 = (Iv f0) := hF.1
    have h18_ : v28 = (Iv y_) := hF.2.1
    have h19_ : v29 = (Iv z_) := hF.2.2.1
    clear hF
    refine doesG_un rfl ?_
    obtain rfl := h17_
    obtain rfl := h18_
    obtain rfl := h19_
    refine (does_build (parts' := [(0, (Iv f0)), (1, (Iv y_)), (2, (Iv z_))]) (cells := #[(Iv f0), (Iv y_), (Iv z_)]) (evp rfl) (by kernel_rfl)).mono ?_; rintro _ _ ⟨rfl, rfl⟩
    exact ⟨rfl, Ext.refl _⟩
  refine RW_d _ rfl (fun v => by dsimp only [List.set]; try rfl) (fun u hu hF => ?_) (fun v31 => ?_)
  · have h15_ : v25 = (Pt g_b g_o) := hF.1
    have h20_ : v30 = (.agg #[(Iv f0), (Iv y_), (Iv z_)]) := hF.2.1
    clear hF
    refine doesG_un rfl ?_
    obtain rfl := h15_
    obtain rfl := h20_
    refine (does_call (args := #[(Pt g_b g_o), (.agg #[(Iv f0), (Iv y_), (Iv z_)])]) cal41 (evs rfl) (c_impl_Grid_index g_b g_o [(Fl r1), (Fl r3), (Fl r5), (Fl r7), (Iv A_g.x), (Iv A_g.y), (Iv A_g.z), (.slice p11 A_g.vals.length q12)] A_g f0 y_ z_ _ ((hc_g.ext (Ext.gr (Ext.refl w) E17)).ext hu) ⟨r1, r3, r5, r7, (.slice p11 A_g.vals.length q12), rfl, h2, h4, h6, h8, (Sl.ext (Sl.ext hs13 RF.mono (Ext.gr (Ext.refl w) E17)) RF.mono hu)⟩)).mono ?_; rintro v u' ⟨hx, hv⟩
    exact ⟨hv, hx⟩
  refine RW_d _ rfl (fun v => by dsimp only [List.set]; try rfl) (fun u hu hF => ?_) (fun v32 => ?_)
  · have h14_ : v24 = (.slice p11 A_g.vals.length q12) := hF.1
    have h21_ : v31 = (Iv (idxG A_g f0 y_ z_)) := hF.2.1
    clear hF
    refine doesG_un rfl ?_
    obtain rfl := h14_
    obtain rfl := h21_
    refine (does_indexSl (R := RF) (i := idxG A_g f0 y_ z_) (xs := A_g.vals) (e := el1) Try.underlying25 Try.sizeOf22 (ev rfl) (ev rfl) (Sl.ext (Sl.ext hs13 RF.mono (Ext.gr (Ext.refl w) E17)) RF.mono hu) (by omega) hel1).mono ?_; rintro v u' ⟨b, of, cs, hv, hc, hR, hu'⟩; subst hu'
    exact ⟨⟨b, of, cs, hv, hc, hR⟩, Ext.refl _⟩
  refine RW_d _ rfl (fun v => by dsimp only [List.set]; try rfl) (fun u hu hF => ?_) (fun v33 => ?_)
  · have h22_ : PtrR RF u v32 el1 := hF.1
    clear hF
    refine doesG_un rfl ?_
    obtain ⟨b22_, o22_, _, rfl, hc22_, ⟨r22_1, rfl, h22_2⟩⟩ := h22_
    refine (does_load (u := (Fl r22_1)) (ev rfl) Try.isAgg22 (Cells.at hc22_ 0 rfl)).mono ?_; rintro _ _ ⟨rfl, rfl⟩
    exact ⟨⟨r22_1, rfl, (by simp only [h22_2])⟩, Ext.refl _⟩
  refine RW_d _ rfl (fun v => by dsimp only [List.set]; try rfl) (fun u hu hF => ?_) (fun v34 => ?_)
  · clear hF
    refine doesG_un rfl ?_
    refine (does_load (u := (Pt g_b g_o)) (ev rfl) Try.isAgg45 (Cells.at ((hc_pg.ext (Ext.gr (Ext.refl w) E17)).ext hu) 0 rfl)).mono ?_; rintro _ _ ⟨rfl, rfl⟩
    exact ⟨rfl, Ext.refl _⟩
  refine RW_d _ rfl (fun v => by dsimp only [List.set]; try rfl) (fun u hu hF => ?_) (fun v35 => ?_)
  · have h24_ : v34 = (Pt g_b g_o) := hF.1
    clear hF
    refine doesG_un rfl ?_
    obtain rfl := h24_
    refine (does_nilCheck (ev rfl)).mono ?_; rintro _ _ ⟨rfl, rfl⟩
    exact ⟨rfl, Ext.refl _⟩
  refine RW_d _ rfl (fun v => by dsimp only [List.set]; try rfl) (fun u hu hF => ?_) (fun v36 => ?_)
  · have h25_ : v35 = (Pt g_b g_o) := hF.1
    clear hF
    refine doesG_un rfl ?_
    obtain rfl := h25_
    refine (does_fieldAddr (ev rfl) fa33_5).mono ?_; rintro _ _ ⟨rfl, rfl⟩
    exact ⟨rfl, Ext.refl _⟩
  refine RW_d _ rfl (fun v => by dsimp only [List.set]; try rfl) (fun u hu hF => ?_) (fun v37 => ?_)
  · have h26_ : v36 = (Pt g_b (g_o + 7)) := hF.1
    clear hF
    refine doesG_un rfl ?_
    obtain rfl := h26_
    refine (does_load (u := (.slice p11 A_g.vals.length q12)) (ev rfl) Try.isAgg25 (Cells.at ((hc_g.ext (Ext.gr (Ext.refl w) E17)).ext hu) 7 rfl)).mono ?_; rintro _ _ ⟨rfl, rfl⟩
    exact ⟨rfl, Ext.refl _⟩
  refine RW_d _ rfl (fun v => by dsimp only [List.set]; try rfl) (fun u hu hF => ?_) (fun v38 => ?_)
  · clear hF
    refine doesG_un rfl ?_
    refine (does_load (u := (Pt g_b g_o)) (ev rfl) Try.isAgg45 (Cells.at ((hc_pg.ext (Ext.gr (Ext.refl w) E17)).ext hu) 0 rfl)).mono ?_; rintro _ _ ⟨rfl, rfl⟩
    exact ⟨rfl, Ext.refl _⟩
  refine RW_d _ rfl (fun v => by dsimp only [List.set]; try rfl) (fun u hu hF => ?_) (fun v39 => ?_)
  · clear hF
    refine doesG_un rfl ?_
    refine (does_indexAt_run (r := (Pt ps_b ps_o)) (ev rfl) (ev rfl) (fun w => ia64_0 _ _ w)).mono ?_; rintro _ _ ⟨rfl, rfl⟩
    exact ⟨rfl, Ext.refl _⟩
  refine RW_d _ rfl (fun v => by dsimp only [List.set]; try rfl) (fun u hu hF => ?_) (fun v40 => ?_)
  · have h29_ : v39 = (Pt ps_b ps_o) := hF.1
    clear hF
    refine doesG_un rfl ?_
    obtain rfl := h29_
    refine (does_load (u := (Iv s0)) (ev rfl) Try.isAgg2 (Cells.at ((hc_ps.ext (Ext.gr (Ext.refl w) E17)).ext hu) 0 rfl)).mono ?_; rintro _ _ ⟨rfl, rfl⟩
    exact ⟨rfl, Ext.refl _⟩
  refine RW_d _ rfl (fun v => by dsimp only [List.set]; try rfl) (fun u hu hF => ?_) (fun v41 => ?_)
  · clear hF
    refine doesG_un rfl ?_
    refine (does_move (u := (Iv y_)) (ev rfl)).mono ?_; rintro _ _ ⟨rfl, rfl⟩
    exact ⟨rfl, Ext.refl _⟩
  refine RW_d _ rfl (fun v => by dsimp only [List.set]; try rfl) (fun u hu hF => ?_) (fun v42 => ?_)
  · clear hF
    refine doesG_un rfl ?_
    refine (does_move (u := (Iv z_)) (ev rfl)).mono ?_; rintro _ _ ⟨rfl, rfl⟩
    exact ⟨rfl, Ext.refl _⟩
  refine RW_d _ rfl (fun v => by dsimp only [List.set]; try rfl) (fun u hu hF => ?_) (fun v43 => ?_)
  · have h30_ : v40 = (Iv s0) := hF.1
    have h31_ : v41 = (Iv y_) := hF.2.1
    have h32_ : v42 = (Iv z_) := hF.2.2.1
    clear hF
    refine doesG_un rfl ?_
    obtain rfl := h30_
    obtain rfl := h31_
    obtain rfl := h32_
    refine (does_build (parts' := [(0, (Iv s0)), (1, (Iv y_)), (2, (Iv z_))]) (cells := #[(Iv s0), (Iv y_), (Iv z_)]) (evp rfl) (by kernel_rfl)).mono ?_; rintro _ _ ⟨rfl, rfl⟩
    exact ⟨rfl, Ext.refl _⟩
  refine RW_d _ rfl (fun v => by dsimp only [List.set]; try rfl) (fun u hu hF => ?_) (fun v44 => ?_)
  · have h28_ : v38 = (Pt g_b g_o) := hF.1
    have h33_ : v43 = (.agg #[(Iv s0), (Iv y_), (Iv z_)]) := hF.2.1
    clear hF
    refine doesG_un rfl ?_
    obtain rfl := h28_
    obtain rfl := h33_
    refine (does_call (args := #[(Pt g_b g_o), (.agg #[(Iv s0), (Iv y_), (Iv z_)])]) cal41 (evs rfl) (c_impl_Grid_index g_b g_o [(Fl r1), (Fl r3), (Fl r5), (Fl r7), (Iv A_g.x), (Iv A_g.y), (Iv A_g.z), (.slice p11 A_g.vals.length q12)] A_g s0 y_ z_ _ ((hc_g.ext (Ext.gr (Ext.refl w) E17)).ext hu) ⟨r1, r3, r5, r7, (.slice p11 A_g.vals.length q12), rfl, h2, h4, h6, h8, (Sl.ext (Sl.ext hs13 RF.mono (Ext.gr (Ext.refl w) E17)) RF.mono hu)⟩)).mono ?_; rintro v u' ⟨hx, hv⟩
    exact ⟨hv, hx⟩
  refine RW_d _ rfl (fun v => by dsimp only [List.set]; try rfl) (fun u hu hF => ?_) (fun v45 => ?_)
  · have h27_ : v37 = (.slice p11 A_g.vals.length q12) := hF.1
    have h34_ : v44 = (Iv (idxG A_g s0 y_ z_)) := hF.2.1
    clear hF
    refine doesG_un rfl ?_
    obtain rfl := h27_
    obtain rfl := h34_
    refine (does_indexSl (R := RF) (i := idxG A_g s0 y_ z_) (xs := A_g.vals) (e := el2) Try.underlying25 Try.sizeOf22 (ev rfl) (ev rfl) (Sl.ext (Sl.ext hs13 RF.mono (Ext.gr (Ext.refl w) E17)) RF.mono hu) (by omega) hel2).mono ?_; rintro v u' ⟨b, of, cs, hv, hc, hR, hu'⟩; subst hu'
    exact ⟨⟨b, of, cs, hv, hc, hR⟩, Ext.refl _⟩
  refine RW_d _ rfl (fun v => by dsimp only [List.set]; try rfl) (fun u hu hF => ?_) (fun v46 => ?_)
  · have h35_ : PtrR RF u v45 el2 := hF.1
    clear hF
    refine doesG_un rfl ?_
    obtain ⟨b35_, o35_, _, rfl, hc35_, ⟨r35_1, rfl, h35_2⟩⟩ := h35_
    refine (does_load (u := (Fl r35_1)) (ev rfl) Try.isAgg22 (Cells.at hc35_ 0 rfl)).mono ?_; rintro _ _ ⟨rfl, rfl⟩
    exact ⟨⟨r35_1, rfl, (by simp only [h35_2])⟩, Ext.refl _⟩
  refine RW_d _ rfl (fun v => by dsimp only [List.set]; try rfl) (fun u hu hF => ?_) (fun v47 => ?_)
  · clear hF
    refine doesG_un rfl ?_
    refine (does_indexAt_run (r := (Pt ph_b ph_o)) (ev rfl) (ev rfl) (fun w => ia54_0 _ _ w)).mono ?_; rintro _ _ ⟨rfl, rfl⟩
    exact ⟨rfl, Ext.refl _⟩
  refine RW_d _ rfl (fun v => by dsimp only [List.set]; try rfl) (fun u hu hF => ?_) (fun v48 => ?_)
  · have h37_ : v47 = (Pt ph_b ph_o) := hF.1
    clear hF
    refine doesG_un rfl ?_
    obtain rfl := h37_
    refine (does_load (u := (Fl h0)) (ev rfl) Try.isAgg22 (Cells.at ((hc_ph.ext (Ext.gr (Ext.refl w) E17)).ext hu) 0 rfl)).mono ?_; rintro _ _ ⟨rfl, rfl⟩
    exact ⟨rfl, Ext.refl _⟩
  refine RW_d _ rfl (fun v => by dsimp only [List.set]; try rfl) (fun u hu hF => ?_) (fun v49 => ?_)
  · have h23_ : ∃ r_1 : Nat, v33 = (Fl r_1) ∧ cf .f32 r_1 = el1 := hF.1
    have h36_ : ∃ r_1 : Nat, v46 = (Fl r_1) ∧ cf .f32 r_1 = el2 := hF.2.1
    have h38_ : v48 = (Fl h0) := hF.2.2.1
    have h10_ : v20 = (.func (.func f_al) s_al c_al) := hF.2.2.2.1
    clear hF
    refine doesG_un rfl ?_
    obtain ⟨r23_1, rfl, h23_2⟩ := h23_
    obtain ⟨r36_1, rfl, h36_2⟩ := h36_
    obtain rfl := h38_
    obtain rfl := h10_
    refine (does_callf (args := #[(Fl r23_1), (Fl r36_1), (Fl h0)]) (ev rfl) hcal_al (evs rfl) (hg_al r23_1 r36_1 h0 _ (Ext.gr (Ext.gr (Ext.refl w) E17) hu))).mono ?_; rintro v u' ⟨hx, ⟨rn1, hv, k0⟩⟩
    exact ⟨⟨rn1, hv.trans (by simp only [h23_2, h36_2]), (by simp only [k0, h23_2, h36_2])⟩, hx⟩
  refine RW_fin ?_; intro w50 E51 hP52
  obtain ⟨⟨⟨⟨⟨⟨⟨⟨⟨⟨⟨⟨⟨⟨⟨⟨⟨⟨⟨⟨⟨⟨⟨⟨⟨⟨⟨⟨⟨⟨-, -⟩, -⟩, -⟩, -⟩, -⟩, -⟩, -⟩, -⟩, -⟩, -⟩, -⟩, -⟩, -⟩, -⟩, -⟩, -⟩, -⟩, -⟩, -⟩, -⟩, -⟩, -⟩, -⟩, -⟩, -⟩, -⟩, -⟩, -⟩, -⟩, q53⟩ := hP52
  have X54 := Ext.gr X19 E51
  have q53 : ∃ r_1 : Nat, v49 = (Fl r_1) ∧ cf .f32 r_1 = pr_al el1 el2 (cf .f32 h0) := q53
  obtain ⟨r55, rfl, h56⟩ := q53
  show wpList _ _ _ _ (fr [_, _, _, _, _, _, _, _, _, _, _, _, _, _, _, _, _, _, _, _, _, _, _, _, _, _, _, _, _, _, _, _, _, _, _, _, _, _, _, _]) _
  refine q_is rfl rfl (does_assign (u := (Fl r55)) (ev rfl)) (by dsimp only [List.set]; try rfl) ?_
  refine wpList_nil (hK15 _ _ ?_)
  refine wp_ret ?_
  refine ret_val (v := (Fl r55)) (res_T rfl (slot rfl)) X54 ?_
  have x57 : cf .f32 r55 = pr_al (vat A_g f0 y_ z_) (vat A_g s0 y_ z_) (cf .f32 h0) := by simp only [h2, h4, h6, h8, hel1, hel2, h56, vat_of hel1, vat_of hel2]
  exact ⟨r55, rfl, x57⟩

/- (*impl.Grid).between$3 -/
theorem c_impl_Grid_between_3 (z_ : Int) (pal_b : Nat) (pal_o : Nat) (al : Value) (pr_al : Nat → Nat → Nat → Nat) (prw_b : Nat) (prw_o : Nat) (rw : Value) (D_rw : Int → Int → Prop) (pr_rw : Int → Int → Nat) (pf_b : Nat) (pf_o : Nat) (f0 : Int) (f1 : Int) (f2 : Int) (ps_b : Nat) (ps_o : Nat) (s0 : Int) (s1 : Int) (s2 : Int) (ph_b : Nat) (ph_o : Nat) (h0 : Nat) (h1 : Nat) (h2 : Nat) (w : World) (hv_al : ∃ fi fst cap, al = .func (.func fi) fst cap ∧ (∀ args w, (callFunc fi args).run Try.prog w = .ok (.enter fi args) w) ∧ ∀ (r t q : Nat) u, Ext w u → Gives Try.prog fi (fst ++ #[Fl r, Fl t, Fl q] ++ cap) u (fun v _ => ∃ o, v = Fl o ∧ cf .f32 o = pr_al (cf .f32 r) (cf .f32 t) (cf .f32 q))) (hc_pal : Cells w pal_b pal_o [al]) (hv_rw : ∃ fi fst cap, rw = .func (.func fi) fst cap ∧ (∀ args w, (callFunc fi args).run Try.prog w = .ok (.enter fi args) w) ∧ ∀ (y z : Int) u, D_rw y z → Ext w u → Gives Try.prog fi (fst ++ #[Iv y, Iv z] ++ cap) u (fun v _ => ∃ o, v = Fl o ∧ cf .f32 o = pr_rw y z)) (hc_prw : Cells w prw_b prw_o [rw]) (hc_pf : Cells w pf_b pf_o [(Iv f0), (Iv f1), (Iv f2)]) (hc_ps : Cells w ps_b ps_o [(Iv s0), (Iv s1), (Iv s2)]) (hc_ph : Cells w ph_b ph_o [(Fl h0), (Fl h1), (Fl h2)]) (hd0 : D_rw f1 z_) (hd1 : D_rw s1 z_) : Gives Try.prog 42 #[(Iv z_), (Pt pal_b pal_o), (Pt prw_b prw_o), (Pt pf_b pf_o), (Pt ps_b ps_o), (Pt ph_b ph_o)] w (fun v w' => ∃ r_1 : Nat, v = (Fl r_1) ∧ cf .f32 r_1 = pr_al (pr_rw f1 z_) (pr_rw s1 z_) (cf .f32 h1)) := by
  obtain ⟨f_al, s_al, c_al, rfl, hcal_al, hg_al⟩ := hv_al
  obtain ⟨f_rw, s_rw, c_rw, rfl, hcal_rw, hg_rw⟩ := hv_rw
  refine enter [(Iv z_), (Pt pal_b pal_o), (Pt prw_b prw_o), (Pt pf_b pf_o), (Pt ps_b ps_o), (Pt ph_b ph_o), Ud, Ud, Ud, Ud, Ud, Ud, Ud, Ud, Ud, Ud, Ud, Ud, Ud, Ud, Ud, Ud] Try.func42 rfl Try.ntmps42 rfl ?_
  refine wp_seq_k fun K1 hK1 => ?_
  refine wp_region_lit ?_
  refine q_is (l' := [(Iv z_), (Pt pal_b pal_o), (Pt prw_b prw_o), (Pt pf_b pf_o), (Pt ps_b ps_o), (Pt ph_b ph_o), Ud, (Fl 0), Ud, Ud, Ud, Ud, Ud, Ud, Ud, Ud, Ud, Ud, Ud, Ud, Ud, Ud]) rfl rfl (does_assign (u := (Fl 0)) (ev rfl)) rfl ?_
  refine wpList_nil (hK1 _ _ ?_)
  refine wp_seq_k fun K2 hK2 => ?_
  refine region_draw (
    [Fact.pure [] (fun v => v = (.func (.func f_al) s_al c_al)),
    Fact.pure [] (fun v => v = (.func (.func f_rw) s_rw c_rw)),
    Fact.pure [] (fun v => v = (Pt pf_b (pf_o + 1))),
    Fact.pure [10] (fun v => v = (Iv f1)),
    Fact.pure [] (fun v => v = (Iv z_)),
    Fact.pure [11, 12, 9] (fun v => ∃ r_1 : Nat, v = (Fl r_1) ∧ cf .f32 r_1 = pr_rw f1 z_),
    Fact.pure [] (fun v => v = (.func (.func f_rw) s_rw c_rw)),
    Fact.pure [] (fun v => v = (Pt ps_b (ps_o + 1))),
    Fact.pure [15] (fun v => v = (Iv s1)),
    Fact.pure [] (fun v => v = (Iv z_)),
    Fact.pure [16, 17, 14] (fun v => ∃ r_1 : Nat, v = (Fl r_1) ∧ cf .f32 r_1 = pr_rw s1 z_),
    Fact.pure [] (fun v => v = (Pt ph_b (ph_o + 1))),
    Fact.pure [19] (fun v => v = (Fl h1)),
    Fact.pure [13, 18, 20, 8] (fun v => ∃ r_1 : Nat, v = (Fl r_1) ∧ cf .f32 r_1 = pr_al (pr_rw f1 z_) (pr_rw s1 z_) (cf .f32 h1))]) mixed (by kernel_rfl) (by intro _ _ d _ _ h; cases d <;> exact h) ?_
  obtain ⟨w3, hw5⟩ : ∃ w', w' = World.drew w := ⟨_, rfl⟩; rw [← hw5]; have E4 : Ext w w3 := by rw [hw5]; exact Ext.draw _
  clear hw5
  have X6 := Ext.gr (Ext.refl w) E4
  refine RW_d (fun v7 => [(Iv z_), (Pt pal_b pal_o), (Pt prw_b prw_o), (Pt pf_b pf_o), (Pt ps_b ps_o), (Pt ph_b ph_o), Ud, (Fl 0), v7, Ud, Ud, Ud, Ud, Ud, Ud, Ud, Ud, Ud, Ud, Ud, Ud, Ud]) rfl (fun _ => rfl) (fun u hu hF => ?_) (fun v7 => ?_)
  · clear hF
    refine doesG_un rfl ?_
    refine (does_load (u := (.func (.func f_al) s_al c_al)) (ev rfl) Try.isAgg63 (Cells.at ((hc_pal.ext (Ext.gr (Ext.refl w) E4)).ext hu) 0 rfl)).mono ?_; rintro _ _ ⟨rfl, rfl⟩
    exact ⟨rfl, Ext.refl _⟩
  refine RW_d (fun v8 => [(Iv z_), (Pt pal_b pal_o), (Pt prw_b prw_o), (Pt pf_b pf_o), (Pt ps_b ps_o), (Pt ph_b ph_o), Ud, (Fl 0), v7, v8, Ud, Ud, Ud, Ud, Ud, Ud, Ud, Ud, Ud, Ud, Ud, Ud]) rfl (fun _ => rfl) (fun u hu hF => ?_) (fun v8 => ?_)
  · clear hF
    refine doesG_un rfl ?_
    refine (does_load (u := (.func (.func f_rw) s_rw c_rw)) (ev rfl) Try.isAgg70 (Cells.at ((hc_prw.ext (Ext.gr (Ext.refl w) E4)).ext hu) 0 rfl)).mono ?_; rintro _ _ ⟨rfl, rfl⟩
    exact ⟨rfl, Ext.refl _⟩
  refine RW_d (fun v9 => [(Iv z_), (Pt pal_b pal_o), (Pt prw_b prw_o), (Pt pf_b pf_o), (Pt ps_b ps_o), (Pt ph_b ph_o), Ud, (Fl 0), v7, v8, v9, Ud, Ud, Ud, Ud, Ud, Ud, Ud, Ud, Ud, Ud, Ud]) rfl (fun _ => rfl) (fun u hu hF => ?_) (fun v9 => ?_)
  · clear hF
    refine doesG_un rfl ?_
    refine (does_indexAt_run (r := (Pt pf_b (pf_o + 1))) (ev rfl) (ev rfl) (fun w => ia64_1 _ _ w)).mono ?_; rintro _ _ ⟨rfl, rfl⟩
    exact ⟨rfl, Ext.refl _⟩
  refine RW_d (fun v10 => [(Iv z_), (Pt pal_b pal_o), (Pt prw_b prw_o), (Pt pf_b pf_o), (Pt ps_b ps_o), (Pt ph_b ph_o), Ud, (Fl 0), v7, v8, v9, v10, Ud, Ud, Ud, Ud, Ud, Ud, Ud, Ud, Ud, Ud]) rfl (fun _ => rfl) (fun u hu hF => ?_) (fun v10 => ?_)
  · have h10_ : v9 = (Pt pf_b (pf_o + 1)) := hF.1
    clear hF
    refine doesG_un rfl ?_
    obtain rfl := h10_
    refine (does_load (u := (Iv f1)) (ev rfl) Try.isAgg2 (Cells.at ((hc_pf.ext (Ext.gr (Ext.refl w) E4)).ext hu) 1 rfl)).mono ?_; rintro _ _ ⟨rfl, rfl⟩
    exact ⟨rfl, Ext.refl _⟩
  refine RW_d (fun v11 => [(Iv z_), (Pt pal_b pal_o), (Pt prw_b prw_o), (Pt pf_b pf_o), (Pt ps_b ps_o), (Pt ph_b ph_o), Ud, (Fl 0), v7, v8, v9, v10, v11, Ud, Ud, Ud, Ud, Ud, Ud, Ud, Ud, Ud]) rfl (fun _ => rfl) (fun u hu hF => ?_) (fun v11 => ?_)
  · clear hF
    refine doesG_un rfl ?_
    refine (does_move (u := (Iv z_)) (ev rfl)).mono ?_; rintro _ _ ⟨rfl, rfl⟩
    exact ⟨rfl, Ext.refl _⟩
  refine RW_d (fun v12 => [(Iv z_), (Pt pal_b pal_o), (Pt prw_b prw_o), (Pt pf_b pf_o), (Pt ps_b ps_o), (Pt ph_b ph_o), Ud, (Fl 0), v7, v8, v9, v10, v11, v12, Ud, Ud, Ud, Ud, Ud, Ud, Ud, Ud]) rfl (fun _ => rfl) (fun u hu hF => ?_) (fun v12 => ?_)
  · have h11_ : v10 = (Iv f1) := hF.1
    have h12_ : v11 = (Iv z_) := hF.2.1
    have h9_ : v8 = (.func (.func f_rw) s_rw c_rw) := hF.2.2.1
    clear hF
    refine doesG_un rfl ?_
    obtain rfl := h11_
    obtain rfl := h12_
    obtain rfl := h9_
    refine (does_callf (args := #[(Iv f1), (Iv z_)]) (ev rfl) hcal_rw (evs rfl) (hg_rw f1 z_ _ (by exact hd0) (Ext.gr (Ext.gr (Ext.refl w) E4) hu))).mono ?_; rintro v u' ⟨hx, ⟨rn1, hv, k0⟩⟩
    exact ⟨⟨rn1, hv, (by simp only [k0])⟩, hx⟩
  refine RW_d (fun v13 => [(Iv z_), (Pt pal_b pal_o), (Pt prw_b prw_o), (Pt pf_b pf_o), (Pt ps_b ps_o), (Pt ph_b ph_o), Ud, (Fl 0), v7, v8, v9, v10, v11, v12, v13, Ud, Ud, Ud, Ud, Ud, Ud, Ud]) rfl (fun _ => rfl) (fun u hu hF => ?_) (fun v13 => ?_)
  · clear hF
    refine doesG_un rfl ?_
    refine (does_load (u := (.func (.func f_rw) s_rw c_rw)) (ev rfl) Try.isAgg70 (Cells.at ((hc_prw.ext (Ext.gr (Ext.refl w) E4)).ext hu) 0 rfl)).mono ?_; rintro _ _ ⟨rfl, rfl⟩
    exact ⟨rfl, Ext.refl _⟩
  refine RW_d (fun v14 => [(Iv z_), (Pt pal_b pal_o), (Pt prw_b prw_o), (Pt pf_b pf_o), (Pt ps_b ps_o), (Pt ph_b ph_o), Ud, (Fl 0), v7, v8, v9, v10, v11, v12, v13, v14, Ud, Ud, Ud, Ud, Ud, Ud]) rfl (fun _ => rfl) (fun u hu hF => ?_) (fun v14 => ?_)
  · clear hF
    refine doesG_un rfl ?_
    refine (does_indexAt_run (r := (Pt ps_b (ps_o + 1))) (ev rfl) (ev rfl) (fun w => ia64_1 _ _ w)).mono ?_; rintro _ _ ⟨rfl, rfl⟩
    exact ⟨rfl, Ext.refl _⟩
  refine RW_d (fun v15 => [(Iv z_), (Pt pal_b pal_o), (Pt prw_b prw_o), (Pt pf_b pf_o), (Pt ps_b ps_o), (Pt ph_b ph_o), Ud, (Fl 0), v7, v8, v9, v10, v11, v12, v13, v14, v15, Ud, Ud, Ud, Ud, Ud]) rfl (fun _ => rfl) (fun u hu hF => ?_) (fun v15 => ?_)
  · have h15_ : v14 = (Pt ps_b (ps_o + 1)) := hF.1
    clear hF
    refine doesG_un rfl ?_
    obtain rfl := h15_
    refine (does_load (u := (Iv s1)) (ev rfl) Try.isAgg2 (Cells.at ((hc_ps.ext (Ext.gr (Ext.refl w) E4)).ext hu) 1 rfl)).mono ?_; rintro _ _ ⟨rfl, rfl⟩
    exact ⟨rfl, Ext.refl _⟩
  refine RW_d (fun v16 => [(Iv z_), (Pt pal_b pal_o), (Pt prw_b prw_o), (Pt pf_b pf_o), (Pt ps_b ps_o), (Pt ph_b ph_o), Ud, (Fl 0), v7, v8, v9, v10, v11, v12, v13, v14, v15, v16, Ud, Ud, Ud, Ud]) rfl (fun _ => rfl) (fun u hu hF => ?_) (fun v16 => ?_)
  · clear hF
    refine doesG_un rfl ?_
    refine (does_move (u := (Iv z_)) (ev rfl)).mono ?_; rintro _ _ ⟨rfl, rfl⟩
    exact ⟨rfl, Ext.refl _⟩
  refine RW_d (fun v17 => [(Iv z_), (Pt pal_b pal_o), (Pt prw_b prw_o), (Pt pf_b pf_o), (Pt ps_b ps_o), (Pt ph_b ph_o), Ud, (Fl 0), v7, v8, v9, v10, v11, v12, v13, v14, v15, v16, v17, Ud, Ud, Ud]) rfl (fun _ => rfl) (fun u hu hF => ?_) (fun v17 => ?_)
  · have h16_ : v15 = (Iv s1) := hF.1
    have h17_ : v16 = (Iv z_) := hF.2.1
    have h14_ : v13 = (.func (.func f_rw) s_rw c_rw) := hF.2.2.1
    clear hF
    refine doesG_un rfl ?_
    obtain rfl := h16_
    obtain rfl := h17_
    obtain rfl := h14_
    refine (does_callf (args := #[(Iv s1), (Iv z_)]) (ev rfl) hcal_rw (evs rfl) (hg_rw s1 z_ _ (by exact hd1) (Ext.gr (Ext.gr (Ext.refl w) E4) hu))).mono ?_; rintro v u' ⟨hx, ⟨rn1, hv, k0⟩⟩
    exact ⟨⟨rn1, hv, (by simp only [k0])⟩, hx⟩
  refine RW_d (fun v18 => [(Iv z_), (Pt pal_b pal_o), (Pt prw_b prw_o), (Pt pf_b pf_o), (Pt ps_b ps_o), (Pt ph_b ph_o), Ud, (Fl 0), v7, v8, v9, v10, v11, v12, v13, v14, v15, v16, v17, v18, Ud, Ud]) rfl (fun _ => rfl) (fun u hu hF => ?_) (fun v18 => ?_)
  · clear hF
    refine doesG_un rfl ?_
    refine (does_indexAt_run (r := (Pt ph_b (ph_o + 1))) (ev rfl) (ev rfl) (fun w => ia54_1 _ _ w)).mono ?_; rintro _ _ ⟨rfl, rfl⟩
    exact ⟨rfl, Ext.refl _⟩
  refine RW_d (fun v19 => [(Iv z_), (Pt pal_b pal_o), (Pt prw_b prw_o), (Pt pf_b pf_o), (Pt ps_b ps_o), (Pt ph_b ph_o), Ud, (Fl 0), v7, v8, v9, v10, v11, v12, v13, v14, v15, v16, v17, v18, v19, Ud]) rfl (fun _ => rfl) (fun u hu hF => ?_) (fun v19 => ?_)
  · have h19_ : v18 = (Pt ph_b (ph_o + 1)) := hF.1
    clear hF
    refine doesG_un rfl ?_
    obtain rfl := h19_
    refine (does_load (u := (Fl h1)) (ev rfl) Try.isAgg22 (Cells.at ((hc_ph.ext (Ext.gr (Ext.refl w) E4)).ext hu) 1 rfl)).mono ?_; rintro _ _ ⟨rfl, rfl⟩
    exact ⟨rfl, Ext.refl _⟩
  refine RW_d (fun v20 => [(Iv z_), (Pt pal_b pal_o), (Pt prw_b prw_o), (Pt pf_b pf_o), (Pt ps_b ps_o), (Pt ph_b ph_o), Ud, (Fl 0), v7, v8, v9, v10, v11, v12, v13, v14, v15, v16, v17, v18, v19, v20]) rfl (fun _ => rfl) (fun u hu hF => ?_) (fun v20 => ?_)
  · have h13_ : ∃ r_1 : Nat, v12 = (Fl r_1) ∧ cf .f32 r_1 = pr_rw f1 z_ := hF.1
    have h18_ : ∃ r_1 : Nat, v17 = (Fl r_1) ∧ cf .f32 r_1 = pr_rw s1 z_ := hF.2.1
    have h20_ : v19 = (Fl h1) := hF.2.2.1
    have h8_ : v7 = (.func (.func f_al) s_al c_al) := hF.2.2.2.1
    clear hF
    refine doesG_un rfl ?_
    obtain ⟨r13_1, rfl, h13_2⟩ := h13_
    obtain ⟨r18_1, rfl, h18_2⟩ := h18_
    obtain rfl := h20_
    obtain rfl := h8_
    refine (does_callf (args := #[(Fl r13_1), (Fl r18_1), (Fl h1)]) (ev rfl) hcal_al (evs rfl) (hg_al r13_1 r18_1 h1 _ (Ext.gr (Ext.gr (Ext.refl w) E4) hu))).mono ?_; rintro v u' ⟨hx, ⟨rn1, hv, k0⟩⟩
    exact ⟨⟨rn1, hv.trans (by simp only [h13_2, h18_2]), (by simp only [k0, h13_2, h18_2])⟩, hx⟩
  refine RW_fin ?_; intro w21 E22 hP23
  obtain ⟨⟨⟨⟨⟨⟨⟨⟨⟨⟨⟨⟨⟨⟨-, -⟩, -⟩, -⟩, -⟩, -⟩, -⟩, -⟩, -⟩, -⟩, -⟩, -⟩, -⟩, -⟩, q24⟩ := hP23
  have X25 := Ext.gr X6 E22
  have q24 : ∃ r_1 : Nat, v20 = (Fl r_1) ∧ cf .f32 r_1 = pr_al (pr_rw f1 z_) (pr_rw s1 z_) (cf .f32 h1) := q24
  obtain ⟨r26, rfl, h27⟩ := q24
  show wpList _ _ _ _ (fr [(Iv z_), (Pt pal_b pal_o), (Pt prw_b prw_o), (Pt pf_b pf_o), (Pt ps_b ps_o), (Pt ph_b ph_o), Ud, (Fl 0), v7, v8, v9, v10, v11, v12, v13, v14, v15, v16, v17, v18, v19, (Fl r26)]) _
  refine q_is (l' := [(Iv z_), (Pt pal_b pal_o), (Pt prw_b prw_o), (Pt pf_b pf_o), (Pt ps_b ps_o), (Pt ph_b ph_o), Ud, (Fl r26), v7, v8, v9, v10, v11, v12, v13, v14, v15, v16, v17, v18, v19, (Fl r26)]) rfl rfl (does_assign (u := (Fl r26)) (ev rfl)) rfl ?_
  refine wpList_nil (hK2 _ _ ?_)
  refine wp_ret ?_
  refine ret_val (v := (Fl r26)) (res_T rfl (slot rfl)) X25 ?_
  have x28 : cf .f32 r26 = pr_al (pr_rw f1 z_) (pr_rw s1 z_) (cf .f32 h1) := by first | with_reducible rfl | (simp only [h27]; done) | (simp [h27]; done) | rfl
  exact ⟨r26, rfl, x28⟩

end Go.Proofs.Ytlpgjgombdcheaa
