/- contracts of functions, each walked once -/
import Derived.Test.YtlpgjgombdcheaaK3
namespace Go.Proofs.Ytlpgjgombdcheaa
open Go Go.RowKit
set_option maxRecDepth 100000
set_option maxHeartbeats 3200000
set_option linter.unusedVariables false
set_option linter.unusedSimpArgs false

/- (*impl.Grid).between -/
theorem c_impl_Grid_between (g_b : Nat) (g_o : Nat) (g : List Value) (A_g : GridT) (p : List Value) (A_p : V3) (w : World) (hc_g : Cells w g_b g_o g) (hv_g : RGridT w A_g g) (hv_p : RV3 w A_p p) (hgr : isGrid A_g = true) (hfp : finV A_p = true) : Gives Try.prog 22 #[(Pt g_b g_o), (.agg p.toArray)] w (fun v w' => ∃ r_1 : Nat, v = (Fl r_1) ∧ cf .f32 r_1 = readG A_g A_p) := by
  obtain ⟨r1, r3, r5, r7, y9, rfl, h2, h4, h6, h8, h10⟩ := hv_g
  obtain ⟨r11, r13, r15, rfl, h12, h14, h16⟩ := hv_p
  have hs19 := h10; have hs19l := Sl.len h10; obtain ⟨p17, q18, rfl⟩ := Sl.shape h10
  have hgf := grid_fin hgr
  have hgc := isGrid_cnt hgr
  have hpf := finV_iff.1 hfp
  have hix := cellU_in hpf.1 hgf.1.1 hgf.2.1 hgf.2.2 ⟨hgc.1.1, hgc.1.2⟩
  have hiy := cellU_in hpf.2.1 hgf.1.2.1 hgf.2.1 hgf.2.2 ⟨hgc.2.1.1, hgc.2.1.2⟩
  have hiz := cellU_in hpf.2.2 hgf.1.2.2 hgf.2.1 hgf.2.2 ⟨hgc.2.2.1.1, hgc.2.2.1.2⟩
  have hbx := cellI_bd (p := A_p.x) (low := A_g.low.x) (st := A_g.step) (n := A_g.x) (by omega)
  have hby := cellI_bd (p := A_p.y) (low := A_g.low.y) (st := A_g.step) (n := A_g.y) (by omega)
  have hbz := cellI_bd (p := A_p.z) (low := A_g.low.z) (st := A_g.step) (n := A_g.z) (by omega)
  have hid0 := idx_in (x := cellI A_p.x A_g.low.x A_g.step A_g.x) (y := cellI A_p.y A_g.low.y A_g.step A_g.y) (z := cellI A_p.z A_g.low.z A_g.step A_g.z) hgr (by omega) (by omega) (by omega)
  have hid1 := idx_in (x := cellI A_p.x A_g.low.x A_g.step A_g.x) (y := cellI A_p.y A_g.low.y A_g.step A_g.y) (z := min (cellI A_p.z A_g.low.z A_g.step A_g.z + 1) (A_g.z - 1)) hgr (by omega) (by omega) (by omega)
  have hid2 := idx_in (x := cellI A_p.x A_g.low.x A_g.step A_g.x) (y := min (cellI A_p.y A_g.low.y A_g.step A_g.y + 1) (A_g.y - 1)) (z := cellI A_p.z A_g.low.z A_g.step A_g.z) hgr (by omega) (by omega) (by omega)
  have hid3 := idx_in (x := cellI A_p.x A_g.low.x A_g.step A_g.x) (y := min (cellI A_p.y A_g.low.y A_g.step A_g.y + 1) (A_g.y - 1)) (z := min (cellI A_p.z A_g.low.z A_g.step A_g.z + 1) (A_g.z - 1)) hgr (by omega) (by omega) (by omega)
  have hid4 := idx_in (x := min (cellI A_p.x A_g.low.x A_g.step A_g.x + 1) (A_g.x - 1)) (y := cellI A_p.y A_g.low.y A_g.step A_g.y) (z := cellI A_p.z A_g.low.z A_g.step A_g.z) hgr (by omega) (by omega) (by omega)
  have hid5 := idx_in (x := min (cellI A_p.x A_g.low.x A_g.step A_g.x + 1) (A_g.x - 1)) (y := cellI A_p.y A_g.low.y A_g.step A_g.y) (z := min (cellI A_p.z A_g.low.z A_g.step A_g.z + 1) (A_g.z - 1)) hgr (by omega) (by omega) (by omega)
  have hid6 := idx_in (x := min (cellI A_p.x A_g.low.x A_g.step A_g.x + 1) (A_g.x - 1)) (y := min (cellI A_p.y A_g.low.y A_g.step A_g.y + 1) (A_g.y - 1)) (z := cellI A_p.z A_g.low.z A_g.step A_g.z) hgr (by omega) (by omega) (by omega)
  have hid7 := idx_in (x := min (cellI A_p.x A_g.low.x A_g.step A_g.x + 1) (A_g.x - 1)) (y := min (cellI A_p.y A_g.low.y A_g.step A_g.y + 1) (A_g.y - 1)) (z := min (cellI A_p.z A_g.low.z A_g.step A_g.z + 1) (A_g.z - 1)) hgr (by omega) (by omega) (by omega)
  refine enter [(Pt g_b g_o), (.agg #[(Fl r11), (Fl r13), (Fl r15)]), Ud, Ud, Ud, Ud, Ud, Ud, Ud, Ud, Ud, Ud, Ud, Ud, Ud, Ud, Ud, Ud, Ud, Ud, Ud, Ud, Ud, Ud, Ud, Ud, Ud, Ud, Ud, Ud, Ud, Ud, Ud, Ud, Ud, Ud, Ud, Ud, Ud, Ud, Ud, Ud, Ud, Ud, Ud, Ud, Ud, Ud, Ud, Ud, Ud, Ud, Ud, Ud, Ud, Ud, Ud, Ud, Ud, Ud, Ud, Ud, Ud, Ud, Ud, Ud] Try.func22 rfl Try.ntmps22 rfl ?_
  refine wp_seq_k fun K20 hK20 => ?_
  refine wp_region_lit ?_
  refine seqd rfl rfl (does_box (u := (Pt g_b g_o)) (ev rfl)) ?_; rintro _ w25 ⟨b21, rfl, hb22, hB23, E24⟩
  have n26 : g_b < b21 := Nat.lt_of_lt_of_le (cell_lt (Cells.at hc_g 0 rfl)) hb22
  have g27 : w.heap.size ≤ b21 := Nat.le_trans (Below.size (Ext.refl w)) hb22
  change Blk _ _ [(Pt g_b g_o)] at hB23
  have X28 := Ext.gr (Ext.refl w) E24
  show wpList _ _ _ _ (fr [_, _, _, _, _, _, _, _, _, _, _, _, _, _, _, _, _, _, _, _, _, _, _, _, _, _, _, _, _, _, _, _, _, _, _, _, _, _, _, _, _, _, _, _, _, _, _, _, _, _, _, _, _, _, _, _, _, _, _, _, _, _, _, _, _, _]) _
  refine seqd rfl rfl (does_box (u := (.agg #[(Fl r11), (Fl r13), (Fl r15)])) (ev rfl)) ?_; rintro _ w33 ⟨b29, rfl, hb30, hB31, E32⟩
  have n34 : g_b < b29 := Nat.lt_of_lt_of_le (cell_lt (Cells.at (hc_g.ext X28) 0 rfl)) hb30
  have n35 : b21 < b29 := Nat.lt_of_lt_of_le (Blk.lt hB23) hb30
  have g36 : w.heap.size ≤ b29 := Nat.le_trans (Below.size X28) hb30
  change Blk _ _ [(Fl r11), (Fl r13), (Fl r15)] at hB31
  have X37 := Ext.gr X28 E32
  show wpList _ _ _ _ (fr [_, _, _, _, _, _, _, _, _, _, _, _, _, _, _, _, _, _, _, _, _, _, _, _, _, _, _, _, _, _, _, _, _, _, _, _, _, _, _, _, _, _, _, _, _, _, _, _, _, _, _, _, _, _, _, _, _, _, _, _, _, _, _, _, _, _]) _
  refine q_is rfl rfl (does_assign (u := (Fl 0)) (ev rfl)) (by dsimp only [List.set]; try rfl) ?_
  refine wpList_nil (hK20 _ _ ?_)
  refine wp_seq_k fun K38 hK38 => ?_
  refine wp_region_lit ?_
  refine q_is rfl rfl (does_build (parts' := []) (cells := #[(Iv 0), (Iv 0), (Iv 0)]) (evp rfl) (by kernel_rfl)) (by dsimp only [List.set]; try rfl) ?_
  refine q_is rfl rfl (does_build (parts' := []) (cells := #[(Iv 0), (Iv 0), (Iv 0)]) (evp rfl) (by kernel_rfl)) (by dsimp only [List.set]; try rfl) ?_
  refine q_is rfl rfl (does_build (parts' := []) (cells := #[(Fl 0), (Fl 0), (Fl 0)]) (evp rfl) (by kernel_rfl)) (by dsimp only [List.set]; try rfl) ?_
  refine seqd rfl rfl (does_alloc z64) ?_; rintro _ w43 ⟨b39, rfl, hb40, hB41, E42⟩
  have n44 : g_b < b39 := Nat.lt_of_lt_of_le (cell_lt (Cells.at (hc_g.ext X37) 0 rfl)) hb40
  have n45 : b21 < b39 := Nat.lt_of_lt_of_le (Blk.lt (hB23.ext E32)) hb40
  have n46 : b29 < b39 := Nat.lt_of_lt_of_le (Blk.lt hB31) hb40
  have g47 : w.heap.size ≤ b39 := Nat.le_trans (Below.size X37) hb40
  change Blk _ _ [(Iv 0), (Iv 0), (Iv 0)] at hB41
  have X48 := Ext.gr X37 E42
  show wpList _ _ _ _ (fr [_, _, _, _, _, _, _, _, _, _, _, _, _, _, _, _, _, _, _, _, _, _, _, _, _, _, _, _, _, _, _, _, _, _, _, _, _, _, _, _, _, _, _, _, _, _, _, _, _, _, _, _, _, _, _, _, _, _, _, _, _, _, _, _, _, _]) _
  refine seqd rfl rfl (does_alloc z64) ?_; rintro _ w53 ⟨b49, rfl, hb50, hB51, E52⟩
  have n54 : g_b < b49 := Nat.lt_of_lt_of_le (cell_lt (Cells.at (hc_g.ext X48) 0 rfl)) hb50
  have n55 : b21 < b49 := Nat.lt_of_lt_of_le (Blk.lt ((hB23.ext E32).ext E42)) hb50
  have n56 : b29 < b49 := Nat.lt_of_lt_of_le (Blk.lt (hB31.ext E42)) hb50
  have n57 : b39 < b49 := Nat.lt_of_lt_of_le (Blk.lt hB41) hb50
  have g58 : w.heap.size ≤ b49 := Nat.le_trans (Below.size X48) hb50
  change Blk _ _ [(Iv 0), (Iv 0), (Iv 0)] at hB51
  have X59 := Ext.gr X48 E52
  show wpList _ _ _ _ (fr [_, _, _, _, _, _, _, _, _, _, _, _, _, _, _, _, _, _, _, _, _, _, _, _, _, _, _, _, _, _, _, _, _, _, _, _, _, _, _, _, _, _, _, _, _, _, _, _, _, _, _, _, _, _, _, _, _, _, _, _, _, _, _, _, _, _]) _
  refine seqd rfl rfl (does_alloc z54) ?_; rintro _ w64 ⟨b60, rfl, hb61, hB62, E63⟩
  have n65 : g_b < b60 := Nat.lt_of_lt_of_le (cell_lt (Cells.at (hc_g.ext X59) 0 rfl)) hb61
  have n66 : b21 < b60 := Nat.lt_of_lt_of_le (Blk.lt (((hB23.ext E32).ext E42).ext E52)) hb61
  have n67 : b29 < b60 := Nat.lt_of_lt_of_le (Blk.lt ((hB31.ext E42).ext E52)) hb61
  have n68 : b39 < b60 := Nat.lt_of_lt_of_le (Blk.lt (hB41.ext E52)) hb61
  have n69 : b49 < b60 := Nat.lt_of_lt_of_le (Blk.lt hB51) hb61
  have g70 : w.heap.size ≤ b60 := Nat.le_trans (Below.size X59) hb61
  change Blk _ _ [(Fl 0), (Fl 0), (Fl 0)] at hB62
  have X71 := Ext.gr X59 E63
  show wpList _ _ _ _ (fr [_, _, _, _, _, _, _, _, _, _, _, _, _, _, _, _, _, _, _, _, _, _, _, _, _, _, _, _, _, _, _, _, _, _, _, _, _, _, _, _, _, _, _, _, _, _, _, _, _, _, _, _, _, _, _, _, _, _, _, _, _, _, _, _, _, _]) _
  refine seqn rfl rfl (does_store (n := 3) (cs := [(Iv 0), (Iv 0), (Iv 0)]) (u := (.agg #[(Iv 0), (Iv 0), (Iv 0)])) (ev rfl) (ev rfl) Try.sizeOf64 rfl ((hB41.ext E52).ext E63) (Nat.le_of_ble_eq_true rfl) rfl) ?_; rintro _ w74 ⟨rfl, W72, hB73⟩
  change Blk _ _ [(Iv 0), (Iv 0), (Iv 0)] at hB73
  have X75 := Below.wr X71 W72 g47
  refine seqn rfl rfl (does_store (n := 3) (cs := [(Iv 0), (Iv 0), (Iv 0)]) (u := (.agg #[(Iv 0), (Iv 0), (Iv 0)])) (ev rfl) (ev rfl) Try.sizeOf64 rfl ((hB51.ext E63).wr W72 (Nat.ne_of_gt n57)) (Nat.le_of_ble_eq_true rfl) rfl) ?_; rintro _ w78 ⟨rfl, W76, hB77⟩
  change Blk _ _ [(Iv 0), (Iv 0), (Iv 0)] at hB77
  have X79 := Below.wr X75 W76 g58
  refine seqn rfl rfl (does_store (n := 3) (cs := [(Fl 0), (Fl 0), (Fl 0)]) (u := (.agg #[(Fl 0), (Fl 0), (Fl 0)])) (ev rfl) (ev rfl) Try.sizeOf54 rfl ((hB62.wr W72 (Nat.ne_of_gt n68)).wr W76 (Nat.ne_of_gt n69)) (Nat.le_of_ble_eq_true rfl) rfl) ?_; rintro _ w82 ⟨rfl, W80, hB81⟩
  change Blk _ _ [(Fl 0), (Fl 0), (Fl 0)] at hB81
  have X83 := Below.wr X79 W80 g70
  refine wpList_nil (hK38 _ _ ?_)
  refine wp_seq_k fun K84 hK84 => ?_
  refine region_any3 [] [9, 10, 11] [0, 1, 0, 4, 12, 28, 63, 0, 255, 0, 0, 0, 4095, 8191, 16383] [] (
    [FactW.pure [] [] [] true (fun v => v = (.agg #[(Fl r11), (Fl r13), (Fl r15)])),
      FactW.pure [0] [] [] true (fun v => ∃ r_1 : Nat, ∃ r_2 : Nat, ∃ r_3 : Nat, v = (.agg #[(Fl r_1), (Fl r_2), (Fl r_3)]) ∧ cf .f32 r_1 = A_p.x ∧ cf .f32 r_2 = A_p.y ∧ cf .f32 r_3 = A_p.z),
      FactW.pure [] [] [] true (fun v => v = (Pt g_b g_o)),
      FactW.pure [2] [] [] true (fun v => v = (Pt g_b g_o)),
      FactW.pure [3] [] [] true (fun v => v = (Pt g_b g_o)),
      FactW.pure [4] [] [] true (fun v => v = (.agg #[(Fl r1), (Fl r3), (Fl r5)])),
      FactW.pure [5] [] [] true (fun v => ∃ r_1 : Nat, ∃ r_2 : Nat, ∃ r_3 : Nat, v = (.agg #[(Fl r_1), (Fl r_2), (Fl r_3)]) ∧ cf .f32 r_1 = A_g.low.x ∧ cf .f32 r_2 = A_g.low.y ∧ cf .f32 r_3 = A_g.low.z),
      FactW.pure [] [] [] true (fun v => v = (Pt g_b g_o)),
      FactW.pure [7] [] [] true (fun v => v = (.agg #[(Iv A_g.x), (Iv A_g.y), (Iv A_g.z)])),
      FactW.mem [] [] [] [] true (fun v w' => ∃ b : Nat, v = .pointer (some ⟨b, 0, none⟩) ∧ w82.heap.size ≤ b ∧ Blk w' b [(Fl 0), (Fl 0), (Fl 0)]) (by rintro v w1 w2 hx' ⟨b, rfl, hb, hB⟩; have hx := KpL.toExt hx'; exact ⟨b, rfl, hb, (hB.ext hx)⟩),
      FactW.mem [] [] [] [] true (fun v w' => ∃ b : Nat, v = .pointer (some ⟨b, 0, none⟩) ∧ w82.heap.size ≤ b ∧ Blk w' b [(Fl 0), (Fl 0), (Fl 0)]) (by rintro v w1 w2 hx' ⟨b, rfl, hb, hB⟩; have hx := KpL.toExt hx'; exact ⟨b, rfl, hb, (hB.ext hx)⟩),
      FactW.mem [] [] [] [] true (fun v w' => ∃ b : Nat, v = .pointer (some ⟨b, 0, none⟩) ∧ w82.heap.size ≤ b ∧ Blk w' b [(Iv 0), (Iv 0), (Iv 0)]) (by rintro v w1 w2 hx' ⟨b, rfl, hb, hB⟩; have hx := KpL.toExt hx'; exact ⟨b, rfl, hb, (hB.ext hx)⟩)]) mixed (by kernel_rfl) ?_
  obtain ⟨w85, hw87⟩ : ∃ w', w' = World.drew w82 := ⟨_, rfl⟩; rw [← hw87]; have E86 : Ext w82 w85 := by rw [hw87]; exact Ext.draw _
  clear hw87
  have X88 := Ext.gr X83 E86
  refine RW3_d _ rfl rfl (fun v => by dsimp only [List.set]; try rfl) (fun u hu hF => ?_) (fun v89 => ?_)
  · replace hu : KpL [] _ _ := hu
    clear hF
    refine doesG_un rfl ?_
    refine (does_loadAgg (cs := [(Fl r11), (Fl r13), (Fl r15)]) (ev rfl) Try.isAgg31 Try.sizeOf31 (Blk.cells ((((((((hB31.ext E42).ext E52).ext E63).wr W72 (Nat.ne_of_lt n46)).wr W76 (Nat.ne_of_lt n56)).wr W80 (Nat.ne_of_lt n67)).ext E86).ext (KpL.toExt hu))) rfl).mono ?_; rintro _ _ ⟨rfl, rfl⟩
    exact ⟨rfl, KpL.refl _ _⟩
  refine RW3_d _ rfl rfl (fun v => by dsimp only [List.set]; try rfl) (fun u hu hF => ?_) (fun v90 => ?_)
  · replace hu : KpL [] _ _ := hu
    have h18_ : v89 = (.agg #[(Fl r11), (Fl r13), (Fl r15)]) := hF.1
    clear hF
    refine doesG_un rfl ?_
    obtain rfl := h18_
    refine (does_call (args := #[(.agg #[(Fl r11), (Fl r13), (Fl r15)])]) cal26 (evs rfl) (c_impl_coordinates [(Fl r11), (Fl r13), (Fl r15)] A_p _ ⟨r11, r13, r15, rfl, h12, h14, h16⟩)).mono ?_; rintro v u' ⟨hx, ⟨rn1, rn2, rn3, hv, k0, k1, k2⟩⟩
    exact ⟨⟨rn1, rn2, rn3, hv, (by simp only [k0]), (by simp only [k1]), (by simp only [k2])⟩, (KpL.of_ext hx)⟩
  refine RW3_d _ rfl rfl (fun v => by dsimp only [List.set]; try rfl) (fun u hu hF => ?_) (fun v91 => ?_)
  · replace hu : KpL [] _ _ := hu
    clear hF
    refine doesG_un rfl ?_
    refine (does_load (u := (Pt g_b g_o)) (ev rfl) Try.isAgg45 (Cells.at (Blk.cells (((((((((hB23.ext E32).ext E42).ext E52).ext E63).wr W72 (Nat.ne_of_lt n45)).wr W76 (Nat.ne_of_lt n55)).wr W80 (Nat.ne_of_lt n66)).ext E86).ext (KpL.toExt hu))) 0 rfl)).mono ?_; rintro _ _ ⟨rfl, rfl⟩
    exact ⟨rfl, KpL.refl _ _⟩
  refine RW3_d _ rfl rfl (fun v => by dsimp only [List.set]; try rfl) (fun u hu hF => ?_) (fun v92 => ?_)
  · replace hu : KpL [] _ _ := hu
    have h20_ : v91 = (Pt g_b g_o) := hF.1
    clear hF
    refine doesG_un rfl ?_
    obtain rfl := h20_
    refine (does_nilCheck (ev rfl)).mono ?_; rintro _ _ ⟨rfl, rfl⟩
    exact ⟨rfl, KpL.refl _ _⟩
  refine RW3_d _ rfl rfl (fun v => by dsimp only [List.set]; try rfl) (fun u hu hF => ?_) (fun v93 => ?_)
  · replace hu : KpL [] _ _ := hu
    have h21_ : v92 = (Pt g_b g_o) := hF.1
    clear hF
    refine doesG_un rfl ?_
    obtain rfl := h21_
    refine (does_fieldAddr (ev rfl) fa33_0).mono ?_; rintro _ _ ⟨rfl, rfl⟩
    exact ⟨rfl, KpL.refl _ _⟩
  refine RW3_d _ rfl rfl (fun v => by dsimp only [List.set]; try rfl) (fun u hu hF => ?_) (fun v94 => ?_)
  · replace hu : KpL [] _ _ := hu
    have h22_ : v93 = (Pt g_b g_o) := hF.1
    clear hF
    refine doesG_un rfl ?_
    obtain rfl := h22_
    refine (does_loadAgg (cs := [(Fl r1), (Fl r3), (Fl r5)]) (ev rfl) Try.isAgg31 Try.sizeOf31 (Cells.sub (hc_g.ext (Ext.gr (Ext.gr X83 E86) (KpL.toExt hu))) 0 3) rfl).mono ?_; rintro _ _ ⟨rfl, rfl⟩
    exact ⟨rfl, KpL.refl _ _⟩
  refine RW3_d _ rfl rfl (fun v => by dsimp only [List.set]; try rfl) (fun u hu hF => ?_) (fun v95 => ?_)
  · replace hu : KpL [] _ _ := hu
    have h23_ : v94 = (.agg #[(Fl r1), (Fl r3), (Fl r5)]) := hF.1
    clear hF
    refine doesG_un rfl ?_
    obtain rfl := h23_
    refine (does_call (args := #[(.agg #[(Fl r1), (Fl r3), (Fl r5)])]) cal26 (evs rfl) (c_impl_coordinates [(Fl r1), (Fl r3), (Fl r5)] A_g.low _ ⟨r1, r3, r5, rfl, h2, h4, h6⟩)).mono ?_; rintro v u' ⟨hx, ⟨rn1, rn2, rn3, hv, k0, k1, k2⟩⟩
    exact ⟨⟨rn1, rn2, rn3, hv, (by simp only [k0]), (by simp only [k1]), (by simp only [k2])⟩, (KpL.of_ext hx)⟩
  refine RW3_d _ rfl rfl (fun v => by dsimp only [List.set]; try rfl) (fun u hu hF => ?_) (fun v96 => ?_)
  · replace hu : KpL [] _ _ := hu
    clear hF
    refine doesG_un rfl ?_
    refine (does_load (u := (Pt g_b g_o)) (ev rfl) Try.isAgg45 (Cells.at (Blk.cells (((((((((hB23.ext E32).ext E42).ext E52).ext E63).wr W72 (Nat.ne_of_lt n45)).wr W76 (Nat.ne_of_lt n55)).wr W80 (Nat.ne_of_lt n66)).ext E86).ext (KpL.toExt hu))) 0 rfl)).mono ?_; rintro _ _ ⟨rfl, rfl⟩
    exact ⟨rfl, KpL.refl _ _⟩
  refine RW3_d _ rfl rfl (fun v => by dsimp only [List.set]; try rfl) (fun u hu hF => ?_) (fun v97 => ?_)
  · replace hu : KpL [] _ _ := hu
    have h25_ : v96 = (Pt g_b g_o) := hF.1
    clear hF
    refine doesG_un rfl ?_
    obtain rfl := h25_
    refine (does_call (args := #[(Pt g_b g_o)]) cal35 (evs rfl) (c_impl_Grid_counts g_b g_o [(Fl r1), (Fl r3), (Fl r5), (Fl r7), (Iv A_g.x), (Iv A_g.y), (Iv A_g.z), (.slice p17 A_g.vals.length q18)] A_g _ (hc_g.ext (Ext.gr (Ext.gr X83 E86) (KpL.toExt hu))) ⟨r1, r3, r5, r7, (.slice p17 A_g.vals.length q18), rfl, h2, h4, h6, h8, (Sl.ext hs19 RF.mono (Ext.gr (Ext.gr X83 E86) (KpL.toExt hu)))⟩)).mono ?_; rintro v u' ⟨hx, hv⟩
    exact ⟨hv, (KpL.of_ext hx)⟩
  refine RW3_b _ rfl rfl (fun v => by dsimp only [List.set]; try rfl) (fun u hu hF => ?_) (fun v98 => ?_)
  · replace hu : KpL [] _ _ := hu
    clear hF
    refine doesG_un rfl ?_
    refine (does_alloc z54).mono ?_; rintro _ _ ⟨b, rfl, hb, hB, hx⟩
    exact ⟨⟨b, rfl, Nat.le_trans (Nat.le_trans (Below.size E86) (KpL.size hu)) hb, hB⟩, (KpL.of_ext hx), ⟨b, rfl, hb, hB.lt⟩⟩
  refine RW3_b _ rfl rfl (fun v => by dsimp only [List.set]; try rfl) (fun u hu hF => ?_) (fun v99 => ?_)
  · replace hu : KpL [] _ _ := hu
    clear hF
    refine doesG_un rfl ?_
    refine (does_alloc z54).mono ?_; rintro _ _ ⟨b, rfl, hb, hB, hx⟩
    exact ⟨⟨b, rfl, Nat.le_trans (Nat.le_trans (Below.size E86) (KpL.size hu)) hb, hB⟩, (KpL.of_ext hx), ⟨b, rfl, hb, hB.lt⟩⟩
  refine RW3_b _ rfl rfl (fun v => by dsimp only [List.set]; try rfl) (fun u hu hF => ?_) (fun v100 => ?_)
  · replace hu : KpL [] _ _ := hu
    clear hF
    refine doesG_un rfl ?_
    refine (does_alloc z64).mono ?_; rintro _ _ ⟨b, rfl, hb, hB, hx⟩
    exact ⟨⟨b, rfl, Nat.le_trans (Nat.le_trans (Below.size E86) (KpL.size hu)) hb, hB⟩, (KpL.of_ext hx), ⟨b, rfl, hb, hB.lt⟩⟩
  refine RW3_fin ?_; intro w101 E102 hP103 hND; replace E102 : KpL [] _ _ := E102
  obtain ⟨⟨⟨⟨⟨⟨⟨⟨⟨⟨⟨⟨-, -⟩, q104⟩, -⟩, -⟩, -⟩, -⟩, q105⟩, -⟩, q106⟩, q107⟩, q108⟩, q109⟩ := hP103
  have X110 := Below.kl X88 E102 all0 (Nat.le_refl _)
  have q104 : ∃ r_1 : Nat, ∃ r_2 : Nat, ∃ r_3 : Nat, v90 = (.agg #[(Fl r_1), (Fl r_2), (Fl r_3)]) ∧ cf .f32 r_1 = A_p.x ∧ cf .f32 r_2 = A_p.y ∧ cf .f32 r_3 = A_p.z := q104 rfl
  obtain ⟨r111, r113, r115, rfl, h112, h114, h116⟩ := q104
  have q105 : ∃ r_1 : Nat, ∃ r_2 : Nat, ∃ r_3 : Nat, v95 = (.agg #[(Fl r_1), (Fl r_2), (Fl r_3)]) ∧ cf .f32 r_1 = A_g.low.x ∧ cf .f32 r_2 = A_g.low.y ∧ cf .f32 r_3 = A_g.low.z := q105 rfl
  obtain ⟨r117, r119, r121, rfl, h118, h120, h122⟩ := q105
  have q106 : v97 = (.agg #[(Iv A_g.x), (Iv A_g.y), (Iv A_g.z)]) := q106 rfl
  obtain rfl := q106
  have q107 : ∃ b : Nat, v98 = .pointer (some ⟨b, 0, none⟩) ∧ w82.heap.size ≤ b ∧ Blk w101 b [(Fl 0), (Fl 0), (Fl 0)] := q107 rfl
  obtain ⟨b123, rfl, hb124, hB125⟩ := q107
  have n126 : g_b < b123 := Nat.lt_of_lt_of_le (cell_lt (Cells.at (hc_g.ext X83) 0 rfl)) hb124
  have n127 : b21 < b123 := Nat.lt_of_lt_of_le (Blk.lt (((((((hB23.ext E32).ext E42).ext E52).ext E63).wr W72 (Nat.ne_of_lt n45)).wr W76 (Nat.ne_of_lt n55)).wr W80 (Nat.ne_of_lt n66))) hb124
  have n128 : b29 < b123 := Nat.lt_of_lt_of_le (Blk.lt ((((((hB31.ext E42).ext E52).ext E63).wr W72 (Nat.ne_of_lt n46)).wr W76 (Nat.ne_of_lt n56)).wr W80 (Nat.ne_of_lt n67))) hb124
  have n129 : b39 < b123 := Nat.lt_of_lt_of_le (Blk.lt ((hB73.wr W76 (Nat.ne_of_lt n57)).wr W80 (Nat.ne_of_lt n68))) hb124
  have n130 : b49 < b123 := Nat.lt_of_lt_of_le (Blk.lt (hB77.wr W80 (Nat.ne_of_lt n69))) hb124
  have n131 : b60 < b123 := Nat.lt_of_lt_of_le (Blk.lt hB81) hb124
  have g132 : w.heap.size ≤ b123 := Nat.le_trans (Below.size X83) hb124
  have q108 : ∃ b : Nat, v99 = .pointer (some ⟨b, 0, none⟩) ∧ w82.heap.size ≤ b ∧ Blk w101 b [(Fl 0), (Fl 0), (Fl 0)] := q108 rfl
  obtain ⟨b133, rfl, hb134, hB135⟩ := q108
  have n136 : g_b < b133 := Nat.lt_of_lt_of_le (cell_lt (Cells.at (hc_g.ext X83) 0 rfl)) hb134
  have n137 : b21 < b133 := Nat.lt_of_lt_of_le (Blk.lt (((((((hB23.ext E32).ext E42).ext E52).ext E63).wr W72 (Nat.ne_of_lt n45)).wr W76 (Nat.ne_of_lt n55)).wr W80 (Nat.ne_of_lt n66))) hb134
  have n138 : b29 < b133 := Nat.lt_of_lt_of_le (Blk.lt ((((((hB31.ext E42).ext E52).ext E63).wr W72 (Nat.ne_of_lt n46)).wr W76 (Nat.ne_of_lt n56)).wr W80 (Nat.ne_of_lt n67))) hb134
  have n139 : b39 < b133 := Nat.lt_of_lt_of_le (Blk.lt ((hB73.wr W76 (Nat.ne_of_lt n57)).wr W80 (Nat.ne_of_lt n68))) hb134
  have n140 : b49 < b133 := Nat.lt_of_lt_of_le (Blk.lt (hB77.wr W80 (Nat.ne_of_lt n69))) hb134
  have n141 : b60 < b133 := Nat.lt_of_lt_of_le (Blk.lt hB81) hb134
  have g142 : w.heap.size ≤ b133 := Nat.le_trans (Below.size X83) hb134
  have q109 : ∃ b : Nat, v100 = .pointer (some ⟨b, 0, none⟩) ∧ w82.heap.size ≤ b ∧ Blk w101 b [(Iv 0), (Iv 0), (Iv 0)] := q109 rfl
  obtain ⟨b143, rfl, hb144, hB145⟩ := q109
  have n146 : g_b < b143 := Nat.lt_of_lt_of_le (cell_lt (Cells.at (hc_g.ext X83) 0 rfl)) hb144
  have n147 : b21 < b143 := Nat.lt_of_lt_of_le (Blk.lt (((((((hB23.ext E32).ext E42).ext E52).ext E63).wr W72 (Nat.ne_of_lt n45)).wr W76 (Nat.ne_of_lt n55)).wr W80 (Nat.ne_of_lt n66))) hb144
  have n148 : b29 < b143 := Nat.lt_of_lt_of_le (Blk.lt ((((((hB31.ext E42).ext E52).ext E63).wr W72 (Nat.ne_of_lt n46)).wr W76 (Nat.ne_of_lt n56)).wr W80 (Nat.ne_of_lt n67))) hb144
  have n149 : b39 < b143 := Nat.lt_of_lt_of_le (Blk.lt ((hB73.wr W76 (Nat.ne_of_lt n57)).wr W80 (Nat.ne_of_lt n68))) hb144
  have n150 : b49 < b143 := Nat.lt_of_lt_of_le (Blk.lt (hB77.wr W80 (Nat.ne_of_lt n69))) hb144
  have n151 : b60 < b143 := Nat.lt_of_lt_of_le (Blk.lt hB81) hb144
  have g152 : w.heap.size ≤ b143 := Nat.le_trans (Below.size X83) hb144
  have n153 : b133 ≠ b123 := by intro h; subst h; simp at hND
  have n154 : b143 ≠ b123 := by intro h; subst h; simp at hND
  have n155 : b143 ≠ b133 := by intro h; subst h; simp at hND
  clear hND
  show wpList _ _ _ _ (fr [_, _, _, _, _, _, _, _, _, _, _, _, _, _, _, _, _, _, _, _, _, _, _, _, _, _, _, _, _, _, _, _, _, _, _, _, _, _, _, _, _, _, _, _, _, _, _, _, _, _, _, _, _, _, _, _, _, _, _, _, _, _, _, _, _, _]) _
  refine seqn rfl rfl (does_store (n := 3) (cs := [(Fl 0), (Fl 0), (Fl 0)]) (u := (.agg #[(Fl r111), (Fl r113), (Fl r115)])) (ev rfl) (ev rfl) Try.sizeOf54 rfl hB125 (Nat.le_of_ble_eq_true rfl) rfl) ?_; rintro _ w158 ⟨rfl, W156, hB157⟩
  change Blk _ _ [(Fl r111), (Fl r113), (Fl r115)] at hB157
  have X159 := Below.wr X110 W156 g132
  refine seqn rfl rfl (does_store (n := 3) (cs := [(Fl 0), (Fl 0), (Fl 0)]) (u := (.agg #[(Fl r117), (Fl r119), (Fl r121)])) (ev rfl) (ev rfl) Try.sizeOf54 rfl (hB135.wr W156 n153) (Nat.le_of_ble_eq_true rfl) rfl) ?_; rintro _ w162 ⟨rfl, W160, hB161⟩
  change Blk _ _ [(Fl r117), (Fl r119), (Fl r121)] at hB161
  have X163 := Below.wr X159 W160 g142
  refine seqn rfl rfl (does_store (n := 3) (cs := [(Iv 0), (Iv 0), (Iv 0)]) (u := (.agg #[(Iv A_g.x), (Iv A_g.y), (Iv A_g.z)])) (ev rfl) (ev rfl) Try.sizeOf64 rfl ((hB145.wr W156 n154).wr W160 n155) (Nat.le_of_ble_eq_true rfl) rfl) ?_; rintro _ w166 ⟨rfl, W164, hB165⟩
  change Blk _ _ [(Iv A_g.x), (Iv A_g.y), (Iv A_g.z)] at hB165
  have X167 := Below.wr X163 W164 g152
  refine wpList_nil (hK84 _ _ ?_)
  refine wp_seq_k fun K168 hK168 => ?_
  refine wp_seq_k fun K169 hK169 => ?_
  refine wp_region_lit ?_
  refine q_is rfl rfl (does_move (u := (Iv 0)) (ev rfl)) (by dsimp only [List.set]; try rfl) ?_
  refine wpList_nil (hK169 _ _ ?_)
  refine wp_block ?_
  refine loop_unroll 4 ?_
  refine un_step ?_
  refine wp_seq_k fun K170 hK170 => ?_
  refine wp_region_lit ?_
  refine q_is rfl rfl (does_icmp (p := 0) (q := 3) (.inr (.inr (.inl rfl))) (ev rfl) (ev rfl)) (by dsimp only [List.set]; try rfl) ?_
  refine wpList_nil (hK170 _ _ ?_)
  refine wp_seq_k fun K171 hK171 => ?_
  refine wp_cond_true (ev rfl) ?_
  refine wp_skip (hK171 _ _ ?_)
  refine wp_seq_k fun K172 hK172 => ?_
  refine wp_block ?_
  refine wp_seq_k fun K173 hK173 => ?_
  refine wp_region_lit ?_
  refine q_is rfl rfl (does_move (u := (Iv 0)) (ev rfl)) (by dsimp only [List.set]; try rfl) ?_
  refine q_is rfl rfl (does_assign (u := (Iv 0)) (ev rfl)) (by dsimp only [List.set]; try rfl) ?_
  refine wpList_nil (hK173 _ _ ?_)
  refine region_draw (
    [Fact.pure [] (fun v => v = (Iv 0)),
    Fact.flt [] (fun v => v = (Iv 0)),
    Fact.flt [] (fun v => v = (Iv 0)),
    Fact.pure [] (fun v => v = (Pt g_b g_o)),
    Fact.pure [] (fun v => v = (Iv 0)),
    Fact.pure [35] (fun v => v = (Pt b123 0)),
    Fact.pure [36] (fun v => v = (Fl r111)),
    Fact.pure [] (fun v => v = (Iv 0)),
    Fact.pure [38] (fun v => v = (Pt b133 0)),
    Fact.pure [39] (fun v => v = (Fl r117)),
    Fact.pure [] (fun v => v = (Iv 0)),
    Fact.pure [41] (fun v => v = (Pt b143 0)),
    Fact.pure [42] (fun v => v = (Iv A_g.x)),
    Fact.pure [34, 37, 40, 43] (fun v => ∃ r_1 : Nat, v = (.tuple #[(Iv (cellI (cf .f32 r111) (cf .f32 r117) A_g.step A_g.x)), (Iv (min (cellI (cf .f32 r111) (cf .f32 r117) A_g.step A_g.x + 1) (A_g.x - 1))), (Fl r_1)]) ∧ cf .f32 r_1 = cellF (cf .f32 r111) (cf .f32 r117) A_g.step A_g.x),
    Fact.pure [44] (fun v => ∃ r_1 : Nat, v = (.tuple #[(Iv (cellI (cf .f32 r111) (cf .f32 r117) A_g.step A_g.x)), (Iv (min (cellI (cf .f32 r111) (cf .f32 r117) A_g.step A_g.x + 1) (A_g.x - 1))), (Fl r_1)]) ∧ cf .f32 r_1 = cellF (cf .f32 r111) (cf .f32 r117) A_g.step A_g.x),
    Fact.pure [30] (fun v => v = (Iv (cellI (cf .f32 r111) (cf .f32 r117) A_g.step A_g.x))),
    Fact.flt [30] (fun v => v = (Iv (min (cellI (cf .f32 r111) (cf .f32 r117) A_g.step A_g.x + 1) (A_g.x - 1)))),
    Fact.flt [30] (fun v => ∃ r_1 : Nat, v = (Fl r_1) ∧ cf .f32 r_1 = cellF (cf .f32 r111) (cf .f32 r117) A_g.step A_g.x),
    Fact.pure [31] (fun v => v = (Pt b39 0))]) mixed (by kernel_rfl) (by intro _ _ d _ _ h; cases d <;> exact h) ?_
  obtain ⟨w174, hw176⟩ : ∃ w', w' = World.drew w166 := ⟨_, rfl⟩; rw [← hw176]; have E175 : Ext w166 w174 := by rw [hw176]; exact Ext.draw _
  clear hw176
  have X177 := Ext.gr X167 E175
  refine RW_d _ rfl (fun v => by dsimp only [List.set]; try rfl) (fun u hu hF => ?_) (fun v178 => ?_)
  · clear hF
    refine doesG_un rfl ?_
    refine (does_move (u := (Iv 0)) (ev rfl)).mono ?_; rintro _ _ ⟨rfl, rfl⟩
    exact ⟨rfl, Ext.refl _⟩
  refine RW_d _ rfl (fun v => by dsimp only [List.set]; try rfl) (fun u hu hF => ?_) (fun v179 => ?_)
  · clear hF
    exact ⟨_, yields_is rfl (run_move (ev rfl)), rfl⟩
  refine RW_d _ rfl (fun v => by dsimp only [List.set]; try rfl) (fun u hu hF => ?_) (fun v180 => ?_)
  · clear hF
    exact ⟨_, yields_is rfl (run_move (ev rfl)), rfl⟩
  refine RW_d _ rfl (fun v => by dsimp only [List.set]; try rfl) (fun u hu hF => ?_) (fun v181 => ?_)
  · clear hF
    refine doesG_un rfl ?_
    refine (does_load (u := (Pt g_b g_o)) (ev rfl) Try.isAgg45 (Cells.at (Blk.cells ((((((((((((((hB23.ext E32).ext E42).ext E52).ext E63).wr W72 (Nat.ne_of_lt n45)).wr W76 (Nat.ne_of_lt n55)).wr W80 (Nat.ne_of_lt n66)).ext E86).kl E102 nin0).wr W156 (Nat.ne_of_lt n127)).wr W160 (Nat.ne_of_lt n137)).wr W164 (Nat.ne_of_lt n147)).ext E175).ext hu)) 0 rfl)).mono ?_; rintro _ _ ⟨rfl, rfl⟩
    exact ⟨rfl, Ext.refl _⟩
  refine RW_d _ rfl (fun v => by dsimp only [List.set]; try rfl) (fun u hu hF => ?_) (fun v182 => ?_)
  · clear hF
    refine doesG_un rfl ?_
    refine (does_move (u := (Iv 0)) (ev rfl)).mono ?_; rintro _ _ ⟨rfl, rfl⟩
    exact ⟨rfl, Ext.refl _⟩
  refine RW_d _ rfl (fun v => by dsimp only [List.set]; try rfl) (fun u hu hF => ?_) (fun v183 => ?_)
  · have h35_ : v182 = (Iv 0) := hF.1
    clear hF
    refine doesG_un rfl ?_
    obtain rfl := h35_
    refine (does_indexAt_run (r := (Pt b123 0)) (ev rfl) (ev rfl) (fun w => ia54_0 _ _ w)).mono ?_; rintro _ _ ⟨rfl, rfl⟩
    exact ⟨rfl, Ext.refl _⟩
  refine RW_d _ rfl (fun v => by dsimp only [List.set]; try rfl) (fun u hu hF => ?_) (fun v184 => ?_)
  · have h36_ : v183 = (Pt b123 0) := hF.1
    clear hF
    refine doesG_un rfl ?_
    obtain rfl := h36_
    refine (does_load (u := (Fl r111)) (ev rfl) Try.isAgg22 (Cells.at (Blk.cells ((((hB157.wr W160 (Ne.symm n153)).wr W164 (Ne.symm n154)).ext E175).ext hu)) 0 rfl)).mono ?_; rintro _ _ ⟨rfl, rfl⟩
    exact ⟨rfl, Ext.refl _⟩
  refine RW_d _ rfl (fun v => by dsimp only [List.set]; try rfl) (fun u hu hF => ?_) (fun v185 => ?_)
  · clear hF
    refine doesG_un rfl ?_
    refine (does_move (u := (Iv 0)) (ev rfl)).mono ?_; rintro _ _ ⟨rfl, rfl⟩
    exact ⟨rfl, Ext.refl _⟩
  refine RW_d _ rfl (fun v => by dsimp only [List.set]; try rfl) (fun u hu hF => ?_) (fun v186 => ?_)
  · have h38_ : v185 = (Iv 0) := hF.1
    clear hF
    refine doesG_un rfl ?_
    obtain rfl := h38_
    refine (does_indexAt_run (r := (Pt b133 0)) (ev rfl) (ev rfl) (fun w => ia54_0 _ _ w)).mono ?_; rintro _ _ ⟨rfl, rfl⟩
    exact ⟨rfl, Ext.refl _⟩
  refine RW_d _ rfl (fun v => by dsimp only [List.set]; try rfl) (fun u hu hF => ?_) (fun v187 => ?_)
  · have h39_ : v186 = (Pt b133 0) := hF.1
    clear hF
    refine doesG_un rfl ?_
    obtain rfl := h39_
    refine (does_load (u := (Fl r117)) (ev rfl) Try.isAgg22 (Cells.at (Blk.cells (((hB161.wr W164 (Ne.symm n155)).ext E175).ext hu)) 0 rfl)).mono ?_; rintro _ _ ⟨rfl, rfl⟩
    exact ⟨rfl, Ext.refl _⟩
  refine RW_d _ rfl (fun v => by dsimp only [List.set]; try rfl) (fun u hu hF => ?_) (fun v188 => ?_)
  · clear hF
    refine doesG_un rfl ?_
    refine (does_move (u := (Iv 0)) (ev rfl)).mono ?_; rintro _ _ ⟨rfl, rfl⟩
    exact ⟨rfl, Ext.refl _⟩
  refine RW_d _ rfl (fun v => by dsimp only [List.set]; try rfl) (fun u hu hF => ?_) (fun v189 => ?_)
  · have h41_ : v188 = (Iv 0) := hF.1
    clear hF
    refine doesG_un rfl ?_
    obtain rfl := h41_
    refine (does_indexAt_run (r := (Pt b143 0)) (ev rfl) (ev rfl) (fun w => ia64_0 _ _ w)).mono ?_; rintro _ _ ⟨rfl, rfl⟩
    exact ⟨rfl, Ext.refl _⟩
  refine RW_d _ rfl (fun v => by dsimp only [List.set]; try rfl) (fun u hu hF => ?_) (fun v190 => ?_)
  · have h42_ : v189 = (Pt b143 0) := hF.1
    clear hF
    refine doesG_un rfl ?_
    obtain rfl := h42_
    refine (does_load (u := (Iv A_g.x)) (ev rfl) Try.isAgg2 (Cells.at (Blk.cells ((hB165.ext E175).ext hu)) 0 rfl)).mono ?_; rintro _ _ ⟨rfl, rfl⟩
    exact ⟨rfl, Ext.refl _⟩
  refine RW_d _ rfl (fun v => by dsimp only [List.set]; try rfl) (fun u hu hF => ?_) (fun v191 => ?_)
  · have h34_ : v181 = (Pt g_b g_o) := hF.1
    have h37_ : v184 = (Fl r111) := hF.2.1
    have h40_ : v187 = (Fl r117) := hF.2.2.1
    have h43_ : v190 = (Iv A_g.x) := hF.2.2.2.1
    clear hF
    refine doesG_un rfl ?_
    obtain rfl := h34_
    obtain rfl := h37_
    obtain rfl := h40_
    obtain rfl := h43_
    refine (does_call (args := #[(Pt g_b g_o), (Fl r111), (Fl r117), (Iv A_g.x)]) cal38 (evs rfl) (c_impl_Grid_cell g_b g_o [(Fl r1), (Fl r3), (Fl r5), (Fl r7), (Iv A_g.x), (Iv A_g.y), (Iv A_g.z), (.slice p17 A_g.vals.length q18)] A_g r111 r117 A_g.x _ ((hc_g.ext (Ext.gr X167 E175)).ext hu) ⟨r1, r3, r5, r7, (.slice p17 A_g.vals.length q18), rfl, h2, h4, h6, h8, (Sl.ext (Sl.ext hs19 RF.mono (Ext.gr X167 E175)) RF.mono hu)⟩ (by simp only [h2, h4, h6, h8, h12, h14, h16, h112, h114, h116, h118, h120, h122]; first | exact hix | exact hiy | exact hiz) (by omega))).mono ?_; rintro v u' ⟨hx, ⟨rn1, hv, k0⟩⟩
    exact ⟨⟨rn1, hv, (by simp only [k0])⟩, hx⟩
  refine RW_d _ rfl (fun v => by dsimp only [List.set]; try rfl) (fun u hu hF => ?_) (fun v192 => ?_)
  · have h44_ : ∃ r_1 : Nat, v191 = (.tuple #[(Iv (cellI (cf .f32 r111) (cf .f32 r117) A_g.step A_g.x)), (Iv (min (cellI (cf .f32 r111) (cf .f32 r117) A_g.step A_g.x + 1) (A_g.x - 1))), (Fl r_1)]) ∧ cf .f32 r_1 = cellF (cf .f32 r111) (cf .f32 r117) A_g.step A_g.x := hF.1
    clear hF
    refine doesG_un rfl ?_
    obtain ⟨r44_1, rfl, h44_2⟩ := h44_
    refine (does_move (u := (.tuple #[(Iv (cellI (cf .f32 r111) (cf .f32 r117) A_g.step A_g.x)), (Iv (min (cellI (cf .f32 r111) (cf .f32 r117) A_g.step A_g.x + 1) (A_g.x - 1))), (Fl r44_1)])) (ev rfl)).mono ?_; rintro _ _ ⟨rfl, rfl⟩
    exact ⟨⟨r44_1, rfl, (by simp only [h44_2])⟩, Ext.refl _⟩
  refine RW_d _ rfl (fun v => by dsimp only [List.set]; try rfl) (fun u hu hF => ?_) (fun v193 => ?_)
  · have h30_ : ∃ r_1 : Nat, v192 = (.tuple #[(Iv (cellI (cf .f32 r111) (cf .f32 r117) A_g.step A_g.x)), (Iv (min (cellI (cf .f32 r111) (cf .f32 r117) A_g.step A_g.x + 1) (A_g.x - 1))), (Fl r_1)]) ∧ cf .f32 r_1 = cellF (cf .f32 r111) (cf .f32 r117) A_g.step A_g.x := hF.1
    clear hF
    refine doesG_un rfl ?_
    obtain ⟨r30_1, rfl, h30_2⟩ := h30_
    refine (does_extract (vs := #[(Iv (cellI (cf .f32 r111) (cf .f32 r117) A_g.step A_g.x)), (Iv (min (cellI (cf .f32 r111) (cf .f32 r117) A_g.step A_g.x + 1) (A_g.x - 1))), (Fl r30_1)]) (u := (Iv (cellI (cf .f32 r111) (cf .f32 r117) A_g.step A_g.x))) (ev rfl) rfl).mono ?_; rintro _ _ ⟨rfl, rfl⟩
    exact ⟨rfl, Ext.refl _⟩
  refine RW_d _ rfl (fun v => by dsimp only [List.set]; try rfl) (fun u hu hF => ?_) (fun v194 => ?_)
  · have h30_ : ∃ r_1 : Nat, v192 = (.tuple #[(Iv (cellI (cf .f32 r111) (cf .f32 r117) A_g.step A_g.x)), (Iv (min (cellI (cf .f32 r111) (cf .f32 r117) A_g.step A_g.x + 1) (A_g.x - 1))), (Fl r_1)]) ∧ cf .f32 r_1 = cellF (cf .f32 r111) (cf .f32 r117) A_g.step A_g.x := hF.1
    clear hF
    obtain ⟨r30_1, rfl, h30_2⟩ := h30_
    exact ⟨_, yields_is rfl (run_extract (ev rfl) rfl), rfl⟩
  refine RW_d _ rfl (fun v => by dsimp only [List.set]; try rfl) (fun u hu hF => ?_) (fun v195 => ?_)
  · have h30_ : ∃ r_1 : Nat, v192 = (.tuple #[(Iv (cellI (cf .f32 r111) (cf .f32 r117) A_g.step A_g.x)), (Iv (min (cellI (cf .f32 r111) (cf .f32 r117) A_g.step A_g.x + 1) (A_g.x - 1))), (Fl r_1)]) ∧ cf .f32 r_1 = cellF (cf .f32 r111) (cf .f32 r117) A_g.step A_g.x := hF.1
    clear hF
    obtain ⟨r30_1, rfl, h30_2⟩ := h30_
    exact ⟨_, yields_is rfl (run_extract (ev rfl) rfl), ⟨r30_1, rfl, (by simp only [h30_2])⟩⟩
  refine RW_d _ rfl (fun v => by dsimp only [List.set]; try rfl) (fun u hu hF => ?_) (fun v196 => ?_)
  · have h31_ : v178 = (Iv 0) := hF.1
    clear hF
    refine doesG_un rfl ?_
    obtain rfl := h31_
    refine (does_indexAt_run (r := (Pt b39 0)) (ev rfl) (ev rfl) (fun w => ia64_0 _ _ w)).mono ?_; rintro _ _ ⟨rfl, rfl⟩
    exact ⟨rfl, Ext.refl _⟩
  refine RW_fin ?_; intro w197 E198 hP199
  obtain ⟨⟨⟨⟨⟨⟨⟨⟨⟨⟨⟨⟨⟨⟨⟨⟨⟨⟨⟨-, -⟩, q200⟩, q201⟩, -⟩, -⟩, -⟩, -⟩, -⟩, -⟩, -⟩, -⟩, -⟩, -⟩, -⟩, -⟩, q202⟩, q203⟩, q204⟩, q205⟩ := hP199
  have X206 := Ext.gr X177 E198
  have q200 : v179 = (Iv 0) := q200
  obtain rfl := q200
  have q201 : v180 = (Iv 0) := q201
  obtain rfl := q201
  have q202 : v193 = (Iv (cellI (cf .f32 r111) (cf .f32 r117) A_g.step A_g.x)) := q202
  obtain rfl := q202
  have q203 : v194 = (Iv (min (cellI (cf .f32 r111) (cf .f32 r117) A_g.step A_g.x + 1) (A_g.x - 1))) := q203
  obtain rfl := q203
  have q204 : ∃ r_1 : Nat, v195 = (Fl r_1) ∧ cf .f32 r_1 = cellF (cf .f32 r111) (cf .f32 r117) A_g.step A_g.x := q204
  obtain ⟨r207, rfl, h208⟩ := q204
  have q205 : v196 = (Pt b39 0) := q205
  obtain rfl := q205
  show wpList _ _ _ _ (fr [_, _, _, _, _, _, _, _, _, _, _, _, _, _, _, _, _, _, _, _, _, _, _, _, _, _, _, _, _, _, _, _, _, _, _, _, _, _, _, _, _, _, _, _, _, _, _, _, _, _, _, _, _, _, _, _, _, _, _, _, _, _, _, _, _, _]) _
  refine seqn rfl rfl (does_store (n := 1) (cs := [(Iv 0), (Iv 0), (Iv 0)]) (u := (Iv (cellI (cf .f32 r111) (cf .f32 r117) A_g.step A_g.x))) (ev rfl) (ev rfl) Try.sizeOf2 rfl (((((((((hB73.wr W76 (Nat.ne_of_lt n57)).wr W80 (Nat.ne_of_lt n68)).ext E86).kl E102 nin0).wr W156 (Nat.ne_of_lt n129)).wr W160 (Nat.ne_of_lt n139)).wr W164 (Nat.ne_of_lt n149)).ext E175).ext E198) (Nat.le_of_ble_eq_true rfl) rfl) ?_; rintro _ w211 ⟨rfl, W209, hB210⟩
  change Blk _ _ [(Iv (cellI (cf .f32 r111) (cf .f32 r117) A_g.step A_g.x)), (Iv 0), (Iv 0)] at hB210
  have X212 := Below.wr X206 W209 g47
  refine q_is rfl rfl (does_indexAt_run (r := (Pt b49 0)) (ev rfl) (ev rfl) (fun w => ia64_0 _ _ w)) (by dsimp only [List.set]; try rfl) ?_
  refine seqn rfl rfl (does_store (n := 1) (cs := [(Iv 0), (Iv 0), (Iv 0)]) (u := (Iv (min (cellI (cf .f32 r111) (cf .f32 r117) A_g.step A_g.x + 1) (A_g.x - 1)))) (ev rfl) (ev rfl) Try.sizeOf2 rfl (((((((((hB77.wr W80 (Nat.ne_of_lt n69)).ext E86).kl E102 nin0).wr W156 (Nat.ne_of_lt n130)).wr W160 (Nat.ne_of_lt n140)).wr W164 (Nat.ne_of_lt n150)).ext E175).ext E198).wr W209 (Nat.ne_of_gt n57)) (Nat.le_of_ble_eq_true rfl) rfl) ?_; rintro _ w215 ⟨rfl, W213, hB214⟩
  change Blk _ _ [(Iv (min (cellI (cf .f32 r111) (cf .f32 r117) A_g.step A_g.x + 1) (A_g.x - 1))), (Iv 0), (Iv 0)] at hB214
  have X216 := Below.wr X212 W213 g58
  refine q_is rfl rfl (does_indexAt_run (r := (Pt b60 0)) (ev rfl) (ev rfl) (fun w => ia54_0 _ _ w)) (by dsimp only [List.set]; try rfl) ?_
  refine seqn rfl rfl (does_store (n := 1) (cs := [(Fl 0), (Fl 0), (Fl 0)]) (u := (Fl r207)) (ev rfl) (ev rfl) Try.sizeOf22 rfl (((((((((hB81.ext E86).kl E102 nin0).wr W156 (Nat.ne_of_lt n131)).wr W160 (Nat.ne_of_lt n141)).wr W164 (Nat.ne_of_lt n151)).ext E175).ext E198).wr W209 (Nat.ne_of_gt n68)).wr W213 (Nat.ne_of_gt n69)) (Nat.le_of_ble_eq_true rfl) rfl) ?_; rintro _ w219 ⟨rfl, W217, hB218⟩
  change Blk _ _ [(Fl r207), (Fl 0), (Fl 0)] at hB218
  have X220 := Below.wr X216 W217 g70
  refine wpList_nil (hK172 _ _ ?_)
  refine wp_region_lit ?_
  refine q_is rfl rfl (does_iarith (p := 0) (q := 1) (r := (1)) (ev rfl) (ev rfl) (.inl ⟨rfl, rfl⟩)) (by dsimp only [List.set]; try rfl) ?_
  refine q_is rfl rfl (does_move (u := (Iv 1)) (ev rfl)) (by dsimp only [List.set]; try rfl) ?_
  refine wpList_nil ?_
  refine un_step ?_
  refine wp_seq_k fun K221 hK221 => ?_
  refine wp_region_lit ?_
  refine q_is rfl rfl (does_icmp (p := 1) (q := 3) (.inr (.inr (.inl rfl))) (ev rfl) (ev rfl)) (by dsimp only [List.set]; try rfl) ?_
  refine wpList_nil (hK221 _ _ ?_)
  refine wp_seq_k fun K222 hK222 => ?_
  refine wp_cond_true (ev rfl) ?_
  refine wp_skip (hK222 _ _ ?_)
  refine wp_seq_k fun K223 hK223 => ?_
  refine wp_block ?_
  refine wp_seq_k fun K224 hK224 => ?_
  refine wp_region_lit ?_
  refine q_is rfl rfl (does_move (u := (Iv 1)) (ev rfl)) (by dsimp only [List.set]; try rfl) ?_
  refine q_is rfl rfl (does_assign (u := (Iv 1)) (ev rfl)) (by dsimp only [List.set]; try rfl) ?_
  refine wpList_nil (hK224 _ _ ?_)
  refine region_draw (
    [Fact.pure [] (fun v => v = (Iv 1)),
    Fact.flt [] (fun v => v = (Iv 1)),
    Fact.flt [] (fun v => v = (Iv 1)),
    Fact.pure [] (fun v => v = (Pt g_b g_o)),
    Fact.pure [] (fun v => v = (Iv 1)),
    Fact.pure [35] (fun v => v = (Pt b123 1)),
    Fact.pure [36] (fun v => v = (Fl r113)),
    Fact.pure [] (fun v => v = (Iv 1)),
    Fact.pure [38] (fun v => v = (Pt b133 1)),
    Fact.pure [39] (fun v => v = (Fl r119)),
    Fact.pure [] (fun v => v = (Iv 1)),
    Fact.pure [41] (fun v => v = (Pt b143 1)),
    Fact.pure [42] (fun v => v = (Iv A_g.y)),
    Fact.pure [34, 37, 40, 43] (fun v => ∃ r_1 : Nat, v = (.tuple #[(Iv (cellI (cf .f32 r113) (cf .f32 r119) A_g.step A_g.y)), (Iv (min (cellI (cf .f32 r113) (cf .f32 r119) A_g.step A_g.y + 1) (A_g.y - 1))), (Fl r_1)]) ∧ cf .f32 r_1 = cellF (cf .f32 r113) (cf .f32 r119) A_g.step A_g.y),
    Fact.pure [44] (fun v => ∃ r_1 : Nat, v = (.tuple #[(Iv (cellI (cf .f32 r113) (cf .f32 r119) A_g.step A_g.y)), (Iv (min (cellI (cf .f32 r113) (cf .f32 r119) A_g.step A_g.y + 1) (A_g.y - 1))), (Fl r_1)]) ∧ cf .f32 r_1 = cellF (cf .f32 r113) (cf .f32 r119) A_g.step A_g.y),
    Fact.pure [30] (fun v => v = (Iv (cellI (cf .f32 r113) (cf .f32 r119) A_g.step A_g.y))),
    Fact.flt [30] (fun v => v = (Iv (min (cellI (cf .f32 r113) (cf .f32 r119) A_g.step A_g.y + 1) (A_g.y - 1)))),
    Fact.flt [30] (fun v => ∃ r_1 : Nat, v = (Fl r_1) ∧ cf .f32 r_1 = cellF (cf .f32 r113) (cf .f32 r119) A_g.step A_g.y),
    Fact.pure [31] (fun v => v = (Pt b39 1))]) mixed (by kernel_rfl) (by intro _ _ d _ _ h; cases d <;> exact h) ?_
  obtain ⟨w225, hw227⟩ : ∃ w', w' = World.drew w219 := ⟨_, rfl⟩; rw [← hw227]; have E226 : Ext w219 w225 := by rw [hw227]; exact Ext.draw _
  clear hw227
  have X228 := Ext.gr X220 E226
  refine RW_d _ rfl (fun v => by dsimp only [List.set]; try rfl) (fun u hu hF => ?_) (fun v229 => ?_)
  · clear hF
    refine doesG_un rfl ?_
    refine (does_move (u := (Iv 1)) (ev rfl)).mono ?_; rintro _ _ ⟨rfl, rfl⟩
    exact ⟨rfl, Ext.refl _⟩
  refine RW_d _ rfl (fun v => by dsimp only [List.set]; try rfl) (fun u hu hF => ?_) (fun v230 => ?_)
  · clear hF
    exact ⟨_, yields_is rfl (run_move (ev rfl)), rfl⟩
  refine RW_d _ rfl (fun v => by dsimp only [List.set]; try rfl) (fun u hu hF => ?_) (fun v231 => ?_)
  · clear hF
    exact ⟨_, yields_is rfl (run_move (ev rfl)), rfl⟩
  refine RW_d _ rfl (fun v => by dsimp only [List.set]; try rfl) (fun u hu hF => ?_) (fun v232 => ?_)
  · clear hF
    refine doesG_un rfl ?_
    refine (does_load (u := (Pt g_b g_o)) (ev rfl) Try.isAgg45 (Cells.at (Blk.cells (((((((((((((((((((hB23.ext E32).ext E42).ext E52).ext E63).wr W72 (Nat.ne_of_lt n45)).wr W76 (Nat.ne_of_lt n55)).wr W80 (Nat.ne_of_lt n66)).ext E86).kl E102 nin0).wr W156 (Nat.ne_of_lt n127)).wr W160 (Nat.ne_of_lt n137)).wr W164 (Nat.ne_of_lt n147)).ext E175).ext E198).wr W209 (Nat.ne_of_lt n45)).wr W213 (Nat.ne_of_lt n55)).wr W217 (Nat.ne_of_lt n66)).ext E226).ext hu)) 0 rfl)).mono ?_; rintro _ _ ⟨rfl, rfl⟩
    exact ⟨rfl, Ext.refl _⟩
  refine RW_d _ rfl (fun v => by dsimp only [List.set]; try rfl) (fun u hu hF => ?_) (fun v233 => ?_)
  · clear hF
    refine doesG_un rfl ?_
    refine (does_move (u := (Iv 1)) (ev rfl)).mono ?_; rintro _ _ ⟨rfl, rfl⟩
    exact ⟨rfl, Ext.refl _⟩
  refine RW_d _ rfl (fun v => by dsimp only [List.set]; try rfl) (fun u hu hF => ?_) (fun v234 => ?_)
  · have h35_ : v233 = (Iv 1) := hF.1
    clear hF
    refine doesG_un rfl ?_
    obtain rfl := h35_
    refine (does_indexAt_run (r := (Pt b123 1)) (ev rfl) (ev rfl) (fun w => ia54_1 _ _ w)).mono ?_; rintro _ _ ⟨rfl, rfl⟩
    exact ⟨rfl, Ext.refl _⟩
  refine RW_d _ rfl (fun v => by dsimp only [List.set]; try rfl) (fun u hu hF => ?_) (fun v235 => ?_)
  · have h36_ : v234 = (Pt b123 1) := hF.1
    clear hF
    refine doesG_un rfl ?_
    obtain rfl := h36_
    refine (does_load (u := (Fl r113)) (ev rfl) Try.isAgg22 (Cells.at (Blk.cells (((((((((hB157.wr W160 (Ne.symm n153)).wr W164 (Ne.symm n154)).ext E175).ext E198).wr W209 (Nat.ne_of_gt n129)).wr W213 (Nat.ne_of_gt n130)).wr W217 (Nat.ne_of_gt n131)).ext E226).ext hu)) 1 rfl)).mono ?_; rintro _ _ ⟨rfl, rfl⟩
    exact ⟨rfl, Ext.refl _⟩
  refine RW_d _ rfl (fun v => by dsimp only [List.set]; try rfl) (fun u hu hF => ?_) (fun v236 => ?_)
  · clear hF
    refine doesG_un rfl ?_
    refine (does_move (u := (Iv 1)) (ev rfl)).mono ?_; rintro _ _ ⟨rfl, rfl⟩
    exact ⟨rfl, Ext.refl _⟩
  refine RW_d _ rfl (fun v => by dsimp only [List.set]; try rfl) (fun u hu hF => ?_) (fun v237 => ?_)
  · have h38_ : v236 = (Iv 1) := hF.1
    clear hF
    refine doesG_un rfl ?_
    obtain rfl := h38_
    refine (does_indexAt_run (r := (Pt b133 1)) (ev rfl) (ev rfl) (fun w => ia54_1 _ _ w)).mono ?_; rintro _ _ ⟨rfl, rfl⟩
    exact ⟨rfl, Ext.refl _⟩
  refine RW_d _ rfl (fun v => by dsimp only [List.set]; try rfl) (fun u hu hF => ?_) (fun v238 => ?_)
  · have h39_ : v237 = (Pt b133 1) := hF.1
    clear hF
    refine doesG_un rfl ?_
    obtain rfl := h39_
    refine (does_load (u := (Fl r119)) (ev rfl) Try.isAgg22 (Cells.at (Blk.cells ((((((((hB161.wr W164 (Ne.symm n155)).ext E175).ext E198).wr W209 (Nat.ne_of_gt n139)).wr W213 (Nat.ne_of_gt n140)).wr W217 (Nat.ne_of_gt n141)).ext E226).ext hu)) 1 rfl)).mono ?_; rintro _ _ ⟨rfl, rfl⟩
    exact ⟨rfl, Ext.refl _⟩
  refine RW_d _ rfl (fun v => by dsimp only [List.set]; try rfl) (fun u hu hF => ?_) (fun v239 => ?_)
  · clear hF
    refine doesG_un rfl ?_
    refine (does_move (u := (Iv 1)) (ev rfl)).mono ?_; rintro _ _ ⟨rfl, rfl⟩
    exact ⟨rfl, Ext.refl _⟩
  refine RW_d _ rfl (fun v => by dsimp only [List.set]; try rfl) (fun u hu hF => ?_) (fun v240 => ?_)
  · have h41_ : v239 = (Iv 1) := hF.1
    clear hF
    refine doesG_un rfl ?_
    obtain rfl := h41_
    refine (does_indexAt_run (r := (Pt b143 1)) (ev rfl) (ev rfl) (fun w => ia64_1 _ _ w)).mono ?_; rintro _ _ ⟨rfl, rfl⟩
    exact ⟨rfl, Ext.refl _⟩
  refine RW_d _ rfl (fun v => by dsimp only [List.set]; try rfl) (fun u hu hF => ?_) (fun v241 => ?_)
  · have h42_ : v240 = (Pt b143 1) := hF.1
    clear hF
    refine doesG_un rfl ?_
    obtain rfl := h42_
    refine (does_load (u := (Iv A_g.y)) (ev rfl) Try.isAgg2 (Cells.at (Blk.cells (((((((hB165.ext E175).ext E198).wr W209 (Nat.ne_of_gt n149)).wr W213 (Nat.ne_of_gt n150)).wr W217 (Nat.ne_of_gt n151)).ext E226).ext hu)) 1 rfl)).mono ?_; rintro _ _ ⟨rfl, rfl⟩
    exact ⟨rfl, Ext.refl _⟩
  refine RW_d _ rfl (fun v => by dsimp only [List.set]; try rfl) (fun u hu hF => ?_) (fun v242 => ?_)
  · have h34_ : v232 = (Pt g_b g_o) := hF.1
    have h37_ : v235 = (Fl r113) := hF.2.1
    have h40_ : v238 = (Fl r119) := hF.2.2.1
    have h43_ : v241 = (Iv A_g.y) := hF.2.2.2.1
    clear hF
    refine doesG_un rfl ?_
    obtain rfl := h34_
    obtain rfl := h37_
    obtain rfl := h40_
    obtain rfl := h43_
    refine (does_call (args := #[(Pt g_b g_o), (Fl r113), (Fl r119), (Iv A_g.y)]) cal38 (evs rfl) (c_impl_Grid_cell g_b g_o [(Fl r1), (Fl r3), (Fl r5), (Fl r7), (Iv A_g.x), (Iv A_g.y), (Iv A_g.z), (.slice p17 A_g.vals.length q18)] A_g r113 r119 A_g.y _ ((hc_g.ext (Ext.gr X220 E226)).ext hu) ⟨r1, r3, r5, r7, (.slice p17 A_g.vals.length q18), rfl, h2, h4, h6, h8, (Sl.ext (Sl.ext hs19 RF.mono (Ext.gr X220 E226)) RF.mono hu)⟩ (by simp only [h2, h4, h6, h8, h12, h14, h16, h112, h114, h116, h118, h120, h122, h208]; first | exact hix | exact hiy | exact hiz) (by omega))).mono ?_; rintro v u' ⟨hx, ⟨rn1, hv, k0⟩⟩
    exact ⟨⟨rn1, hv, (by simp only [k0])⟩, hx⟩
  refine RW_d _ rfl (fun v => by dsimp only [List.set]; try rfl) (fun u hu hF => ?_) (fun v243 => ?_)
  · have h44_ : ∃ r_1 : Nat, v242 = (.tuple #[(Iv (cellI (cf .f32 r113) (cf .f32 r119) A_g.step A_g.y)), (Iv (min (cellI (cf .f32 r113) (cf .f32 r119) A_g.step A_g.y + 1) (A_g.y - 1))), (Fl r_1)]) ∧ cf .f32 r_1 = cellF (cf .f32 r113) (cf .f32 r119) A_g.step A_g.y := hF.1
    clear hF
    refine doesG_un rfl ?_
    obtain ⟨r44_1, rfl, h44_2⟩ := h44_
    refine (does_move (u := (.tuple #[(Iv (cellI (cf .f32 r113) (cf .f32 r119) A_g.step A_g.y)), (Iv (min (cellI (cf .f32 r113) (cf .f32 r119) A_g.step A_g.y + 1) (A_g.y - 1))), (Fl r44_1)])) (ev rfl)).mono ?_; rintro _ _ ⟨rfl, rfl⟩
    exact ⟨⟨r44_1, rfl, (by simp only [h44_2])⟩, Ext.refl _⟩
  refine RW_d _ rfl (fun v => by dsimp only [List.set]; try rfl) (fun u hu hF => ?_) (fun v244 => ?_)
  · have h30_ : ∃ r_1 : Nat, v243 = (.tuple #[(Iv (cellI (cf .f32 r113) (cf .f32 r119) A_g.step A_g.y)), (Iv (min (cellI (cf .f32 r113) (cf .f32 r119) A_g.step A_g.y + 1) (A_g.y - 1))), (Fl r_1)]) ∧ cf .f32 r_1 = cellF (cf .f32 r113) (cf .f32 r119) A_g.step A_g.y := hF.1
    clear hF
    refine doesG_un rfl ?_
    obtain ⟨r30_1, rfl, h30_2⟩ := h30_
    refine (does_extract (vs := #[(Iv (cellI (cf .f32 r113) (cf .f32 r119) A_g.step A_g.y)), (Iv (min (cellI (cf .f32 r113) (cf .f32 r119) A_g.step A_g.y + 1) (A_g.y - 1))), (Fl r30_1)]) (u := (Iv (cellI (cf .f32 r113) (cf .f32 r119) A_g.step A_g.y))) (ev rfl) rfl).mono ?_; rintro _ _ ⟨rfl, rfl⟩
    exact ⟨rfl, Ext.refl _⟩
  refine RW_d _ rfl (fun v => by dsimp only [List.set]; try rfl) (fun u hu hF => ?_) (fun v245 => ?_)
  · have h30_ : ∃ r_1 : Nat, v243 = (.tuple #[(Iv (cellI (cf .f32 r113) (cf .f32 r119) A_g.step A_g.y)), (Iv (min (cellI (cf .f32 r113) (cf .f32 r119) A_g.step A_g.y + 1) (A_g.y - 1))), (Fl r_1)]) ∧ cf .f32 r_1 = cellF (cf .f32 r113) (cf .f32 r119) A_g.step A_g.y := hF.1
    clear hF
    obtain ⟨r30_1, rfl, h30_2⟩ := h30_
    exact ⟨_, yields_is rfl (run_extract (ev rfl) rfl), rfl⟩
  refine RW_d _ rfl (fun v => by dsimp only [List.set]; try rfl) (fun u hu hF => ?_) (fun v246 => ?_)
  · have h30_ : ∃ r_1 : Nat, v243 = (.tuple #[(Iv (cellI (cf .f32 r113) (cf .f32 r119) A_g.step A_g.y)), (Iv (min (cellI (cf .f32 r113) (cf .f32 r119) A_g.step A_g.y + 1) (A_g.y - 1))), (Fl r_1)]) ∧ cf .f32 r_1 = cellF (cf .f32 r113) (cf .f32 r119) A_g.step A_g.y := hF.1
    clear hF
    obtain ⟨r30_1, rfl, h30_2⟩ := h30_
    exact ⟨_, yields_is rfl (run_extract (ev rfl) rfl), ⟨r30_1, rfl, (by simp only [h30_2])⟩⟩
  refine RW_d _ rfl (fun v => by dsimp only [List.set]; try rfl) (fun u hu hF => ?_) (fun v247 => ?_)
  · have h31_ : v229 = (Iv 1) := hF.1
    clear hF
    refine doesG_un rfl ?_
    obtain rfl := h31_
    refine (does_indexAt_run (r := (Pt b39 1)) (ev rfl) (ev rfl) (fun w => ia64_1 _ _ w)).mono ?_; rintro _ _ ⟨rfl, rfl⟩
    exact ⟨rfl, Ext.refl _⟩
  refine RW_fin ?_; intro w248 E249 hP250
  obtain ⟨⟨⟨⟨⟨⟨⟨⟨⟨⟨⟨⟨⟨⟨⟨⟨⟨⟨⟨-, -⟩, q251⟩, q252⟩, -⟩, -⟩, -⟩, -⟩, -⟩, -⟩, -⟩, -⟩, -⟩, -⟩, -⟩, -⟩, q253⟩, q254⟩, q255⟩, q256⟩ := hP250
  have X257 := Ext.gr X228 E249
  have q251 : v230 = (Iv 1) := q251
  obtain rfl := q251
  have q252 : v231 = (Iv 1) := q252
  obtain rfl := q252
  have q253 : v244 = (Iv (cellI (cf .f32 r113) (cf .f32 r119) A_g.step A_g.y)) := q253
  obtain rfl := q253
  have q254 : v245 = (Iv (min (cellI (cf .f32 r113) (cf .f32 r119) A_g.step A_g.y + 1) (A_g.y - 1))) := q254
  obtain rfl := q254
  have q255 : ∃ r_1 : Nat, v246 = (Fl r_1) ∧ cf .f32 r_1 = cellF (cf .f32 r113) (cf .f32 r119) A_g.step A_g.y := q255
  obtain ⟨r258, rfl, h259⟩ := q255
  have q256 : v247 = (Pt b39 1) := q256
  obtain rfl := q256
  show wpList _ _ _ _ (fr [_, _, _, _, _, _, _, _, _, _, _, _, _, _, _, _, _, _, _, _, _, _, _, _, _, _, _, _, _, _, _, _, _, _, _, _, _, _, _, _, _, _, _, _, _, _, _, _, _, _, _, _, _, _, _, _, _, _, _, _, _, _, _, _, _, _]) _
  refine seqn rfl rfl (does_store (n := 1) (cs := [(Iv (cellI (cf .f32 r111) (cf .f32 r117) A_g.step A_g.x)), (Iv 0), (Iv 0)]) (u := (Iv (cellI (cf .f32 r113) (cf .f32 r119) A_g.step A_g.y))) (ev rfl) (ev rfl) Try.sizeOf2 rfl ((((hB210.wr W213 (Nat.ne_of_lt n57)).wr W217 (Nat.ne_of_lt n68)).ext E226).ext E249) (Nat.le_of_ble_eq_true rfl) rfl) ?_; rintro _ w262 ⟨rfl, W260, hB261⟩
  change Blk _ _ [(Iv (cellI (cf .f32 r111) (cf .f32 r117) A_g.step A_g.x)), (Iv (cellI (cf .f32 r113) (cf .f32 r119) A_g.step A_g.y)), (Iv 0)] at hB261
  have X263 := Below.wr X257 W260 g47
  refine q_is rfl rfl (does_indexAt_run (r := (Pt b49 1)) (ev rfl) (ev rfl) (fun w => ia64_1 _ _ w)) (by dsimp only [List.set]; try rfl) ?_
  refine seqn rfl rfl (does_store (n := 1) (cs := [(Iv (min (cellI (cf .f32 r111) (cf .f32 r117) A_g.step A_g.x + 1) (A_g.x - 1))), (Iv 0), (Iv 0)]) (u := (Iv (min (cellI (cf .f32 r113) (cf .f32 r119) A_g.step A_g.y + 1) (A_g.y - 1)))) (ev rfl) (ev rfl) Try.sizeOf2 rfl ((((hB214.wr W217 (Nat.ne_of_lt n69)).ext E226).ext E249).wr W260 (Nat.ne_of_gt n57)) (Nat.le_of_ble_eq_true rfl) rfl) ?_; rintro _ w266 ⟨rfl, W264, hB265⟩
  change Blk _ _ [(Iv (min (cellI (cf .f32 r111) (cf .f32 r117) A_g.step A_g.x + 1) (A_g.x - 1))), (Iv (min (cellI (cf .f32 r113) (cf .f32 r119) A_g.step A_g.y + 1) (A_g.y - 1))), (Iv 0)] at hB265
  have X267 := Below.wr X263 W264 g58
  refine q_is rfl rfl (does_indexAt_run (r := (Pt b60 1)) (ev rfl) (ev rfl) (fun w => ia54_1 _ _ w)) (by dsimp only [List.set]; try rfl) ?_
  refine seqn rfl rfl (does_store (n := 1) (cs := [(Fl r207), (Fl 0), (Fl 0)]) (u := (Fl r258)) (ev rfl) (ev rfl) Try.sizeOf22 rfl ((((hB218.ext E226).ext E249).wr W260 (Nat.ne_of_gt n68)).wr W264 (Nat.ne_of_gt n69)) (Nat.le_of_ble_eq_true rfl) rfl) ?_; rintro _ w270 ⟨rfl, W268, hB269⟩
  change Blk _ _ [(Fl r207), (Fl r258), (Fl 0)] at hB269
  have X271 := Below.wr X267 W268 g70
  refine wpList_nil (hK223 _ _ ?_)
  refine wp_region_lit ?_
  refine q_is rfl rfl (does_iarith (p := 1) (q := 1) (r := (2)) (ev rfl) (ev rfl) (.inl ⟨rfl, rfl⟩)) (by dsimp only [List.set]; try rfl) ?_
  refine q_is rfl rfl (does_move (u := (Iv 2)) (ev rfl)) (by dsimp only [List.set]; try rfl) ?_
  refine wpList_nil ?_
  refine un_step ?_
  refine wp_seq_k fun K272 hK272 => ?_
  refine wp_region_lit ?_
  refine q_is rfl rfl (does_icmp (p := 2) (q := 3) (.inr (.inr (.inl rfl))) (ev rfl) (ev rfl)) (by dsimp only [List.set]; try rfl) ?_
  refine wpList_nil (hK272 _ _ ?_)
  refine wp_seq_k fun K273 hK273 => ?_
  refine wp_cond_true (ev rfl) ?_
  refine wp_skip (hK273 _ _ ?_)
  refine wp_seq_k fun K274 hK274 => ?_
  refine wp_block ?_
  refine wp_seq_k fun K275 hK275 => ?_
  refine wp_region_lit ?_
  refine q_is rfl rfl (does_move (u := (Iv 2)) (ev rfl)) (by dsimp only [List.set]; try rfl) ?_
  refine q_is rfl rfl (does_assign (u := (Iv 2)) (ev rfl)) (by dsimp only [List.set]; try rfl) ?_
  refine wpList_nil (hK275 _ _ ?_)
  refine region_draw (
    [Fact.pure [] (fun v => v = (Iv 2)),
    Fact.flt [] (fun v => v = (Iv 2)),
    Fact.flt [] (fun v => v = (Iv 2)),
    Fact.pure [] (fun v => v = (Pt g_b g_o)),
    Fact.pure [] (fun v => v = (Iv 2)),
    Fact.pure [35] (fun v => v = (Pt b123 2)),
    Fact.pure [36] (fun v => v = (Fl r115)),
    Fact.pure [] (fun v => v = (Iv 2)),
    Fact.pure [38] (fun v => v = (Pt b133 2)),
    Fact.pure [39] (fun v => v = (Fl r121)),
    Fact.pure [] (fun v => v = (Iv 2)),
    Fact.pure [41] (fun v => v = (Pt b143 2)),
    Fact.pure [42] (fun v => v = (Iv A_g.z)),
    Fact.pure [34, 37, 40, 43] (fun v => ∃ r_1 : Nat, v = (.tuple #[(Iv (cellI (cf .f32 r115) (cf .f32 r121) A_g.step A_g.z)), (Iv (min (cellI (cf .f32 r115) (cf .f32 r121) A_g.step A_g.z + 1) (A_g.z - 1))), (Fl r_1)]) ∧ cf .f32 r_1 = cellF (cf .f32 r115) (cf .f32 r121) A_g.step A_g.z),
    Fact.pure [44] (fun v => ∃ r_1 : Nat, v = (.tuple #[(Iv (cellI (cf .f32 r115) (cf .f32 r121) A_g.step A_g.z)), (Iv (min (cellI (cf .f32 r115) (cf .f32 r121) A_g.step A_g.z + 1) (A_g.z - 1))), (Fl r_1)]) ∧ cf .f32 r_1 = cellF (cf .f32 r115) (cf .f32 r121) A_g.step A_g.z),
    Fact.pure [30] (fun v => v = (Iv (cellI (cf .f32 r115) (cf .f32 r121) A_g.step A_g.z))),
    Fact.flt [30] (fun v => v = (Iv (min (cellI (cf .f32 r115) (cf .f32 r121) A_g.step A_g.z + 1) (A_g.z - 1)))),
    Fact.flt [30] (fun v => ∃ r_1 : Nat, v = (Fl r_1) ∧ cf .f32 r_1 = cellF (cf .f32 r115) (cf .f32 r121) A_g.step A_g.z),
    Fact.pure [31] (fun v => v = (Pt b39 2))]) mixed (by kernel_rfl) (by intro _ _ d _ _ h; cases d <;> exact h) ?_
  obtain ⟨w276, hw278⟩ : ∃ w', w' = World.drew w270 := ⟨_, rfl⟩; rw [← hw278]; have E277 : Ext w270 w276 := by rw [hw278]; exact Ext.draw _
  clear hw278
  have X279 := Ext.gr X271 E277
  refine RW_d _ rfl (fun v => by dsimp only [List.set]; try rfl) (fun u hu hF => ?_) (fun v280 => ?_)
  · clear hF
    refine doesG_un rfl ?_
    refine (does_move (u := (Iv 2)) (ev rfl)).mono ?_; rintro _ _ ⟨rfl, rfl⟩
    exact ⟨rfl, Ext.refl _⟩
  refine RW_d _ rfl (fun v => by dsimp only [List.set]; try rfl) (fun u hu hF => ?_) (fun v281 => ?_)
  · clear hF
    exact ⟨_, yields_is rfl (run_move (ev rfl)), rfl⟩
  refine RW_d _ rfl (fun v => by dsimp only [List.set]; try rfl) (fun u hu hF => ?_) (fun v282 => ?_)
  · clear hF
    exact ⟨_, yields_is rfl (run_move (ev rfl)), rfl⟩
  refine RW_d _ rfl (fun v => by dsimp only [List.set]; try rfl) (fun u hu hF => ?_) (fun v283 => ?_)
  · clear hF
    refine doesG_un rfl ?_
    refine (does_load (u := (Pt g_b g_o)) (ev rfl) Try.isAgg45 (Cells.at (Blk.cells ((((((((((((((((((((((((hB23.ext E32).ext E42).ext E52).ext E63).wr W72 (Nat.ne_of_lt n45)).wr W76 (Nat.ne_of_lt n55)).wr W80 (Nat.ne_of_lt n66)).ext E86).kl E102 nin0).wr W156 (Nat.ne_of_lt n127)).wr W160 (Nat.ne_of_lt n137)).wr W164 (Nat.ne_of_lt n147)).ext E175).ext E198).wr W209 (Nat.ne_of_lt n45)).wr W213 (Nat.ne_of_lt n55)).wr W217 (Nat.ne_of_lt n66)).ext E226).ext E249).wr W260 (Nat.ne_of_lt n45)).wr W264 (Nat.ne_of_lt n55)).wr W268 (Nat.ne_of_lt n66)).ext E277).ext hu)) 0 rfl)).mono ?_; rintro _ _ ⟨rfl, rfl⟩
    exact ⟨rfl, Ext.refl _⟩
  refine RW_d _ rfl (fun v => by dsimp only [List.set]; try rfl) (fun u hu hF => ?_) (fun v284 => ?_)
  · clear hF
    refine doesG_un rfl ?_
    refine (does_move (u := (Iv 2)) (ev rfl)).mono ?_; rintro _ _ ⟨rfl, rfl⟩
    exact ⟨rfl, Ext.refl _⟩
  refine RW_d _ rfl (fun v => by dsimp only [List.set]; try rfl) (fun u hu hF => ?_) (fun v285 => ?_)
  · have h35_ : v284 = (Iv 2) := hF.1
    clear hF
    refine doesG_un rfl ?_
    obtain rfl := h35_
    refine (does_indexAt_run (r := (Pt b123 2)) (ev rfl) (ev rfl) (fun w => ia54_2 _ _ w)).mono ?_; rintro _ _ ⟨rfl, rfl⟩
    exact ⟨rfl, Ext.refl _⟩
  refine RW_d _ rfl (fun v => by dsimp only [List.set]; try rfl) (fun u hu hF => ?_) (fun v286 => ?_)
  · have h36_ : v285 = (Pt b123 2) := hF.1
    clear hF
    refine doesG_un rfl ?_
    obtain rfl := h36_
    refine (does_load (u := (Fl r115)) (ev rfl) Try.isAgg22 (Cells.at (Blk.cells ((((((((((((((hB157.wr W160 (Ne.symm n153)).wr W164 (Ne.symm n154)).ext E175).ext E198).wr W209 (Nat.ne_of_gt n129)).wr W213 (Nat.ne_of_gt n130)).wr W217 (Nat.ne_of_gt n131)).ext E226).ext E249).wr W260 (Nat.ne_of_gt n129)).wr W264 (Nat.ne_of_gt n130)).wr W268 (Nat.ne_of_gt n131)).ext E277).ext hu)) 2 rfl)).mono ?_; rintro _ _ ⟨rfl, rfl⟩
    exact ⟨rfl, Ext.refl _⟩
  refine RW_d _ rfl (fun v => by dsimp only [List.set]; try rfl) (fun u hu hF => ?_) (fun v287 => ?_)
  · clear hF
    refine doesG_un rfl ?_
    refine (does_move (u := (Iv 2)) (ev rfl)).mono ?_; rintro _ _ ⟨rfl, rfl⟩
    exact ⟨rfl, Ext.refl _⟩
  refine RW_d _ rfl (fun v => by dsimp only [List.set]; try rfl) (fun u hu hF => ?_) (fun v288 => ?_)
  · have h38_ : v287 = (Iv 2) := hF.1
    clear hF
    refine doesG_un rfl ?_
    obtain rfl := h38_
    refine (does_indexAt_run (r := (Pt b133 2)) (ev rfl) (ev rfl) (fun w => ia54_2 _ _ w)).mono ?_; rintro _ _ ⟨rfl, rfl⟩
    exact ⟨rfl, Ext.refl _⟩
  refine RW_d _ rfl (fun v => by dsimp only [List.set]; try rfl) (fun u hu hF => ?_) (fun v289 => ?_)
  · have h39_ : v288 = (Pt b133 2) := hF.1
    clear hF
    refine doesG_un rfl ?_
    obtain rfl := h39_
    refine (does_load (u := (Fl r121)) (ev rfl) Try.isAgg22 (Cells.at (Blk.cells (((((((((((((hB161.wr W164 (Ne.symm n155)).ext E175).ext E198).wr W209 (Nat.ne_of_gt n139)).wr W213 (Nat.ne_of_gt n140)).wr W217 (Nat.ne_of_gt n141)).ext E226).ext E249).wr W260 (Nat.ne_of_gt n139)).wr W264 (Nat.ne_of_gt n140)).wr W268 (Nat.ne_of_gt n141)).ext E277).ext hu)) 2 rfl)).mono ?_; rintro _ _ ⟨rfl, rfl⟩
    exact ⟨rfl, Ext.refl _⟩
  refine RW_d _ rfl (fun v => by dsimp only [List.set]; try rfl) (fun u hu hF => ?_) (fun v290 => ?_)
  · clear hF
    refine doesG_un rfl ?_
    refine (does_move (u := (Iv 2)) (ev rfl)).mono ?_; rintro _ _ ⟨rfl, rfl⟩
    exact ⟨rfl, Ext.refl _⟩
  refine RW_d _ rfl (fun v => by dsimp only [List.set]; try rfl) (fun u hu hF => ?_) (fun v291 => ?_)
  · have h41_ : v290 = (Iv 2) := hF.1
    clear hF
    refine doesG_un rfl ?_
    obtain rfl := h41_
    refine (does_indexAt_run (r := (Pt b143 2)) (ev rfl) (ev rfl) (fun w => ia64_2 _ _ w)).mono ?_; rintro _ _ ⟨rfl, rfl⟩
    exact ⟨rfl, Ext.refl _⟩
  refine RW_d _ rfl (fun v => by dsimp only [List.set]; try rfl) (fun u hu hF => ?_) (fun v292 => ?_)
  · have h42_ : v291 = (Pt b143 2) := hF.1
    clear hF
    refine doesG_un rfl ?_
    obtain rfl := h42_
    refine (does_load (u := (Iv A_g.z)) (ev rfl) Try.isAgg2 (Cells.at (Blk.cells ((((((((((((hB165.ext E175).ext E198).wr W209 (Nat.ne_of_gt n149)).wr W213 (Nat.ne_of_gt n150)).wr W217 (Nat.ne_of_gt n151)).ext E226).ext E249).wr W260 (Nat.ne_of_gt n149)).wr W264 (Nat.ne_of_gt n150)).wr W268 (Nat.ne_of_gt n151)).ext E277).ext hu)) 2 rfl)).mono ?_; rintro _ _ ⟨rfl, rfl⟩
    exact ⟨rfl, Ext.refl _⟩
  refine RW_d _ rfl (fun v => by dsimp only [List.set]; try rfl) (fun u hu hF => ?_) (fun v293 => ?_)
  · have h34_ : v283 = (Pt g_b g_o) := hF.1
    have h37_ : v286 = (Fl r115) := hF.2.1
    have h40_ : v289 = (Fl r121) := hF.2.2.1
    have h43_ : v292 = (Iv A_g.z) := hF.2.2.2.1
    clear hF
    refine doesG_un rfl ?_
    obtain rfl := h34_
    obtain rfl := h37_
    obtain rfl := h40_
    obtain rfl := h43_
    refine (does_call (args := #[(Pt g_b g_o), (Fl r115), (Fl r121), (Iv A_g.z)]) cal38 (evs rfl) (c_impl_Grid_cell g_b g_o [(Fl r1), (Fl r3), (Fl r5), (Fl r7), (Iv A_g.x), (Iv A_g.y), (Iv A_g.z), (.slice p17 A_g.vals.length q18)] A_g r115 r121 A_g.z _ ((hc_g.ext (Ext.gr X271 E277)).ext hu) ⟨r1, r3, r5, r7, (.slice p17 A_g.vals.length q18), rfl, h2, h4, h6, h8, (Sl.ext (Sl.ext hs19 RF.mono (Ext.gr X271 E277)) RF.mono hu)⟩ (by simp only [h2, h4, h6, h8, h12, h14, h16, h112, h114, h116, h118, h120, h122, h208, h259]; first | exact hix | exact hiy | exact hiz) (by omega))).mono ?_; rintro v u' ⟨hx, ⟨rn1, hv, k0⟩⟩
    exact ⟨⟨rn1, hv, (by simp only [k0])⟩, hx⟩
  refine RW_d _ rfl (fun v => by dsimp only [List.set]; try rfl) (fun u hu hF => ?_) (fun v294 => ?_)
  · have h44_ : ∃ r_1 : Nat, v293 = (.tuple #[(Iv (cellI (cf .f32 r115) (cf .f32 r121) A_g.step A_g.z)), (Iv (min (cellI (cf .f32 r115) (cf .f32 r121) A_g.step A_g.z + 1) (A_g.z - 1))), (Fl r_1)]) ∧ cf .f32 r_1 = cellF (cf .f32 r115) (cf .f32 r121) A_g.step A_g.z := hF.1
    clear hF
    refine doesG_un rfl ?_
    obtain ⟨r44_1, rfl, h44_2⟩ := h44_
    refine (does_move (u := (.tuple #[(Iv (cellI (cf .f32 r115) (cf .f32 r121) A_g.step A_g.z)), (Iv (min (cellI (cf .f32 r115) (cf .f32 r121) A_g.step A_g.z + 1) (A_g.z - 1))), (Fl r44_1)])) (ev rfl)).mono ?_; rintro _ _ ⟨rfl, rfl⟩
    exact ⟨⟨r44_1, rfl, (by simp only [h44_2])⟩, Ext.refl _⟩
  refine RW_d _ rfl (fun v => by dsimp only [List.set]; try rfl) (fun u hu hF => ?_) (fun v295 => ?_)
  · have h30_ : ∃ r_1 : Nat, v294 = (.tuple #[(Iv (cellI (cf .f32 r115) (cf .f32 r121) A_g.step A_g.z)), (Iv (min (cellI (cf .f32 r115) (cf .f32 r121) A_g.step A_g.z + 1) (A_g.z - 1))), (Fl r_1)]) ∧ cf .f32 r_1 = cellF (cf .f32 r115) (cf .f32 r121) A_g.step A_g.z := hF.1
    clear hF
    refine doesG_un rfl ?_
    obtain ⟨r30_1, rfl, h30_2⟩ := h30_
    refine (does_extract (vs := #[(Iv (cellI (cf .f32 r115) (cf .f32 r121) A_g.step A_g.z)), (Iv (min (cellI (cf .f32 r115) (cf .f32 r121) A_g.step A_g.z + 1) (A_g.z - 1))), (Fl r30_1)]) (u := (Iv (cellI (cf .f32 r115) (cf .f32 r121) A_g.step A_g.z))) (ev rfl) rfl).mono ?_; rintro _ _ ⟨rfl, rfl⟩
    exact ⟨rfl, Ext.refl _⟩
  refine RW_d _ rfl (fun v => by dsimp only [List.set]; try rfl) (fun u hu hF => ?_) (fun v296 => ?_)
  · have h30_ : ∃ r_1 : Nat, v294 = (.tuple #[(Iv (cellI (cf .f32 r115) (cf .f32 r121) A_g.step A_g.z)), (Iv (min (cellI (cf .f32 r115) (cf .f32 r121) A_g.step A_g.z + 1) (A_g.z - 1))), (Fl r_1)]) ∧ cf .f32 r_1 = cellF (cf .f32 r115) (cf .f32 r121) A_g.step A_g.z := hF.1
    clear hF
    obtain ⟨r30_1, rfl, h30_2⟩ := h30_
    exact ⟨_, yields_is rfl (run_extract (ev rfl) rfl), rfl⟩
  refine RW_d _ rfl (fun v => by dsimp only [List.set]; try rfl) (fun u hu hF => ?_) (fun v297 => ?_)
  · have h30_ : ∃ r_1 : Nat, v294 = (.tuple #[(Iv (cellI (cf .f32 r115) (cf .f32 r121) A_g.step A_g.z)), (Iv (min (cellI (cf .f32 r115) (cf .f32 r121) A_g.step A_g.z + 1) (A_g.z - 1))), (Fl r_1)]) ∧ cf .f32 r_1 = cellF (cf .f32 r115) (cf .f32 r121) A_g.step A_g.z := hF.1
    clear hF
    obtain ⟨r30_1, rfl, h30_2⟩ := h30_
    exact ⟨_, yields_is rfl (run_extract (ev rfl) rfl), ⟨r30_1, rfl, (by simp only [h30_2])⟩⟩
  refine RW_d _ rfl (fun v => by dsimp only [List.set]; try rfl) (fun u hu hF => ?_) (fun v298 => ?_)
  · have h31_ : v280 = (Iv 2) := hF.1
    clear hF
    refine doesG_un rfl ?_
    obtain rfl := h31_
    refine (does_indexAt_run (r := (Pt b39 2)) (ev rfl) (ev rfl) (fun w => ia64_2 _ _ w)).mono ?_; rintro _ _ ⟨rfl, rfl⟩
    exact ⟨rfl, Ext.refl _⟩
  refine RW_fin ?_; intro w299 E300 hP301
  obtain ⟨⟨⟨⟨⟨⟨⟨⟨⟨⟨⟨⟨⟨⟨⟨⟨⟨⟨⟨-, -⟩, q302⟩, q303⟩, -⟩, -⟩, -⟩, -⟩, -⟩, -⟩, -⟩, -⟩, -⟩, -⟩, -⟩, -⟩, q304⟩, q305⟩, q306⟩, q307⟩ := hP301
  have X308 := Ext.gr X279 E300
  have q302 : v281 = (Iv 2) := q302
  obtain rfl := q302
  have q303 : v282 = (Iv 2) := q303
  obtain rfl := q303
  have q304 : v295 = (Iv (cellI (cf .f32 r115) (cf .f32 r121) A_g.step A_g.z)) := q304
  obtain rfl := q304
  have q305 : v296 = (Iv (min (cellI (cf .f32 r115) (cf .f32 r121) A_g.step A_g.z + 1) (A_g.z - 1))) := q305
  obtain rfl := q305
  have q306 : ∃ r_1 : Nat, v297 = (Fl r_1) ∧ cf .f32 r_1 = cellF (cf .f32 r115) (cf .f32 r121) A_g.step A_g.z := q306
  obtain ⟨r309, rfl, h310⟩ := q306
  have q307 : v298 = (Pt b39 2) := q307
  obtain rfl := q307
  show wpList _ _ _ _ (fr [_, _, _, _, _, _, _, _, _, _, _, _, _, _, _, _, _, _, _, _, _, _, _, _, _, _, _, _, _, _, _, _, _, _, _, _, _, _, _, _, _, _, _, _, _, _, _, _, _, _, _, _, _, _, _, _, _, _, _, _, _, _, _, _, _, _]) _
  refine seqn rfl rfl (does_store (n := 1) (cs := [(Iv (cellI (cf .f32 r111) (cf .f32 r117) A_g.step A_g.x)), (Iv (cellI (cf .f32 r113) (cf .f32 r119) A_g.step A_g.y)), (Iv 0)]) (u := (Iv (cellI (cf .f32 r115) (cf .f32 r121) A_g.step A_g.z))) (ev rfl) (ev rfl) Try.sizeOf2 rfl ((((hB261.wr W264 (Nat.ne_of_lt n57)).wr W268 (Nat.ne_of_lt n68)).ext E277).ext E300) (Nat.le_of_ble_eq_true rfl) rfl) ?_; rintro _ w313 ⟨rfl, W311, hB312⟩
  change Blk _ _ [(Iv (cellI (cf .f32 r111) (cf .f32 r117) A_g.step A_g.x)), (Iv (cellI (cf .f32 r113) (cf .f32 r119) A_g.step A_g.y)), (Iv (cellI (cf .f32 r115) (cf .f32 r121) A_g.step A_g.z))] at hB312
  have X314 := Below.wr X308 W311 g47
  refine q_is rfl rfl (does_indexAt_run (r := (Pt b49 2)) (ev rfl) (ev rfl) (fun w => ia64_2 _ _ w)) (by dsimp only [List.set]; try rfl) ?_
  refine seqn rfl rfl (does_store (n := 1) (cs := [(Iv (min (cellI (cf .f32 r111) (cf .f32 r117) A_g.step A_g.x + 1) (A_g.x - 1))), (Iv (min (cellI (cf .f32 r113) (cf .f32 r119) A_g.step A_g.y + 1) (A_g.y - 1))), (Iv 0)]) (u := (Iv (min (cellI (cf .f32 r115) (cf .f32 r121) A_g.step A_g.z + 1) (A_g.z - 1)))) (ev rfl) (ev rfl) Try.sizeOf2 rfl ((((hB265.wr W268 (Nat.ne_of_lt n69)).ext E277).ext E300).wr W311 (Nat.ne_of_gt n57)) (Nat.le_of_ble_eq_true rfl) rfl) ?_; rintro _ w317 ⟨rfl, W315, hB316⟩
  change Blk _ _ [(Iv (min (cellI (cf .f32 r111) (cf .f32 r117) A_g.step A_g.x + 1) (A_g.x - 1))), (Iv (min (cellI (cf .f32 r113) (cf .f32 r119) A_g.step A_g.y + 1) (A_g.y - 1))), (Iv (min (cellI (cf .f32 r115) (cf .f32 r121) A_g.step A_g.z + 1) (A_g.z - 1)))] at hB316
  have X318 := Below.wr X314 W315 g58
  refine q_is rfl rfl (does_indexAt_run (r := (Pt b60 2)) (ev rfl) (ev rfl) (fun w => ia54_2 _ _ w)) (by dsimp only [List.set]; try rfl) ?_
  refine seqn rfl rfl (does_store (n := 1) (cs := [(Fl r207), (Fl r258), (Fl 0)]) (u := (Fl r309)) (ev rfl) (ev rfl) Try.sizeOf22 rfl ((((hB269.ext E277).ext E300).wr W311 (Nat.ne_of_gt n68)).wr W315 (Nat.ne_of_gt n69)) (Nat.le_of_ble_eq_true rfl) rfl) ?_; rintro _ w321 ⟨rfl, W319, hB320⟩
  change Blk _ _ [(Fl r207), (Fl r258), (Fl r309)] at hB320
  have X322 := Below.wr X318 W319 g70
  refine wpList_nil (hK274 _ _ ?_)
  refine wp_region_lit ?_
  refine q_is rfl rfl (does_iarith (p := 2) (q := 1) (r := (3)) (ev rfl) (ev rfl) (.inl ⟨rfl, rfl⟩)) (by dsimp only [List.set]; try rfl) ?_
  refine q_is rfl rfl (does_move (u := (Iv 3)) (ev rfl)) (by dsimp only [List.set]; try rfl) ?_
  refine wpList_nil ?_
  refine un_step ?_
  refine wp_seq_k fun K323 hK323 => ?_
  refine wp_region_lit ?_
  refine q_is rfl rfl (does_icmp (p := 3) (q := 3) (.inr (.inr (.inl rfl))) (ev rfl) (ev rfl)) (by dsimp only [List.set]; try rfl) ?_
  refine wpList_nil (hK323 _ _ ?_)
  refine wp_seq_k fun K324 hK324 => ?_
  refine wp_cond_false (ev rfl) ?_
  refine wp_exit ?_
  refine hK168 _ _ ?_
  refine wp_seq_k fun K325 hK325 => ?_
  refine wp_region_lit ?_
  refine seqd rfl rfl (does_alloc z63) ?_; rintro _ w330 ⟨b326, rfl, hb327, hB328, E329⟩
  have n331 : g_b < b326 := Nat.lt_of_lt_of_le (cell_lt (Cells.at (hc_g.ext X322) 0 rfl)) hb327
  have n332 : b21 < b326 := Nat.lt_of_lt_of_le (Blk.lt (((((((((((((((((((((((((((hB23.ext E32).ext E42).ext E52).ext E63).wr W72 (Nat.ne_of_lt n45)).wr W76 (Nat.ne_of_lt n55)).wr W80 (Nat.ne_of_lt n66)).ext E86).kl E102 nin0).wr W156 (Nat.ne_of_lt n127)).wr W160 (Nat.ne_of_lt n137)).wr W164 (Nat.ne_of_lt n147)).ext E175).ext E198).wr W209 (Nat.ne_of_lt n45)).wr W213 (Nat.ne_of_lt n55)).wr W217 (Nat.ne_of_lt n66)).ext E226).ext E249).wr W260 (Nat.ne_of_lt n45)).wr W264 (Nat.ne_of_lt n55)).wr W268 (Nat.ne_of_lt n66)).ext E277).ext E300).wr W311 (Nat.ne_of_lt n45)).wr W315 (Nat.ne_of_lt n55)).wr W319 (Nat.ne_of_lt n66))) hb327
  have n333 : b29 < b326 := Nat.lt_of_lt_of_le (Blk.lt ((((((((((((((((((((((((((hB31.ext E42).ext E52).ext E63).wr W72 (Nat.ne_of_lt n46)).wr W76 (Nat.ne_of_lt n56)).wr W80 (Nat.ne_of_lt n67)).ext E86).kl E102 nin0).wr W156 (Nat.ne_of_lt n128)).wr W160 (Nat.ne_of_lt n138)).wr W164 (Nat.ne_of_lt n148)).ext E175).ext E198).wr W209 (Nat.ne_of_lt n46)).wr W213 (Nat.ne_of_lt n56)).wr W217 (Nat.ne_of_lt n67)).ext E226).ext E249).wr W260 (Nat.ne_of_lt n46)).wr W264 (Nat.ne_of_lt n56)).wr W268 (Nat.ne_of_lt n67)).ext E277).ext E300).wr W311 (Nat.ne_of_lt n46)).wr W315 (Nat.ne_of_lt n56)).wr W319 (Nat.ne_of_lt n67))) hb327
  have n334 : b123 < b326 := Nat.lt_of_lt_of_le (Blk.lt (((((((((((((((((hB157.wr W160 (Ne.symm n153)).wr W164 (Ne.symm n154)).ext E175).ext E198).wr W209 (Nat.ne_of_gt n129)).wr W213 (Nat.ne_of_gt n130)).wr W217 (Nat.ne_of_gt n131)).ext E226).ext E249).wr W260 (Nat.ne_of_gt n129)).wr W264 (Nat.ne_of_gt n130)).wr W268 (Nat.ne_of_gt n131)).ext E277).ext E300).wr W311 (Nat.ne_of_gt n129)).wr W315 (Nat.ne_of_gt n130)).wr W319 (Nat.ne_of_gt n131))) hb327
  have n335 : b133 < b326 := Nat.lt_of_lt_of_le (Blk.lt ((((((((((((((((hB161.wr W164 (Ne.symm n155)).ext E175).ext E198).wr W209 (Nat.ne_of_gt n139)).wr W213 (Nat.ne_of_gt n140)).wr W217 (Nat.ne_of_gt n141)).ext E226).ext E249).wr W260 (Nat.ne_of_gt n139)).wr W264 (Nat.ne_of_gt n140)).wr W268 (Nat.ne_of_gt n141)).ext E277).ext E300).wr W311 (Nat.ne_of_gt n139)).wr W315 (Nat.ne_of_gt n140)).wr W319 (Nat.ne_of_gt n141))) hb327
  have n336 : b143 < b326 := Nat.lt_of_lt_of_le (Blk.lt (((((((((((((((hB165.ext E175).ext E198).wr W209 (Nat.ne_of_gt n149)).wr W213 (Nat.ne_of_gt n150)).wr W217 (Nat.ne_of_gt n151)).ext E226).ext E249).wr W260 (Nat.ne_of_gt n149)).wr W264 (Nat.ne_of_gt n150)).wr W268 (Nat.ne_of_gt n151)).ext E277).ext E300).wr W311 (Nat.ne_of_gt n149)).wr W315 (Nat.ne_of_gt n150)).wr W319 (Nat.ne_of_gt n151))) hb327
  have n337 : b39 < b326 := Nat.lt_of_lt_of_le (Blk.lt ((hB312.wr W315 (Nat.ne_of_lt n57)).wr W319 (Nat.ne_of_lt n68))) hb327
  have n338 : b49 < b326 := Nat.lt_of_lt_of_le (Blk.lt (hB316.wr W319 (Nat.ne_of_lt n69))) hb327
  have n339 : b60 < b326 := Nat.lt_of_lt_of_le (Blk.lt hB320) hb327
  have g340 : w.heap.size ≤ b326 := Nat.le_trans (Below.size X322) hb327
  change Blk _ _ [.nilFunc] at hB328
  have X341 := Ext.gr X322 E329
  show wpList _ _ _ _ (fr [_, _, _, _, _, _, _, _, _, _, _, _, _, _, _, _, _, _, _, _, _, _, _, _, _, _, _, _, _, _, _, _, _, _, _, _, _, _, _, _, _, _, _, _, _, _, _, _, _, _, _, _, _, _, _, _, _, _, _, _, _, _, _, _, _, _]) _
  refine seqn rfl rfl (does_store (n := 1) (cs := [.nilFunc]) (u := (.func (.func 39) #[] #[])) (ev rfl) (ev rfl) Try.sizeOf63 rfl hB328 (Nat.le_of_ble_eq_true rfl) rfl) ?_; rintro _ w344 ⟨rfl, W342, hB343⟩
  change Blk _ _ [(.func (.func 39) #[] #[])] at hB343
  have X345 := Below.wr X341 W342 g340
  refine wpList_nil (hK325 _ _ ?_)
  refine wp_seq_k fun K346 hK346 => ?_
  refine wp_region_lit ?_
  refine q_is rfl rfl (does_makeFunc (u := (.func (.func 40) #[] #[(Pt b326 0), (Pt b21 0), (Pt b39 0), (Pt b49 0), (Pt b60 0)])) (evs rfl) (evs rfl) rfl) (by dsimp only [List.set]; try rfl) ?_
  refine seqd rfl rfl (does_alloc z70) ?_; rintro _ w351 ⟨b347, rfl, hb348, hB349, E350⟩
  have n352 : g_b < b347 := Nat.lt_of_lt_of_le (cell_lt (Cells.at (hc_g.ext X345) 0 rfl)) hb348
  have n353 : b21 < b347 := Nat.lt_of_lt_of_le (Blk.lt (((((((((((((((((((((((((((((hB23.ext E32).ext E42).ext E52).ext E63).wr W72 (Nat.ne_of_lt n45)).wr W76 (Nat.ne_of_lt n55)).wr W80 (Nat.ne_of_lt n66)).ext E86).kl E102 nin0).wr W156 (Nat.ne_of_lt n127)).wr W160 (Nat.ne_of_lt n137)).wr W164 (Nat.ne_of_lt n147)).ext E175).ext E198).wr W209 (Nat.ne_of_lt n45)).wr W213 (Nat.ne_of_lt n55)).wr W217 (Nat.ne_of_lt n66)).ext E226).ext E249).wr W260 (Nat.ne_of_lt n45)).wr W264 (Nat.ne_of_lt n55)).wr W268 (Nat.ne_of_lt n66)).ext E277).ext E300).wr W311 (Nat.ne_of_lt n45)).wr W315 (Nat.ne_of_lt n55)).wr W319 (Nat.ne_of_lt n66)).ext E329).wr W342 (Nat.ne_of_lt n332))) hb348
  have n354 : b29 < b347 := Nat.lt_of_lt_of_le (Blk.lt ((((((((((((((((((((((((((((hB31.ext E42).ext E52).ext E63).wr W72 (Nat.ne_of_lt n46)).wr W76 (Nat.ne_of_lt n56)).wr W80 (Nat.ne_of_lt n67)).ext E86).kl E102 nin0).wr W156 (Nat.ne_of_lt n128)).wr W160 (Nat.ne_of_lt n138)).wr W164 (Nat.ne_of_lt n148)).ext E175).ext E198).wr W209 (Nat.ne_of_lt n46)).wr W213 (Nat.ne_of_lt n56)).wr W217 (Nat.ne_of_lt n67)).ext E226).ext E249).wr W260 (Nat.ne_of_lt n46)).wr W264 (Nat.ne_of_lt n56)).wr W268 (Nat.ne_of_lt n67)).ext E277).ext E300).wr W311 (Nat.ne_of_lt n46)).wr W315 (Nat.ne_of_lt n56)).wr W319 (Nat.ne_of_lt n67)).ext E329).wr W342 (Nat.ne_of_lt n333))) hb348
  have n355 : b123 < b347 := Nat.lt_of_lt_of_le (Blk.lt (((((((((((((((((((hB157.wr W160 (Ne.symm n153)).wr W164 (Ne.symm n154)).ext E175).ext E198).wr W209 (Nat.ne_of_gt n129)).wr W213 (Nat.ne_of_gt n130)).wr W217 (Nat.ne_of_gt n131)).ext E226).ext E249).wr W260 (Nat.ne_of_gt n129)).wr W264 (Nat.ne_of_gt n130)).wr W268 (Nat.ne_of_gt n131)).ext E277).ext E300).wr W311 (Nat.ne_of_gt n129)).wr W315 (Nat.ne_of_gt n130)).wr W319 (Nat.ne_of_gt n131)).ext E329).wr W342 (Nat.ne_of_lt n334))) hb348
  have n356 : b133 < b347 := Nat.lt_of_lt_of_le (Blk.lt ((((((((((((((((((hB161.wr W164 (Ne.symm n155)).ext E175).ext E198).wr W209 (Nat.ne_of_gt n139)).wr W213 (Nat.ne_of_gt n140)).wr W217 (Nat.ne_of_gt n141)).ext E226).ext E249).wr W260 (Nat.ne_of_gt n139)).wr W264 (Nat.ne_of_gt n140)).wr W268 (Nat.ne_of_gt n141)).ext E277).ext E300).wr W311 (Nat.ne_of_gt n139)).wr W315 (Nat.ne_of_gt n140)).wr W319 (Nat.ne_of_gt n141)).ext E329).wr W342 (Nat.ne_of_lt n335))) hb348
  have n357 : b143 < b347 := Nat.lt_of_lt_of_le (Blk.lt (((((((((((((((((hB165.ext E175).ext E198).wr W209 (Nat.ne_of_gt n149)).wr W213 (Nat.ne_of_gt n150)).wr W217 (Nat.ne_of_gt n151)).ext E226).ext E249).wr W260 (Nat.ne_of_gt n149)).wr W264 (Nat.ne_of_gt n150)).wr W268 (Nat.ne_of_gt n151)).ext E277).ext E300).wr W311 (Nat.ne_of_gt n149)).wr W315 (Nat.ne_of_gt n150)).wr W319 (Nat.ne_of_gt n151)).ext E329).wr W342 (Nat.ne_of_lt n336))) hb348
  have n358 : b39 < b347 := Nat.lt_of_lt_of_le (Blk.lt ((((hB312.wr W315 (Nat.ne_of_lt n57)).wr W319 (Nat.ne_of_lt n68)).ext E329).wr W342 (Nat.ne_of_lt n337))) hb348
  have n359 : b49 < b347 := Nat.lt_of_lt_of_le (Blk.lt (((hB316.wr W319 (Nat.ne_of_lt n69)).ext E329).wr W342 (Nat.ne_of_lt n338))) hb348
  have n360 : b60 < b347 := Nat.lt_of_lt_of_le (Blk.lt ((hB320.ext E329).wr W342 (Nat.ne_of_lt n339))) hb348
  have n361 : b326 < b347 := Nat.lt_of_lt_of_le (Blk.lt hB343) hb348
  have g362 : w.heap.size ≤ b347 := Nat.le_trans (Below.size X345) hb348
  change Blk _ _ [.nilFunc] at hB349
  have X363 := Ext.gr X345 E350
  show wpList _ _ _ _ (fr [_, _, _, _, _, _, _, _, _, _, _, _, _, _, _, _, _, _, _, _, _, _, _, _, _, _, _, _, _, _, _, _, _, _, _, _, _, _, _, _, _, _, _, _, _, _, _, _, _, _, _, _, _, _, _, _, _, _, _, _, _, _, _, _, _, _]) _
  refine seqn rfl rfl (does_store (n := 1) (cs := [.nilFunc]) (u := (.func (.func 40) #[] #[(Pt b326 0), (Pt b21 0), (Pt b39 0), (Pt b49 0), (Pt b60 0)])) (ev rfl) (ev rfl) Try.sizeOf70 rfl hB349 (Nat.le_of_ble_eq_true rfl) rfl) ?_; rintro _ w366 ⟨rfl, W364, hB365⟩
  change Blk _ _ [(.func (.func 40) #[] #[(Pt b326 0), (Pt b21 0), (Pt b39 0), (Pt b49 0), (Pt b60 0)])] at hB365
  have X367 := Below.wr X363 W364 g362
  refine wpList_nil (hK346 _ _ ?_)
  refine wp_seq_k fun K368 hK368 => ?_
  refine wp_region_lit ?_
  refine q_is rfl rfl (does_makeFunc (u := (.func (.func 42) #[] #[(Pt b326 0), (Pt b347 0), (Pt b39 0), (Pt b49 0), (Pt b60 0)])) (evs rfl) (evs rfl) rfl) (by dsimp only [List.set]; try rfl) ?_
  refine q_is rfl rfl (does_assign (u := (.func (.func 42) #[] #[(Pt b326 0), (Pt b347 0), (Pt b39 0), (Pt b49 0), (Pt b60 0)])) (ev rfl)) (by dsimp only [List.set]; try rfl) ?_
  refine wpList_nil (hK368 _ _ ?_)
  refine wp_seq_k fun K369 hK369 => ?_
  refine region_draw (
    [Fact.pure [] (fun v => v = (.func (.func 39) #[] #[])),
    Fact.pure [] (fun v => v = (.func (.func 42) #[] #[(Pt b326 0), (Pt b347 0), (Pt b39 0), (Pt b49 0), (Pt b60 0)])),
    Fact.pure [] (fun v => v = (Pt b39 2)),
    Fact.pure [56] (fun v => v = (Iv (cellI (cf .f32 r115) (cf .f32 r121) A_g.step A_g.z))),
    Fact.pure [57, 55] (fun v => ∃ r_1 : Nat, v = (Fl r_1) ∧ cf .f32 r_1 = (fun x y z => mixF x y z) ((fun y z => (fun x y z => mixF x y z) (vat A_g (cellI (cf .f32 r111) (cf .f32 r117) A_g.step A_g.x) y z) (vat A_g (min (cellI (cf .f32 r111) (cf .f32 r117) A_g.step A_g.x + 1) (A_g.x - 1)) y z) (cf .f32 r207)) (cellI (cf .f32 r113) (cf .f32 r119) A_g.step A_g.y) (cellI (cf .f32 r115) (cf .f32 r121) A_g.step A_g.z)) ((fun y z => (fun x y z => mixF x y z) (vat A_g (cellI (cf .f32 r111) (cf .f32 r117) A_g.step A_g.x) y z) (vat A_g (min (cellI (cf .f32 r111) (cf .f32 r117) A_g.step A_g.x + 1) (A_g.x - 1)) y z) (cf .f32 r207)) (min (cellI (cf .f32 r113) (cf .f32 r119) A_g.step A_g.y + 1) (A_g.y - 1)) (cellI (cf .f32 r115) (cf .f32 r121) A_g.step A_g.z)) (cf .f32 r258)),
    Fact.pure [] (fun v => v = (.func (.func 42) #[] #[(Pt b326 0), (Pt b347 0), (Pt b39 0), (Pt b49 0), (Pt b60 0)])),
    Fact.pure [] (fun v => v = (Pt b49 2)),
    Fact.pure [60] (fun v => v = (Iv (min (cellI (cf .f32 r115) (cf .f32 r121) A_g.step A_g.z + 1) (A_g.z - 1)))),
    Fact.pure [61, 59] (fun v => ∃ r_1 : Nat, v = (Fl r_1) ∧ cf .f32 r_1 = (fun x y z => mixF x y z) ((fun y z => (fun x y z => mixF x y z) (vat A_g (cellI (cf .f32 r111) (cf .f32 r117) A_g.step A_g.x) y z) (vat A_g (min (cellI (cf .f32 r111) (cf .f32 r117) A_g.step A_g.x + 1) (A_g.x - 1)) y z) (cf .f32 r207)) (cellI (cf .f32 r113) (cf .f32 r119) A_g.step A_g.y) (min (cellI (cf .f32 r115) (cf .f32 r121) A_g.step A_g.z + 1) (A_g.z - 1))) ((fun y z => (fun x y z => mixF x y z) (vat A_g (cellI (cf .f32 r111) (cf .f32 r117) A_g.step A_g.x) y z) (vat A_g (min (cellI (cf .f32 r111) (cf .f32 r117) A_g.step A_g.x + 1) (A_g.x - 1)) y z) (cf .f32 r207)) (min (cellI (cf .f32 r113) (cf .f32 r119) A_g.step A_g.y + 1) (A_g.y - 1)) (min (cellI (cf .f32 r115) (cf .f32 r121) A_g.step A_g.z + 1) (A_g.z - 1))) (cf .f32 r258)),
    Fact.pure [] (fun v => v = (Pt b60 2)),
    Fact.pure [63] (fun v => v = (Fl r309)),
    Fact.pure [58, 62, 64, 54] (fun v => ∃ r_1 : Nat, v = (Fl r_1) ∧ cf .f32 r_1 = mixF ((fun x y z => mixF x y z) ((fun y z => (fun x y z => mixF x y z) (vat A_g (cellI (cf .f32 r111) (cf .f32 r117) A_g.step A_g.x) y z) (vat A_g (min (cellI (cf .f32 r111) (cf .f32 r117) A_g.step A_g.x + 1) (A_g.x - 1)) y z) (cf .f32 r207)) (cellI (cf .f32 r113) (cf .f32 r119) A_g.step A_g.y) (cellI (cf .f32 r115) (cf .f32 r121) A_g.step A_g.z)) ((fun y z => (fun x y z => mixF x y z) (vat A_g (cellI (cf .f32 r111) (cf .f32 r117) A_g.step A_g.x) y z) (vat A_g (min (cellI (cf .f32 r111) (cf .f32 r117) A_g.step A_g.x + 1) (A_g.x - 1)) y z) (cf .f32 r207)) (min (cellI (cf .f32 r113) (cf .f32 r119) A_g.step A_g.y + 1) (A_g.y - 1)) (cellI (cf .f32 r115) (cf .f32 r121) A_g.step A_g.z)) (cf .f32 r258)) ((fun x y z => mixF x y z) ((fun y z => (fun x y z => mixF x y z) (vat A_g (cellI (cf .f32 r111) (cf .f32 r117) A_g.step A_g.x) y z) (vat A_g (min (cellI (cf .f32 r111) (cf .f32 r117) A_g.step A_g.x + 1) (A_g.x - 1)) y z) (cf .f32 r207)) (cellI (cf .f32 r113) (cf .f32 r119) A_g.step A_g.y) (min (cellI (cf .f32 r115) (cf .f32 r121) A_g.step A_g.z + 1) (A_g.z - 1))) ((fun y z => (fun x y z => mixF x y z) (vat A_g (cellI (cf .f32 r111) (cf .f32 r117) A_g.step A_g.x) y z) (vat A_g (min (cellI (cf .f32 r111) (cf .f32 r117) A_g.step A_g.x + 1) (A_g.x - 1)) y z) (cf .f32 r207)) (min (cellI (cf .f32 r113) (cf .f32 r119) A_g.step A_g.y + 1) (A_g.y - 1)) (min (cellI (cf .f32 r115) (cf .f32 r121) A_g.step A_g.z + 1) (A_g.z - 1))) (cf .f32 r258)) (cf .f32 r309))]) mixed (by kernel_rfl) (by intro _ _ d _ _ h; cases d <;> exact h) ?_
  obtain ⟨w370, hw372⟩ : ∃ w', w' = World.drew w366 := ⟨_, rfl⟩; rw [← hw372]; have E371 : Ext w366 w370 := by rw [hw372]; exact Ext.draw _
  clear hw372
  have X373 := Ext.gr X367 E371
  refine RW_d _ rfl (fun v => by dsimp only [List.set]; try rfl) (fun u hu hF => ?_) (fun v374 => ?_)
  · clear hF
    refine doesG_un rfl ?_
    refine (does_load (u := (.func (.func 39) #[] #[])) (ev rfl) Try.isAgg63 (Cells.at (Blk.cells ((((hB343.ext E350).wr W364 (Nat.ne_of_lt n361)).ext E371).ext hu)) 0 rfl)).mono ?_; rintro _ _ ⟨rfl, rfl⟩
    exact ⟨rfl, Ext.refl _⟩
  refine RW_d _ rfl (fun v => by dsimp only [List.set]; try rfl) (fun u hu hF => ?_) (fun v375 => ?_)
  · clear hF
    refine doesG_un rfl ?_
    refine (does_move (u := (.func (.func 42) #[] #[(Pt b326 0), (Pt b347 0), (Pt b39 0), (Pt b49 0), (Pt b60 0)])) (ev rfl)).mono ?_; rintro _ _ ⟨rfl, rfl⟩
    exact ⟨rfl, Ext.refl _⟩
  refine RW_d _ rfl (fun v => by dsimp only [List.set]; try rfl) (fun u hu hF => ?_) (fun v376 => ?_)
  · clear hF
    refine doesG_un rfl ?_
    refine (does_indexAt_run (r := (Pt b39 2)) (ev rfl) (ev rfl) (fun w => ia64_2 _ _ w)).mono ?_; rintro _ _ ⟨rfl, rfl⟩
    exact ⟨rfl, Ext.refl _⟩
  refine RW_d _ rfl (fun v => by dsimp only [List.set]; try rfl) (fun u hu hF => ?_) (fun v377 => ?_)
  · have h56_ : v376 = (Pt b39 2) := hF.1
    clear hF
    refine doesG_un rfl ?_
    obtain rfl := h56_
    refine (does_load (u := (Iv (cellI (cf .f32 r115) (cf .f32 r121) A_g.step A_g.z))) (ev rfl) Try.isAgg2 (Cells.at (Blk.cells ((((((((hB312.wr W315 (Nat.ne_of_lt n57)).wr W319 (Nat.ne_of_lt n68)).ext E329).wr W342 (Nat.ne_of_lt n337)).ext E350).wr W364 (Nat.ne_of_lt n358)).ext E371).ext hu)) 2 rfl)).mono ?_; rintro _ _ ⟨rfl, rfl⟩
    exact ⟨rfl, Ext.refl _⟩
  refine RW_d _ rfl (fun v => by dsimp only [List.set]; try rfl) (fun u hu hF => ?_) (fun v378 => ?_)
  · have h57_ : v377 = (Iv (cellI (cf .f32 r115) (cf .f32 r121) A_g.step A_g.z)) := hF.1
    have h55_ : v375 = (.func (.func 42) #[] #[(Pt b326 0), (Pt b347 0), (Pt b39 0), (Pt b49 0), (Pt b60 0)]) := hF.2.1
    clear hF
    refine doesG_un rfl ?_
    obtain rfl := h57_
    obtain rfl := h55_
    refine (does_callv (fst := #[]) (args := #[(Iv (cellI (cf .f32 r115) (cf .f32 r121) A_g.step A_g.z))]) (cap := #[(Pt b326 0), (Pt b347 0), (Pt b39 0), (Pt b49 0), (Pt b60 0)]) (all := #[(Iv (cellI (cf .f32 r115) (cf .f32 r121) A_g.step A_g.z)), (Pt b326 0), (Pt b347 0), (Pt b39 0), (Pt b49 0), (Pt b60 0)]) (ev rfl) cal42 (evs rfl) rfl (c_impl_Grid_between_3 (cellI (cf .f32 r115) (cf .f32 r121) A_g.step A_g.z) b326 0 (.func (.func 39) #[] #[]) (fun x y z => mixF x y z) b347 0 (.func (.func 40) #[] #[(Pt b326 0), (Pt b21 0), (Pt b39 0), (Pt b49 0), (Pt b60 0)]) (fun y z => (0 ≤ idxG A_g (cellI (cf .f32 r111) (cf .f32 r117) A_g.step A_g.x) y z ∧ idxG A_g (cellI (cf .f32 r111) (cf .f32 r117) A_g.step A_g.x) y z < A_g.vals.length) ∧ (0 ≤ idxG A_g (min (cellI (cf .f32 r111) (cf .f32 r117) A_g.step A_g.x + 1) (A_g.x - 1)) y z ∧ idxG A_g (min (cellI (cf .f32 r111) (cf .f32 r117) A_g.step A_g.x + 1) (A_g.x - 1)) y z < A_g.vals.length)) (fun y z => (fun x y z => mixF x y z) (vat A_g (cellI (cf .f32 r111) (cf .f32 r117) A_g.step A_g.x) y z) (vat A_g (min (cellI (cf .f32 r111) (cf .f32 r117) A_g.step A_g.x + 1) (A_g.x - 1)) y z) (cf .f32 r207)) b39 0 (cellI (cf .f32 r111) (cf .f32 r117) A_g.step A_g.x) (cellI (cf .f32 r113) (cf .f32 r119) A_g.step A_g.y) (cellI (cf .f32 r115) (cf .f32 r121) A_g.step A_g.z) b49 0 (min (cellI (cf .f32 r111) (cf .f32 r117) A_g.step A_g.x + 1) (A_g.x - 1)) (min (cellI (cf .f32 r113) (cf .f32 r119) A_g.step A_g.y + 1) (A_g.y - 1)) (min (cellI (cf .f32 r115) (cf .f32 r121) A_g.step A_g.z + 1) (A_g.z - 1)) b60 0 r207 r258 r309 _ ⟨39, #[], #[], rfl, cal39, fun r t q u hu' => by simpa using (c_impl_Grid_between_1 r t q u)⟩ (Blk.cells ((((hB343.ext E350).wr W364 (Nat.ne_of_lt n361)).ext E371).ext hu)) ⟨40, #[], #[(Pt b326 0), (Pt b21 0), (Pt b39 0), (Pt b49 0), (Pt b60 0)], rfl, cal40, fun y z u hD hu' => by simpa using (c_impl_Grid_between_2 y z b326 0 (.func (.func 39) #[] #[]) (fun x y z => mixF x y z) b21 0 g_b g_o [(Fl r1), (Fl r3), (Fl r5), (Fl r7), (Iv A_g.x), (Iv A_g.y), (Iv A_g.z), (.slice p17 A_g.vals.length q18)] A_g b39 0 (cellI (cf .f32 r111) (cf .f32 r117) A_g.step A_g.x) (cellI (cf .f32 r113) (cf .f32 r119) A_g.step A_g.y) (cellI (cf .f32 r115) (cf .f32 r121) A_g.step A_g.z) b49 0 (min (cellI (cf .f32 r111) (cf .f32 r117) A_g.step A_g.x + 1) (A_g.x - 1)) (min (cellI (cf .f32 r113) (cf .f32 r119) A_g.step A_g.y + 1) (A_g.y - 1)) (min (cellI (cf .f32 r115) (cf .f32 r121) A_g.step A_g.z + 1) (A_g.z - 1)) b60 0 r207 r258 r309 u ⟨39, #[], #[], rfl, cal39, fun r t q u hu' => by simpa using (c_impl_Grid_between_1 r t q u)⟩ (Blk.cells ((((hB343.ext E350).wr W364 (Nat.ne_of_lt n361)).ext E371).ext (Ext.gr hu hu'))) ((hc_g.ext (Ext.gr X367 E371)).ext (Ext.gr hu hu')) ⟨r1, r3, r5, r7, (.slice p17 A_g.vals.length q18), rfl, h2, h4, h6, h8, (Sl.ext (Sl.ext hs19 RF.mono (Ext.gr X367 E371)) RF.mono (Ext.gr hu hu'))⟩ (Blk.cells (((((((((((((((((((((((((((((((((hB23.ext E32).ext E42).ext E52).ext E63).wr W72 (Nat.ne_of_lt n45)).wr W76 (Nat.ne_of_lt n55)).wr W80 (Nat.ne_of_lt n66)).ext E86).kl E102 nin0).wr W156 (Nat.ne_of_lt n127)).wr W160 (Nat.ne_of_lt n137)).wr W164 (Nat.ne_of_lt n147)).ext E175).ext E198).wr W209 (Nat.ne_of_lt n45)).wr W213 (Nat.ne_of_lt n55)).wr W217 (Nat.ne_of_lt n66)).ext E226).ext E249).wr W260 (Nat.ne_of_lt n45)).wr W264 (Nat.ne_of_lt n55)).wr W268 (Nat.ne_of_lt n66)).ext E277).ext E300).wr W311 (Nat.ne_of_lt n45)).wr W315 (Nat.ne_of_lt n55)).wr W319 (Nat.ne_of_lt n66)).ext E329).wr W342 (Nat.ne_of_lt n332)).ext E350).wr W364 (Nat.ne_of_lt n353)).ext E371).ext (Ext.gr hu hu'))) (Blk.cells ((((((((hB312.wr W315 (Nat.ne_of_lt n57)).wr W319 (Nat.ne_of_lt n68)).ext E329).wr W342 (Nat.ne_of_lt n337)).ext E350).wr W364 (Nat.ne_of_lt n358)).ext E371).ext (Ext.gr hu hu'))) (Blk.cells (((((((hB316.wr W319 (Nat.ne_of_lt n69)).ext E329).wr W342 (Nat.ne_of_lt n338)).ext E350).wr W364 (Nat.ne_of_lt n359)).ext E371).ext (Ext.gr hu hu'))) (Blk.cells ((((((hB320.ext E329).wr W342 (Nat.ne_of_lt n339)).ext E350).wr W364 (Nat.ne_of_lt n360)).ext E371).ext (Ext.gr hu hu'))) hD.1 hD.2)⟩ (Blk.cells ((hB365.ext E371).ext hu)) (Blk.cells ((((((((hB312.wr W315 (Nat.ne_of_lt n57)).wr W319 (Nat.ne_of_lt n68)).ext E329).wr W342 (Nat.ne_of_lt n337)).ext E350).wr W364 (Nat.ne_of_lt n358)).ext E371).ext hu)) (Blk.cells (((((((hB316.wr W319 (Nat.ne_of_lt n69)).ext E329).wr W342 (Nat.ne_of_lt n338)).ext E350).wr W364 (Nat.ne_of_lt n359)).ext E371).ext hu)) (Blk.cells ((((((hB320.ext E329).wr W342 (Nat.ne_of_lt n339)).ext E350).wr W364 (Nat.ne_of_lt n360)).ext E371).ext hu)) (by simp only [h2, h4, h6, h8, h12, h14, h16, h112, h114, h116, h118, h120, h122, h208, h259, h310]; exact ⟨⟨by omega, by omega⟩, by omega, by omega⟩) (by simp only [h2, h4, h6, h8, h12, h14, h16, h112, h114, h116, h118, h120, h122, h208, h259, h310]; exact ⟨⟨by omega, by omega⟩, by omega, by omega⟩))).mono ?_; rintro v u' ⟨hx, ⟨rn1, hv, k0⟩⟩
    exact ⟨⟨rn1, hv, (by simp only [k0])⟩, hx⟩
  refine RW_d _ rfl (fun v => by dsimp only [List.set]; try rfl) (fun u hu hF => ?_) (fun v379 => ?_)
  · clear hF
    refine doesG_un rfl ?_
    refine (does_move (u := (.func (.func 42) #[] #[(Pt b326 0), (Pt b347 0), (Pt b39 0), (Pt b49 0), (Pt b60 0)])) (ev rfl)).mono ?_; rintro _ _ ⟨rfl, rfl⟩
    exact ⟨rfl, Ext.refl _⟩
  refine RW_d _ rfl (fun v => by dsimp only [List.set]; try rfl) (fun u hu hF => ?_) (fun v380 => ?_)
  · clear hF
    refine doesG_un rfl ?_
    refine (does_indexAt_run (r := (Pt b49 2)) (ev rfl) (ev rfl) (fun w => ia64_2 _ _ w)).mono ?_; rintro _ _ ⟨rfl, rfl⟩
    exact ⟨rfl, Ext.refl _⟩
  refine RW_d _ rfl (fun v => by dsimp only [List.set]; try rfl) (fun u hu hF => ?_) (fun v381 => ?_)
  · have h60_ : v380 = (Pt b49 2) := hF.1
    clear hF
    refine doesG_un rfl ?_
    obtain rfl := h60_
    refine (does_load (u := (Iv (min (cellI (cf .f32 r115) (cf .f32 r121) A_g.step A_g.z + 1) (A_g.z - 1)))) (ev rfl) Try.isAgg2 (Cells.at (Blk.cells (((((((hB316.wr W319 (Nat.ne_of_lt n69)).ext E329).wr W342 (Nat.ne_of_lt n338)).ext E350).wr W364 (Nat.ne_of_lt n359)).ext E371).ext hu)) 2 rfl)).mono ?_; rintro _ _ ⟨rfl, rfl⟩
    exact ⟨rfl, Ext.refl _⟩
  refine RW_d _ rfl (fun v => by dsimp only [List.set]; try rfl) (fun u hu hF => ?_) (fun v382 => ?_)
  · have h61_ : v381 = (Iv (min (cellI (cf .f32 r115) (cf .f32 r121) A_g.step A_g.z + 1) (A_g.z - 1))) := hF.1
    have h59_ : v379 = (.func (.func 42) #[] #[(Pt b326 0), (Pt b347 0), (Pt b39 0), (Pt b49 0), (Pt b60 0)]) := hF.2.1
    clear hF
    refine doesG_un rfl ?_
    obtain rfl := h61_
    obtain rfl := h59_
    refine (does_callv (fst := #[]) (args := #[(Iv (min (cellI (cf .f32 r115) (cf .f32 r121) A_g.step A_g.z + 1) (A_g.z - 1)))]) (cap := #[(Pt b326 0), (Pt b347 0), (Pt b39 0), (Pt b49 0), (Pt b60 0)]) (all := #[(Iv (min (cellI (cf .f32 r115) (cf .f32 r121) A_g.step A_g.z + 1) (A_g.z - 1))), (Pt b326 0), (Pt b347 0), (Pt b39 0), (Pt b49 0), (Pt b60 0)]) (ev rfl) cal42 (evs rfl) rfl (c_impl_Grid_between_3 (min (cellI (cf .f32 r115) (cf .f32 r121) A_g.step A_g.z + 1) (A_g.z - 1)) b326 0 (.func (.func 39) #[] #[]) (fun x y z => mixF x y z) b347 0 (.func (.func 40) #[] #[(Pt b326 0), (Pt b21 0), (Pt b39 0), (Pt b49 0), (Pt b60 0)]) (fun y z => (0 ≤ idxG A_g (cellI (cf .f32 r111) (cf .f32 r117) A_g.step A_g.x) y z ∧ idxG A_g (cellI (cf .f32 r111) (cf .f32 r117) A_g.step A_g.x) y z < A_g.vals.length) ∧ (0 ≤ idxG A_g (min (cellI (cf .f32 r111) (cf .f32 r117) A_g.step A_g.x + 1) (A_g.x - 1)) y z ∧ idxG A_g (min (cellI (cf .f32 r111) (cf .f32 r117) A_g.step A_g.x + 1) (A_g.x - 1)) y z < A_g.vals.length)) (fun y z => (fun x y z => mixF x y z) (vat A_g (cellI (cf .f32 r111) (cf .f32 r117) A_g.step A_g.x) y z) (vat A_g (min (cellI (cf .f32 r111) (cf .f32 r117) A_g.step A_g.x + 1) (A_g.x - 1)) y z) (cf .f32 r207)) b39 0 (cellI (cf .f32 r111) (cf .f32 r117) A_g.step A_g.x) (cellI (cf .f32 r113) (cf .f32 r119) A_g.step A_g.y) (cellI (cf .f32 r115) (cf .f32 r121) A_g.step A_g.z) b49 0 (min (cellI (cf .f32 r111) (cf .f32 r117) A_g.step A_g.x + 1) (A_g.x - 1)) (min (cellI (cf .f32 r113) (cf .f32 r119) A_g.step A_g.y + 1) (A_g.y - 1)) (min (cellI (cf .f32 r115) (cf .f32 r121) A_g.step A_g.z + 1) (A_g.z - 1)) b60 0 r207 r258 r309 _ ⟨39, #[], #[], rfl, cal39, fun r t q u hu' => by simpa using (c_impl_Grid_between_1 r t q u)⟩ (Blk.cells ((((hB343.ext E350).wr W364 (Nat.ne_of_lt n361)).ext E371).ext hu)) ⟨40, #[], #[(Pt b326 0), (Pt b21 0), (Pt b39 0), (Pt b49 0), (Pt b60 0)], rfl, cal40, fun y z u hD hu' => by simpa using (c_impl_Grid_between_2 y z b326 0 (.func (.func 39) #[] #[]) (fun x y z => mixF x y z) b21 0 g_b g_o [(Fl r1), (Fl r3), (Fl r5), (Fl r7), (Iv A_g.x), (Iv A_g.y), (Iv A_g.z), (.slice p17 A_g.vals.length q18)] A_g b39 0 (cellI (cf .f32 r111) (cf .f32 r117) A_g.step A_g.x) (cellI (cf .f32 r113) (cf .f32 r119) A_g.step A_g.y) (cellI (cf .f32 r115) (cf .f32 r121) A_g.step A_g.z) b49 0 (min (cellI (cf .f32 r111) (cf .f32 r117) A_g.step A_g.x + 1) (A_g.x - 1)) (min (cellI (cf .f32 r113) (cf .f32 r119) A_g.step A_g.y + 1) (A_g.y - 1)) (min (cellI (cf .f32 r115) (cf .f32 r121) A_g.step A_g.z + 1) (A_g.z - 1)) b60 0 r207 r258 r309 u ⟨39, #[], #[], rfl, cal39, fun r t q u hu' => by simpa using (c_impl_Grid_between_1 r t q u)⟩ (Blk.cells ((((hB343.ext E350).wr W364 (Nat.ne_of_lt n361)).ext E371).ext (Ext.gr hu hu'))) ((hc_g.ext (Ext.gr X367 E371)).ext (Ext.gr hu hu')) ⟨r1, r3, r5, r7, (.slice p17 A_g.vals.length q18), rfl, h2, h4, h6, h8, (Sl.ext (Sl.ext hs19 RF.mono (Ext.gr X367 E371)) RF.mono (Ext.gr hu hu'))⟩ (Blk.cells (((((((((((((((((((((((((((((((((hB23.ext E32).ext E42).ext E52).ext E63).wr W72 (Nat.ne_of_lt n45)).wr W76 (Nat.ne_of_lt n55)).wr W80 (Nat.ne_of_lt n66)).ext E86).kl E102 nin0).wr W156 (Nat.ne_of_lt n127)).wr W160 (Nat.ne_of_lt n137)).wr W164 (Nat.ne_of_lt n147)).ext E175).ext E198).wr W209 (Nat.ne_of_lt n45)).wr W213 (Nat.ne_of_lt n55)).wr W217 (Nat.ne_of_lt n66)).ext E226).ext E249).wr W260 (Nat.ne_of_lt n45)).wr W264 (Nat.ne_of_lt n55)).wr W268 (Nat.ne_of_lt n66)).ext E277).ext E300).wr W311 (Nat.ne_of_lt n45)).wr W315 (Nat.ne_of_lt n55)).wr W319 (Nat.ne_of_lt n66)).ext E329).wr W342 (Nat.ne_of_lt n332)).ext E350).wr W364 (Nat.ne_of_lt n353)).ext E371).ext (Ext.gr hu hu'))) (Blk.cells ((((((((hB312.wr W315 (Nat.ne_of_lt n57)).wr W319 (Nat.ne_of_lt n68)).ext E329).wr W342 (Nat.ne_of_lt n337)).ext E350).wr W364 (Nat.ne_of_lt n358)).ext E371).ext (Ext.gr hu hu'))) (Blk.cells (((((((hB316.wr W319 (Nat.ne_of_lt n69)).ext E329).wr W342 (Nat.ne_of_lt n338)).ext E350).wr W364 (Nat.ne_of_lt n359)).ext E371).ext (Ext.gr hu hu'))) (Blk.cells ((((((hB320.ext E329).wr W342 (Nat.ne_of_lt n339)).ext E350).wr W364 (Nat.ne_of_lt n360)).ext E371).ext (Ext.gr hu hu'))) hD.1 hD.2)⟩ (Blk.cells ((hB365.ext E371).ext hu)) (Blk.cells ((((((((hB312.wr W315 (Nat.ne_of_lt n57)).wr W319 (Nat.ne_of_lt n68)).ext E329).wr W342 (Nat.ne_of_lt n337)).ext E350).wr W364 (Nat.ne_of_lt n358)).ext E371).ext hu)) (Blk.cells (((((((hB316.wr W319 (Nat.ne_of_lt n69)).ext E329).wr W342 (Nat.ne_of_lt n338)).ext E350).wr W364 (Nat.ne_of_lt n359)).ext E371).ext hu)) (Blk.cells ((((((hB320.ext E329).wr W342 (Nat.ne_of_lt n339)).ext E350).wr W364 (Nat.ne_of_lt n360)).ext E371).ext hu)) (by simp only [h2, h4, h6, h8, h12, h14, h16, h112, h114, h116, h118, h120, h122, h208, h259, h310]; exact ⟨⟨by omega, by omega⟩, by omega, by omega⟩) (by simp only [h2, h4, h6, h8, h12, h14, h16, h112, h114, h116, h118, h120, h122, h208, h259, h310]; exact ⟨⟨by omega, by omega⟩, by omega, by omega⟩))).mono ?_; rintro v u' ⟨hx, ⟨rn1, hv, k0⟩⟩
    exact ⟨⟨rn1, hv, (by simp only [k0])⟩, hx⟩
  refine RW_d _ rfl (fun v => by dsimp only [List.set]; try rfl) (fun u hu hF => ?_) (fun v383 => ?_)
  · clear hF
    refine doesG_un rfl ?_
    refine (does_indexAt_run (r := (Pt b60 2)) (ev rfl) (ev rfl) (fun w => ia54_2 _ _ w)).mono ?_; rintro _ _ ⟨rfl, rfl⟩
    exact ⟨rfl, Ext.refl _⟩
  refine RW_d _ rfl (fun v => by dsimp only [List.set]; try rfl) (fun u hu hF => ?_) (fun v384 => ?_)
  · have h63_ : v383 = (Pt b60 2) := hF.1
    clear hF
    refine doesG_un rfl ?_
    obtain rfl := h63_
    refine (does_load (u := (Fl r309)) (ev rfl) Try.isAgg22 (Cells.at (Blk.cells ((((((hB320.ext E329).wr W342 (Nat.ne_of_lt n339)).ext E350).wr W364 (Nat.ne_of_lt n360)).ext E371).ext hu)) 2 rfl)).mono ?_; rintro _ _ ⟨rfl, rfl⟩
    exact ⟨rfl, Ext.refl _⟩
  refine RW_d _ rfl (fun v => by dsimp only [List.set]; try rfl) (fun u hu hF => ?_) (fun v385 => ?_)
  · have h58_ : ∃ r_1 : Nat, v378 = (Fl r_1) ∧ cf .f32 r_1 = (fun x y z => mixF x y z) ((fun y z => (fun x y z => mixF x y z) (vat A_g (cellI (cf .f32 r111) (cf .f32 r117) A_g.step A_g.x) y z) (vat A_g (min (cellI (cf .f32 r111) (cf .f32 r117) A_g.step A_g.x + 1) (A_g.x - 1)) y z) (cf .f32 r207)) (cellI (cf .f32 r113) (cf .f32 r119) A_g.step A_g.y) (cellI (cf .f32 r115) (cf .f32 r121) A_g.step A_g.z)) ((fun y z => (fun x y z => mixF x y z) (vat A_g (cellI (cf .f32 r111) (cf .f32 r117) A_g.step A_g.x) y z) (vat A_g (min (cellI (cf .f32 r111) (cf .f32 r117) A_g.step A_g.x + 1) (A_g.x - 1)) y z) (cf .f32 r207)) (min (cellI (cf .f32 r113) (cf .f32 r119) A_g.step A_g.y + 1) (A_g.y - 1)) (cellI (cf .f32 r115) (cf .f32 r121) A_g.step A_g.z)) (cf .f32 r258) := hF.1
    have h62_ : ∃ r_1 : Nat, v382 = (Fl r_1) ∧ cf .f32 r_1 = (fun x y z => mixF x y z) ((fun y z => (fun x y z => mixF x y z) (vat A_g (cellI (cf .f32 r111) (cf .f32 r117) A_g.step A_g.x) y z) (vat A_g (min (cellI (cf .f32 r111) (cf .f32 r117) A_g.step A_g.x + 1) (A_g.x - 1)) y z) (cf .f32 r207)) (cellI (cf .f32 r113) (cf .f32 r119) A_g.step A_g.y) (min (cellI (cf .f32 r115) (cf .f32 r121) A_g.step A_g.z + 1) (A_g.z - 1))) ((fun y z => (fun x y z => mixF x y z) (vat A_g (cellI (cf .f32 r111) (cf .f32 r117) A_g.step A_g.x) y z) (vat A_g (min (cellI (cf .f32 r111) (cf .f32 r117) A_g.step A_g.x + 1) (A_g.x - 1)) y z) (cf .f32 r207)) (min (cellI (cf .f32 r113) (cf .f32 r119) A_g.step A_g.y + 1) (A_g.y - 1)) (min (cellI (cf .f32 r115) (cf .f32 r121) A_g.step A_g.z + 1) (A_g.z - 1))) (cf .f32 r258) := hF.2.1
    have h64_ : v384 = (Fl r309) := hF.2.2.1
    have h54_ : v374 = (.func (.func 39) #[] #[]) := hF.2.2.2.1
    clear hF
    refine doesG_un rfl ?_
    obtain ⟨r58_1, rfl, h58_2⟩ := h58_
    obtain ⟨r62_1, rfl, h62_2⟩ := h62_
    obtain rfl := h64_
    obtain rfl := h54_
    refine (does_callv (fst := #[]) (args := #[(Fl r58_1), (Fl r62_1), (Fl r309)]) (cap := #[]) (all := #[(Fl r58_1), (Fl r62_1), (Fl r309)]) (ev rfl) cal39 (evs rfl) rfl (c_impl_Grid_between_1 r58_1 r62_1 r309 _)).mono ?_; rintro v u' ⟨hx, ⟨rn1, hv, k0⟩⟩
    exact ⟨⟨rn1, hv.trans (by simp only [h58_2, h62_2]), (by simp only [k0, h58_2, h62_2])⟩, hx⟩
  refine RW_fin ?_; intro w386 E387 hP388
  obtain ⟨⟨⟨⟨⟨⟨⟨⟨⟨⟨⟨⟨-, -⟩, -⟩, -⟩, -⟩, -⟩, -⟩, -⟩, -⟩, -⟩, -⟩, -⟩, q389⟩ := hP388
  have X390 := Ext.gr X373 E387
  have q389 : ∃ r_1 : Nat, v385 = (Fl r_1) ∧ cf .f32 r_1 = mixF ((fun x y z => mixF x y z) ((fun y z => (fun x y z => mixF x y z) (vat A_g (cellI (cf .f32 r111) (cf .f32 r117) A_g.step A_g.x) y z) (vat A_g (min (cellI (cf .f32 r111) (cf .f32 r117) A_g.step A_g.x + 1) (A_g.x - 1)) y z) (cf .f32 r207)) (cellI (cf .f32 r113) (cf .f32 r119) A_g.step A_g.y) (cellI (cf .f32 r115) (cf .f32 r121) A_g.step A_g.z)) ((fun y z => (fun x y z => mixF x y z) (vat A_g (cellI (cf .f32 r111) (cf .f32 r117) A_g.step A_g.x) y z) (vat A_g (min (cellI (cf .f32 r111) (cf .f32 r117) A_g.step A_g.x + 1) (A_g.x - 1)) y z) (cf .f32 r207)) (min (cellI (cf .f32 r113) (cf .f32 r119) A_g.step A_g.y + 1) (A_g.y - 1)) (cellI (cf .f32 r115) (cf .f32 r121) A_g.step A_g.z)) (cf .f32 r258)) ((fun x y z => mixF x y z) ((fun y z => (fun x y z => mixF x y z) (vat A_g (cellI (cf .f32 r111) (cf .f32 r117) A_g.step A_g.x) y z) (vat A_g (min (cellI (cf .f32 r111) (cf .f32 r117) A_g.step A_g.x + 1) (A_g.x - 1)) y z) (cf .f32 r207)) (cellI (cf .f32 r113) (cf .f32 r119) A_g.step A_g.y) (min (cellI (cf .f32 r115) (cf .f32 r121) A_g.step A_g.z + 1) (A_g.z - 1))) ((fun y z => (fun x y z => mixF x y z) (vat A_g (cellI (cf .f32 r111) (cf .f32 r117) A_g.step A_g.x) y z) (vat A_g (min (cellI (cf .f32 r111) (cf .f32 r117) A_g.step A_g.x + 1) (A_g.x - 1)) y z) (cf .f32 r207)) (min (cellI (cf .f32 r113) (cf .f32 r119) A_g.step A_g.y + 1) (A_g.y - 1)) (min (cellI (cf .f32 r115) (cf .f32 r121) A_g.step A_g.z + 1) (A_g.z - 1))) (cf .f32 r258)) (cf .f32 r309) := q389
  obtain ⟨r391, rfl, h392⟩ := q389
  show wpList _ _ _ _ (fr [_, _, _, _, _, _, _, _, _, _, _, _, _, _, _, _, _, _, _, _, _, _, _, _, _, _, _, _, _, _, _, _, _, _, _, _, _, _, _, _, _, _, _, _, _, _, _, _, _, _, _, _, _, _, _, _, _, _, _, _, _, _, _, _, _, _]) _
  refine q_is rfl rfl (does_assign (u := (Fl r391)) (ev rfl)) (by dsimp only [List.set]; try rfl) ?_
  refine wpList_nil (hK369 _ _ ?_)
  refine wp_ret ?_
  refine ret_val (v := (Fl r391)) (res_T rfl (slot rfl)) X390 ?_
  have x393 : cf .f32 r391 = readG A_g A_p := by simp only [h2, h4, h6, h8, h12, h14, h16, h112, h114, h116, h118, h120, h122, h208, h259, h310, h392]; rfl
  exact ⟨r391, rfl, x393⟩

/- impl.ValueBetween -/
theorem c_impl_ValueBetween (g : List Value) (A_g : GridT) (p : List Value) (A_p : V3) (w : World) (hv_g : RGridT w A_g g) (hv_p : RV3 w A_p p) : Gives Try.prog 9 #[(.agg g.toArray), (.agg p.toArray)] w (fun v w' => ∃ r_1 : Nat, v = (.tuple #[(Fl r_1), (Bo (vbtOk A_g A_p))]) ∧ cf .f32 r_1 = vbtG A_g A_p) := by
  obtain ⟨r1, r3, r5, r7, y9, rfl, h2, h4, h6, h8, h10⟩ := hv_g
  obtain ⟨r11, r13, r15, rfl, h12, h14, h16⟩ := hv_p
  have hs19 := h10; have hs19l := Sl.len h10; obtain ⟨p17, q18, rfl⟩ := Sl.shape h10
  refine enter [(.agg #[(Fl r1), (Fl r3), (Fl r5), (Fl r7), (Iv A_g.x), (Iv A_g.y), (Iv A_g.z), (.slice p17 A_g.vals.length q18)]), (.agg #[(Fl r11), (Fl r13), (Fl r15)]), Ud, Ud, Ud, Ud, Ud, Ud, Ud, Ud, Ud, Ud, Ud, Ud, Ud, Ud] Try.func9 rfl Try.ntmps9 rfl ?_
  refine wp_seq_k fun K20 hK20 => ?_
  refine wp_region_lit ?_
  refine seqd rfl rfl (does_box (u := (.agg #[(Fl r1), (Fl r3), (Fl r5), (Fl r7), (Iv A_g.x), (Iv A_g.y), (Iv A_g.z), (.slice p17 A_g.vals.length q18)])) (ev rfl)) ?_; rintro _ w25 ⟨b21, rfl, hb22, hB23, E24⟩
  have g26 : w.heap.size ≤ b21 := Nat.le_trans (Below.size (Ext.refl w)) hb22
  change Blk _ _ [(Fl r1), (Fl r3), (Fl r5), (Fl r7), (Iv A_g.x), (Iv A_g.y), (Iv A_g.z), (.slice p17 A_g.vals.length q18)] at hB23
  have X27 := Ext.gr (Ext.refl w) E24
  show wpList _ _ _ _ (fr [(.agg #[(Fl r1), (Fl r3), (Fl r5), (Fl r7), (Iv A_g.x), (Iv A_g.y), (Iv A_g.z), (.slice p17 A_g.vals.length q18)]), (.agg #[(Fl r11), (Fl r13), (Fl r15)]), (Pt b21 0), Ud, Ud, Ud, Ud, Ud, Ud, Ud, Ud, Ud, Ud, Ud, Ud, Ud]) _
  refine seqd rfl rfl (does_box (u := (.agg #[(Fl r11), (Fl r13), (Fl r15)])) (ev rfl)) ?_; rintro _ w32 ⟨b28, rfl, hb29, hB30, E31⟩
  have n33 : b21 < b28 := Nat.lt_of_lt_of_le (Blk.lt hB23) hb29
  have g34 : w.heap.size ≤ b28 := Nat.le_trans (Below.size X27) hb29
  change Blk _ _ [(Fl r11), (Fl r13), (Fl r15)] at hB30
  have X35 := Ext.gr X27 E31
  show wpList _ _ _ _ (fr [(.agg #[(Fl r1), (Fl r3), (Fl r5), (Fl r7), (Iv A_g.x), (Iv A_g.y), (Iv A_g.z), (.slice p17 A_g.vals.length q18)]), (.agg #[(Fl r11), (Fl r13), (Fl r15)]), (Pt b21 0), (Pt b28 0), Ud, Ud, Ud, Ud, Ud, Ud, Ud, Ud, Ud, Ud, Ud, Ud]) _
  refine q_is (l' := [(.agg #[(Fl r1), (Fl r3), (Fl r5), (Fl r7), (Iv A_g.x), (Iv A_g.y), (Iv A_g.z), (.slice p17 A_g.vals.length q18)]), (.agg #[(Fl r11), (Fl r13), (Fl r15)]), (Pt b21 0), (Pt b28 0), (Fl 0), Ud, Ud, Ud, Ud, Ud, Ud, Ud, Ud, Ud, Ud, Ud]) rfl rfl (does_assign (u := (Fl 0)) (ev rfl)) rfl ?_
  refine q_is (l' := [(.agg #[(Fl r1), (Fl r3), (Fl r5), (Fl r7), (Iv A_g.x), (Iv A_g.y), (Iv A_g.z), (.slice p17 A_g.vals.length q18)]), (.agg #[(Fl r11), (Fl r13), (Fl r15)]), (Pt b21 0), (Pt b28 0), (Fl 0), (Bo false), Ud, Ud, Ud, Ud, Ud, Ud, Ud, Ud, Ud, Ud]) rfl rfl (does_assign (u := (Bo false)) (ev rfl)) rfl ?_
  refine wpList_nil (hK20 _ _ ?_)
  refine wp_seq_k fun K36 hK36 => ?_
  refine wp_seq_k fun K37 hK37 => ?_
  obtain ⟨β1, hβ1⟩ : ∃ b : Bool, b = ((!(isGrid A_g)) || (!(finV A_p))) := ⟨_, rfl⟩
  refine region_text (
    [Fact.pure [] (fun v => v = (.agg #[(Fl r1), (Fl r3), (Fl r5), (Fl r7), (Iv A_g.x), (Iv A_g.y), (Iv A_g.z), (.slice p17 A_g.vals.length q18)])),
    Fact.pure [6] (fun v => v = (Bo (isGrid A_g))),
    Fact.pure [7] (fun v => v = (Bo (!(isGrid A_g)))),
    Fact.pure [8] (fun v => v = (Bo (!(isGrid A_g)))),
    Fact.pure [9] (fun v => (!(isGrid A_g)) = false → v = (.agg #[(Fl r11), (Fl r13), (Fl r15)])),
    Fact.pure [10, 9] (fun v => (!(isGrid A_g)) = false → v = (Bo (finV A_p))),
    Fact.pure [11, 9] (fun v => (!(isGrid A_g)) = false → v = (Bo (!(finV A_p)))),
    Fact.pure [9, 12] (fun v => v = (Bo β1))]) (by simp [Fact.pure, Fact.mem]) ?_
  refine RW_d (fun v38 => [(.agg #[(Fl r1), (Fl r3), (Fl r5), (Fl r7), (Iv A_g.x), (Iv A_g.y), (Iv A_g.z), (.slice p17 A_g.vals.length q18)]), (.agg #[(Fl r11), (Fl r13), (Fl r15)]), (Pt b21 0), (Pt b28 0), (Fl 0), (Bo false), v38, Ud, Ud, Ud, Ud, Ud, Ud, Ud, Ud, Ud]) rfl (fun _ => rfl) (fun u hu hF => ?_) (fun v38 => ?_)
  · clear hF
    refine doesG_un rfl ?_
    refine (does_loadAgg (cs := [(Fl r1), (Fl r3), (Fl r5), (Fl r7), (Iv A_g.x), (Iv A_g.y), (Iv A_g.z), (.slice p17 A_g.vals.length q18)]) (ev rfl) Try.isAgg33 Try.sizeOf33 (Blk.cells ((hB23.ext E31).ext hu)) rfl).mono ?_; rintro _ _ ⟨rfl, rfl⟩
    exact ⟨rfl, Ext.refl _⟩
  refine RW_d (fun v39 => [(.agg #[(Fl r1), (Fl r3), (Fl r5), (Fl r7), (Iv A_g.x), (Iv A_g.y), (Iv A_g.z), (.slice p17 A_g.vals.length q18)]), (.agg #[(Fl r11), (Fl r13), (Fl r15)]), (Pt b21 0), (Pt b28 0), (Fl 0), (Bo false), v38, v39, Ud, Ud, Ud, Ud, Ud, Ud, Ud, Ud]) rfl (fun _ => rfl) (fun u hu hF => ?_) (fun v39 => ?_)
  · have h6_ : v38 = (.agg #[(Fl r1), (Fl r3), (Fl r5), (Fl r7), (Iv A_g.x), (Iv A_g.y), (Iv A_g.z), (.slice p17 A_g.vals.length q18)]) := hF.1
    clear hF
    refine doesG_un rfl ?_
    obtain rfl := h6_
    refine (does_call (args := #[(.agg #[(Fl r1), (Fl r3), (Fl r5), (Fl r7), (Iv A_g.x), (Iv A_g.y), (Iv A_g.z), (.slice p17 A_g.vals.length q18)])]) cal20 (evs rfl) (c_impl_ValidGrid [(Fl r1), (Fl r3), (Fl r5), (Fl r7), (Iv A_g.x), (Iv A_g.y), (Iv A_g.z), (.slice p17 A_g.vals.length q18)] A_g _ ⟨r1, r3, r5, r7, (.slice p17 A_g.vals.length q18), rfl, h2, h4, h6, h8, (Sl.ext (Sl.ext hs19 RF.mono X35) RF.mono hu)⟩)).mono ?_; rintro v u' ⟨hx, hv⟩
    exact ⟨hv, hx⟩
  refine RW_d (fun v40 => [(.agg #[(Fl r1), (Fl r3), (Fl r5), (Fl r7), (Iv A_g.x), (Iv A_g.y), (Iv A_g.z), (.slice p17 A_g.vals.length q18)]), (.agg #[(Fl r11), (Fl r13), (Fl r15)]), (Pt b21 0), (Pt b28 0), (Fl 0), (Bo false), v38, v39, v40, Ud, Ud, Ud, Ud, Ud, Ud, Ud]) rfl (fun _ => rfl) (fun u hu hF => ?_) (fun v40 => ?_)
  · have h7_ : v39 = (Bo (isGrid A_g)) := hF.1
    clear hF
    refine doesG_un rfl ?_
    obtain rfl := h7_
    refine (does_not (ev rfl)).mono ?_; rintro _ _ ⟨rfl, rfl⟩
    exact ⟨rfl, Ext.refl _⟩
  refine RW_d (fun v41 => [(.agg #[(Fl r1), (Fl r3), (Fl r5), (Fl r7), (Iv A_g.x), (Iv A_g.y), (Iv A_g.z), (.slice p17 A_g.vals.length q18)]), (.agg #[(Fl r11), (Fl r13), (Fl r15)]), (Pt b21 0), (Pt b28 0), (Fl 0), (Bo false), v38, v39, v40, v41, Ud, Ud, Ud, Ud, Ud, Ud]) rfl (fun _ => rfl) (fun u hu hF => ?_) (fun v41 => ?_)
  · have h8_ : v40 = (Bo (!(isGrid A_g))) := hF.1
    clear hF
    refine doesG_un rfl ?_
    obtain rfl := h8_
    refine (does_move (u := (Bo (!(isGrid A_g)))) (ev rfl)).mono ?_; rintro _ _ ⟨rfl, rfl⟩
    exact ⟨rfl, Ext.refl _⟩
  refine RW_d (fun v42 => [(.agg #[(Fl r1), (Fl r3), (Fl r5), (Fl r7), (Iv A_g.x), (Iv A_g.y), (Iv A_g.z), (.slice p17 A_g.vals.length q18)]), (.agg #[(Fl r11), (Fl r13), (Fl r15)]), (Pt b21 0), (Pt b28 0), (Fl 0), (Bo false), v38, v39, v40, v41, v42, Ud, Ud, Ud, Ud, Ud]) rfl (fun _ => rfl) (fun u hu hF => ?_) (fun v42 => ?_)
  · have h9_ : v41 = (Bo (!(isGrid A_g))) := hF.1
    clear hF
    obtain rfl := h9_
    refine doesG_g (b := (!(isGrid A_g))) rfl (yld rfl rfl) (fun hg1 => ?_) (fun hc => ⟨fun hg1 => absurd hg1 hc, Ext.refl _⟩)
    refine (does_loadAgg (cs := [(Fl r11), (Fl r13), (Fl r15)]) (ev rfl) Try.isAgg31 Try.sizeOf31 (Blk.cells (hB30.ext hu)) rfl).mono ?_; rintro _ _ ⟨rfl, rfl⟩
    exact ⟨fun _ => rfl, Ext.refl _⟩
  refine RW_d (fun v43 => [(.agg #[(Fl r1), (Fl r3), (Fl r5), (Fl r7), (Iv A_g.x), (Iv A_g.y), (Iv A_g.z), (.slice p17 A_g.vals.length q18)]), (.agg #[(Fl r11), (Fl r13), (Fl r15)]), (Pt b21 0), (Pt b28 0), (Fl 0), (Bo false), v38, v39, v40, v41, v42, v43, Ud, Ud, Ud, Ud]) rfl (fun _ => rfl) (fun u hu hF => ?_) (fun v43 => ?_)
  · have h10_ : (!(isGrid A_g)) = false → v42 = (.agg #[(Fl r11), (Fl r13), (Fl r15)]) := hF.1
    have h9_ : v41 = (Bo (!(isGrid A_g))) := hF.2.1
    clear hF
    obtain rfl := h9_
    refine doesG_g (b := (!(isGrid A_g))) rfl (yld rfl rfl) (fun hg1 => ?_) (fun hc => ⟨fun hg1 => absurd hg1 hc, Ext.refl _⟩)
    obtain rfl := h10_ hg1
    refine (does_call (args := #[(.agg #[(Fl r11), (Fl r13), (Fl r15)])]) cal21 (evs rfl) (c_impl_finiteVector [(Fl r11), (Fl r13), (Fl r15)] A_p _ ⟨r11, r13, r15, rfl, h12, h14, h16⟩)).mono ?_; rintro v u' ⟨hx, hv⟩
    exact ⟨fun _ => hv, hx⟩
  refine RW_d (fun v44 => [(.agg #[(Fl r1), (Fl r3), (Fl r5), (Fl r7), (Iv A_g.x), (Iv A_g.y), (Iv A_g.z), (.slice p17 A_g.vals.length q18)]), (.agg #[(Fl r11), (Fl r13), (Fl r15)]), (Pt b21 0), (Pt b28 0), (Fl 0), (Bo false), v38, v39, v40, v41, v42, v43, v44, Ud, Ud, Ud]) rfl (fun _ => rfl) (fun u hu hF => ?_) (fun v44 => ?_)
  · have h11_ : (!(isGrid A_g)) = false → v43 = (Bo (finV A_p)) := hF.1
    have h9_ : v41 = (Bo (!(isGrid A_g))) := hF.2.1
    clear hF
    obtain rfl := h9_
    refine doesG_g (b := (!(isGrid A_g))) rfl (yld rfl rfl) (fun hg1 => ?_) (fun hc => ⟨fun hg1 => absurd hg1 hc, Ext.refl _⟩)
    obtain rfl := h11_ hg1
    refine (does_not (ev rfl)).mono ?_; rintro _ _ ⟨rfl, rfl⟩
    exact ⟨fun _ => rfl, Ext.refl _⟩
  refine RW_d (fun v45 => [(.agg #[(Fl r1), (Fl r3), (Fl r5), (Fl r7), (Iv A_g.x), (Iv A_g.y), (Iv A_g.z), (.slice p17 A_g.vals.length q18)]), (.agg #[(Fl r11), (Fl r13), (Fl r15)]), (Pt b21 0), (Pt b28 0), (Fl 0), (Bo false), v38, v39, v40, v41, v42, v43, v44, v45, Ud, Ud]) rfl (fun _ => rfl) (fun u hu hF => ?_) (fun v45 => ?_)
  · have h9_ : v41 = (Bo (!(isGrid A_g))) := hF.1
    have h12_ : (!(isGrid A_g)) = false → v44 = (Bo (!(finV A_p))) := hF.2.1
    clear hF
    refine doesG_un rfl ?_
    skip
    obtain rfl := h9_
    refine (does_pick (b := (!(isGrid A_g))) (ev rfl) (ev rfl) (ev rfl)).mono ?_; rintro _ _ ⟨rfl, rfl⟩; refine ⟨?_, Ext.refl _⟩; rw [hβ1]; skip
    cases hbb : (!(isGrid A_g))
    all_goals first | rfl | (have e_ := h12_ hbb; subst e_; rfl) | (simp [hbb] at h12_ ⊢; first | done | rfl | (subst h12_; rfl) | simp_all) | (simp [hbb] at h12_ ⊢; done)
  refine RW_fin ?_; intro w46 E47 hP48
  obtain ⟨⟨⟨⟨⟨⟨⟨⟨-, -⟩, -⟩, -⟩, -⟩, -⟩, -⟩, -⟩, q49⟩ := hP48
  have X50 := Ext.gr X35 E47
  have q49 : v45 = (Bo β1) := q49
  obtain rfl := q49
  show wpList _ _ _ _ (fr [(.agg #[(Fl r1), (Fl r3), (Fl r5), (Fl r7), (Iv A_g.x), (Iv A_g.y), (Iv A_g.z), (.slice p17 A_g.vals.length q18)]), (.agg #[(Fl r11), (Fl r13), (Fl r15)]), (Pt b21 0), (Pt b28 0), (Fl 0), (Bo false), v38, v39, v40, v41, v42, v43, v44, (Bo β1), Ud, Ud]) _
  refine wpList_nil (hK37 _ _ ?_)
  refine wp_cond_split (t := β1) (ev rfl) (fun c51 => ?_) (fun c51 => ?_)
  · have c51' := c51
    (try simp only [hβ1] at c51')
    (try simp only [icmp, Bool.and_eq_true, Bool.or_eq_true, Bool.and_eq_false_iff, Bool.or_eq_false_iff, Bool.not_eq_true', Bool.not_eq_false', decide_eq_true_eq, decide_eq_false_iff_not, beq_iff_eq, bne_iff_ne, beq_eq_false_iff_ne, bne_eq_false_iff_eq] at c51')
    refine wp_seq_k fun K52 hK52 => ?_
    refine wp_region_lit ?_
    refine q_is (l' := [(.agg #[(Fl r1), (Fl r3), (Fl r5), (Fl r7), (Iv A_g.x), (Iv A_g.y), (Iv A_g.z), (.slice p17 A_g.vals.length q18)]), (.agg #[(Fl r11), (Fl r13), (Fl r15)]), (Pt b21 0), (Pt b28 0), (Fl 0), (Bo false), v38, v39, v40, v41, v42, v43, v44, (Bo β1), Ud, Ud]) rfl rfl (does_assign (u := (Fl 0)) (ev rfl)) rfl ?_
    refine q_is (l' := [(.agg #[(Fl r1), (Fl r3), (Fl r5), (Fl r7), (Iv A_g.x), (Iv A_g.y), (Iv A_g.z), (.slice p17 A_g.vals.length q18)]), (.agg #[(Fl r11), (Fl r13), (Fl r15)]), (Pt b21 0), (Pt b28 0), (Fl 0), (Bo false), v38, v39, v40, v41, v42, v43, v44, (Bo β1), Ud, Ud]) rfl rfl (does_assign (u := (Bo false)) (ev rfl)) rfl ?_
    refine wpList_nil (hK52 _ _ ?_)
    refine wp_ret ?_
    dsimp only [Exit.then, Exit.inBlock]
    refine ret_val (v := (.tuple #[(Fl 0), (Bo false)])) (res_TT rfl (slot rfl) (slot rfl)) X50 ?_
    try simp only [h2, h4, h6, h8, h12, h14, h16, hβ1] at c51
    have x53 : (vbtOk A_g A_p) = false := by first | exact vbtOk_f (by assumption) | exact (vbtOk_t (by assumption)) | (rw [vbtG_f (by assumption)]; done) | (rw [vbtG_t (by assumption)]; first | done | assumption | (simp only [h2, h4, h6, h8, h12, h14, h16, hβ1, c51]; done))
    have x54 : cf .f32 0 = vbtG A_g A_p := by first | exact vbtOk_f (by assumption) | exact (vbtOk_t (by assumption)) | (rw [vbtG_f (by assumption)]; done) | (rw [vbtG_t (by assumption)]; first | done | assumption | (simp only [h2, h4, h6, h8, h12, h14, h16, hβ1, c51]; done))
    exact ⟨0, (by first | rfl | rw [x53]), x54⟩
  have c51' := c51
  (try simp only [hβ1] at c51')
  (try simp only [icmp, Bool.and_eq_true, Bool.or_eq_true, Bool.and_eq_false_iff, Bool.or_eq_false_iff, Bool.not_eq_true', Bool.not_eq_false', decide_eq_true_eq, decide_eq_false_iff_not, beq_iff_eq, bne_iff_ne, beq_eq_false_iff_ne, bne_eq_false_iff_eq] at c51')
  refine wp_skip (hK36 _ _ ?_)
  refine wp_seq_k fun K55 hK55 => ?_
  refine wp_region_lit ?_
  refine q_is (l' := [(.agg #[(Fl r1), (Fl r3), (Fl r5), (Fl r7), (Iv A_g.x), (Iv A_g.y), (Iv A_g.z), (.slice p17 A_g.vals.length q18)]), (.agg #[(Fl r11), (Fl r13), (Fl r15)]), (Pt b21 0), (Pt b28 0), (Fl 0), (Bo false), v38, v39, v40, v41, v42, v43, v44, (Bo β1), (.agg #[(Fl r11), (Fl r13), (Fl r15)]), Ud]) rfl rfl (does_loadAgg (cs := [(Fl r11), (Fl r13), (Fl r15)]) (ev rfl) Try.isAgg31 Try.sizeOf31 (Blk.cells (hB30.ext E47)) rfl) rfl ?_
  refine seqd rfl rfl (does_call (args := #[(Pt b21 0), (.agg #[(Fl r11), (Fl r13), (Fl r15)])]) cal22 (evs rfl) (c_impl_Grid_between b21 0 [(Fl r1), (Fl r3), (Fl r5), (Fl r7), (Iv A_g.x), (Iv A_g.y), (Iv A_g.z), (.slice p17 A_g.vals.length q18)] A_g [(Fl r11), (Fl r13), (Fl r15)] A_p _ (Blk.cells ((hB23.ext E31).ext E47)) ⟨r1, r3, r5, r7, (.slice p17 A_g.vals.length q18), rfl, h2, h4, h6, h8, (Sl.ext hs19 RF.mono X50)⟩ ⟨r11, r13, r15, rfl, h12, h14, h16⟩ (by first | assumption | exact (‹isGrid A_g = true ∧ finV A_p = true›).1) (by first | assumption | exact (‹isGrid A_g = true ∧ finV A_p = true›).2))) ?_; rintro _ w57 ⟨E56, ⟨r58, rfl, h59⟩⟩
  have X60 := Ext.gr X50 E56
  show wpList _ _ _ _ (fr [(.agg #[(Fl r1), (Fl r3), (Fl r5), (Fl r7), (Iv A_g.x), (Iv A_g.y), (Iv A_g.z), (.slice p17 A_g.vals.length q18)]), (.agg #[(Fl r11), (Fl r13), (Fl r15)]), (Pt b21 0), (Pt b28 0), (Fl 0), (Bo false), v38, v39, v40, v41, v42, v43, v44, (Bo β1), (.agg #[(Fl r11), (Fl r13), (Fl r15)]), (Fl r58)]) _
  refine q_is (l' := [(.agg #[(Fl r1), (Fl r3), (Fl r5), (Fl r7), (Iv A_g.x), (Iv A_g.y), (Iv A_g.z), (.slice p17 A_g.vals.length q18)]), (.agg #[(Fl r11), (Fl r13), (Fl r15)]), (Pt b21 0), (Pt b28 0), (Fl r58), (Bo false), v38, v39, v40, v41, v42, v43, v44, (Bo β1), (.agg #[(Fl r11), (Fl r13), (Fl r15)]), (Fl r58)]) rfl rfl (does_assign (u := (Fl r58)) (ev rfl)) rfl ?_
  refine q_is (l' := [(.agg #[(Fl r1), (Fl r3), (Fl r5), (Fl r7), (Iv A_g.x), (Iv A_g.y), (Iv A_g.z), (.slice p17 A_g.vals.length q18)]), (.agg #[(Fl r11), (Fl r13), (Fl r15)]), (Pt b21 0), (Pt b28 0), (Fl r58), (Bo true), v38, v39, v40, v41, v42, v43, v44, (Bo β1), (.agg #[(Fl r11), (Fl r13), (Fl r15)]), (Fl r58)]) rfl rfl (does_assign (u := (Bo true)) (ev rfl)) rfl ?_
  refine wpList_nil (hK55 _ _ ?_)
  refine wp_ret ?_
  refine ret_val (v := (.tuple #[(Fl r58), (Bo true)])) (res_TT rfl (slot rfl) (slot rfl)) X60 ?_
  try simp only [h2, h4, h6, h8, h12, h14, h16, hβ1, h59] at c51
  have x61 : (vbtOk A_g A_p) = true := by first | exact vbtOk_f (by assumption) | exact (vbtOk_t (by assumption)) | (rw [vbtG_f (by assumption)]; done) | (rw [vbtG_t (by assumption)]; first | done | assumption | (simp only [h2, h4, h6, h8, h12, h14, h16, hβ1, h59, c51]; done))
  have x62 : cf .f32 r58 = vbtG A_g A_p := by first | exact vbtOk_f (by assumption) | exact (vbtOk_t (by assumption)) | (rw [vbtG_f (by assumption)]; done) | (rw [vbtG_t (by assumption)]; first | done | assumption | (simp only [h2, h4, h6, h8, h12, h14, h16, hβ1, h59, c51]; done))
  exact ⟨r58, (by first | rfl | rw [x61]), x62⟩

/- impl.vectorOf -/
theorem c_impl_vectorOf (va : Nat) (vb : Nat) (vc : Nat) (w : World) : Gives Try.prog 27 #[(.agg #[(Fl va), (Fl vb), (Fl vc)])] w (fun v w' => ∃ cs_1 : List Value, v = (.agg cs_1.toArray) ∧ RV3 w (V3.mk (cf .f32 va) (cf .f32 vb) (cf .f32 vc)) cs_1) := by
  refine enter [(.agg #[(Fl va), (Fl vb), (Fl vc)]), Ud, Ud, Ud, Ud, Ud, Ud, Ud, Ud, Ud] Try.func27 rfl Try.ntmps27 rfl ?_
  refine wp_seq_k fun K1 hK1 => ?_
  refine wp_region_lit ?_
  refine seqd rfl rfl (does_box (u := (.agg #[(Fl va), (Fl vb), (Fl vc)])) (ev rfl)) ?_; rintro _ w6 ⟨b2, rfl, hb3, hB4, E5⟩
  have g7 : w.heap.size ≤ b2 := Nat.le_trans (Below.size (Ext.refl w)) hb3
  change Blk _ _ [(Fl va), (Fl vb), (Fl vc)] at hB4
  have X8 := Ext.gr (Ext.refl w) E5
  show wpList _ _ _ _ (fr [(.agg #[(Fl va), (Fl vb), (Fl vc)]), (Pt b2 0), Ud, Ud, Ud, Ud, Ud, Ud, Ud, Ud]) _
  refine seqd rfl rfl (does_alloc z31) ?_; rintro _ w13 ⟨b9, rfl, hb10, hB11, E12⟩
  have n14 : b2 < b9 := Nat.lt_of_lt_of_le (Blk.lt hB4) hb10
  have g15 : w.heap.size ≤ b9 := Nat.le_trans (Below.size X8) hb10
  change Blk _ _ [(Fl 0), (Fl 0), (Fl 0)] at hB11
  have X16 := Ext.gr X8 E12
  show wpList _ _ _ _ (fr [(.agg #[(Fl va), (Fl vb), (Fl vc)]), (Pt b2 0), (Pt b9 0), Ud, Ud, Ud, Ud, Ud, Ud, Ud]) _
  refine wpList_nil (hK1 _ _ ?_)
  refine wp_seq_k fun K17 hK17 => ?_
  refine wp_region_lit ?_
  refine q_is (l' := [(.agg #[(Fl va), (Fl vb), (Fl vc)]), (Pt b2 0), (Pt b9 0), (Pt b2 0), Ud, Ud, Ud, Ud, Ud, Ud]) rfl rfl (does_indexAt_run (r := (Pt b2 0)) (ev rfl) (ev rfl) (fun w => ia54_0 _ _ w)) rfl ?_
  refine q_is (l' := [(.agg #[(Fl va), (Fl vb), (Fl vc)]), (Pt b2 0), (Pt b9 0), (Pt b2 0), (Fl va), Ud, Ud, Ud, Ud, Ud]) rfl rfl (does_load (u := (Fl va)) (ev rfl) Try.isAgg22 (Cells.at (Blk.cells (hB4.ext E12)) 0 rfl)) rfl ?_
  refine q_is (l' := [(.agg #[(Fl va), (Fl vb), (Fl vc)]), (Pt b2 0), (Pt b9 0), (Pt b2 0), (Fl va), (Pt b2 1), Ud, Ud, Ud, Ud]) rfl rfl (does_indexAt_run (r := (Pt b2 1)) (ev rfl) (ev rfl) (fun w => ia54_1 _ _ w)) rfl ?_
  refine q_is (l' := [(.agg #[(Fl va), (Fl vb), (Fl vc)]), (Pt b2 0), (Pt b9 0), (Pt b2 0), (Fl va), (Pt b2 1), (Fl vb), Ud, Ud, Ud]) rfl rfl (does_load (u := (Fl vb)) (ev rfl) Try.isAgg22 (Cells.at (Blk.cells (hB4.ext E12)) 1 rfl)) rfl ?_
  refine q_is (l' := [(.agg #[(Fl va), (Fl vb), (Fl vc)]), (Pt b2 0), (Pt b9 0), (Pt b2 0), (Fl va), (Pt b2 1), (Fl vb), (Pt b2 2), Ud, Ud]) rfl rfl (does_indexAt_run (r := (Pt b2 2)) (ev rfl) (ev rfl) (fun w => ia54_2 _ _ w)) rfl ?_
  refine q_is (l' := [(.agg #[(Fl va), (Fl vb), (Fl vc)]), (Pt b2 0), (Pt b9 0), (Pt b2 0), (Fl va), (Pt b2 1), (Fl vb), (Pt b2 2), (Fl vc), Ud]) rfl rfl (does_load (u := (Fl vc)) (ev rfl) Try.isAgg22 (Cells.at (Blk.cells (hB4.ext E12)) 2 rfl)) rfl ?_
  refine q_is (l' := [(.agg #[(Fl va), (Fl vb), (Fl vc)]), (Pt b2 0), (Pt b9 0), (Pt b2 0), (Fl va), (Pt b2 1), (Fl vb), (Pt b2 2), (Fl vc), (.agg #[(Fl va), (Fl vb), (Fl vc)])]) rfl rfl (does_build (parts' := [(0, (Fl va)), (1, (Fl vb)), (2, (Fl vc))]) (cells := #[(Fl va), (Fl vb), (Fl vc)]) (evp rfl) (by kernel_rfl)) rfl ?_
  refine seqn rfl rfl (does_store (n := 3) (cs := [(Fl 0), (Fl 0), (Fl 0)]) (u := (.agg #[(Fl va), (Fl vb), (Fl vc)])) (ev rfl) (ev rfl) Try.sizeOf31 rfl hB11 (Nat.le_of_ble_eq_true rfl) rfl) ?_; rintro _ w20 ⟨rfl, W18, hB19⟩
  change Blk _ _ [(Fl va), (Fl vb), (Fl vc)] at hB19
  have X21 := Below.wr X16 W18 g15
  refine wpList_nil (hK17 _ _ ?_)
  refine wp_ret ?_
  refine ret_val (v := (.agg #[(Fl va), (Fl vb), (Fl vc)])) (res_C rfl (slot rfl) (run_loadAgg (cs := [(Fl va), (Fl vb), (Fl vc)]) Try.isAgg31 Try.sizeOf31 (Blk.cells hB19) rfl)) X21 ?_
  have x22 : cf .f32 va = (V3.mk (cf .f32 va) (cf .f32 vb) (cf .f32 vc)).x := by first | with_reducible rfl | (simp only []; done) | (simp []; done) | rfl
  have x23 : cf .f32 vb = (V3.mk (cf .f32 va) (cf .f32 vb) (cf .f32 vc)).y := by first | with_reducible rfl | (simp only []; done) | (simp []; done) | rfl
  have x24 : cf .f32 vc = (V3.mk (cf .f32 va) (cf .f32 vb) (cf .f32 vc)).z := by first | with_reducible rfl | (simp only []; done) | (simp []; done) | rfl
  exact ⟨[(Fl va), (Fl vb), (Fl vc)], rfl, ⟨va, vb, vc, rfl, x22, x23, x24⟩⟩

end Go.Proofs.Ytlpgjgombdcheaa
