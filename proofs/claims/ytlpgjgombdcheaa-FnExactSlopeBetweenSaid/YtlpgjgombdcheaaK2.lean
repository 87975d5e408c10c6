/- contracts of functions, each walked once -/
import Derived.Test.YtlpgjgombdcheaaK
namespace Go.Proofs.Ytlpgjgombdcheaa
open Go Go.RowKit
set_option maxRecDepth 100000
set_option maxHeartbeats 3200000
set_option linter.unusedVariables false
set_option linter.unusedSimpArgs false

/- spec.l06Read -/
theorem c_spec_l06Read (g_b : Nat) (g_o : Nat) (g : List Value) (A_g : GridT) (p : List Value) (A_p : V3) (w : World) (hc_g : Cells w g_b g_o g) (hv_g : RGridT w A_g g) (hv_p : RV3 w A_p p) (hgr : isGrid A_g = true) (hfp : finV A_p = true) : Gives Try.prog 18 #[(Pt g_b g_o), (.agg p.toArray)] w (fun v w' => ∃ r_1 : Nat, v = (Fl r_1) ∧ cf .f32 r_1 = readG A_g A_p) := by
  obtain ⟨r1, r3, r5, r7, y9, rfl, h2, h4, h6, h8, h10⟩ := hv_g
  obtain ⟨r11, r13, r15, rfl, h12, h14, h16⟩ := hv_p
  have hs19 := h10; have hs19l := Sl.len h10; obtain ⟨p17, q18, rfl⟩ := Sl.shape h10
  have hgf := grid_fin hgr
  have hgc := isGrid_cnt hgr
  have hpf := finV_iff.1 hfp
  have hix := cellU_in hpf.1 hgf.1.1 hgf.2.1 hgf.2.2 ⟨hgc.1.1, hgc.1.2⟩
  have hiy := cellU_in hpf.2.1 hgf.1.2.1 hgf.2.1 hgf.2.2 ⟨hgc.2.1.1, hgc.2.1.2⟩
  have hiz := cellU_in hpf.2.2 hgf.1.2.2 hgf.2.1 hgf.2.2 ⟨hgc.2.2.1.1, hgc.2.2.1.2⟩
  have hbx := cellI_bd (p := A_p.x) (low := A_g.low.x) (st := A_g.step) (n := A_g.x) (by omega)
  have hby := cellI_bd (p := A_p.y) (low := A_g.low.y) (st := A_g.step) (n := A_g.y) (by omega)
  have hbz := cellI_bd (p := A_p.z) (low := A_g.low.z) (st := A_g.step) (n := A_g.z) (by omega)
  have hid0 := idx_in (x := cellI A_p.x A_g.low.x A_g.step A_g.x) (y := min (cellI A_p.y A_g.low.y A_g.step A_g.y + 0) (A_g.y - 1)) (z := min (cellI A_p.z A_g.low.z A_g.step A_g.z + 0) (A_g.z - 1)) hgr (by omega) (by omega) (by omega)
  have hid1 := idx_in (x := cellI A_p.x A_g.low.x A_g.step A_g.x) (y := min (cellI A_p.y A_g.low.y A_g.step A_g.y + 0) (A_g.y - 1)) (z := min (cellI A_p.z A_g.low.z A_g.step A_g.z + 1) (A_g.z - 1)) hgr (by omega) (by omega) (by omega)
  have hid2 := idx_in (x := cellI A_p.x A_g.low.x A_g.step A_g.x) (y := min (cellI A_p.y A_g.low.y A_g.step A_g.y + 1) (A_g.y - 1)) (z := min (cellI A_p.z A_g.low.z A_g.step A_g.z + 0) (A_g.z - 1)) hgr (by omega) (by omega) (by omega)
  have hid3 := idx_in (x := cellI A_p.x A_g.low.x A_g.step A_g.x) (y := min (cellI A_p.y A_g.low.y A_g.step A_g.y + 1) (A_g.y - 1)) (z := min (cellI A_p.z A_g.low.z A_g.step A_g.z + 1) (A_g.z - 1)) hgr (by omega) (by omega) (by omega)
  have hid4 := idx_in (x := min (cellI A_p.x A_g.low.x A_g.step A_g.x + 1) (A_g.x - 1)) (y := min (cellI A_p.y A_g.low.y A_g.step A_g.y + 0) (A_g.y - 1)) (z := min (cellI A_p.z A_g.low.z A_g.step A_g.z + 0) (A_g.z - 1)) hgr (by omega) (by omega) (by omega)
  have hid5 := idx_in (x := min (cellI A_p.x A_g.low.x A_g.step A_g.x + 1) (A_g.x - 1)) (y := min (cellI A_p.y A_g.low.y A_g.step A_g.y + 0) (A_g.y - 1)) (z := min (cellI A_p.z A_g.low.z A_g.step A_g.z + 1) (A_g.z - 1)) hgr (by omega) (by omega) (by omega)
  have hid6 := idx_in (x := min (cellI A_p.x A_g.low.x A_g.step A_g.x + 1) (A_g.x - 1)) (y := min (cellI A_p.y A_g.low.y A_g.step A_g.y + 1) (A_g.y - 1)) (z := min (cellI A_p.z A_g.low.z A_g.step A_g.z + 0) (A_g.z - 1)) hgr (by omega) (by omega) (by omega)
  have hid7 := idx_in (x := min (cellI A_p.x A_g.low.x A_g.step A_g.x + 1) (A_g.x - 1)) (y := min (cellI A_p.y A_g.low.y A_g.step A_g.y + 1) (A_g.y - 1)) (z := min (cellI A_p.z A_g.low.z A_g.step A_g.z + 1) (A_g.z - 1)) hgr (by omega) (by omega) (by omega)
  have hmy : min (cellI A_p.y A_g.low.y A_g.step A_g.y + 0) (A_g.y - 1) = cellI A_p.y A_g.low.y A_g.step A_g.y := by omega
  have hmz : min (cellI A_p.z A_g.low.z A_g.step A_g.z + 0) (A_g.z - 1) = cellI A_p.z A_g.low.z A_g.step A_g.z := by omega
  simp only [← h2, ← h4, ← h6, ← h8, ← h12, ← h14, ← h16] at hix hiy hiz hbx hby hbz hmy hmz hid0 hid1 hid2 hid3 hid4 hid5 hid6 hid7
  refine enter [(Pt g_b g_o), (.agg #[(Fl r11), (Fl r13), (Fl r15)]), Ud, Ud, Ud, Ud, Ud, Ud, Ud, Ud, Ud, Ud, Ud, Ud, Ud, Ud, Ud, Ud, Ud, Ud, Ud, Ud, Ud, Ud, Ud, Ud, Ud, Ud, Ud, Ud, Ud, Ud, Ud, Ud, Ud, Ud, Ud, Ud, Ud, Ud, Ud, Ud, Ud, Ud, Ud, Ud, Ud, Ud, Ud, Ud, Ud, Ud, Ud, Ud, Ud, Ud, Ud, Ud, Ud, Ud, Ud, Ud, Ud, Ud, Ud, Ud, Ud, Ud, Ud, Ud, Ud, Ud, Ud, Ud, Ud, Ud, Ud, Ud, Ud, Ud, Ud, Ud, Ud, Ud, Ud, Ud, Ud, Ud, Ud, Ud, Ud, Ud, Ud, Ud, Ud, Ud, Ud, Ud, Ud, Ud, Ud, Ud, Ud, Ud, Ud, Ud, Ud, Ud, Ud, Ud, Ud, Ud, Ud, Ud, Ud, Ud, Ud, Ud, Ud, Ud, Ud, Ud, Ud, Ud, Ud, Ud, Ud, Ud, Ud, Ud, Ud, Ud, Ud, Ud, Ud, Ud, Ud, Ud, Ud, Ud, Ud, Ud, Ud, Ud, Ud, Ud, Ud, Ud, Ud, Ud, Ud, Ud, Ud, Ud, Ud, Ud, Ud] Try.func18 rfl Try.ntmps18 rfl ?_
  refine wp_seq_k fun K20 hK20 => ?_
  refine wp_region_lit ?_
  refine seqd rfl rfl (does_box (u := (.agg #[(Fl r11), (Fl r13), (Fl r15)])) (ev rfl)) ?_; rintro _ w25 ⟨b21, rfl, hb22, hB23, E24⟩
  have n26 : g_b < b21 := Nat.lt_of_lt_of_le (cell_lt (Cells.at hc_g 0 rfl)) hb22
  have g27 : w.heap.size ≤ b21 := Nat.le_trans (Below.size (Ext.refl w)) hb22
  change Blk _ _ [(Fl r11), (Fl r13), (Fl r15)] at hB23
  have X28 := Ext.gr (Ext.refl w) E24
  show wpList _ _ _ _ (fr [_, _, _, _, _, _, _, _, _, _, _, _, _, _, _, _, _, _, _, _, _, _, _, _, _, _, _, _, _, _, _, _, _, _, _, _, _, _, _, _, _, _, _, _, _, _, _, _, _, _, _, _, _, _, _, _, _, _, _, _, _, _, _, _, _, _, _, _, _, _, _, _, _, _, _, _, _, _, _, _, _, _, _, _, _, _, _, _, _, _, _, _, _, _, _, _, _, _, _, _, _, _, _, _, _, _, _, _, _, _, _, _, _, _, _, _, _, _, _, _, _, _, _, _, _, _, _, _, _, _, _, _, _, _, _, _, _, _, _, _, _, _, _, _, _, _, _, _, _, _, _, _, _, _, _, _, _]) _
  refine q_is rfl rfl (does_assign (u := (Fl 0)) (ev rfl)) (by dsimp only [List.set]; try rfl) ?_
  refine wpList_nil (hK20 _ _ ?_)
  refine wp_seq_k fun K29 hK29 => ?_
  refine region_draw (
    [Fact.pure [] (fun v => v = (Pt b21 0)),
    Fact.pure [19] (fun v => v = (Fl r11)),
    Fact.pure [] (fun v => v = (Pt g_b g_o)),
    Fact.pure [21] (fun v => v = (Pt g_b g_o)),
    Fact.pure [22] (fun v => v = (Pt g_b g_o)),
    Fact.pure [23] (fun v => v = (Pt g_b g_o)),
    Fact.pure [24] (fun v => v = (Fl r1)),
    Fact.pure [] (fun v => v = (Pt g_b g_o)),
    Fact.pure [26] (fun v => v = (Pt g_b g_o)),
    Fact.pure [27] (fun v => v = (Pt g_b (g_o + 3))),
    Fact.pure [28] (fun v => v = (Fl r7)),
    Fact.pure [] (fun v => v = (Pt g_b g_o)),
    Fact.pure [30] (fun v => v = (Pt g_b g_o)),
    Fact.pure [31] (fun v => v = (Pt g_b (g_o + 4))),
    Fact.pure [32] (fun v => v = (Iv A_g.x)),
    Fact.pure [20, 25, 29, 33] (fun v => ∃ r_1 : Nat, v = (.tuple #[(Iv (cellI (cf .f32 r11) (cf .f32 r1) (cf .f32 r7) A_g.x)), (Fl r_1)]) ∧ cf .f32 r_1 = cellF (cf .f32 r11) (cf .f32 r1) (cf .f32 r7) A_g.x),
    Fact.pure [34] (fun v => ∃ r_1 : Nat, v = (.tuple #[(Iv (cellI (cf .f32 r11) (cf .f32 r1) (cf .f32 r7) A_g.x)), (Fl r_1)]) ∧ cf .f32 r_1 = cellF (cf .f32 r11) (cf .f32 r1) (cf .f32 r7) A_g.x),
    Fact.pure [18] (fun v => v = (Iv (cellI (cf .f32 r11) (cf .f32 r1) (cf .f32 r7) A_g.x))),
    Fact.flt [18] (fun v => ∃ r_1 : Nat, v = (Fl r_1) ∧ cf .f32 r_1 = cellF (cf .f32 r11) (cf .f32 r1) (cf .f32 r7) A_g.x)]) mixed (by kernel_rfl) (by intro _ _ d _ _ h; cases d <;> exact h) ?_
  obtain ⟨w30, hw32⟩ : ∃ w', w' = World.drew w25 := ⟨_, rfl⟩; rw [← hw32]; have E31 : Ext w25 w30 := by rw [hw32]; exact Ext.draw _
  clear hw32
  have X33 := Ext.gr X28 E31
  refine RW_d _ rfl (fun v => by dsimp only [List.set]; try rfl) (fun u hu hF => ?_) (fun v34 => ?_)
  · clear hF
    refine doesG_un rfl ?_
    refine (does_fieldAddr (ev rfl) fa31_0).mono ?_; rintro _ _ ⟨rfl, rfl⟩
    exact ⟨rfl, Ext.refl _⟩
  refine RW_d _ rfl (fun v => by dsimp only [List.set]; try rfl) (fun u hu hF => ?_) (fun v35 => ?_)
  · have h19_ : v34 = (Pt b21 0) := hF.1
    clear hF
    refine doesG_un rfl ?_
    obtain rfl := h19_
    refine (does_load (u := (Fl r11)) (ev rfl) Try.isAgg22 (Cells.at (Blk.cells ((hB23.ext E31).ext hu)) 0 rfl)).mono ?_; rintro _ _ ⟨rfl, rfl⟩
    exact ⟨rfl, Ext.refl _⟩
  refine RW_d _ rfl (fun v => by dsimp only [List.set]; try rfl) (fun u hu hF => ?_) (fun v36 => ?_)
  · clear hF
    refine doesG_un rfl ?_
    refine (does_move (u := (Pt g_b g_o)) (ev rfl)).mono ?_; rintro _ _ ⟨rfl, rfl⟩
    exact ⟨rfl, Ext.refl _⟩
  refine RW_d _ rfl (fun v => by dsimp only [List.set]; try rfl) (fun u hu hF => ?_) (fun v37 => ?_)
  · have h21_ : v36 = (Pt g_b g_o) := hF.1
    clear hF
    refine doesG_un rfl ?_
    obtain rfl := h21_
    refine (does_nilCheck (ev rfl)).mono ?_; rintro _ _ ⟨rfl, rfl⟩
    exact ⟨rfl, Ext.refl _⟩
  refine RW_d _ rfl (fun v => by dsimp only [List.set]; try rfl) (fun u hu hF => ?_) (fun v38 => ?_)
  · have h22_ : v37 = (Pt g_b g_o) := hF.1
    clear hF
    refine doesG_un rfl ?_
    obtain rfl := h22_
    refine (does_fieldAddr (ev rfl) fa33_0).mono ?_; rintro _ _ ⟨rfl, rfl⟩
    exact ⟨rfl, Ext.refl _⟩
  refine RW_d _ rfl (fun v => by dsimp only [List.set]; try rfl) (fun u hu hF => ?_) (fun v39 => ?_)
  · have h23_ : v38 = (Pt g_b g_o) := hF.1
    clear hF
    refine doesG_un rfl ?_
    obtain rfl := h23_
    refine (does_fieldAddr (ev rfl) fa31_0).mono ?_; rintro _ _ ⟨rfl, rfl⟩
    exact ⟨rfl, Ext.refl _⟩
  refine RW_d _ rfl (fun v => by dsimp only [List.set]; try rfl) (fun u hu hF => ?_) (fun v40 => ?_)
  · have h24_ : v39 = (Pt g_b g_o) := hF.1
    clear hF
    refine doesG_un rfl ?_
    obtain rfl := h24_
    refine (does_load (u := (Fl r1)) (ev rfl) Try.isAgg22 (Cells.at ((hc_g.ext (Ext.gr X28 E31)).ext hu) 0 rfl)).mono ?_; rintro _ _ ⟨rfl, rfl⟩
    exact ⟨rfl, Ext.refl _⟩
  refine RW_d _ rfl (fun v => by dsimp only [List.set]; try rfl) (fun u hu hF => ?_) (fun v41 => ?_)
  · clear hF
    refine doesG_un rfl ?_
    refine (does_move (u := (Pt g_b g_o)) (ev rfl)).mono ?_; rintro _ _ ⟨rfl, rfl⟩
    exact ⟨rfl, Ext.refl _⟩
  refine RW_d _ rfl (fun v => by dsimp only [List.set]; try rfl) (fun u hu hF => ?_) (fun v42 => ?_)
  · have h26_ : v41 = (Pt g_b g_o) := hF.1
    clear hF
    refine doesG_un rfl ?_
    obtain rfl := h26_
    refine (does_nilCheck (ev rfl)).mono ?_; rintro _ _ ⟨rfl, rfl⟩
    exact ⟨rfl, Ext.refl _⟩
  refine RW_d _ rfl (fun v => by dsimp only [List.set]; try rfl) (fun u hu hF => ?_) (fun v43 => ?_)
  · have h27_ : v42 = (Pt g_b g_o) := hF.1
    clear hF
    refine doesG_un rfl ?_
    obtain rfl := h27_
    refine (does_fieldAddr (ev rfl) fa33_1).mono ?_; rintro _ _ ⟨rfl, rfl⟩
    exact ⟨rfl, Ext.refl _⟩
  refine RW_d _ rfl (fun v => by dsimp only [List.set]; try rfl) (fun u hu hF => ?_) (fun v44 => ?_)
  · have h28_ : v43 = (Pt g_b (g_o + 3)) := hF.1
    clear hF
    refine doesG_un rfl ?_
    obtain rfl := h28_
    refine (does_load (u := (Fl r7)) (ev rfl) Try.isAgg22 (Cells.at ((hc_g.ext (Ext.gr X28 E31)).ext hu) 3 rfl)).mono ?_; rintro _ _ ⟨rfl, rfl⟩
    exact ⟨rfl, Ext.refl _⟩
  refine RW_d _ rfl (fun v => by dsimp only [List.set]; try rfl) (fun u hu hF => ?_) (fun v45 => ?_)
  · clear hF
    refine doesG_un rfl ?_
    refine (does_move (u := (Pt g_b g_o)) (ev rfl)).mono ?_; rintro _ _ ⟨rfl, rfl⟩
    exact ⟨rfl, Ext.refl _⟩
  refine RW_d _ rfl (fun v => by dsimp only [List.set]; try rfl) (fun u hu hF => ?_) (fun v46 => ?_)
  · have h30_ : v45 = (Pt g_b g_o) := hF.1
    clear hF
    refine doesG_un rfl ?_
    obtain rfl := h30_
    refine (does_nilCheck (ev rfl)).mono ?_; rintro _ _ ⟨rfl, rfl⟩
    exact ⟨rfl, Ext.refl _⟩
  refine RW_d _ rfl (fun v => by dsimp only [List.set]; try rfl) (fun u hu hF => ?_) (fun v47 => ?_)
  · have h31_ : v46 = (Pt g_b g_o) := hF.1
    clear hF
    refine doesG_un rfl ?_
    obtain rfl := h31_
    refine (does_fieldAddr (ev rfl) fa33_2).mono ?_; rintro _ _ ⟨rfl, rfl⟩
    exact ⟨rfl, Ext.refl _⟩
  refine RW_d _ rfl (fun v => by dsimp only [List.set]; try rfl) (fun u hu hF => ?_) (fun v48 => ?_)
  · have h32_ : v47 = (Pt g_b (g_o + 4)) := hF.1
    clear hF
    refine doesG_un rfl ?_
    obtain rfl := h32_
    refine (does_load (u := (Iv A_g.x)) (ev rfl) Try.isAgg2 (Cells.at ((hc_g.ext (Ext.gr X28 E31)).ext hu) 4 rfl)).mono ?_; rintro _ _ ⟨rfl, rfl⟩
    exact ⟨rfl, Ext.refl _⟩
  refine RW_d _ rfl (fun v => by dsimp only [List.set]; try rfl) (fun u hu hF => ?_) (fun v49 => ?_)
  · have h20_ : v35 = (Fl r11) := hF.1
    have h25_ : v40 = (Fl r1) := hF.2.1
    have h29_ : v44 = (Fl r7) := hF.2.2.1
    have h33_ : v48 = (Iv A_g.x) := hF.2.2.2.1
    clear hF
    refine doesG_un rfl ?_
    obtain rfl := h20_
    obtain rfl := h25_
    obtain rfl := h29_
    obtain rfl := h33_
    refine (does_call (args := #[(Fl r11), (Fl r1), (Fl r7), (Iv A_g.x)]) cal30 (evs rfl) (c_spec_l06Cell r11 r1 r7 A_g.x _ (by exact hix) (by omega))).mono ?_; rintro v u' ⟨hx, ⟨rn1, hv, k0⟩⟩
    exact ⟨⟨rn1, hv, (by simp only [k0])⟩, hx⟩
  refine RW_d _ rfl (fun v => by dsimp only [List.set]; try rfl) (fun u hu hF => ?_) (fun v50 => ?_)
  · have h34_ : ∃ r_1 : Nat, v49 = (.tuple #[(Iv (cellI (cf .f32 r11) (cf .f32 r1) (cf .f32 r7) A_g.x)), (Fl r_1)]) ∧ cf .f32 r_1 = cellF (cf .f32 r11) (cf .f32 r1) (cf .f32 r7) A_g.x := hF.1
    clear hF
    refine doesG_un rfl ?_
    obtain ⟨r34_1, rfl, h34_2⟩ := h34_
    refine (does_move (u := (.tuple #[(Iv (cellI (cf .f32 r11) (cf .f32 r1) (cf .f32 r7) A_g.x)), (Fl r34_1)])) (ev rfl)).mono ?_; rintro _ _ ⟨rfl, rfl⟩
    exact ⟨⟨r34_1, rfl, (by simp only [h34_2])⟩, Ext.refl _⟩
  refine RW_d _ rfl (fun v => by dsimp only [List.set]; try rfl) (fun u hu hF => ?_) (fun v51 => ?_)
  · have h18_ : ∃ r_1 : Nat, v50 = (.tuple #[(Iv (cellI (cf .f32 r11) (cf .f32 r1) (cf .f32 r7) A_g.x)), (Fl r_1)]) ∧ cf .f32 r_1 = cellF (cf .f32 r11) (cf .f32 r1) (cf .f32 r7) A_g.x := hF.1
    clear hF
    refine doesG_un rfl ?_
    obtain ⟨r18_1, rfl, h18_2⟩ := h18_
    refine (does_extract (vs := #[(Iv (cellI (cf .f32 r11) (cf .f32 r1) (cf .f32 r7) A_g.x)), (Fl r18_1)]) (u := (Iv (cellI (cf .f32 r11) (cf .f32 r1) (cf .f32 r7) A_g.x))) (ev rfl) rfl).mono ?_; rintro _ _ ⟨rfl, rfl⟩
    exact ⟨rfl, Ext.refl _⟩
  refine RW_d _ rfl (fun v => by dsimp only [List.set]; try rfl) (fun u hu hF => ?_) (fun v52 => ?_)
  · have h18_ : ∃ r_1 : Nat, v50 = (.tuple #[(Iv (cellI (cf .f32 r11) (cf .f32 r1) (cf .f32 r7) A_g.x)), (Fl r_1)]) ∧ cf .f32 r_1 = cellF (cf .f32 r11) (cf .f32 r1) (cf .f32 r7) A_g.x := hF.1
    clear hF
    obtain ⟨r18_1, rfl, h18_2⟩ := h18_
    exact ⟨_, yields_is rfl (run_extract (ev rfl) rfl), ⟨r18_1, rfl, (by simp only [h18_2])⟩⟩
  refine RW_fin ?_; intro w53 E54 hP55
  obtain ⟨⟨⟨⟨⟨⟨⟨⟨⟨⟨⟨⟨⟨⟨⟨⟨⟨⟨⟨-, -⟩, -⟩, -⟩, -⟩, -⟩, -⟩, -⟩, -⟩, -⟩, -⟩, -⟩, -⟩, -⟩, -⟩, -⟩, -⟩, -⟩, q56⟩, q57⟩ := hP55
  have X58 := Ext.gr X33 E54
  have q56 : v51 = (Iv (cellI (cf .f32 r11) (cf .f32 r1) (cf .f32 r7) A_g.x)) := q56
  obtain rfl := q56
  have q57 : ∃ r_1 : Nat, v52 = (Fl r_1) ∧ cf .f32 r_1 = cellF (cf .f32 r11) (cf .f32 r1) (cf .f32 r7) A_g.x := q57
  obtain ⟨r59, rfl, h60⟩ := q57
  show wpList _ _ _ _ (fr [_, _, _, _, _, _, _, _, _, _, _, _, _, _, _, _, _, _, _, _, _, _, _, _, _, _, _, _, _, _, _, _, _, _, _, _, _, _, _, _, _, _, _, _, _, _, _, _, _, _, _, _, _, _, _, _, _, _, _, _, _, _, _, _, _, _, _, _, _, _, _, _, _, _, _, _, _, _, _, _, _, _, _, _, _, _, _, _, _, _, _, _, _, _, _, _, _, _, _, _, _, _, _, _, _, _, _, _, _, _, _, _, _, _, _, _, _, _, _, _, _, _, _, _, _, _, _, _, _, _, _, _, _, _, _, _, _, _, _, _, _, _, _, _, _, _, _, _, _, _, _, _, _, _, _, _, _]) _
  refine q_is rfl rfl (does_assign (u := (Iv (cellI (cf .f32 r11) (cf .f32 r1) (cf .f32 r7) A_g.x))) (ev rfl)) (by dsimp only [List.set]; try rfl) ?_
  refine q_is rfl rfl (does_assign (u := (Fl r59)) (ev rfl)) (by dsimp only [List.set]; try rfl) ?_
  refine wpList_nil (hK29 _ _ ?_)
  refine wp_seq_k fun K61 hK61 => ?_
  refine region_draw (
    [Fact.pure [] (fun v => v = (Pt b21 1)),
    Fact.pure [38] (fun v => v = (Fl r13)),
    Fact.pure [] (fun v => v = (Pt g_b g_o)),
    Fact.pure [40] (fun v => v = (Pt g_b g_o)),
    Fact.pure [41] (fun v => v = (Pt g_b g_o)),
    Fact.pure [42] (fun v => v = (Pt g_b (g_o + 1))),
    Fact.pure [43] (fun v => v = (Fl r3)),
    Fact.pure [] (fun v => v = (Pt g_b g_o)),
    Fact.pure [45] (fun v => v = (Pt g_b g_o)),
    Fact.pure [46] (fun v => v = (Pt g_b (g_o + 3))),
    Fact.pure [47] (fun v => v = (Fl r7)),
    Fact.pure [] (fun v => v = (Pt g_b g_o)),
    Fact.pure [49] (fun v => v = (Pt g_b g_o)),
    Fact.pure [50] (fun v => v = (Pt g_b (g_o + 5))),
    Fact.pure [51] (fun v => v = (Iv A_g.y)),
    Fact.pure [39, 44, 48, 52] (fun v => ∃ r_1 : Nat, v = (.tuple #[(Iv (cellI (cf .f32 r13) (cf .f32 r3) (cf .f32 r7) A_g.y)), (Fl r_1)]) ∧ cf .f32 r_1 = cellF (cf .f32 r13) (cf .f32 r3) (cf .f32 r7) A_g.y),
    Fact.pure [53] (fun v => ∃ r_1 : Nat, v = (.tuple #[(Iv (cellI (cf .f32 r13) (cf .f32 r3) (cf .f32 r7) A_g.y)), (Fl r_1)]) ∧ cf .f32 r_1 = cellF (cf .f32 r13) (cf .f32 r3) (cf .f32 r7) A_g.y),
    Fact.pure [37] (fun v => v = (Iv (cellI (cf .f32 r13) (cf .f32 r3) (cf .f32 r7) A_g.y))),
    Fact.flt [37] (fun v => ∃ r_1 : Nat, v = (Fl r_1) ∧ cf .f32 r_1 = cellF (cf .f32 r13) (cf .f32 r3) (cf .f32 r7) A_g.y)]) mixed (by kernel_rfl) (by intro _ _ d _ _ h; cases d <;> exact h) ?_
  obtain ⟨w62, hw64⟩ : ∃ w', w' = World.drew w53 := ⟨_, rfl⟩; rw [← hw64]; have E63 : Ext w53 w62 := by rw [hw64]; exact Ext.draw _
  clear hw64
  have X65 := Ext.gr X58 E63
  refine RW_d _ rfl (fun v => by dsimp only [List.set]; try rfl) (fun u hu hF => ?_) (fun v66 => ?_)
  · clear hF
    refine doesG_un rfl ?_
    refine (does_fieldAddr (ev rfl) fa31_1).mono ?_; rintro _ _ ⟨rfl, rfl⟩
    exact ⟨rfl, Ext.refl _⟩
  refine RW_d _ rfl (fun v => by dsimp only [List.set]; try rfl) (fun u hu hF => ?_) (fun v67 => ?_)
  · have h38_ : v66 = (Pt b21 1) := hF.1
    clear hF
    refine doesG_un rfl ?_
    obtain rfl := h38_
    refine (does_load (u := (Fl r13)) (ev rfl) Try.isAgg22 (Cells.at (Blk.cells ((((hB23.ext E31).ext E54).ext E63).ext hu)) 1 rfl)).mono ?_; rintro _ _ ⟨rfl, rfl⟩
    exact ⟨rfl, Ext.refl _⟩
  refine RW_d _ rfl (fun v => by dsimp only [List.set]; try rfl) (fun u hu hF => ?_) (fun v68 => ?_)
  · clear hF
    refine doesG_un rfl ?_
    refine (does_move (u := (Pt g_b g_o)) (ev rfl)).mono ?_; rintro _ _ ⟨rfl, rfl⟩
    exact ⟨rfl, Ext.refl _⟩
  refine RW_d _ rfl (fun v => by dsimp only [List.set]; try rfl) (fun u hu hF => ?_) (fun v69 => ?_)
  · have h40_ : v68 = (Pt g_b g_o) := hF.1
    clear hF
    refine doesG_un rfl ?_
    obtain rfl := h40_
    refine (does_nilCheck (ev rfl)).mono ?_; rintro _ _ ⟨rfl, rfl⟩
    exact ⟨rfl, Ext.refl _⟩
  refine RW_d _ rfl (fun v => by dsimp only [List.set]; try rfl) (fun u hu hF => ?_) (fun v70 => ?_)
  · have h41_ : v69 = (Pt g_b g_o) := hF.1
    clear hF
    refine doesG_un rfl ?_
    obtain rfl := h41_
    refine (does_fieldAddr (ev rfl) fa33_0).mono ?_; rintro _ _ ⟨rfl, rfl⟩
    exact ⟨rfl, Ext.refl _⟩
  refine RW_d _ rfl (fun v => by dsimp only [List.set]; try rfl) (fun u hu hF => ?_) (fun v71 => ?_)
  · have h42_ : v70 = (Pt g_b g_o) := hF.1
    clear hF
    refine doesG_un rfl ?_
    obtain rfl := h42_
    refine (does_fieldAddr (ev rfl) fa31_1).mono ?_; rintro _ _ ⟨rfl, rfl⟩
    exact ⟨rfl, Ext.refl _⟩
  refine RW_d _ rfl (fun v => by dsimp only [List.set]; try rfl) (fun u hu hF => ?_) (fun v72 => ?_)
  · have h43_ : v71 = (Pt g_b (g_o + 1)) := hF.1
    clear hF
    refine doesG_un rfl ?_
    obtain rfl := h43_
    refine (does_load (u := (Fl r3)) (ev rfl) Try.isAgg22 (Cells.at ((hc_g.ext (Ext.gr X58 E63)).ext hu) 1 rfl)).mono ?_; rintro _ _ ⟨rfl, rfl⟩
    exact ⟨rfl, Ext.refl _⟩
  refine RW_d _ rfl (fun v => by dsimp only [List.set]; try rfl) (fun u hu hF => ?_) (fun v73 => ?_)
  · clear hF
    refine doesG_un rfl ?_
    refine (does_move (u := (Pt g_b g_o)) (ev rfl)).mono ?_; rintro _ _ ⟨rfl, rfl⟩
    exact ⟨rfl, Ext.refl _⟩
  refine RW_d _ rfl (fun v => by dsimp only [List.set]; try rfl) (fun u hu hF => ?_) (fun v74 => ?_)
  · have h45_ : v73 = (Pt g_b g_o) := hF.1
    clear hF
    refine doesG_un rfl ?_
    obtain rfl := h45_
    refine (does_nilCheck (ev rfl)).mono ?_; rintro _ _ ⟨rfl, rfl⟩
    exact ⟨rfl, Ext.refl _⟩
  refine RW_d _ rfl (fun v => by dsimp only [List.set]; try rfl) (fun u hu hF => ?_) (fun v75 => ?_)
  · have h46_ : v74 = (Pt g_b g_o) := hF.1
    clear hF
    refine doesG_un rfl ?_
    obtain rfl := h46_
    refine (does_fieldAddr (ev rfl) fa33_1).mono ?_; rintro _ _ ⟨rfl, rfl⟩
    exact ⟨rfl, Ext.refl _⟩
  refine RW_d _ rfl (fun v => by dsimp only [List.set]; try rfl) (fun u hu hF => ?_) (fun v76 => ?_)
  · have h47_ : v75 = (Pt g_b (g_o + 3)) := hF.1
    clear hF
    refine doesG_un rfl ?_
    obtain rfl := h47_
    refine (does_load (u := (Fl r7)) (ev rfl) Try.isAgg22 (Cells.at ((hc_g.ext (Ext.gr X58 E63)).ext hu) 3 rfl)).mono ?_; rintro _ _ ⟨rfl, rfl⟩
    exact ⟨rfl, Ext.refl _⟩
  refine RW_d _ rfl (fun v => by dsimp only [List.set]; try rfl) (fun u hu hF => ?_) (fun v77 => ?_)
  · clear hF
    refine doesG_un rfl ?_
    refine (does_move (u := (Pt g_b g_o)) (ev rfl)).mono ?_; rintro _ _ ⟨rfl, rfl⟩
    exact ⟨rfl, Ext.refl _⟩
  refine RW_d _ rfl (fun v => by dsimp only [List.set]; try rfl) (fun u hu hF => ?_) (fun v78 => ?_)
  · have h49_ : v77 = (Pt g_b g_o) := hF.1
    clear hF
    refine doesG_un rfl ?_
    obtain rfl := h49_
    refine (does_nilCheck (ev rfl)).mono ?_; rintro _ _ ⟨rfl, rfl⟩
    exact ⟨rfl, Ext.refl _⟩
  refine RW_d _ rfl (fun v => by dsimp only [List.set]; try rfl) (fun u hu hF => ?_) (fun v79 => ?_)
  · have h50_ : v78 = (Pt g_b g_o) := hF.1
    clear hF
    refine doesG_un rfl ?_
    obtain rfl := h50_
    refine (does_fieldAddr (ev rfl) fa33_3).mono ?_; rintro _ _ ⟨rfl, rfl⟩
    exact ⟨rfl, Ext.refl _⟩
  refine RW_d _ rfl (fun v => by dsimp only [List.set]; try rfl) (fun u hu hF => ?_) (fun v80 => ?_)
  · have h51_ : v79 = (Pt g_b (g_o + 5)) := hF.1
    clear hF
    refine doesG_un rfl ?_
    obtain rfl := h51_
    refine (does_load (u := (Iv A_g.y)) (ev rfl) Try.isAgg2 (Cells.at ((hc_g.ext (Ext.gr X58 E63)).ext hu) 5 rfl)).mono ?_; rintro _ _ ⟨rfl, rfl⟩
    exact ⟨rfl, Ext.refl _⟩
  refine RW_d _ rfl (fun v => by dsimp only [List.set]; try rfl) (fun u hu hF => ?_) (fun v81 => ?_)
  · have h39_ : v67 = (Fl r13) := hF.1
    have h44_ : v72 = (Fl r3) := hF.2.1
    have h48_ : v76 = (Fl r7) := hF.2.2.1
    have h52_ : v80 = (Iv A_g.y) := hF.2.2.2.1
    clear hF
    refine doesG_un rfl ?_
    obtain rfl := h39_
    obtain rfl := h44_
    obtain rfl := h48_
    obtain rfl := h52_
    refine (does_call (args := #[(Fl r13), (Fl r3), (Fl r7), (Iv A_g.y)]) cal30 (evs rfl) (c_spec_l06Cell r13 r3 r7 A_g.y _ (by exact hiy) (by omega))).mono ?_; rintro v u' ⟨hx, ⟨rn1, hv, k0⟩⟩
    exact ⟨⟨rn1, hv, (by simp only [k0])⟩, hx⟩
  refine RW_d _ rfl (fun v => by dsimp only [List.set]; try rfl) (fun u hu hF => ?_) (fun v82 => ?_)
  · have h53_ : ∃ r_1 : Nat, v81 = (.tuple #[(Iv (cellI (cf .f32 r13) (cf .f32 r3) (cf .f32 r7) A_g.y)), (Fl r_1)]) ∧ cf .f32 r_1 = cellF (cf .f32 r13) (cf .f32 r3) (cf .f32 r7) A_g.y := hF.1
    clear hF
    refine doesG_un rfl ?_
    obtain ⟨r53_1, rfl, h53_2⟩ := h53_
    refine (does_move (u := (.tuple #[(Iv (cellI (cf .f32 r13) (cf .f32 r3) (cf .f32 r7) A_g.y)), (Fl r53_1)])) (ev rfl)).mono ?_; rintro _ _ ⟨rfl, rfl⟩
    exact ⟨⟨r53_1, rfl, (by simp only [h53_2])⟩, Ext.refl _⟩
  refine RW_d _ rfl (fun v => by dsimp only [List.set]; try rfl) (fun u hu hF => ?_) (fun v83 => ?_)
  · have h37_ : ∃ r_1 : Nat, v82 = (.tuple #[(Iv (cellI (cf .f32 r13) (cf .f32 r3) (cf .f32 r7) A_g.y)), (Fl r_1)]) ∧ cf .f32 r_1 = cellF (cf .f32 r13) (cf .f32 r3) (cf .f32 r7) A_g.y := hF.1
    clear hF
    refine doesG_un rfl ?_
    obtain ⟨r37_1, rfl, h37_2⟩ := h37_
    refine (does_extract (vs := #[(Iv (cellI (cf .f32 r13) (cf .f32 r3) (cf .f32 r7) A_g.y)), (Fl r37_1)]) (u := (Iv (cellI (cf .f32 r13) (cf .f32 r3) (cf .f32 r7) A_g.y))) (ev rfl) rfl).mono ?_; rintro _ _ ⟨rfl, rfl⟩
    exact ⟨rfl, Ext.refl _⟩
  refine RW_d _ rfl (fun v => by dsimp only [List.set]; try rfl) (fun u hu hF => ?_) (fun v84 => ?_)
  · have h37_ : ∃ r_1 : Nat, v82 = (.tuple #[(Iv (cellI (cf .f32 r13) (cf .f32 r3) (cf .f32 r7) A_g.y)), (Fl r_1)]) ∧ cf .f32 r_1 = cellF (cf .f32 r13) (cf .f32 r3) (cf .f32 r7) A_g.y := hF.1
    clear hF
    obtain ⟨r37_1, rfl, h37_2⟩ := h37_
    exact ⟨_, yields_is rfl (run_extract (ev rfl) rfl), ⟨r37_1, rfl, (by simp only [h37_2])⟩⟩
  refine RW_fin ?_; intro w85 E86 hP87
  obtain ⟨⟨⟨⟨⟨⟨⟨⟨⟨⟨⟨⟨⟨⟨⟨⟨⟨⟨⟨-, -⟩, -⟩, -⟩, -⟩, -⟩, -⟩, -⟩, -⟩, -⟩, -⟩, -⟩, -⟩, -⟩, -⟩, -⟩, -⟩, -⟩, q88⟩, q89⟩ := hP87
  have X90 := Ext.gr X65 E86
  have q88 : v83 = (Iv (cellI (cf .f32 r13) (cf .f32 r3) (cf .f32 r7) A_g.y)) := q88
  obtain rfl := q88
  have q89 : ∃ r_1 : Nat, v84 = (Fl r_1) ∧ cf .f32 r_1 = cellF (cf .f32 r13) (cf .f32 r3) (cf .f32 r7) A_g.y := q89
  obtain ⟨r91, rfl, h92⟩ := q89
  show wpList _ _ _ _ (fr [_, _, _, _, _, _, _, _, _, _, _, _, _, _, _, _, _, _, _, _, _, _, _, _, _, _, _, _, _, _, _, _, _, _, _, _, _, _, _, _, _, _, _, _, _, _, _, _, _, _, _, _, _, _, _, _, _, _, _, _, _, _, _, _, _, _, _, _, _, _, _, _, _, _, _, _, _, _, _, _, _, _, _, _, _, _, _, _, _, _, _, _, _, _, _, _, _, _, _, _, _, _, _, _, _, _, _, _, _, _, _, _, _, _, _, _, _, _, _, _, _, _, _, _, _, _, _, _, _, _, _, _, _, _, _, _, _, _, _, _, _, _, _, _, _, _, _, _, _, _, _, _, _, _, _, _, _]) _
  refine q_is rfl rfl (does_assign (u := (Iv (cellI (cf .f32 r13) (cf .f32 r3) (cf .f32 r7) A_g.y))) (ev rfl)) (by dsimp only [List.set]; try rfl) ?_
  refine q_is rfl rfl (does_assign (u := (Fl r91)) (ev rfl)) (by dsimp only [List.set]; try rfl) ?_
  refine wpList_nil (hK61 _ _ ?_)
  refine wp_seq_k fun K93 hK93 => ?_
  refine region_draw (
    [Fact.pure [] (fun v => v = (Pt b21 2)),
    Fact.pure [57] (fun v => v = (Fl r15)),
    Fact.pure [] (fun v => v = (Pt g_b g_o)),
    Fact.pure [59] (fun v => v = (Pt g_b g_o)),
    Fact.pure [60] (fun v => v = (Pt g_b g_o)),
    Fact.pure [61] (fun v => v = (Pt g_b (g_o + 2))),
    Fact.pure [62] (fun v => v = (Fl r5)),
    Fact.pure [] (fun v => v = (Pt g_b g_o)),
    Fact.pure [64] (fun v => v = (Pt g_b g_o)),
    Fact.pure [65] (fun v => v = (Pt g_b (g_o + 3))),
    Fact.pure [66] (fun v => v = (Fl r7)),
    Fact.pure [] (fun v => v = (Pt g_b g_o)),
    Fact.pure [68] (fun v => v = (Pt g_b g_o)),
    Fact.pure [69] (fun v => v = (Pt g_b (g_o + 6))),
    Fact.pure [70] (fun v => v = (Iv A_g.z)),
    Fact.pure [58, 63, 67, 71] (fun v => ∃ r_1 : Nat, v = (.tuple #[(Iv (cellI (cf .f32 r15) (cf .f32 r5) (cf .f32 r7) A_g.z)), (Fl r_1)]) ∧ cf .f32 r_1 = cellF (cf .f32 r15) (cf .f32 r5) (cf .f32 r7) A_g.z),
    Fact.pure [72] (fun v => ∃ r_1 : Nat, v = (.tuple #[(Iv (cellI (cf .f32 r15) (cf .f32 r5) (cf .f32 r7) A_g.z)), (Fl r_1)]) ∧ cf .f32 r_1 = cellF (cf .f32 r15) (cf .f32 r5) (cf .f32 r7) A_g.z),
    Fact.pure [56] (fun v => v = (Iv (cellI (cf .f32 r15) (cf .f32 r5) (cf .f32 r7) A_g.z))),
    Fact.flt [56] (fun v => ∃ r_1 : Nat, v = (Fl r_1) ∧ cf .f32 r_1 = cellF (cf .f32 r15) (cf .f32 r5) (cf .f32 r7) A_g.z)]) mixed (by kernel_rfl) (by intro _ _ d _ _ h; cases d <;> exact h) ?_
  obtain ⟨w94, hw96⟩ : ∃ w', w' = World.drew w85 := ⟨_, rfl⟩; rw [← hw96]; have E95 : Ext w85 w94 := by rw [hw96]; exact Ext.draw _
  clear hw96
  have X97 := Ext.gr X90 E95
  refine RW_d _ rfl (fun v => by dsimp only [List.set]; try rfl) (fun u hu hF => ?_) (fun v98 => ?_)
  · clear hF
    refine doesG_un rfl ?_
    refine (does_fieldAddr (ev rfl) fa31_2).mono ?_; rintro _ _ ⟨rfl, rfl⟩
    exact ⟨rfl, Ext.refl _⟩
  refine RW_d _ rfl (fun v => by dsimp only [List.set]; try rfl) (fun u hu hF => ?_) (fun v99 => ?_)
  · have h57_ : v98 = (Pt b21 2) := hF.1
    clear hF
    refine doesG_un rfl ?_
    obtain rfl := h57_
    refine (does_load (u := (Fl r15)) (ev rfl) Try.isAgg22 (Cells.at (Blk.cells ((((((hB23.ext E31).ext E54).ext E63).ext E86).ext E95).ext hu)) 2 rfl)).mono ?_; rintro _ _ ⟨rfl, rfl⟩
    exact ⟨rfl, Ext.refl _⟩
  refine RW_d _ rfl (fun v => by dsimp only [List.set]; try rfl) (fun u hu hF => ?_) (fun v100 => ?_)
  · clear hF
    refine doesG_un rfl ?_
    refine (does_move (u := (Pt g_b g_o)) (ev rfl)).mono ?_; rintro _ _ ⟨rfl, rfl⟩
    exact ⟨rfl, Ext.refl _⟩
  refine RW_d _ rfl (fun v => by dsimp only [List.set]; try rfl) (fun u hu hF => ?_) (fun v101 => ?_)
  · have h59_ : v100 = (Pt g_b g_o) := hF.1
    clear hF
    refine doesG_un rfl ?_
    obtain rfl := h59_
    refine (does_nilCheck (ev rfl)).mono ?_; rintro _ _ ⟨rfl, rfl⟩
    exact ⟨rfl, Ext.refl _⟩
  refine RW_d _ rfl (fun v => by dsimp only [List.set]; try rfl) (fun u hu hF => ?_) (fun v102 => ?_)
  · have h60_ : v101 = (Pt g_b g_o) := hF.1
    clear hF
    refine doesG_un rfl ?_
    obtain rfl := h60_
    refine (does_fieldAddr (ev rfl) fa33_0).mono ?_; rintro _ _ ⟨rfl, rfl⟩
    exact ⟨rfl, Ext.refl _⟩
  refine RW_d _ rfl (fun v => by dsimp only [List.set]; try rfl) (fun u hu hF => ?_) (fun v103 => ?_)
  · have h61_ : v102 = (Pt g_b g_o) := hF.1
    clear hF
    refine doesG_un rfl ?_
    obtain rfl := h61_
    refine (does_fieldAddr (ev rfl) fa31_2).mono ?_; rintro _ _ ⟨rfl, rfl⟩
    exact ⟨rfl, Ext.refl _⟩
  refine RW_d _ rfl (fun v => by dsimp only [List.set]; try rfl) (fun u hu hF => ?_) (fun v104 => ?_)
  · have h62_ : v103 = (Pt g_b (g_o + 2)) := hF.1
    clear hF
    refine doesG_un rfl ?_
    obtain rfl := h62_
    refine (does_load (u := (Fl r5)) (ev rfl) Try.isAgg22 (Cells.at ((hc_g.ext (Ext.gr X90 E95)).ext hu) 2 rfl)).mono ?_; rintro _ _ ⟨rfl, rfl⟩
    exact ⟨rfl, Ext.refl _⟩
  refine RW_d _ rfl (fun v => by dsimp only [List.set]; try rfl) (fun u hu hF => ?_) (fun v105 => ?_)
  · clear hF
    refine doesG_un rfl ?_
    refine (does_move (u := (Pt g_b g_o)) (ev rfl)).mono ?_; rintro _ _ ⟨rfl, rfl⟩
    exact ⟨rfl, Ext.refl _⟩
  refine RW_d _ rfl (fun v => by dsimp only [List.set]; try rfl) (fun u hu hF => ?_) (fun v106 => ?_)
  · have h64_ : v105 = (Pt g_b g_o) := hF.1
    clear hF
    refine doesG_un rfl ?_
    obtain rfl := h64_
    refine (does_nilCheck (ev rfl)).mono ?_; rintro _ _ ⟨rfl, rfl⟩
    exact ⟨rfl, Ext.refl _⟩
  refine RW_d _ rfl (fun v => by dsimp only [List.set]; try rfl) (fun u hu hF => ?_) (fun v107 => ?_)
  · have h65_ : v106 = (Pt g_b g_o) := hF.1
    clear hF
    refine doesG_un rfl ?_
    obtain rfl := h65_
    refine (does_fieldAddr (ev rfl) fa33_1).mono ?_; rintro _ _ ⟨rfl, rfl⟩
    exact ⟨rfl, Ext.refl _⟩
  refine RW_d _ rfl (fun v => by dsimp only [List.set]; try rfl) (fun u hu hF => ?_) (fun v108 => ?_)
  · have h66_ : v107 = (Pt g_b (g_o + 3)) := hF.1
    clear hF
    refine doesG_un rfl ?_
    obtain rfl := h66_
    refine (does_load (u := (Fl r7)) (ev rfl) Try.isAgg22 (Cells.at ((hc_g.ext (Ext.gr X90 E95)).ext hu) 3 rfl)).mono ?_; rintro _ _ ⟨rfl, rfl⟩
    exact ⟨rfl, Ext.refl _⟩
  refine RW_d _ rfl (fun v => by dsimp only [List.set]; try rfl) (fun u hu hF => ?_) (fun v109 => ?_)
  · clear hF
    refine doesG_un rfl ?_
    refine (does_move (u := (Pt g_b g_o)) (ev rfl)).mono ?_; rintro _ _ ⟨rfl, rfl⟩
    exact ⟨rfl, Ext.refl _⟩
  refine RW_d _ rfl (fun v => by dsimp only [List.set]; try rfl) (fun u hu hF => ?_) (fun v110 => ?_)
  · have h68_ : v109 = (Pt g_b g_o) := hF.1
    clear hF
    refine doesG_un rfl ?_
    obtain rfl := h68_
    refine (does_nilCheck (ev rfl)).mono ?_; rintro _ _ ⟨rfl, rfl⟩
    exact ⟨rfl, Ext.refl _⟩
  refine RW_d _ rfl (fun v => by dsimp only [List.set]; try rfl) (fun u hu hF => ?_) (fun v111 => ?_)
  · have h69_ : v110 = (Pt g_b g_o) := hF.1
    clear hF
    refine doesG_un rfl ?_
    obtain rfl := h69_
    refine (does_fieldAddr (ev rfl) fa33_4).mono ?_; rintro _ _ ⟨rfl, rfl⟩
    exact ⟨rfl, Ext.refl _⟩
  refine RW_d _ rfl (fun v => by dsimp only [List.set]; try rfl) (fun u hu hF => ?_) (fun v112 => ?_)
  · have h70_ : v111 = (Pt g_b (g_o + 6)) := hF.1
    clear hF
    refine doesG_un rfl ?_
    obtain rfl := h70_
    refine (does_load (u := (Iv A_g.z)) (ev rfl) Try.isAgg2 (Cells.at ((hc_g.ext (Ext.gr X90 E95)).ext hu) 6 rfl)).mono ?_; rintro _ _ ⟨rfl, rfl⟩
    exact ⟨rfl, Ext.refl _⟩
  refine RW_d _ rfl (fun v => by dsimp only [List.set]; try rfl) (fun u hu hF => ?_) (fun v113 => ?_)
  · have h58_ : v99 = (Fl r15) := hF.1
    have h63_ : v104 = (Fl r5) := hF.2.1
    have h67_ : v108 = (Fl r7) := hF.2.2.1
    have h71_ : v112 = (Iv A_g.z) := hF.2.2.2.1
    clear hF
    refine doesG_un rfl ?_
    obtain rfl := h58_
    obtain rfl := h63_
    obtain rfl := h67_
    obtain rfl := h71_
    refine (does_call (args := #[(Fl r15), (Fl r5), (Fl r7), (Iv A_g.z)]) cal30 (evs rfl) (c_spec_l06Cell r15 r5 r7 A_g.z _ (by exact hiz) (by omega))).mono ?_; rintro v u' ⟨hx, ⟨rn1, hv, k0⟩⟩
    exact ⟨⟨rn1, hv, (by simp only [k0])⟩, hx⟩
  refine RW_d _ rfl (fun v => by dsimp only [List.set]; try rfl) (fun u hu hF => ?_) (fun v114 => ?_)
  · have h72_ : ∃ r_1 : Nat, v113 = (.tuple #[(Iv (cellI (cf .f32 r15) (cf .f32 r5) (cf .f32 r7) A_g.z)), (Fl r_1)]) ∧ cf .f32 r_1 = cellF (cf .f32 r15) (cf .f32 r5) (cf .f32 r7) A_g.z := hF.1
    clear hF
    refine doesG_un rfl ?_
    obtain ⟨r72_1, rfl, h72_2⟩ := h72_
    refine (does_move (u := (.tuple #[(Iv (cellI (cf .f32 r15) (cf .f32 r5) (cf .f32 r7) A_g.z)), (Fl r72_1)])) (ev rfl)).mono ?_; rintro _ _ ⟨rfl, rfl⟩
    exact ⟨⟨r72_1, rfl, (by simp only [h72_2])⟩, Ext.refl _⟩
  refine RW_d _ rfl (fun v => by dsimp only [List.set]; try rfl) (fun u hu hF => ?_) (fun v115 => ?_)
  · have h56_ : ∃ r_1 : Nat, v114 = (.tuple #[(Iv (cellI (cf .f32 r15) (cf .f32 r5) (cf .f32 r7) A_g.z)), (Fl r_1)]) ∧ cf .f32 r_1 = cellF (cf .f32 r15) (cf .f32 r5) (cf .f32 r7) A_g.z := hF.1
    clear hF
    refine doesG_un rfl ?_
    obtain ⟨r56_1, rfl, h56_2⟩ := h56_
    refine (does_extract (vs := #[(Iv (cellI (cf .f32 r15) (cf .f32 r5) (cf .f32 r7) A_g.z)), (Fl r56_1)]) (u := (Iv (cellI (cf .f32 r15) (cf .f32 r5) (cf .f32 r7) A_g.z))) (ev rfl) rfl).mono ?_; rintro _ _ ⟨rfl, rfl⟩
    exact ⟨rfl, Ext.refl _⟩
  refine RW_d _ rfl (fun v => by dsimp only [List.set]; try rfl) (fun u hu hF => ?_) (fun v116 => ?_)
  · have h56_ : ∃ r_1 : Nat, v114 = (.tuple #[(Iv (cellI (cf .f32 r15) (cf .f32 r5) (cf .f32 r7) A_g.z)), (Fl r_1)]) ∧ cf .f32 r_1 = cellF (cf .f32 r15) (cf .f32 r5) (cf .f32 r7) A_g.z := hF.1
    clear hF
    obtain ⟨r56_1, rfl, h56_2⟩ := h56_
    exact ⟨_, yields_is rfl (run_extract (ev rfl) rfl), ⟨r56_1, rfl, (by simp only [h56_2])⟩⟩
  refine RW_fin ?_; intro w117 E118 hP119
  obtain ⟨⟨⟨⟨⟨⟨⟨⟨⟨⟨⟨⟨⟨⟨⟨⟨⟨⟨⟨-, -⟩, -⟩, -⟩, -⟩, -⟩, -⟩, -⟩, -⟩, -⟩, -⟩, -⟩, -⟩, -⟩, -⟩, -⟩, -⟩, -⟩, q120⟩, q121⟩ := hP119
  have X122 := Ext.gr X97 E118
  have q120 : v115 = (Iv (cellI (cf .f32 r15) (cf .f32 r5) (cf .f32 r7) A_g.z)) := q120
  obtain rfl := q120
  have q121 : ∃ r_1 : Nat, v116 = (Fl r_1) ∧ cf .f32 r_1 = cellF (cf .f32 r15) (cf .f32 r5) (cf .f32 r7) A_g.z := q121
  obtain ⟨r123, rfl, h124⟩ := q121
  show wpList _ _ _ _ (fr [_, _, _, _, _, _, _, _, _, _, _, _, _, _, _, _, _, _, _, _, _, _, _, _, _, _, _, _, _, _, _, _, _, _, _, _, _, _, _, _, _, _, _, _, _, _, _, _, _, _, _, _, _, _, _, _, _, _, _, _, _, _, _, _, _, _, _, _, _, _, _, _, _, _, _, _, _, _, _, _, _, _, _, _, _, _, _, _, _, _, _, _, _, _, _, _, _, _, _, _, _, _, _, _, _, _, _, _, _, _, _, _, _, _, _, _, _, _, _, _, _, _, _, _, _, _, _, _, _, _, _, _, _, _, _, _, _, _, _, _, _, _, _, _, _, _, _, _, _, _, _, _, _, _, _, _, _]) _
  refine q_is rfl rfl (does_assign (u := (Iv (cellI (cf .f32 r15) (cf .f32 r5) (cf .f32 r7) A_g.z))) (ev rfl)) (by dsimp only [List.set]; try rfl) ?_
  refine q_is rfl rfl (does_assign (u := (Fl r123)) (ev rfl)) (by dsimp only [List.set]; try rfl) ?_
  refine wpList_nil (hK93 _ _ ?_)
  refine wp_seq_k fun K125 hK125 => ?_
  refine wp_region_lit ?_
  have n132 : g_b < w117.heap.size := cell_lt (Cells.at (hc_g.ext X122) 0 rfl)
  have n133 : b21 < w117.heap.size := Blk.lt ((((((hB23.ext E31).ext E54).ext E63).ext E86).ext E95).ext E118)
  refine seqd rfl rfl (does_slice0 (e := 22) (fun _ => by kernel_rfl)) ?_; rintro _ w131 ⟨b126, rfl, hb127, hl128, hO129, E130⟩
  have X134 := Ext.gr X122 E130
  have hO135 := hO129 _ RF 1
  have hH136 : Hang w117.heap.size w131 (fun u => Sl RF 1 u (.slice (some ⟨b126, 0, none⟩) 0 0) ([])) := Own.hang hO135 RF.flat (by decide) hb127 (Below.size E130)
  show wpList _ _ _ _ (fr [_, _, _, _, _, _, _, _, _, _, _, _, _, _, _, _, _, _, _, _, _, _, _, _, _, _, _, _, _, _, _, _, _, _, _, _, _, _, _, _, _, _, _, _, _, _, _, _, _, _, _, _, _, _, _, _, _, _, _, _, _, _, _, _, _, _, _, _, _, _, _, _, _, _, _, _, _, _, _, _, _, _, _, _, _, _, _, _, _, _, _, _, _, _, _, _, _, _, _, _, _, _, _, _, _, _, _, _, _, _, _, _, _, _, _, _, _, _, _, _, _, _, _, _, _, _, _, _, _, _, _, _, _, _, _, _, _, _, _, _, _, _, _, _, _, _, _, _, _, _, _, _, _, _, _, _, _]) _
  refine q_is rfl rfl (does_assign (u := (.slice (some ⟨b126, 0, none⟩) 0 0)) (ev rfl)) (by dsimp only [List.set]; try rfl) ?_
  refine wpList_nil (hK125 _ _ ?_)
  refine wp_seq_k fun K137 hK137 => ?_
  refine wp_seq_k fun K138 hK138 => ?_
  refine wp_region_lit ?_
  refine q_is rfl rfl (does_assign (u := (Iv 0)) (ev rfl)) (by dsimp only [List.set]; try rfl) ?_
  refine wpList_nil (hK138 _ _ ?_)
  refine wp_block ?_
  refine loop_unroll 3 ?_
  refine un_step ?_
  refine wp_seq_k fun K139 hK139 => ?_
  refine wp_seq_k fun K140 hK140 => ?_
  refine wp_region_lit ?_
  refine q_is rfl rfl (does_move (u := (Iv 0)) (ev rfl)) (by dsimp only [List.set]; try rfl) ?_
  refine q_is rfl rfl (does_icmp (p := 0) (q := 2) (.inr (.inr (.inl rfl))) (ev rfl) (ev rfl)) (by dsimp only [List.set]; try rfl) ?_
  refine wpList_nil (hK140 _ _ ?_)
  refine wp_cond_true (ev rfl) ?_
  refine wp_skip (hK139 _ _ ?_)
  refine wp_seq_k fun K141 hK141 => ?_
  refine wp_block ?_
  refine wp_seq_k fun K142 hK142 => ?_
  refine wp_region_lit ?_
  have n149 : g_b < w131.heap.size := cell_lt (Cells.at (hc_g.ext X134) 0 rfl)
  have n150 : b21 < w131.heap.size := Blk.lt (((((((hB23.ext E31).ext E54).ext E63).ext E86).ext E95).ext E118).ext E130)
  refine seqd rfl rfl (does_slice0 (e := 22) (fun _ => by kernel_rfl)) ?_; rintro _ w148 ⟨b143, rfl, hb144, hl145, hO146, E147⟩
  have X151 := Ext.gr X134 E147
  have hO152 := hO146 _ RF 1
  have hH153 : Hang w131.heap.size w148 (fun u => Sl RF 1 u (.slice (some ⟨b143, 0, none⟩) 0 0) ([])) := Own.hang hO152 RF.flat (by decide) hb144 (Below.size E147)
  show wpList _ _ _ _ (fr [_, _, _, _, _, _, _, _, _, _, _, _, _, _, _, _, _, _, _, _, _, _, _, _, _, _, _, _, _, _, _, _, _, _, _, _, _, _, _, _, _, _, _, _, _, _, _, _, _, _, _, _, _, _, _, _, _, _, _, _, _, _, _, _, _, _, _, _, _, _, _, _, _, _, _, _, _, _, _, _, _, _, _, _, _, _, _, _, _, _, _, _, _, _, _, _, _, _, _, _, _, _, _, _, _, _, _, _, _, _, _, _, _, _, _, _, _, _, _, _, _, _, _, _, _, _, _, _, _, _, _, _, _, _, _, _, _, _, _, _, _, _, _, _, _, _, _, _, _, _, _, _, _, _, _, _, _]) _
  refine q_is rfl rfl (does_assign (u := (.slice (some ⟨b143, 0, none⟩) 0 0)) (ev rfl)) (by dsimp only [List.set]; try rfl) ?_
  refine wpList_nil (hK142 _ _ ?_)
  refine wp_seq_k fun K154 hK154 => ?_
  refine wp_seq_k fun K155 hK155 => ?_
  refine wp_region_lit ?_
  refine q_is rfl rfl (does_assign (u := (Iv 0)) (ev rfl)) (by dsimp only [List.set]; try rfl) ?_
  refine wpList_nil (hK155 _ _ ?_)
  refine wp_block ?_
  refine loop_unroll 3 ?_
  refine un_step ?_
  refine wp_seq_k fun K156 hK156 => ?_
  refine wp_seq_k fun K157 hK157 => ?_
  refine wp_region_lit ?_
  refine q_is rfl rfl (does_move (u := (Iv 0)) (ev rfl)) (by dsimp only [List.set]; try rfl) ?_
  refine q_is rfl rfl (does_icmp (p := 0) (q := 2) (.inr (.inr (.inl rfl))) (ev rfl) (ev rfl)) (by dsimp only [List.set]; try rfl) ?_
  refine wpList_nil (hK157 _ _ ?_)
  refine wp_cond_true (ev rfl) ?_
  refine wp_skip (hK156 _ _ ?_)
  refine wp_seq_k fun K158 hK158 => ?_
  refine wp_block ?_
  refine wp_seq_k fun K159 hK159 => ?_
  refine wp_region_lit ?_
  refine q_is rfl rfl (does_move (u := (Iv (cellI (cf .f32 r13) (cf .f32 r3) (cf .f32 r7) A_g.y))) (ev rfl)) (by dsimp only [List.set]; try rfl) ?_
  refine q_is rfl rfl (does_move (u := (Iv 0)) (ev rfl)) (by dsimp only [List.set]; try rfl) ?_
  refine q_is rfl rfl (does_iarith (p := cellI (cf .f32 r13) (cf .f32 r3) (cf .f32 r7) A_g.y) (q := 0) (r := (cellI (cf .f32 r13) (cf .f32 r3) (cf .f32 r7) A_g.y) + 0) (ev rfl) (ev rfl) (.inl ⟨rfl, (in_i64 (by omega) (by omega)).symm⟩)) (by dsimp only [List.set]; try rfl) ?_
  refine q_is rfl rfl (does_move (u := (Pt g_b g_o)) (ev rfl)) (by dsimp only [List.set]; try rfl) ?_
  refine q_is rfl rfl (does_nilCheck (ev rfl)) (by dsimp only [List.set]; try rfl) ?_
  refine q_is rfl rfl (does_fieldAddr (ev rfl) fa33_3) (by dsimp only [List.set]; try rfl) ?_
  refine q_is rfl rfl (does_load (u := (Iv A_g.y)) (ev rfl) Try.isAgg2 (Cells.at (hc_g.ext X151) 5 rfl)) (by dsimp only [List.set]; try rfl) ?_
  refine q_is rfl rfl (does_iarith (p := A_g.y) (q := 1) (r := A_g.y - 1) (ev rfl) (ev rfl) (.inr (.inl ⟨rfl, (in_i64 (by omega) (by omega)).symm⟩))) (by dsimp only [List.set]; try rfl) ?_
  refine seqd rfl rfl (does_call (args := #[(Iv ((cellI (cf .f32 r13) (cf .f32 r3) (cf .f32 r7) A_g.y) + 0)), (Iv (A_g.y - 1))]) cal31 (evs rfl) (c_spec_l00Min ((cellI (cf .f32 r13) (cf .f32 r3) (cf .f32 r7) A_g.y) + 0) (A_g.y - 1) _)) ?_; rintro _ w161 ⟨E160, rfl⟩
  have X162 := Ext.gr X151 E160
  show wpList _ _ _ _ (fr [_, _, _, _, _, _, _, _, _, _, _, _, _, _, _, _, _, _, _, _, _, _, _, _, _, _, _, _, _, _, _, _, _, _, _, _, _, _, _, _, _, _, _, _, _, _, _, _, _, _, _, _, _, _, _, _, _, _, _, _, _, _, _, _, _, _, _, _, _, _, _, _, _, _, _, _, _, _, _, _, _, _, _, _, _, _, _, _, _, _, _, _, _, _, _, _, _, _, _, _, _, _, _, _, _, _, _, _, _, _, _, _, _, _, _, _, _, _, _, _, _, _, _, _, _, _, _, _, _, _, _, _, _, _, _, _, _, _, _, _, _, _, _, _, _, _, _, _, _, _, _, _, _, _, _, _, _]) _
  refine q_is rfl rfl (does_assign (u := (Iv (min ((cellI (cf .f32 r13) (cf .f32 r3) (cf .f32 r7) A_g.y) + 0) (A_g.y - 1)))) (ev rfl)) (by dsimp only [List.set]; try rfl) ?_
  refine wpList_nil (hK159 _ _ ?_)
  refine wp_seq_k fun K163 hK163 => ?_
  refine wp_region_lit ?_
  refine q_is rfl rfl (does_move (u := (Iv (cellI (cf .f32 r15) (cf .f32 r5) (cf .f32 r7) A_g.z))) (ev rfl)) (by dsimp only [List.set]; try rfl) ?_
  refine q_is rfl rfl (does_move (u := (Iv 0)) (ev rfl)) (by dsimp only [List.set]; try rfl) ?_
  refine q_is rfl rfl (does_iarith (p := cellI (cf .f32 r15) (cf .f32 r5) (cf .f32 r7) A_g.z) (q := 0) (r := (cellI (cf .f32 r15) (cf .f32 r5) (cf .f32 r7) A_g.z) + 0) (ev rfl) (ev rfl) (.inl ⟨rfl, (in_i64 (by omega) (by omega)).symm⟩)) (by dsimp only [List.set]; try rfl) ?_
  refine q_is rfl rfl (does_move (u := (Pt g_b g_o)) (ev rfl)) (by dsimp only [List.set]; try rfl) ?_
  refine q_is rfl rfl (does_nilCheck (ev rfl)) (by dsimp only [List.set]; try rfl) ?_
  refine q_is rfl rfl (does_fieldAddr (ev rfl) fa33_4) (by dsimp only [List.set]; try rfl) ?_
  refine q_is rfl rfl (does_load (u := (Iv A_g.z)) (ev rfl) Try.isAgg2 (Cells.at (hc_g.ext X162) 6 rfl)) (by dsimp only [List.set]; try rfl) ?_
  refine q_is rfl rfl (does_iarith (p := A_g.z) (q := 1) (r := A_g.z - 1) (ev rfl) (ev rfl) (.inr (.inl ⟨rfl, (in_i64 (by omega) (by omega)).symm⟩))) (by dsimp only [List.set]; try rfl) ?_
  refine seqd rfl rfl (does_call (args := #[(Iv ((cellI (cf .f32 r15) (cf .f32 r5) (cf .f32 r7) A_g.z) + 0)), (Iv (A_g.z - 1))]) cal31 (evs rfl) (c_spec_l00Min ((cellI (cf .f32 r15) (cf .f32 r5) (cf .f32 r7) A_g.z) + 0) (A_g.z - 1) _)) ?_; rintro _ w165 ⟨E164, rfl⟩
  have X166 := Ext.gr X162 E164
  show wpList _ _ _ _ (fr [_, _, _, _, _, _, _, _, _, _, _, _, _, _, _, _, _, _, _, _, _, _, _, _, _, _, _, _, _, _, _, _, _, _, _, _, _, _, _, _, _, _, _, _, _, _, _, _, _, _, _, _, _, _, _, _, _, _, _, _, _, _, _, _, _, _, _, _, _, _, _, _, _, _, _, _, _, _, _, _, _, _, _, _, _, _, _, _, _, _, _, _, _, _, _, _, _, _, _, _, _, _, _, _, _, _, _, _, _, _, _, _, _, _, _, _, _, _, _, _, _, _, _, _, _, _, _, _, _, _, _, _, _, _, _, _, _, _, _, _, _, _, _, _, _, _, _, _, _, _, _, _, _, _, _, _, _]) _
  refine q_is rfl rfl (does_assign (u := (Iv (min ((cellI (cf .f32 r15) (cf .f32 r5) (cf .f32 r7) A_g.z) + 0) (A_g.z - 1)))) (ev rfl)) (by dsimp only [List.set]; try rfl) ?_
  refine wpList_nil (hK163 _ _ ?_)
  refine wp_seq_k fun K167 hK167 => ?_
  obtain ⟨el1, hel1⟩ : ∃ e, A_g.vals[(idxG A_g (cellI (cf .f32 r11) (cf .f32 r1) (cf .f32 r7) A_g.x) (min ((cellI (cf .f32 r13) (cf .f32 r3) (cf .f32 r7) A_g.y) + 0) (A_g.y - 1)) (min ((cellI (cf .f32 r15) (cf .f32 r5) (cf .f32 r7) A_g.z) + 0) (A_g.z - 1))).toNat]? = some e := ⟨_, List.getElem?_eq_getElem (by omega)⟩
  refine region_draw (
    [Fact.pure [] (fun v => v = (Pt g_b g_o)),
    Fact.pure [103] (fun v => v = (Pt g_b g_o)),
    Fact.pure [104] (fun v => v = (Pt g_b (g_o + 7))),
    Fact.pure [105] (fun v => v = (.slice p17 A_g.vals.length q18)),
    Fact.pure [] (fun v => v = (Pt g_b g_o)),
    Fact.pure [] (fun v => v = (Iv (cellI (cf .f32 r11) (cf .f32 r1) (cf .f32 r7) A_g.x))),
    Fact.pure [] (fun v => v = (Iv (min ((cellI (cf .f32 r13) (cf .f32 r3) (cf .f32 r7) A_g.y) + 0) (A_g.y - 1)))),
    Fact.pure [] (fun v => v = (Iv (min ((cellI (cf .f32 r15) (cf .f32 r5) (cf .f32 r7) A_g.z) + 0) (A_g.z - 1)))),
    Fact.pure [107, 108, 109, 110] (fun v => v = (Iv (idxG A_g (cellI (cf .f32 r11) (cf .f32 r1) (cf .f32 r7) A_g.x) (min ((cellI (cf .f32 r13) (cf .f32 r3) (cf .f32 r7) A_g.y) + 0) (A_g.y - 1)) (min ((cellI (cf .f32 r15) (cf .f32 r5) (cf .f32 r7) A_g.z) + 0) (A_g.z - 1))))),
    Fact.mem [106, 111] (fun v w' => PtrR RF w' v el1) (by intro v w1 w2 hx h; exact h.ext RF.mono hx),
    Fact.pure [112] (fun v => ∃ r_1 : Nat, v = (Fl r_1) ∧ cf .f32 r_1 = el1)]) mixed (by kernel_rfl) (by intro _ _ d _ _ h; cases d <;> exact h) ?_
  obtain ⟨w168, hw170⟩ : ∃ w', w' = World.drew w165 := ⟨_, rfl⟩; rw [← hw170]; have E169 : Ext w165 w168 := by rw [hw170]; exact Ext.draw _
  clear hw170
  have X171 := Ext.gr X166 E169
  refine RW_d _ rfl (fun v => by dsimp only [List.set]; try rfl) (fun u hu hF => ?_) (fun v172 => ?_)
  · clear hF
    refine doesG_un rfl ?_
    refine (does_move (u := (Pt g_b g_o)) (ev rfl)).mono ?_; rintro _ _ ⟨rfl, rfl⟩
    exact ⟨rfl, Ext.refl _⟩
  refine RW_d _ rfl (fun v => by dsimp only [List.set]; try rfl) (fun u hu hF => ?_) (fun v173 => ?_)
  · have h103_ : v172 = (Pt g_b g_o) := hF.1
    clear hF
    refine doesG_un rfl ?_
    obtain rfl := h103_
    refine (does_nilCheck (ev rfl)).mono ?_; rintro _ _ ⟨rfl, rfl⟩
    exact ⟨rfl, Ext.refl _⟩
  refine RW_d _ rfl (fun v => by dsimp only [List.set]; try rfl) (fun u hu hF => ?_) (fun v174 => ?_)
  · have h104_ : v173 = (Pt g_b g_o) := hF.1
    clear hF
    refine doesG_un rfl ?_
    obtain rfl := h104_
    refine (does_fieldAddr (ev rfl) fa33_5).mono ?_; rintro _ _ ⟨rfl, rfl⟩
    exact ⟨rfl, Ext.refl _⟩
  refine RW_d _ rfl (fun v => by dsimp only [List.set]; try rfl) (fun u hu hF => ?_) (fun v175 => ?_)
  · have h105_ : v174 = (Pt g_b (g_o + 7)) := hF.1
    clear hF
    refine doesG_un rfl ?_
    obtain rfl := h105_
    refine (does_load (u := (.slice p17 A_g.vals.length q18)) (ev rfl) Try.isAgg25 (Cells.at ((hc_g.ext (Ext.gr X166 E169)).ext hu) 7 rfl)).mono ?_; rintro _ _ ⟨rfl, rfl⟩
    exact ⟨rfl, Ext.refl _⟩
  refine RW_d _ rfl (fun v => by dsimp only [List.set]; try rfl) (fun u hu hF => ?_) (fun v176 => ?_)
  · clear hF
    refine doesG_un rfl ?_
    refine (does_move (u := (Pt g_b g_o)) (ev rfl)).mono ?_; rintro _ _ ⟨rfl, rfl⟩
    exact ⟨rfl, Ext.refl _⟩
  refine RW_d _ rfl (fun v => by dsimp only [List.set]; try rfl) (fun u hu hF => ?_) (fun v177 => ?_)
  · clear hF
    refine doesG_un rfl ?_
    refine (does_move (u := (Iv (cellI (cf .f32 r11) (cf .f32 r1) (cf .f32 r7) A_g.x))) (ev rfl)).mono ?_; rintro _ _ ⟨rfl, rfl⟩
    exact ⟨rfl, Ext.refl _⟩
  refine RW_d _ rfl (fun v => by dsimp only [List.set]; try rfl) (fun u hu hF => ?_) (fun v178 => ?_)
  · clear hF
    refine doesG_un rfl ?_
    refine (does_move (u := (Iv (min ((cellI (cf .f32 r13) (cf .f32 r3) (cf .f32 r7) A_g.y) + 0) (A_g.y - 1)))) (ev rfl)).mono ?_; rintro _ _ ⟨rfl, rfl⟩
    exact ⟨rfl, Ext.refl _⟩
  refine RW_d _ rfl (fun v => by dsimp only [List.set]; try rfl) (fun u hu hF => ?_) (fun v179 => ?_)
  · clear hF
    refine doesG_un rfl ?_
    refine (does_move (u := (Iv (min ((cellI (cf .f32 r15) (cf .f32 r5) (cf .f32 r7) A_g.z) + 0) (A_g.z - 1)))) (ev rfl)).mono ?_; rintro _ _ ⟨rfl, rfl⟩
    exact ⟨rfl, Ext.refl _⟩
  refine RW_d _ rfl (fun v => by dsimp only [List.set]; try rfl) (fun u hu hF => ?_) (fun v180 => ?_)
  · have h107_ : v176 = (Pt g_b g_o) := hF.1
    have h108_ : v177 = (Iv (cellI (cf .f32 r11) (cf .f32 r1) (cf .f32 r7) A_g.x)) := hF.2.1
    have h109_ : v178 = (Iv (min ((cellI (cf .f32 r13) (cf .f32 r3) (cf .f32 r7) A_g.y) + 0) (A_g.y - 1))) := hF.2.2.1
    have h110_ : v179 = (Iv (min ((cellI (cf .f32 r15) (cf .f32 r5) (cf .f32 r7) A_g.z) + 0) (A_g.z - 1))) := hF.2.2.2.1
    clear hF
    refine doesG_un rfl ?_
    obtain rfl := h107_
    obtain rfl := h108_
    obtain rfl := h109_
    obtain rfl := h110_
    refine (does_call (args := #[(Pt g_b g_o), (Iv (cellI (cf .f32 r11) (cf .f32 r1) (cf .f32 r7) A_g.x)), (Iv (min ((cellI (cf .f32 r13) (cf .f32 r3) (cf .f32 r7) A_g.y) + 0) (A_g.y - 1))), (Iv (min ((cellI (cf .f32 r15) (cf .f32 r5) (cf .f32 r7) A_g.z) + 0) (A_g.z - 1)))]) cal32 (evs rfl) (c_spec_l06Index g_b g_o [(Fl r1), (Fl r3), (Fl r5), (Fl r7), (Iv A_g.x), (Iv A_g.y), (Iv A_g.z), (.slice p17 A_g.vals.length q18)] A_g (cellI (cf .f32 r11) (cf .f32 r1) (cf .f32 r7) A_g.x) (min ((cellI (cf .f32 r13) (cf .f32 r3) (cf .f32 r7) A_g.y) + 0) (A_g.y - 1)) (min ((cellI (cf .f32 r15) (cf .f32 r5) (cf .f32 r7) A_g.z) + 0) (A_g.z - 1)) _ ((hc_g.ext (Ext.gr X166 E169)).ext hu) ⟨r1, r3, r5, r7, (.slice p17 A_g.vals.length q18), rfl, h2, h4, h6, h8, (Sl.ext (Sl.ext hs19 RF.mono (Ext.gr X166 E169)) RF.mono hu)⟩)).mono ?_; rintro v u' ⟨hx, hv⟩
    exact ⟨hv, hx⟩
  refine RW_d _ rfl (fun v => by dsimp only [List.set]; try rfl) (fun u hu hF => ?_) (fun v181 => ?_)
  · have h106_ : v175 = (.slice p17 A_g.vals.length q18) := hF.1
    have h111_ : v180 = (Iv (idxG A_g (cellI (cf .f32 r11) (cf .f32 r1) (cf .f32 r7) A_g.x) (min ((cellI (cf .f32 r13) (cf .f32 r3) (cf .f32 r7) A_g.y) + 0) (A_g.y - 1)) (min ((cellI (cf .f32 r15) (cf .f32 r5) (cf .f32 r7) A_g.z) + 0) (A_g.z - 1)))) := hF.2.1
    clear hF
    refine doesG_un rfl ?_
    obtain rfl := h106_
    obtain rfl := h111_
    refine (does_indexSl (R := RF) (i := idxG A_g (cellI (cf .f32 r11) (cf .f32 r1) (cf .f32 r7) A_g.x) (min ((cellI (cf .f32 r13) (cf .f32 r3) (cf .f32 r7) A_g.y) + 0) (A_g.y - 1)) (min ((cellI (cf .f32 r15) (cf .f32 r5) (cf .f32 r7) A_g.z) + 0) (A_g.z - 1))) (xs := A_g.vals) (e := el1) Try.underlying25 Try.sizeOf22 (ev rfl) (ev rfl) (Sl.ext (Sl.ext hs19 RF.mono (Ext.gr X166 E169)) RF.mono hu) (by omega) hel1).mono ?_; rintro v u' ⟨b, of, cs, hv, hc, hR, hu'⟩; subst hu'
    exact ⟨⟨b, of, cs, hv, hc, hR⟩, Ext.refl _⟩
  refine RW_d _ rfl (fun v => by dsimp only [List.set]; try rfl) (fun u hu hF => ?_) (fun v182 => ?_)
  · have h112_ : PtrR RF u v181 el1 := hF.1
    clear hF
    refine doesG_un rfl ?_
    obtain ⟨b112_, o112_, _, rfl, hc112_, ⟨r112_1, rfl, h112_2⟩⟩ := h112_
    refine (does_load (u := (Fl r112_1)) (ev rfl) Try.isAgg22 (Cells.at hc112_ 0 rfl)).mono ?_; rintro _ _ ⟨rfl, rfl⟩
    exact ⟨⟨r112_1, rfl, (by simp only [h112_2])⟩, Ext.refl _⟩
  refine RW_fin ?_; intro w183 E184 hP185
  obtain ⟨⟨⟨⟨⟨⟨⟨⟨⟨⟨⟨-, -⟩, -⟩, -⟩, -⟩, -⟩, -⟩, -⟩, -⟩, -⟩, -⟩, q186⟩ := hP185
  have X187 := Ext.gr X171 E184
  have q186 : ∃ r_1 : Nat, v182 = (Fl r_1) ∧ cf .f32 r_1 = el1 := q186
  obtain ⟨r188, rfl, h189⟩ := q186
  show wpList _ _ _ _ (fr [_, _, _, _, _, _, _, _, _, _, _, _, _, _, _, _, _, _, _, _, _, _, _, _, _, _, _, _, _, _, _, _, _, _, _, _, _, _, _, _, _, _, _, _, _, _, _, _, _, _, _, _, _, _, _, _, _, _, _, _, _, _, _, _, _, _, _, _, _, _, _, _, _, _, _, _, _, _, _, _, _, _, _, _, _, _, _, _, _, _, _, _, _, _, _, _, _, _, _, _, _, _, _, _, _, _, _, _, _, _, _, _, _, _, _, _, _, _, _, _, _, _, _, _, _, _, _, _, _, _, _, _, _, _, _, _, _, _, _, _, _, _, _, _, _, _, _, _, _, _, _, _, _, _, _, _, _]) _
  refine q_is rfl rfl (does_assign (u := (Fl r188)) (ev rfl)) (by dsimp only [List.set]; try rfl) ?_
  refine wpList_nil (hK167 _ _ ?_)
  obtain ⟨el2, hel2⟩ : ∃ e, A_g.vals[(idxG A_g (min ((cellI (cf .f32 r11) (cf .f32 r1) (cf .f32 r7) A_g.x) + 1) (A_g.x - 1)) (min ((cellI (cf .f32 r13) (cf .f32 r3) (cf .f32 r7) A_g.y) + 0) (A_g.y - 1)) (min ((cellI (cf .f32 r15) (cf .f32 r5) (cf .f32 r7) A_g.z) + 0) (A_g.z - 1))).toNat]? = some e := ⟨_, List.getElem?_eq_getElem (by omega)⟩
  refine region_any2 [] [0, 0, 0, 4, 12, 28, 0, 0, 128, 0, 512, 1536, 3584, 7680, 16256, 0, 0, 131008, 262140, 524284, 0, 2097150, 4194302, 8388607, 16777215] [] (
    [FactW.pure [] [] [] true (fun v => v = (.slice (some ⟨b143, 0, none⟩) 0 0)),
      FactW.pure [] [] [] true (fun v => v = (Fl r188)),
      FactW.pure [] [] [] true (fun v => v = (Pt g_b g_o)),
      FactW.pure [2] [] [] true (fun v => v = (Pt g_b g_o)),
      FactW.pure [3] [] [] true (fun v => v = (Pt g_b (g_o + 7))),
      FactW.pure [4] [] [] true (fun v => v = (.slice p17 A_g.vals.length q18)),
      FactW.pure [] [] [] true (fun v => v = (Pt g_b g_o)),
      FactW.pure [] [] [] true (fun v => v = (Iv (cellI (cf .f32 r11) (cf .f32 r1) (cf .f32 r7) A_g.x))),
      FactW.pure [7] [] [] true (fun v => v = (Iv ((cellI (cf .f32 r11) (cf .f32 r1) (cf .f32 r7) A_g.x) + 1))),
      FactW.pure [] [] [] true (fun v => v = (Pt g_b g_o)),
      FactW.pure [9] [] [] true (fun v => v = (Pt g_b g_o)),
      FactW.pure [10] [] [] true (fun v => v = (Pt g_b (g_o + 4))),
      FactW.pure [11] [] [] true (fun v => v = (Iv A_g.x)),
      FactW.pure [12] [] [] true (fun v => v = (Iv (A_g.x - 1))),
      FactW.pure [8, 13] [] [] true (fun v => v = (Iv (min ((cellI (cf .f32 r11) (cf .f32 r1) (cf .f32 r7) A_g.x) + 1) (A_g.x - 1)))),
      FactW.pure [] [] [] true (fun v => v = (Iv (min ((cellI (cf .f32 r13) (cf .f32 r3) (cf .f32 r7) A_g.y) + 0) (A_g.y - 1)))),
      FactW.pure [] [] [] true (fun v => v = (Iv (min ((cellI (cf .f32 r15) (cf .f32 r5) (cf .f32 r7) A_g.z) + 0) (A_g.z - 1)))),
      FactW.pure [6, 14, 15, 16] [] [] true (fun v => v = (Iv (idxG A_g (min ((cellI (cf .f32 r11) (cf .f32 r1) (cf .f32 r7) A_g.x) + 1) (A_g.x - 1)) (min ((cellI (cf .f32 r13) (cf .f32 r3) (cf .f32 r7) A_g.y) + 0) (A_g.y - 1)) (min ((cellI (cf .f32 r15) (cf .f32 r5) (cf .f32 r7) A_g.z) + 0) (A_g.z - 1))))),
      FactW.mem [5, 17] [] [] [] true (fun v w' => PtrR RF w' v el2) (by intro v w1 w2 hx' h; have hx := KpL.toExt hx'; exact h.ext RF.mono hx),
      FactW.pure [18] [] [] true (fun v => ∃ r_1 : Nat, v = (Fl r_1) ∧ cf .f32 r_1 = el2),
      FactW.pure [] [] [] true (fun v => v = (Fl r59)),
      FactW.pure [1, 19, 20] [] [] true (fun v => ∃ r_1 : Nat, v = (Fl r_1) ∧ cf .f32 r_1 = mixF (cf .f32 r188) el2 (cf .f32 r59)),
      FactW.mem [21] [] [] [] true (fun v w' => ∃ b : Nat, ∃ r_1 : Nat, v = .slice (some ⟨b, 0, none⟩) 1 1 ∧ w183.heap.size ≤ b ∧ Blk w' b [(Fl r_1)] ∧ cf .f32 r_1 = mixF (cf .f32 r188) el2 (cf .f32 r59)) (by rintro v w1 w2 hx' ⟨b, z0, rfl, hb, hB, k0⟩; have hx := KpL.toExt hx'; exact ⟨b, z0, rfl, hb, (hB.ext hx), k0⟩)]) mixed (by kernel_rfl) ?_
  obtain ⟨w190, hw192⟩ : ∃ w', w' = World.drew w183 := ⟨_, rfl⟩; rw [← hw192]; have E191 : Ext w183 w190 := by rw [hw192]; exact Ext.draw _
  clear hw192
  have X193 := Ext.gr X187 E191
  refine RW2_d _ rfl (fun v => by dsimp only [List.set]; try rfl) (fun u hu hF => ?_) (fun v194 => ?_)
  · replace hu : KpL [] _ _ := hu
    clear hF
    refine doesG_un rfl ?_
    refine (does_move (u := (.slice (some ⟨b143, 0, none⟩) 0 0)) (ev rfl)).mono ?_; rintro _ _ ⟨rfl, rfl⟩
    exact ⟨rfl, KpL.refl _ _⟩
  refine RW2_d _ rfl (fun v => by dsimp only [List.set]; try rfl) (fun u hu hF => ?_) (fun v195 => ?_)
  · replace hu : KpL [] _ _ := hu
    clear hF
    refine doesG_un rfl ?_
    refine (does_move (u := (Fl r188)) (ev rfl)).mono ?_; rintro _ _ ⟨rfl, rfl⟩
    exact ⟨rfl, KpL.refl _ _⟩
  refine RW2_d _ rfl (fun v => by dsimp only [List.set]; try rfl) (fun u hu hF => ?_) (fun v196 => ?_)
  · replace hu : KpL [] _ _ := hu
    clear hF
    refine doesG_un rfl ?_
    refine (does_move (u := (Pt g_b g_o)) (ev rfl)).mono ?_; rintro _ _ ⟨rfl, rfl⟩
    exact ⟨rfl, KpL.refl _ _⟩
  refine RW2_d _ rfl (fun v => by dsimp only [List.set]; try rfl) (fun u hu hF => ?_) (fun v197 => ?_)
  · replace hu : KpL [] _ _ := hu
    have h116_ : v196 = (Pt g_b g_o) := hF.1
    clear hF
    refine doesG_un rfl ?_
    obtain rfl := h116_
    refine (does_nilCheck (ev rfl)).mono ?_; rintro _ _ ⟨rfl, rfl⟩
    exact ⟨rfl, KpL.refl _ _⟩
  refine RW2_d _ rfl (fun v => by dsimp only [List.set]; try rfl) (fun u hu hF => ?_) (fun v198 => ?_)
  · replace hu : KpL [] _ _ := hu
    have h117_ : v197 = (Pt g_b g_o) := hF.1
    clear hF
    refine doesG_un rfl ?_
    obtain rfl := h117_
    refine (does_fieldAddr (ev rfl) fa33_5).mono ?_; rintro _ _ ⟨rfl, rfl⟩
    exact ⟨rfl, KpL.refl _ _⟩
  refine RW2_d _ rfl (fun v => by dsimp only [List.set]; try rfl) (fun u hu hF => ?_) (fun v199 => ?_)
  · replace hu : KpL [] _ _ := hu
    have h118_ : v198 = (Pt g_b (g_o + 7)) := hF.1
    clear hF
    refine doesG_un rfl ?_
    obtain rfl := h118_
    refine (does_load (u := (.slice p17 A_g.vals.length q18)) (ev rfl) Try.isAgg25 (Cells.at (hc_g.ext (Ext.gr (Ext.gr X187 E191) (KpL.toExt hu))) 7 rfl)).mono ?_; rintro _ _ ⟨rfl, rfl⟩
    exact ⟨rfl, KpL.refl _ _⟩
  refine RW2_d _ rfl (fun v => by dsimp only [List.set]; try rfl) (fun u hu hF => ?_) (fun v200 => ?_)
  · replace hu : KpL [] _ _ := hu
    clear hF
    refine doesG_un rfl ?_
    refine (does_move (u := (Pt g_b g_o)) (ev rfl)).mono ?_; rintro _ _ ⟨rfl, rfl⟩
    exact ⟨rfl, KpL.refl _ _⟩
  refine RW2_d _ rfl (fun v => by dsimp only [List.set]; try rfl) (fun u hu hF => ?_) (fun v201 => ?_)
  · replace hu : KpL [] _ _ := hu
    clear hF
    refine doesG_un rfl ?_
    refine (does_move (u := (Iv (cellI (cf .f32 r11) (cf .f32 r1) (cf .f32 r7) A_g.x))) (ev rfl)).mono ?_; rintro _ _ ⟨rfl, rfl⟩
    exact ⟨rfl, KpL.refl _ _⟩
  refine RW2_d _ rfl (fun v => by dsimp only [List.set]; try rfl) (fun u hu hF => ?_) (fun v202 => ?_)
  · replace hu : KpL [] _ _ := hu
    have h121_ : v201 = (Iv (cellI (cf .f32 r11) (cf .f32 r1) (cf .f32 r7) A_g.x)) := hF.1
    clear hF
    refine doesG_un rfl ?_
    obtain rfl := h121_
    refine (does_iarith (p := cellI (cf .f32 r11) (cf .f32 r1) (cf .f32 r7) A_g.x) (q := 1) (r := (cellI (cf .f32 r11) (cf .f32 r1) (cf .f32 r7) A_g.x) + 1) (ev rfl) (ev rfl) (.inl ⟨rfl, (in_i64 (by omega) (by omega)).symm⟩)).mono ?_; rintro _ _ ⟨rfl, rfl⟩
    exact ⟨rfl, KpL.refl _ _⟩
  refine RW2_d _ rfl (fun v => by dsimp only [List.set]; try rfl) (fun u hu hF => ?_) (fun v203 => ?_)
  · replace hu : KpL [] _ _ := hu
    clear hF
    refine doesG_un rfl ?_
    refine (does_move (u := (Pt g_b g_o)) (ev rfl)).mono ?_; rintro _ _ ⟨rfl, rfl⟩
    exact ⟨rfl, KpL.refl _ _⟩
  refine RW2_d _ rfl (fun v => by dsimp only [List.set]; try rfl) (fun u hu hF => ?_) (fun v204 => ?_)
  · replace hu : KpL [] _ _ := hu
    have h123_ : v203 = (Pt g_b g_o) := hF.1
    clear hF
    refine doesG_un rfl ?_
    obtain rfl := h123_
    refine (does_nilCheck (ev rfl)).mono ?_; rintro _ _ ⟨rfl, rfl⟩
    exact ⟨rfl, KpL.refl _ _⟩
  refine RW2_d _ rfl (fun v => by dsimp only [List.set]; try rfl) (fun u hu hF => ?_) (fun v205 => ?_)
  · replace hu : KpL [] _ _ := hu
    have h124_ : v204 = (Pt g_b g_o) := hF.1
    clear hF
    refine doesG_un rfl ?_
    obtain rfl := h124_
    refine (does_fieldAddr (ev rfl) fa33_2).mono ?_; rintro _ _ ⟨rfl, rfl⟩
    exact ⟨rfl, KpL.refl _ _⟩
  refine RW2_d _ rfl (fun v => by dsimp only [List.set]; try rfl) (fun u hu hF => ?_) (fun v206 => ?_)
  · replace hu : KpL [] _ _ := hu
    have h125_ : v205 = (Pt g_b (g_o + 4)) := hF.1
    clear hF
    refine doesG_un rfl ?_
    obtain rfl := h125_
    refine (does_load (u := (Iv A_g.x)) (ev rfl) Try.isAgg2 (Cells.at (hc_g.ext (Ext.gr (Ext.gr X187 E191) (KpL.toExt hu))) 4 rfl)).mono ?_; rintro _ _ ⟨rfl, rfl⟩
    exact ⟨rfl, KpL.refl _ _⟩
  refine RW2_d _ rfl (fun v => by dsimp only [List.set]; try rfl) (fun u hu hF => ?_) (fun v207 => ?_)
  · replace hu : KpL [] _ _ := hu
    have h126_ : v206 = (Iv A_g.x) := hF.1
    clear hF
    refine doesG_un rfl ?_
    obtain rfl := h126_
    refine (does_iarith (p := A_g.x) (q := 1) (r := A_g.x - 1) (ev rfl) (ev rfl) (.inr (.inl ⟨rfl, (in_i64 (by omega) (by omega)).symm⟩))).mono ?_; rintro _ _ ⟨rfl, rfl⟩
    exact ⟨rfl, KpL.refl _ _⟩
  refine RW2_d _ rfl (fun v => by dsimp only [List.set]; try rfl) (fun u hu hF => ?_) (fun v208 => ?_)
  · replace hu : KpL [] _ _ := hu
    have h122_ : v202 = (Iv ((cellI (cf .f32 r11) (cf .f32 r1) (cf .f32 r7) A_g.x) + 1)) := hF.1
    have h127_ : v207 = (Iv (A_g.x - 1)) := hF.2.1
    clear hF
    refine doesG_un rfl ?_
    obtain rfl := h122_
    obtain rfl := h127_
    refine (does_call (args := #[(Iv ((cellI (cf .f32 r11) (cf .f32 r1) (cf .f32 r7) A_g.x) + 1)), (Iv (A_g.x - 1))]) cal31 (evs rfl) (c_spec_l00Min ((cellI (cf .f32 r11) (cf .f32 r1) (cf .f32 r7) A_g.x) + 1) (A_g.x - 1) _)).mono ?_; rintro v u' ⟨hx, hv⟩
    exact ⟨hv, (KpL.of_ext hx)⟩
  refine RW2_d _ rfl (fun v => by dsimp only [List.set]; try rfl) (fun u hu hF => ?_) (fun v209 => ?_)
  · replace hu : KpL [] _ _ := hu
    clear hF
    refine doesG_un rfl ?_
    refine (does_move (u := (Iv (min ((cellI (cf .f32 r13) (cf .f32 r3) (cf .f32 r7) A_g.y) + 0) (A_g.y - 1)))) (ev rfl)).mono ?_; rintro _ _ ⟨rfl, rfl⟩
    exact ⟨rfl, KpL.refl _ _⟩
  refine RW2_d _ rfl (fun v => by dsimp only [List.set]; try rfl) (fun u hu hF => ?_) (fun v210 => ?_)
  · replace hu : KpL [] _ _ := hu
    clear hF
    refine doesG_un rfl ?_
    refine (does_move (u := (Iv (min ((cellI (cf .f32 r15) (cf .f32 r5) (cf .f32 r7) A_g.z) + 0) (A_g.z - 1)))) (ev rfl)).mono ?_; rintro _ _ ⟨rfl, rfl⟩
    exact ⟨rfl, KpL.refl _ _⟩
  refine RW2_d _ rfl (fun v => by dsimp only [List.set]; try rfl) (fun u hu hF => ?_) (fun v211 => ?_)
  · replace hu : KpL [] _ _ := hu
    have h120_ : v200 = (Pt g_b g_o) := hF.1
    have h128_ : v208 = (Iv (min ((cellI (cf .f32 r11) (cf .f32 r1) (cf .f32 r7) A_g.x) + 1) (A_g.x - 1))) := hF.2.1
    have h129_ : v209 = (Iv (min ((cellI (cf .f32 r13) (cf .f32 r3) (cf .f32 r7) A_g.y) + 0) (A_g.y - 1))) := hF.2.2.1
    have h130_ : v210 = (Iv (min ((cellI (cf .f32 r15) (cf .f32 r5) (cf .f32 r7) A_g.z) + 0) (A_g.z - 1))) := hF.2.2.2.1
    clear hF
    refine doesG_un rfl ?_
    obtain rfl := h120_
    obtain rfl := h128_
    obtain rfl := h129_
    obtain rfl := h130_
    refine (does_call (args := #[(Pt g_b g_o), (Iv (min ((cellI (cf .f32 r11) (cf .f32 r1) (cf .f32 r7) A_g.x) + 1) (A_g.x - 1))), (Iv (min ((cellI (cf .f32 r13) (cf .f32 r3) (cf .f32 r7) A_g.y) + 0) (A_g.y - 1))), (Iv (min ((cellI (cf .f32 r15) (cf .f32 r5) (cf .f32 r7) A_g.z) + 0) (A_g.z - 1)))]) cal32 (evs rfl) (c_spec_l06Index g_b g_o [(Fl r1), (Fl r3), (Fl r5), (Fl r7), (Iv A_g.x), (Iv A_g.y), (Iv A_g.z), (.slice p17 A_g.vals.length q18)] A_g (min ((cellI (cf .f32 r11) (cf .f32 r1) (cf .f32 r7) A_g.x) + 1) (A_g.x - 1)) (min ((cellI (cf .f32 r13) (cf .f32 r3) (cf .f32 r7) A_g.y) + 0) (A_g.y - 1)) (min ((cellI (cf .f32 r15) (cf .f32 r5) (cf .f32 r7) A_g.z) + 0) (A_g.z - 1)) _ (hc_g.ext (Ext.gr (Ext.gr X187 E191) (KpL.toExt hu))) ⟨r1, r3, r5, r7, (.slice p17 A_g.vals.length q18), rfl, h2, h4, h6, h8, (Sl.ext hs19 RF.mono (Ext.gr (Ext.gr X187 E191) (KpL.toExt hu)))⟩)).mono ?_; rintro v u' ⟨hx, hv⟩
    exact ⟨hv, (KpL.of_ext hx)⟩
  refine RW2_d _ rfl (fun v => by dsimp only [List.set]; try rfl) (fun u hu hF => ?_) (fun v212 => ?_)
  · replace hu : KpL [] _ _ := hu
    have h119_ : v199 = (.slice p17 A_g.vals.length q18) := hF.1
    have h131_ : v211 = (Iv (idxG A_g (min ((cellI (cf .f32 r11) (cf .f32 r1) (cf .f32 r7) A_g.x) + 1) (A_g.x - 1)) (min ((cellI (cf .f32 r13) (cf .f32 r3) (cf .f32 r7) A_g.y) + 0) (A_g.y - 1)) (min ((cellI (cf .f32 r15) (cf .f32 r5) (cf .f32 r7) A_g.z) + 0) (A_g.z - 1)))) := hF.2.1
    clear hF
    refine doesG_un rfl ?_
    obtain rfl := h119_
    obtain rfl := h131_
    refine (does_indexSl (R := RF) (i := idxG A_g (min ((cellI (cf .f32 r11) (cf .f32 r1) (cf .f32 r7) A_g.x) + 1) (A_g.x - 1)) (min ((cellI (cf .f32 r13) (cf .f32 r3) (cf .f32 r7) A_g.y) + 0) (A_g.y - 1)) (min ((cellI (cf .f32 r15) (cf .f32 r5) (cf .f32 r7) A_g.z) + 0) (A_g.z - 1))) (xs := A_g.vals) (e := el2) Try.underlying25 Try.sizeOf22 (ev rfl) (ev rfl) (Sl.ext hs19 RF.mono (Ext.gr (Ext.gr X187 E191) (KpL.toExt hu))) (by omega) hel2).mono ?_; rintro v u' ⟨b, of, cs, hv, hc, hR, hu'⟩; subst hu'
    exact ⟨⟨b, of, cs, hv, hc, hR⟩, KpL.refl _ _⟩
  refine RW2_d _ rfl (fun v => by dsimp only [List.set]; try rfl) (fun u hu hF => ?_) (fun v213 => ?_)
  · replace hu : KpL [] _ _ := hu
    have h132_ : PtrR RF u v212 el2 := hF.1
    clear hF
    refine doesG_un rfl ?_
    obtain ⟨b132_, o132_, _, rfl, hc132_, ⟨r132_1, rfl, h132_2⟩⟩ := h132_
    refine (does_load (u := (Fl r132_1)) (ev rfl) Try.isAgg22 (Cells.at hc132_ 0 rfl)).mono ?_; rintro _ _ ⟨rfl, rfl⟩
    exact ⟨⟨r132_1, rfl, (by simp only [h132_2])⟩, KpL.refl _ _⟩
  refine RW2_d _ rfl (fun v => by dsimp only [List.set]; try rfl) (fun u hu hF => ?_) (fun v214 => ?_)
  · replace hu : KpL [] _ _ := hu
    clear hF
    refine doesG_un rfl ?_
    refine (does_move (u := (Fl r59)) (ev rfl)).mono ?_; rintro _ _ ⟨rfl, rfl⟩
    exact ⟨rfl, KpL.refl _ _⟩
  refine RW2_d _ rfl (fun v => by dsimp only [List.set]; try rfl) (fun u hu hF => ?_) (fun v215 => ?_)
  · replace hu : KpL [] _ _ := hu
    have h115_ : v195 = (Fl r188) := hF.1
    have h133_ : ∃ r_1 : Nat, v213 = (Fl r_1) ∧ cf .f32 r_1 = el2 := hF.2.1
    have h134_ : v214 = (Fl r59) := hF.2.2.1
    clear hF
    refine doesG_un rfl ?_
    obtain rfl := h115_
    obtain ⟨r133_1, rfl, h133_2⟩ := h133_
    obtain rfl := h134_
    refine (does_call (args := #[(Fl r188), (Fl r133_1), (Fl r59)]) cal33 (evs rfl) (c_spec_l06Mix r188 r133_1 r59 _)).mono ?_; rintro v u' ⟨hx, ⟨rn1, hv, k0⟩⟩
    exact ⟨⟨rn1, hv.trans (by simp only [h133_2]), (by simp only [k0, h133_2])⟩, (KpL.of_ext hx)⟩
  refine RW2_d _ rfl (fun v => by dsimp only [List.set]; try rfl) (fun u hu hF => ?_) (fun v216 => ?_)
  · replace hu : KpL [] _ _ := hu
    have h135_ : ∃ r_1 : Nat, v215 = (Fl r_1) ∧ cf .f32 r_1 = mixF (cf .f32 r188) el2 (cf .f32 r59) := hF.1
    clear hF
    refine doesG_un rfl ?_
    obtain ⟨r135_1, rfl, h135_2⟩ := h135_
    refine (does_buildSlice (e := 22) (parts' := [(0, (Fl r135_1))]) (cells := [(Fl r135_1)]) (evp rfl) (fun _ => by kernel_rfl)).mono ?_; rintro _ _ ⟨b, rfl, hb, hB, hx⟩
    exact ⟨⟨b, r135_1, rfl, Nat.le_trans (Nat.le_trans (Below.size E191) (KpL.size hu)) hb, hB, (by simp only [h135_2])⟩, (KpL.of_ext hx)⟩
  refine RW2_fin ?_; intro w217 E218 hP219; replace E218 : KpL [] _ _ := E218
  obtain ⟨⟨⟨⟨⟨⟨⟨⟨⟨⟨⟨⟨⟨⟨⟨⟨⟨⟨⟨⟨⟨⟨⟨-, q220⟩, -⟩, -⟩, -⟩, -⟩, -⟩, -⟩, -⟩, -⟩, -⟩, -⟩, -⟩, -⟩, -⟩, -⟩, -⟩, -⟩, -⟩, -⟩, -⟩, -⟩, -⟩, q221⟩ := hP219
  have X222 := Below.kl X193 E218 all0 (Nat.le_refl _)
  have q220 : v194 = (.slice (some ⟨b143, 0, none⟩) 0 0) := q220 rfl
  obtain rfl := q220
  have q221 : ∃ b : Nat, ∃ r_1 : Nat, v216 = .slice (some ⟨b, 0, none⟩) 1 1 ∧ w183.heap.size ≤ b ∧ Blk w217 b [(Fl r_1)] ∧ cf .f32 r_1 = mixF (cf .f32 r188) el2 (cf .f32 r59) := q221 rfl
  obtain ⟨b223, r226, rfl, hb224, hB225, h227⟩ := q221
  have n228 : g_b < b223 := Nat.lt_of_lt_of_le (cell_lt (Cells.at (hc_g.ext X187) 0 rfl)) hb224
  have n229 : b21 < b223 := Nat.lt_of_lt_of_le (Blk.lt ((((((((((((hB23.ext E31).ext E54).ext E63).ext E86).ext E95).ext E118).ext E130).ext E147).ext E160).ext E164).ext E169).ext E184)) hb224
  have g230 : w.heap.size ≤ b223 := Nat.le_trans (Below.size X187) hb224
  show wpList _ _ _ _ (fr [_, _, _, _, _, _, _, _, _, _, _, _, _, _, _, _, _, _, _, _, _, _, _, _, _, _, _, _, _, _, _, _, _, _, _, _, _, _, _, _, _, _, _, _, _, _, _, _, _, _, _, _, _, _, _, _, _, _, _, _, _, _, _, _, _, _, _, _, _, _, _, _, _, _, _, _, _, _, _, _, _, _, _, _, _, _, _, _, _, _, _, _, _, _, _, _, _, _, _, _, _, _, _, _, _, _, _, _, _, _, _, _, _, _, _, _, _, _, _, _, _, _, _, _, _, _, _, _, _, _, _, _, _, _, _, _, _, _, _, _, _, _, _, _, _, _, _, _, _, _, _, _, _, _, _, _, _]) _
  refine seqd rfl rfl (does_append (R := RF) (k := 1) (g0 := b143) (B := w148.heap.size) (xs := ([])) (ys := [(cf .f32 r226)]) Try.underlying25 inf22 rfl (by decide) (ev rfl) (ev rfl) (Own.same hO152 RF.flat (((((((Same.refl _ _).ext E160).ext E164).ext E169).ext E184).ext E191).kl E218 all0) hb144 (Below.size E147)) RF.flat hB225 rfl rfl rfl (fun i x hi => lit1 (R := RF) (cs := [(Fl r226)]) (y := (cf .f32 r226))  (⟨_, rfl, rfl⟩) i x hi) (by first | (simp only [List.length_append, List.length_cons, List.length_nil]; omega) | omega) (Nat.le_trans (Nat.le_trans (Nat.le_trans (Nat.le_trans (Nat.le_trans (Below.size E160) (Below.size E164)) (Below.size E169)) (Below.size E184)) (Below.size E191)) (KpL.size E218))) ?_; rintro y' w231 ⟨gg232, hg233, K234, hO235⟩
  have hN236 : w131.heap.size ≤ gg232 := by rcases hg233 with h | h; exact h ▸ hb144; exact Nat.le_trans (Below.size E147) h
  have g237 : w.heap.size ≤ gg232 := Nat.le_trans (Below.size (Ext.gr (Ext.gr (Ext.gr (Ext.gr (Ext.gr (Ext.gr (Ext.gr (Ext.gr (Ext.refl _) E24) E31) E54) E63) E86) E95) E118) E130)) hN236
  have X238 := Below.kl X222 K234 (allS g237 all0) (Nat.le_refl _)
  replace hO235 := hO235.cast (List.nil_append _)
  obtain ⟨p239, q240, rfl⟩ := Own.shape hO235
  have hH241 : Hang w131.heap.size w231 (fun u => Sl RF 1 u (.slice p239 (([(cf .f32 r226)]).length) q240) ([(cf .f32 r226)])) := Own.hang hO235 RF.flat (by decide) hb144 (Below.size E147)
  show wpList _ _ _ _ (fr [_, _, _, _, _, _, _, _, _, _, _, _, _, _, _, _, _, _, _, _, _, _, _, _, _, _, _, _, _, _, _, _, _, _, _, _, _, _, _, _, _, _, _, _, _, _, _, _, _, _, _, _, _, _, _, _, _, _, _, _, _, _, _, _, _, _, _, _, _, _, _, _, _, _, _, _, _, _, _, _, _, _, _, _, _, _, _, _, _, _, _, _, _, _, _, _, _, _, _, _, _, _, _, _, _, _, _, _, _, _, _, _, _, _, _, _, _, _, _, _, _, _, _, _, _, _, _, _, _, _, _, _, _, _, _, _, _, _, _, _, _, _, _, _, _, _, _, _, _, _, _, _, _, _, _, _, _]) _
  refine q_is rfl rfl (does_assign (u := (.slice p239 (([(cf .f32 r226)]).length) q240)) (ev rfl)) (by dsimp only [List.set]; try rfl) ?_
  refine wpList_nil (hK158 _ _ ?_)
  refine wp_region_lit ?_
  refine q_is rfl rfl (does_move (u := (Iv 0)) (ev rfl)) (by dsimp only [List.set]; try rfl) ?_
  refine q_is rfl rfl (does_iarith (p := 0) (q := 1) (r := (1)) (ev rfl) (ev rfl) (.inl ⟨rfl, rfl⟩)) (by dsimp only [List.set]; try rfl) ?_
  refine q_is rfl rfl (does_assign (u := (Iv 1)) (ev rfl)) (by dsimp only [List.set]; try rfl) ?_
  refine wpList_nil ?_
  refine un_step ?_
  refine wp_seq_k fun K242 hK242 => ?_
  refine wp_seq_k fun K243 hK243 => ?_
  refine wp_region_lit ?_
  refine q_is rfl rfl (does_move (u := (Iv 1)) (ev rfl)) (by dsimp only [List.set]; try rfl) ?_
  refine q_is rfl rfl (does_icmp (p := 1) (q := 2) (.inr (.inr (.inl rfl))) (ev rfl) (ev rfl)) (by dsimp only [List.set]; try rfl) ?_
  refine wpList_nil (hK243 _ _ ?_)
  refine wp_cond_true (ev rfl) ?_
  refine wp_skip (hK242 _ _ ?_)
  refine wp_seq_k fun K244 hK244 => ?_
  refine wp_block ?_
  refine wp_seq_k fun K245 hK245 => ?_
  refine wp_region_lit ?_
  refine q_is rfl rfl (does_move (u := (Iv (cellI (cf .f32 r13) (cf .f32 r3) (cf .f32 r7) A_g.y))) (ev rfl)) (by dsimp only [List.set]; try rfl) ?_
  refine q_is rfl rfl (does_move (u := (Iv 1)) (ev rfl)) (by dsimp only [List.set]; try rfl) ?_
  refine q_is rfl rfl (does_iarith (p := cellI (cf .f32 r13) (cf .f32 r3) (cf .f32 r7) A_g.y) (q := 1) (r := (cellI (cf .f32 r13) (cf .f32 r3) (cf .f32 r7) A_g.y) + 1) (ev rfl) (ev rfl) (.inl ⟨rfl, (in_i64 (by omega) (by omega)).symm⟩)) (by dsimp only [List.set]; try rfl) ?_
  refine q_is rfl rfl (does_move (u := (Pt g_b g_o)) (ev rfl)) (by dsimp only [List.set]; try rfl) ?_
  refine q_is rfl rfl (does_nilCheck (ev rfl)) (by dsimp only [List.set]; try rfl) ?_
  refine q_is rfl rfl (does_fieldAddr (ev rfl) fa33_3) (by dsimp only [List.set]; try rfl) ?_
  refine q_is rfl rfl (does_load (u := (Iv A_g.y)) (ev rfl) Try.isAgg2 (Cells.at (hc_g.ext X238) 5 rfl)) (by dsimp only [List.set]; try rfl) ?_
  refine q_is rfl rfl (does_iarith (p := A_g.y) (q := 1) (r := A_g.y - 1) (ev rfl) (ev rfl) (.inr (.inl ⟨rfl, (in_i64 (by omega) (by omega)).symm⟩))) (by dsimp only [List.set]; try rfl) ?_
  refine seqd rfl rfl (does_call (args := #[(Iv ((cellI (cf .f32 r13) (cf .f32 r3) (cf .f32 r7) A_g.y) + 1)), (Iv (A_g.y - 1))]) cal31 (evs rfl) (c_spec_l00Min ((cellI (cf .f32 r13) (cf .f32 r3) (cf .f32 r7) A_g.y) + 1) (A_g.y - 1) _)) ?_; rintro _ w247 ⟨E246, rfl⟩
  have X248 := Ext.gr X238 E246
  show wpList _ _ _ _ (fr [_, _, _, _, _, _, _, _, _, _, _, _, _, _, _, _, _, _, _, _, _, _, _, _, _, _, _, _, _, _, _, _, _, _, _, _, _, _, _, _, _, _, _, _, _, _, _, _, _, _, _, _, _, _, _, _, _, _, _, _, _, _, _, _, _, _, _, _, _, _, _, _, _, _, _, _, _, _, _, _, _, _, _, _, _, _, _, _, _, _, _, _, _, _, _, _, _, _, _, _, _, _, _, _, _, _, _, _, _, _, _, _, _, _, _, _, _, _, _, _, _, _, _, _, _, _, _, _, _, _, _, _, _, _, _, _, _, _, _, _, _, _, _, _, _, _, _, _, _, _, _, _, _, _, _, _, _]) _
  refine q_is rfl rfl (does_assign (u := (Iv (min ((cellI (cf .f32 r13) (cf .f32 r3) (cf .f32 r7) A_g.y) + 1) (A_g.y - 1)))) (ev rfl)) (by dsimp only [List.set]; try rfl) ?_
  refine wpList_nil (hK245 _ _ ?_)
  refine wp_seq_k fun K249 hK249 => ?_
  refine wp_region_lit ?_
  refine q_is rfl rfl (does_move (u := (Iv (cellI (cf .f32 r15) (cf .f32 r5) (cf .f32 r7) A_g.z))) (ev rfl)) (by dsimp only [List.set]; try rfl) ?_
  refine q_is rfl rfl (does_move (u := (Iv 0)) (ev rfl)) (by dsimp only [List.set]; try rfl) ?_
  refine q_is rfl rfl (does_iarith (p := cellI (cf .f32 r15) (cf .f32 r5) (cf .f32 r7) A_g.z) (q := 0) (r := (cellI (cf .f32 r15) (cf .f32 r5) (cf .f32 r7) A_g.z) + 0) (ev rfl) (ev rfl) (.inl ⟨rfl, (in_i64 (by omega) (by omega)).symm⟩)) (by dsimp only [List.set]; try rfl) ?_
  refine q_is rfl rfl (does_move (u := (Pt g_b g_o)) (ev rfl)) (by dsimp only [List.set]; try rfl) ?_
  refine q_is rfl rfl (does_nilCheck (ev rfl)) (by dsimp only [List.set]; try rfl) ?_
  refine q_is rfl rfl (does_fieldAddr (ev rfl) fa33_4) (by dsimp only [List.set]; try rfl) ?_
  refine q_is rfl rfl (does_load (u := (Iv A_g.z)) (ev rfl) Try.isAgg2 (Cells.at (hc_g.ext X248) 6 rfl)) (by dsimp only [List.set]; try rfl) ?_
  refine q_is rfl rfl (does_iarith (p := A_g.z) (q := 1) (r := A_g.z - 1) (ev rfl) (ev rfl) (.inr (.inl ⟨rfl, (in_i64 (by omega) (by omega)).symm⟩))) (by dsimp only [List.set]; try rfl) ?_
  refine seqd rfl rfl (does_call (args := #[(Iv ((cellI (cf .f32 r15) (cf .f32 r5) (cf .f32 r7) A_g.z) + 0)), (Iv (A_g.z - 1))]) cal31 (evs rfl) (c_spec_l00Min ((cellI (cf .f32 r15) (cf .f32 r5) (cf .f32 r7) A_g.z) + 0) (A_g.z - 1) _)) ?_; rintro _ w251 ⟨E250, rfl⟩
  have X252 := Ext.gr X248 E250
  show wpList _ _ _ _ (fr [_, _, _, _, _, _, _, _, _, _, _, _, _, _, _, _, _, _, _, _, _, _, _, _, _, _, _, _, _, _, _, _, _, _, _, _, _, _, _, _, _, _, _, _, _, _, _, _, _, _, _, _, _, _, _, _, _, _, _, _, _, _, _, _, _, _, _, _, _, _, _, _, _, _, _, _, _, _, _, _, _, _, _, _, _, _, _, _, _, _, _, _, _, _, _, _, _, _, _, _, _, _, _, _, _, _, _, _, _, _, _, _, _, _, _, _, _, _, _, _, _, _, _, _, _, _, _, _, _, _, _, _, _, _, _, _, _, _, _, _, _, _, _, _, _, _, _, _, _, _, _, _, _, _, _, _, _]) _
  refine q_is rfl rfl (does_assign (u := (Iv (min ((cellI (cf .f32 r15) (cf .f32 r5) (cf .f32 r7) A_g.z) + 0) (A_g.z - 1)))) (ev rfl)) (by dsimp only [List.set]; try rfl) ?_
  refine wpList_nil (hK249 _ _ ?_)
  refine wp_seq_k fun K253 hK253 => ?_
  obtain ⟨el3, hel3⟩ : ∃ e, A_g.vals[(idxG A_g (cellI (cf .f32 r11) (cf .f32 r1) (cf .f32 r7) A_g.x) (min ((cellI (cf .f32 r13) (cf .f32 r3) (cf .f32 r7) A_g.y) + 1) (A_g.y - 1)) (min ((cellI (cf .f32 r15) (cf .f32 r5) (cf .f32 r7) A_g.z) + 0) (A_g.z - 1))).toNat]? = some e := ⟨_, List.getElem?_eq_getElem (by omega)⟩
  refine region_draw (
    [Fact.pure [] (fun v => v = (Pt g_b g_o)),
    Fact.pure [103] (fun v => v = (Pt g_b g_o)),
    Fact.pure [104] (fun v => v = (Pt g_b (g_o + 7))),
    Fact.pure [105] (fun v => v = (.slice p17 A_g.vals.length q18)),
    Fact.pure [] (fun v => v = (Pt g_b g_o)),
    Fact.pure [] (fun v => v = (Iv (cellI (cf .f32 r11) (cf .f32 r1) (cf .f32 r7) A_g.x))),
    Fact.pure [] (fun v => v = (Iv (min ((cellI (cf .f32 r13) (cf .f32 r3) (cf .f32 r7) A_g.y) + 1) (A_g.y - 1)))),
    Fact.pure [] (fun v => v = (Iv (min ((cellI (cf .f32 r15) (cf .f32 r5) (cf .f32 r7) A_g.z) + 0) (A_g.z - 1)))),
    Fact.pure [107, 108, 109, 110] (fun v => v = (Iv (idxG A_g (cellI (cf .f32 r11) (cf .f32 r1) (cf .f32 r7) A_g.x) (min ((cellI (cf .f32 r13) (cf .f32 r3) (cf .f32 r7) A_g.y) + 1) (A_g.y - 1)) (min ((cellI (cf .f32 r15) (cf .f32 r5) (cf .f32 r7) A_g.z) + 0) (A_g.z - 1))))),
    Fact.mem [106, 111] (fun v w' => PtrR RF w' v el3) (by intro v w1 w2 hx h; exact h.ext RF.mono hx),
    Fact.pure [112] (fun v => ∃ r_1 : Nat, v = (Fl r_1) ∧ cf .f32 r_1 = el3)]) mixed (by kernel_rfl) (by intro _ _ d _ _ h; cases d <;> exact h) ?_
  obtain ⟨w254, hw256⟩ : ∃ w', w' = World.drew w251 := ⟨_, rfl⟩; rw [← hw256]; have E255 : Ext w251 w254 := by rw [hw256]; exact Ext.draw _
  clear hw256
  have X257 := Ext.gr X252 E255
  refine RW_d _ rfl (fun v => by dsimp only [List.set]; try rfl) (fun u hu hF => ?_) (fun v258 => ?_)
  · clear hF
    refine doesG_un rfl ?_
    refine (does_move (u := (Pt g_b g_o)) (ev rfl)).mono ?_; rintro _ _ ⟨rfl, rfl⟩
    exact ⟨rfl, Ext.refl _⟩
  refine RW_d _ rfl (fun v => by dsimp only [List.set]; try rfl) (fun u hu hF => ?_) (fun v259 => ?_)
  · have h103_ : v258 = (Pt g_b g_o) := hF.1
    clear hF
    refine doesG_un rfl ?_
    obtain rfl := h103_
    refine (does_nilCheck (ev rfl)).mono ?_; rintro _ _ ⟨rfl, rfl⟩
    exact ⟨rfl, Ext.refl _⟩
  refine RW_d _ rfl (fun v => by dsimp only [List.set]; try rfl) (fun u hu hF => ?_) (fun v260 => ?_)
  · have h104_ : v259 = (Pt g_b g_o) := hF.1
    clear hF
    refine doesG_un rfl ?_
    obtain rfl := h104_
    refine (does_fieldAddr (ev rfl) fa33_5).mono ?_; rintro _ _ ⟨rfl, rfl⟩
    exact ⟨rfl, Ext.refl _⟩
  refine RW_d _ rfl (fun v => by dsimp only [List.set]; try rfl) (fun u hu hF => ?_) (fun v261 => ?_)
  · have h105_ : v260 = (Pt g_b (g_o + 7)) := hF.1
    clear hF
    refine doesG_un rfl ?_
    obtain rfl := h105_
    refine (does_load (u := (.slice p17 A_g.vals.length q18)) (ev rfl) Try.isAgg25 (Cells.at ((hc_g.ext (Ext.gr X252 E255)).ext hu) 7 rfl)).mono ?_; rintro _ _ ⟨rfl, rfl⟩
    exact ⟨rfl, Ext.refl _⟩
  refine RW_d _ rfl (fun v => by dsimp only [List.set]; try rfl) (fun u hu hF => ?_) (fun v262 => ?_)
  · clear hF
    refine doesG_un rfl ?_
    refine (does_move (u := (Pt g_b g_o)) (ev rfl)).mono ?_; rintro _ _ ⟨rfl, rfl⟩
    exact ⟨rfl, Ext.refl _⟩
  refine RW_d _ rfl (fun v => by dsimp only [List.set]; try rfl) (fun u hu hF => ?_) (fun v263 => ?_)
  · clear hF
    refine doesG_un rfl ?_
    refine (does_move (u := (Iv (cellI (cf .f32 r11) (cf .f32 r1) (cf .f32 r7) A_g.x))) (ev rfl)).mono ?_; rintro _ _ ⟨rfl, rfl⟩
    exact ⟨rfl, Ext.refl _⟩
  refine RW_d _ rfl (fun v => by dsimp only [List.set]; try rfl) (fun u hu hF => ?_) (fun v264 => ?_)
  · clear hF
    refine doesG_un rfl ?_
    refine (does_move (u := (Iv (min ((cellI (cf .f32 r13) (cf .f32 r3) (cf .f32 r7) A_g.y) + 1) (A_g.y - 1)))) (ev rfl)).mono ?_; rintro _ _ ⟨rfl, rfl⟩
    exact ⟨rfl, Ext.refl _⟩
  refine RW_d _ rfl (fun v => by dsimp only [List.set]; try rfl) (fun u hu hF => ?_) (fun v265 => ?_)
  · clear hF
    refine doesG_un rfl ?_
    refine (does_move (u := (Iv (min ((cellI (cf .f32 r15) (cf .f32 r5) (cf .f32 r7) A_g.z) + 0) (A_g.z - 1)))) (ev rfl)).mono ?_; rintro _ _ ⟨rfl, rfl⟩
    exact ⟨rfl, Ext.refl _⟩
  refine RW_d _ rfl (fun v => by dsimp only [List.set]; try rfl) (fun u hu hF => ?_) (fun v266 => ?_)
  · have h107_ : v262 = (Pt g_b g_o) := hF.1
    have h108_ : v263 = (Iv (cellI (cf .f32 r11) (cf .f32 r1) (cf .f32 r7) A_g.x)) := hF.2.1
    have h109_ : v264 = (Iv (min ((cellI (cf .f32 r13) (cf .f32 r3) (cf .f32 r7) A_g.y) + 1) (A_g.y - 1))) := hF.2.2.1
    have h110_ : v265 = (Iv (min ((cellI (cf .f32 r15) (cf .f32 r5) (cf .f32 r7) A_g.z) + 0) (A_g.z - 1))) := hF.2.2.2.1
    clear hF
    refine doesG_un rfl ?_
    obtain rfl := h107_
    obtain rfl := h108_
    obtain rfl := h109_
    obtain rfl := h110_
    refine (does_call (args := #[(Pt g_b g_o), (Iv (cellI (cf .f32 r11) (cf .f32 r1) (cf .f32 r7) A_g.x)), (Iv (min ((cellI (cf .f32 r13) (cf .f32 r3) (cf .f32 r7) A_g.y) + 1) (A_g.y - 1))), (Iv (min ((cellI (cf .f32 r15) (cf .f32 r5) (cf .f32 r7) A_g.z) + 0) (A_g.z - 1)))]) cal32 (evs rfl) (c_spec_l06Index g_b g_o [(Fl r1), (Fl r3), (Fl r5), (Fl r7), (Iv A_g.x), (Iv A_g.y), (Iv A_g.z), (.slice p17 A_g.vals.length q18)] A_g (cellI (cf .f32 r11) (cf .f32 r1) (cf .f32 r7) A_g.x) (min ((cellI (cf .f32 r13) (cf .f32 r3) (cf .f32 r7) A_g.y) + 1) (A_g.y - 1)) (min ((cellI (cf .f32 r15) (cf .f32 r5) (cf .f32 r7) A_g.z) + 0) (A_g.z - 1)) _ ((hc_g.ext (Ext.gr X252 E255)).ext hu) ⟨r1, r3, r5, r7, (.slice p17 A_g.vals.length q18), rfl, h2, h4, h6, h8, (Sl.ext (Sl.ext hs19 RF.mono (Ext.gr X252 E255)) RF.mono hu)⟩)).mono ?_; rintro v u' ⟨hx, hv⟩
    exact ⟨hv, hx⟩
  refine RW_d _ rfl (fun v => by dsimp only [List.set]; try rfl) (fun u hu hF => ?_) (fun v267 => ?_)
  · have h106_ : v261 = (.slice p17 A_g.vals.length q18) := hF.1
    have h111_ : v266 = (Iv (idxG A_g (cellI (cf .f32 r11) (cf .f32 r1) (cf .f32 r7) A_g.x) (min ((cellI (cf .f32 r13) (cf .f32 r3) (cf .f32 r7) A_g.y) + 1) (A_g.y - 1)) (min ((cellI (cf .f32 r15) (cf .f32 r5) (cf .f32 r7) A_g.z) + 0) (A_g.z - 1)))) := hF.2.1
    clear hF
    refine doesG_un rfl ?_
    obtain rfl := h106_
    obtain rfl := h111_
    refine (does_indexSl (R := RF) (i := idxG A_g (cellI (cf .f32 r11) (cf .f32 r1) (cf .f32 r7) A_g.x) (min ((cellI (cf .f32 r13) (cf .f32 r3) (cf .f32 r7) A_g.y) + 1) (A_g.y - 1)) (min ((cellI (cf .f32 r15) (cf .f32 r5) (cf .f32 r7) A_g.z) + 0) (A_g.z - 1))) (xs := A_g.vals) (e := el3) Try.underlying25 Try.sizeOf22 (ev rfl) (ev rfl) (Sl.ext (Sl.ext hs19 RF.mono (Ext.gr X252 E255)) RF.mono hu) (by omega) hel3).mono ?_; rintro v u' ⟨b, of, cs, hv, hc, hR, hu'⟩; subst hu'
    exact ⟨⟨b, of, cs, hv, hc, hR⟩, Ext.refl _⟩
  refine RW_d _ rfl (fun v => by dsimp only [List.set]; try rfl) (fun u hu hF => ?_) (fun v268 => ?_)
  · have h112_ : PtrR RF u v267 el3 := hF.1
    clear hF
    refine doesG_un rfl ?_
    obtain ⟨b112_, o112_, _, rfl, hc112_, ⟨r112_1, rfl, h112_2⟩⟩ := h112_
    refine (does_load (u := (Fl r112_1)) (ev rfl) Try.isAgg22 (Cells.at hc112_ 0 rfl)).mono ?_; rintro _ _ ⟨rfl, rfl⟩
    exact ⟨⟨r112_1, rfl, (by simp only [h112_2])⟩, Ext.refl _⟩
  refine RW_fin ?_; intro w269 E270 hP271
  obtain ⟨⟨⟨⟨⟨⟨⟨⟨⟨⟨⟨-, -⟩, -⟩, -⟩, -⟩, -⟩, -⟩, -⟩, -⟩, -⟩, -⟩, q272⟩ := hP271
  have X273 := Ext.gr X257 E270
  have q272 : ∃ r_1 : Nat, v268 = (Fl r_1) ∧ cf .f32 r_1 = el3 := q272
  obtain ⟨r274, rfl, h275⟩ := q272
  show wpList _ _ _ _ (fr [_, _, _, _, _, _, _, _, _, _, _, _, _, _, _, _, _, _, _, _, _, _, _, _, _, _, _, _, _, _, _, _, _, _, _, _, _, _, _, _, _, _, _, _, _, _, _, _, _, _, _, _, _, _, _, _, _, _, _, _, _, _, _, _, _, _, _, _, _, _, _, _, _, _, _, _, _, _, _, _, _, _, _, _, _, _, _, _, _, _, _, _, _, _, _, _, _, _, _, _, _, _, _, _, _, _, _, _, _, _, _, _, _, _, _, _, _, _, _, _, _, _, _, _, _, _, _, _, _, _, _, _, _, _, _, _, _, _, _, _, _, _, _, _, _, _, _, _, _, _, _, _, _, _, _, _, _]) _
  refine q_is rfl rfl (does_assign (u := (Fl r274)) (ev rfl)) (by dsimp only [List.set]; try rfl) ?_
  refine wpList_nil (hK253 _ _ ?_)
  obtain ⟨el4, hel4⟩ : ∃ e, A_g.vals[(idxG A_g (min ((cellI (cf .f32 r11) (cf .f32 r1) (cf .f32 r7) A_g.x) + 1) (A_g.x - 1)) (min ((cellI (cf .f32 r13) (cf .f32 r3) (cf .f32 r7) A_g.y) + 1) (A_g.y - 1)) (min ((cellI (cf .f32 r15) (cf .f32 r5) (cf .f32 r7) A_g.z) + 0) (A_g.z - 1))).toNat]? = some e := ⟨_, List.getElem?_eq_getElem (by omega)⟩
  refine region_any2 [] [0, 0, 0, 4, 12, 28, 0, 0, 128, 0, 512, 1536, 3584, 7680, 16256, 0, 0, 131008, 262140, 524284, 0, 2097150, 4194302, 8388607, 16777215] [] (
    [FactW.pure [] [] [] true (fun v => v = (.slice p239 (([(cf .f32 r226)]).length) q240)),
      FactW.pure [] [] [] true (fun v => v = (Fl r274)),
      FactW.pure [] [] [] true (fun v => v = (Pt g_b g_o)),
      FactW.pure [2] [] [] true (fun v => v = (Pt g_b g_o)),
      FactW.pure [3] [] [] true (fun v => v = (Pt g_b (g_o + 7))),
      FactW.pure [4] [] [] true (fun v => v = (.slice p17 A_g.vals.length q18)),
      FactW.pure [] [] [] true (fun v => v = (Pt g_b g_o)),
      FactW.pure [] [] [] true (fun v => v = (Iv (cellI (cf .f32 r11) (cf .f32 r1) (cf .f32 r7) A_g.x))),
      FactW.pure [7] [] [] true (fun v => v = (Iv ((cellI (cf .f32 r11) (cf .f32 r1) (cf .f32 r7) A_g.x) + 1))),
      FactW.pure [] [] [] true (fun v => v = (Pt g_b g_o)),
      FactW.pure [9] [] [] true (fun v => v = (Pt g_b g_o)),
      FactW.pure [10] [] [] true (fun v => v = (Pt g_b (g_o + 4))),
      FactW.pure [11] [] [] true (fun v => v = (Iv A_g.x)),
      FactW.pure [12] [] [] true (fun v => v = (Iv (A_g.x - 1))),
      FactW.pure [8, 13] [] [] true (fun v => v = (Iv (min ((cellI (cf .f32 r11) (cf .f32 r1) (cf .f32 r7) A_g.x) + 1) (A_g.x - 1)))),
      FactW.pure [] [] [] true (fun v => v = (Iv (min ((cellI (cf .f32 r13) (cf .f32 r3) (cf .f32 r7) A_g.y) + 1) (A_g.y - 1)))),
      FactW.pure [] [] [] true (fun v => v = (Iv (min ((cellI (cf .f32 r15) (cf .f32 r5) (cf .f32 r7) A_g.z) + 0) (A_g.z - 1)))),
      FactW.pure [6, 14, 15, 16] [] [] true (fun v => v = (Iv (idxG A_g (min ((cellI (cf .f32 r11) (cf .f32 r1) (cf .f32 r7) A_g.x) + 1) (A_g.x - 1)) (min ((cellI (cf .f32 r13) (cf .f32 r3) (cf .f32 r7) A_g.y) + 1) (A_g.y - 1)) (min ((cellI (cf .f32 r15) (cf .f32 r5) (cf .f32 r7) A_g.z) + 0) (A_g.z - 1))))),
      FactW.mem [5, 17] [] [] [] true (fun v w' => PtrR RF w' v el4) (by intro v w1 w2 hx' h; have hx := KpL.toExt hx'; exact h.ext RF.mono hx),
      FactW.pure [18] [] [] true (fun v => ∃ r_1 : Nat, v = (Fl r_1) ∧ cf .f32 r_1 = el4),
      FactW.pure [] [] [] true (fun v => v = (Fl r59)),
      FactW.pure [1, 19, 20] [] [] true (fun v => ∃ r_1 : Nat, v = (Fl r_1) ∧ cf .f32 r_1 = mixF (cf .f32 r274) el4 (cf .f32 r59)),
      FactW.mem [21] [] [] [] true (fun v w' => ∃ b : Nat, ∃ r_1 : Nat, v = .slice (some ⟨b, 0, none⟩) 1 1 ∧ w269.heap.size ≤ b ∧ Blk w' b [(Fl r_1)] ∧ cf .f32 r_1 = mixF (cf .f32 r274) el4 (cf .f32 r59)) (by rintro v w1 w2 hx' ⟨b, z0, rfl, hb, hB, k0⟩; have hx := KpL.toExt hx'; exact ⟨b, z0, rfl, hb, (hB.ext hx), k0⟩)]) mixed (by kernel_rfl) ?_
  obtain ⟨w276, hw278⟩ : ∃ w', w' = World.drew w269 := ⟨_, rfl⟩; rw [← hw278]; have E277 : Ext w269 w276 := by rw [hw278]; exact Ext.draw _
  clear hw278
  have X279 := Ext.gr X273 E277
  refine RW2_d _ rfl (fun v => by dsimp only [List.set]; try rfl) (fun u hu hF => ?_) (fun v280 => ?_)
  · replace hu : KpL [] _ _ := hu
    clear hF
    refine doesG_un rfl ?_
    refine (does_move (u := (.slice p239 (([(cf .f32 r226)]).length) q240)) (ev rfl)).mono ?_; rintro _ _ ⟨rfl, rfl⟩
    exact ⟨rfl, KpL.refl _ _⟩
  refine RW2_d _ rfl (fun v => by dsimp only [List.set]; try rfl) (fun u hu hF => ?_) (fun v281 => ?_)
  · replace hu : KpL [] _ _ := hu
    clear hF
    refine doesG_un rfl ?_
    refine (does_move (u := (Fl r274)) (ev rfl)).mono ?_; rintro _ _ ⟨rfl, rfl⟩
    exact ⟨rfl, KpL.refl _ _⟩
  refine RW2_d _ rfl (fun v => by dsimp only [List.set]; try rfl) (fun u hu hF => ?_) (fun v282 => ?_)
  · replace hu : KpL [] _ _ := hu
    clear hF
    refine doesG_un rfl ?_
    refine (does_move (u := (Pt g_b g_o)) (ev rfl)).mono ?_; rintro _ _ ⟨rfl, rfl⟩
    exact ⟨rfl, KpL.refl _ _⟩
  refine RW2_d _ rfl (fun v => by dsimp only [List.set]; try rfl) (fun u hu hF => ?_) (fun v283 => ?_)
  · replace hu : KpL [] _ _ := hu
    have h116_ : v282 = (Pt g_b g_o) := hF.1
    clear hF
    refine doesG_un rfl ?_
    obtain rfl := h116_
    refine (does_nilCheck (ev rfl)).mono ?_; rintro _ _ ⟨rfl, rfl⟩
    exact ⟨rfl, KpL.refl _ _⟩
  refine RW2_d _ rfl (fun v => by dsimp only [List.set]; try rfl) (fun u hu hF => ?_) (fun v284 => ?_)
  · replace hu : KpL [] _ _ := hu
    have h117_ : v283 = (Pt g_b g_o) := hF.1
    clear hF
    refine doesG_un rfl ?_
    obtain rfl := h117_
    refine (does_fieldAddr (ev rfl) fa33_5).mono ?_; rintro _ _ ⟨rfl, rfl⟩
    exact ⟨rfl, KpL.refl _ _⟩
  refine RW2_d _ rfl (fun v => by dsimp only [List.set]; try rfl) (fun u hu hF => ?_) (fun v285 => ?_)
  · replace hu : KpL [] _ _ := hu
    have h118_ : v284 = (Pt g_b (g_o + 7)) := hF.1
    clear hF
    refine doesG_un rfl ?_
    obtain rfl := h118_
    refine (does_load (u := (.slice p17 A_g.vals.length q18)) (ev rfl) Try.isAgg25 (Cells.at (hc_g.ext (Ext.gr (Ext.gr X273 E277) (KpL.toExt hu))) 7 rfl)).mono ?_; rintro _ _ ⟨rfl, rfl⟩
    exact ⟨rfl, KpL.refl _ _⟩
  refine RW2_d _ rfl (fun v => by dsimp only [List.set]; try rfl) (fun u hu hF => ?_) (fun v286 => ?_)
  · replace hu : KpL [] _ _ := hu
    clear hF
    refine doesG_un rfl ?_
    refine (does_move (u := (Pt g_b g_o)) (ev rfl)).mono ?_; rintro _ _ ⟨rfl, rfl⟩
    exact ⟨rfl, KpL.refl _ _⟩
  refine RW2_d _ rfl (fun v => by dsimp only [List.set]; try rfl) (fun u hu hF => ?_) (fun v287 => ?_)
  · replace hu : KpL [] _ _ := hu
    clear hF
    refine doesG_un rfl ?_
    refine (does_move (u := (Iv (cellI (cf .f32 r11) (cf .f32 r1) (cf .f32 r7) A_g.x))) (ev rfl)).mono ?_; rintro _ _ ⟨rfl, rfl⟩
    exact ⟨rfl, KpL.refl _ _⟩
  refine RW2_d _ rfl (fun v => by dsimp only [List.set]; try rfl) (fun u hu hF => ?_) (fun v288 => ?_)
  · replace hu : KpL [] _ _ := hu
    have h121_ : v287 = (Iv (cellI (cf .f32 r11) (cf .f32 r1) (cf .f32 r7) A_g.x)) := hF.1
    clear hF
    refine doesG_un rfl ?_
    obtain rfl := h121_
    refine (does_iarith (p := cellI (cf .f32 r11) (cf .f32 r1) (cf .f32 r7) A_g.x) (q := 1) (r := (cellI (cf .f32 r11) (cf .f32 r1) (cf .f32 r7) A_g.x) + 1) (ev rfl) (ev rfl) (.inl ⟨rfl, (in_i64 (by omega) (by omega)).symm⟩)).mono ?_; rintro _ _ ⟨rfl, rfl⟩
    exact ⟨rfl, KpL.refl _ _⟩
  refine RW2_d _ rfl (fun v => by dsimp only [List.set]; try rfl) (fun u hu hF => ?_) (fun v289 => ?_)
  · replace hu : KpL [] _ _ := hu
    clear hF
    refine doesG_un rfl ?_
    refine (does_move (u := (Pt g_b g_o)) (ev rfl)).mono ?_; rintro _ _ ⟨rfl, rfl⟩
    exact ⟨rfl, KpL.refl _ _⟩
  refine RW2_d _ rfl (fun v => by dsimp only [List.set]; try rfl) (fun u hu hF => ?_) (fun v290 => ?_)
  · replace hu : KpL [] _ _ := hu
    have h123_ : v289 = (Pt g_b g_o) := hF.1
    clear hF
    refine doesG_un rfl ?_
    obtain rfl := h123_
    refine (does_nilCheck (ev rfl)).mono ?_; rintro _ _ ⟨rfl, rfl⟩
    exact ⟨rfl, KpL.refl _ _⟩
  refine RW2_d _ rfl (fun v => by dsimp only [List.set]; try rfl) (fun u hu hF => ?_) (fun v291 => ?_)
  · replace hu : KpL [] _ _ := hu
    have h124_ : v290 = (Pt g_b g_o) := hF.1
    clear hF
    refine doesG_un rfl ?_
    obtain rfl := h124_
    refine (does_fieldAddr (ev rfl) fa33_2).mono ?_; rintro _ _ ⟨rfl, rfl⟩
    exact ⟨rfl, KpL.refl _ _⟩
  refine RW2_d _ rfl (fun v => by dsimp only [List.set]; try rfl) (fun u hu hF => ?_) (fun v292 => ?_)
  · replace hu : KpL [] _ _ := hu
    have h125_ : v291 = (Pt g_b (g_o + 4)) := hF.1
    clear hF
    refine doesG_un rfl ?_
    obtain rfl := h125_
    refine (does_load (u := (Iv A_g.x)) (ev rfl) Try.isAgg2 (Cells.at (hc_g.ext (Ext.gr (Ext.gr X273 E277) (KpL.toExt hu))) 4 rfl)).mono ?_; rintro _ _ ⟨rfl, rfl⟩
    exact ⟨rfl, KpL.refl _ _⟩
  refine RW2_d _ rfl (fun v => by dsimp only [List.set]; try rfl) (fun u hu hF => ?_) (fun v293 => ?_)
  · replace hu : KpL [] _ _ := hu
    have h126_ : v292 = (Iv A_g.x) := hF.1
    clear hF
    refine doesG_un rfl ?_
    obtain rfl := h126_
    refine (does_iarith (p := A_g.x) (q := 1) (r := A_g.x - 1) (ev rfl) (ev rfl) (.inr (.inl ⟨rfl, (in_i64 (by omega) (by omega)).symm⟩))).mono ?_; rintro _ _ ⟨rfl, rfl⟩
    exact ⟨rfl, KpL.refl _ _⟩
  refine RW2_d _ rfl (fun v => by dsimp only [List.set]; try rfl) (fun u hu hF => ?_) (fun v294 => ?_)
  · replace hu : KpL [] _ _ := hu
    have h122_ : v288 = (Iv ((cellI (cf .f32 r11) (cf .f32 r1) (cf .f32 r7) A_g.x) + 1)) := hF.1
    have h127_ : v293 = (Iv (A_g.x - 1)) := hF.2.1
    clear hF
    refine doesG_un rfl ?_
    obtain rfl := h122_
    obtain rfl := h127_
    refine (does_call (args := #[(Iv ((cellI (cf .f32 r11) (cf .f32 r1) (cf .f32 r7) A_g.x) + 1)), (Iv (A_g.x - 1))]) cal31 (evs rfl) (c_spec_l00Min ((cellI (cf .f32 r11) (cf .f32 r1) (cf .f32 r7) A_g.x) + 1) (A_g.x - 1) _)).mono ?_; rintro v u' ⟨hx, hv⟩
    exact ⟨hv, (KpL.of_ext hx)⟩
  refine RW2_d _ rfl (fun v => by dsimp only [List.set]; try rfl) (fun u hu hF => ?_) (fun v295 => ?_)
  · replace hu : KpL [] _ _ := hu
    clear hF
    refine doesG_un rfl ?_
    refine (does_move (u := (Iv (min ((cellI (cf .f32 r13) (cf .f32 r3) (cf .f32 r7) A_g.y) + 1) (A_g.y - 1)))) (ev rfl)).mono ?_; rintro _ _ ⟨rfl, rfl⟩
    exact ⟨rfl, KpL.refl _ _⟩
  refine RW2_d _ rfl (fun v => by dsimp only [List.set]; try rfl) (fun u hu hF => ?_) (fun v296 => ?_)
  · replace hu : KpL [] _ _ := hu
    clear hF
    refine doesG_un rfl ?_
    refine (does_move (u := (Iv (min ((cellI (cf .f32 r15) (cf .f32 r5) (cf .f32 r7) A_g.z) + 0) (A_g.z - 1)))) (ev rfl)).mono ?_; rintro _ _ ⟨rfl, rfl⟩
    exact ⟨rfl, KpL.refl _ _⟩
  refine RW2_d _ rfl (fun v => by dsimp only [List.set]; try rfl) (fun u hu hF => ?_) (fun v297 => ?_)
  · replace hu : KpL [] _ _ := hu
    have h120_ : v286 = (Pt g_b g_o) := hF.1
    have h128_ : v294 = (Iv (min ((cellI (cf .f32 r11) (cf .f32 r1) (cf .f32 r7) A_g.x) + 1) (A_g.x - 1))) := hF.2.1
    have h129_ : v295 = (Iv (min ((cellI (cf .f32 r13) (cf .f32 r3) (cf .f32 r7) A_g.y) + 1) (A_g.y - 1))) := hF.2.2.1
    have h130_ : v296 = (Iv (min ((cellI (cf .f32 r15) (cf .f32 r5) (cf .f32 r7) A_g.z) + 0) (A_g.z - 1))) := hF.2.2.2.1
    clear hF
    refine doesG_un rfl ?_
    obtain rfl := h120_
    obtain rfl := h128_
    obtain rfl := h129_
    obtain rfl := h130_
    refine (does_call (args := #[(Pt g_b g_o), (Iv (min ((cellI (cf .f32 r11) (cf .f32 r1) (cf .f32 r7) A_g.x) + 1) (A_g.x - 1))), (Iv (min ((cellI (cf .f32 r13) (cf .f32 r3) (cf .f32 r7) A_g.y) + 1) (A_g.y - 1))), (Iv (min ((cellI (cf .f32 r15) (cf .f32 r5) (cf .f32 r7) A_g.z) + 0) (A_g.z - 1)))]) cal32 (evs rfl) (c_spec_l06Index g_b g_o [(Fl r1), (Fl r3), (Fl r5), (Fl r7), (Iv A_g.x), (Iv A_g.y), (Iv A_g.z), (.slice p17 A_g.vals.length q18)] A_g (min ((cellI (cf .f32 r11) (cf .f32 r1) (cf .f32 r7) A_g.x) + 1) (A_g.x - 1)) (min ((cellI (cf .f32 r13) (cf .f32 r3) (cf .f32 r7) A_g.y) + 1) (A_g.y - 1)) (min ((cellI (cf .f32 r15) (cf .f32 r5) (cf .f32 r7) A_g.z) + 0) (A_g.z - 1)) _ (hc_g.ext (Ext.gr (Ext.gr X273 E277) (KpL.toExt hu))) ⟨r1, r3, r5, r7, (.slice p17 A_g.vals.length q18), rfl, h2, h4, h6, h8, (Sl.ext hs19 RF.mono (Ext.gr (Ext.gr X273 E277) (KpL.toExt hu)))⟩)).mono ?_; rintro v u' ⟨hx, hv⟩
    exact ⟨hv, (KpL.of_ext hx)⟩
  refine RW2_d _ rfl (fun v => by dsimp only [List.set]; try rfl) (fun u hu hF => ?_) (fun v298 => ?_)
  · replace hu : KpL [] _ _ := hu
    have h119_ : v285 = (.slice p17 A_g.vals.length q18) := hF.1
    have h131_ : v297 = (Iv (idxG A_g (min ((cellI (cf .f32 r11) (cf .f32 r1) (cf .f32 r7) A_g.x) + 1) (A_g.x - 1)) (min ((cellI (cf .f32 r13) (cf .f32 r3) (cf .f32 r7) A_g.y) + 1) (A_g.y - 1)) (min ((cellI (cf .f32 r15) (cf .f32 r5) (cf .f32 r7) A_g.z) + 0) (A_g.z - 1)))) := hF.2.1
    clear hF
    refine doesG_un rfl ?_
    obtain rfl := h119_
    obtain rfl := h131_
    refine (does_indexSl (R := RF) (i := idxG A_g (min ((cellI (cf .f32 r11) (cf .f32 r1) (cf .f32 r7) A_g.x) + 1) (A_g.x - 1)) (min ((cellI (cf .f32 r13) (cf .f32 r3) (cf .f32 r7) A_g.y) + 1) (A_g.y - 1)) (min ((cellI (cf .f32 r15) (cf .f32 r5) (cf .f32 r7) A_g.z) + 0) (A_g.z - 1))) (xs := A_g.vals) (e := el4) Try.underlying25 Try.sizeOf22 (ev rfl) (ev rfl) (Sl.ext hs19 RF.mono (Ext.gr (Ext.gr X273 E277) (KpL.toExt hu))) (by omega) hel4).mono ?_; rintro v u' ⟨b, of, cs, hv, hc, hR, hu'⟩; subst hu'
    exact ⟨⟨b, of, cs, hv, hc, hR⟩, KpL.refl _ _⟩
  refine RW2_d _ rfl (fun v => by dsimp only [List.set]; try rfl) (fun u hu hF => ?_) (fun v299 => ?_)
  · replace hu : KpL [] _ _ := hu
    have h132_ : PtrR RF u v298 el4 := hF.1
    clear hF
    refine doesG_un rfl ?_
    obtain ⟨b132_, o132_, _, rfl, hc132_, ⟨r132_1, rfl, h132_2⟩⟩ := h132_
    refine (does_load (u := (Fl r132_1)) (ev rfl) Try.isAgg22 (Cells.at hc132_ 0 rfl)).mono ?_; rintro _ _ ⟨rfl, rfl⟩
    exact ⟨⟨r132_1, rfl, (by simp only [h132_2])⟩, KpL.refl _ _⟩
  refine RW2_d _ rfl (fun v => by dsimp only [List.set]; try rfl) (fun u hu hF => ?_) (fun v300 => ?_)
  · replace hu : KpL [] _ _ := hu
    clear hF
    refine doesG_un rfl ?_
    refine (does_move (u := (Fl r59)) (ev rfl)).mono ?_; rintro _ _ ⟨rfl, rfl⟩
    exact ⟨rfl, KpL.refl _ _⟩
  refine RW2_d _ rfl (fun v => by dsimp only [List.set]; try rfl) (fun u hu hF => ?_) (fun v301 => ?_)
  · replace hu : KpL [] _ _ := hu
    have h115_ : v281 = (Fl r274) := hF.1
    have h133_ : ∃ r_1 : Nat, v299 = (Fl r_1) ∧ cf .f32 r_1 = el4 := hF.2.1
    have h134_ : v300 = (Fl r59) := hF.2.2.1
    clear hF
    refine doesG_un rfl ?_
    obtain rfl := h115_
    obtain ⟨r133_1, rfl, h133_2⟩ := h133_
    obtain rfl := h134_
    refine (does_call (args := #[(Fl r274), (Fl r133_1), (Fl r59)]) cal33 (evs rfl) (c_spec_l06Mix r274 r133_1 r59 _)).mono ?_; rintro v u' ⟨hx, ⟨rn1, hv, k0⟩⟩
    exact ⟨⟨rn1, hv.trans (by simp only [h133_2]), (by simp only [k0, h133_2])⟩, (KpL.of_ext hx)⟩
  refine RW2_d _ rfl (fun v => by dsimp only [List.set]; try rfl) (fun u hu hF => ?_) (fun v302 => ?_)
  · replace hu : KpL [] _ _ := hu
    have h135_ : ∃ r_1 : Nat, v301 = (Fl r_1) ∧ cf .f32 r_1 = mixF (cf .f32 r274) el4 (cf .f32 r59) := hF.1
    clear hF
    refine doesG_un rfl ?_
    obtain ⟨r135_1, rfl, h135_2⟩ := h135_
    refine (does_buildSlice (e := 22) (parts' := [(0, (Fl r135_1))]) (cells := [(Fl r135_1)]) (evp rfl) (fun _ => by kernel_rfl)).mono ?_; rintro _ _ ⟨b, rfl, hb, hB, hx⟩
    exact ⟨⟨b, r135_1, rfl, Nat.le_trans (Nat.le_trans (Below.size E277) (KpL.size hu)) hb, hB, (by simp only [h135_2])⟩, (KpL.of_ext hx)⟩
  refine RW2_fin ?_; intro w303 E304 hP305; replace E304 : KpL [] _ _ := E304
  obtain ⟨⟨⟨⟨⟨⟨⟨⟨⟨⟨⟨⟨⟨⟨⟨⟨⟨⟨⟨⟨⟨⟨⟨-, q306⟩, -⟩, -⟩, -⟩, -⟩, -⟩, -⟩, -⟩, -⟩, -⟩, -⟩, -⟩, -⟩, -⟩, -⟩, -⟩, -⟩, -⟩, -⟩, -⟩, -⟩, -⟩, q307⟩ := hP305
  have X308 := Below.kl X279 E304 all0 (Nat.le_refl _)
  have q306 : v280 = (.slice p239 (([(cf .f32 r226)]).length) q240) := q306 rfl
  obtain rfl := q306
  have q307 : ∃ b : Nat, ∃ r_1 : Nat, v302 = .slice (some ⟨b, 0, none⟩) 1 1 ∧ w269.heap.size ≤ b ∧ Blk w303 b [(Fl r_1)] ∧ cf .f32 r_1 = mixF (cf .f32 r274) el4 (cf .f32 r59) := q307 rfl
  obtain ⟨b309, r312, rfl, hb310, hB311, h313⟩ := q307
  have n314 : g_b < b309 := Nat.lt_of_lt_of_le (cell_lt (Cells.at (hc_g.ext X273) 0 rfl)) hb310
  have n315 : b21 < b309 := Nat.lt_of_lt_of_le (Blk.lt (((((((((((((((((((hB23.ext E31).ext E54).ext E63).ext E86).ext E95).ext E118).ext E130).ext E147).ext E160).ext E164).ext E169).ext E184).ext E191).kl E218 nin0).kl K234 (ninS (Nat.ne_of_lt (Nat.lt_of_lt_of_le n150 hN236)) nin0)).ext E246).ext E250).ext E255).ext E270)) hb310
  have g316 : w.heap.size ≤ b309 := Nat.le_trans (Below.size X273) hb310
  show wpList _ _ _ _ (fr [_, _, _, _, _, _, _, _, _, _, _, _, _, _, _, _, _, _, _, _, _, _, _, _, _, _, _, _, _, _, _, _, _, _, _, _, _, _, _, _, _, _, _, _, _, _, _, _, _, _, _, _, _, _, _, _, _, _, _, _, _, _, _, _, _, _, _, _, _, _, _, _, _, _, _, _, _, _, _, _, _, _, _, _, _, _, _, _, _, _, _, _, _, _, _, _, _, _, _, _, _, _, _, _, _, _, _, _, _, _, _, _, _, _, _, _, _, _, _, _, _, _, _, _, _, _, _, _, _, _, _, _, _, _, _, _, _, _, _, _, _, _, _, _, _, _, _, _, _, _, _, _, _, _, _, _, _]) _
  refine seqd rfl rfl (does_append (R := RF) (k := 1) (g0 := b143) (B := w148.heap.size) (xs := ([(cf .f32 r226)])) (ys := [(cf .f32 r312)]) Try.underlying25 inf22 rfl (by decide) (ev rfl) (ev rfl) (Own.same hO235 RF.flat (((((((Same.refl _ _).ext E246).ext E250).ext E255).ext E270).ext E277).kl E304 all0) hb144 (Below.size E147)) RF.flat hB311 rfl rfl rfl (fun i x hi => lit1 (R := RF) (cs := [(Fl r312)]) (y := (cf .f32 r312))  (⟨_, rfl, rfl⟩) i x hi) (by first | (simp only [List.length_append, List.length_cons, List.length_nil]; omega) | omega) (Nat.le_trans (Nat.le_trans (Nat.le_trans (Nat.le_trans (Nat.le_trans (Nat.le_trans (Nat.le_trans (Nat.le_trans (Nat.le_trans (Nat.le_trans (Nat.le_trans (Nat.le_trans (Below.size E160) (Below.size E164)) (Below.size E169)) (Below.size E184)) (Below.size E191)) (KpL.size E218)) (KpL.size K234)) (Below.size E246)) (Below.size E250)) (Below.size E255)) (Below.size E270)) (Below.size E277)) (KpL.size E304))) ?_; rintro y' w317 ⟨gg318, hg319, K320, hO321⟩
  have hN322 : w131.heap.size ≤ gg318 := by rcases hg319 with h | h; exact h ▸ hb144; exact Nat.le_trans (Below.size E147) h
  have g323 : w.heap.size ≤ gg318 := Nat.le_trans (Below.size (Ext.gr (Ext.gr (Ext.gr (Ext.gr (Ext.gr (Ext.gr (Ext.gr (Ext.gr (Ext.refl _) E24) E31) E54) E63) E86) E95) E118) E130)) hN322
  have X324 := Below.kl X308 K320 (allS g323 all0) (Nat.le_refl _)
  obtain ⟨p325, q326, rfl⟩ := Own.shape hO321
  have hH327 : Hang w131.heap.size w317 (fun u => Sl RF 1 u (.slice p325 ((([(cf .f32 r226)]) ++ [(cf .f32 r312)]).length) q326) (([(cf .f32 r226)]) ++ [(cf .f32 r312)])) := Own.hang hO321 RF.flat (by decide) hb144 (Below.size E147)
  show wpList _ _ _ _ (fr [_, _, _, _, _, _, _, _, _, _, _, _, _, _, _, _, _, _, _, _, _, _, _, _, _, _, _, _, _, _, _, _, _, _, _, _, _, _, _, _, _, _, _, _, _, _, _, _, _, _, _, _, _, _, _, _, _, _, _, _, _, _, _, _, _, _, _, _, _, _, _, _, _, _, _, _, _, _, _, _, _, _, _, _, _, _, _, _, _, _, _, _, _, _, _, _, _, _, _, _, _, _, _, _, _, _, _, _, _, _, _, _, _, _, _, _, _, _, _, _, _, _, _, _, _, _, _, _, _, _, _, _, _, _, _, _, _, _, _, _, _, _, _, _, _, _, _, _, _, _, _, _, _, _, _, _, _]) _
  refine q_is rfl rfl (does_assign (u := (.slice p325 ((([(cf .f32 r226)]) ++ [(cf .f32 r312)]).length) q326)) (ev rfl)) (by dsimp only [List.set]; try rfl) ?_
  refine wpList_nil (hK244 _ _ ?_)
  refine wp_region_lit ?_
  refine q_is rfl rfl (does_move (u := (Iv 1)) (ev rfl)) (by dsimp only [List.set]; try rfl) ?_
  refine q_is rfl rfl (does_iarith (p := 1) (q := 1) (r := (2)) (ev rfl) (ev rfl) (.inl ⟨rfl, rfl⟩)) (by dsimp only [List.set]; try rfl) ?_
  refine q_is rfl rfl (does_assign (u := (Iv 2)) (ev rfl)) (by dsimp only [List.set]; try rfl) ?_
  refine wpList_nil ?_
  refine un_step ?_
  refine wp_seq_k fun K328 hK328 => ?_
  refine wp_seq_k fun K329 hK329 => ?_
  refine wp_region_lit ?_
  refine q_is rfl rfl (does_move (u := (Iv 2)) (ev rfl)) (by dsimp only [List.set]; try rfl) ?_
  refine q_is rfl rfl (does_icmp (p := 2) (q := 2) (.inr (.inr (.inl rfl))) (ev rfl) (ev rfl)) (by dsimp only [List.set]; try rfl) ?_
  refine wpList_nil (hK329 _ _ ?_)
  refine wp_cond_false (ev rfl) ?_
  refine wp_exit ?_
  refine hK154 _ _ ?_
  refine region_any2 [] [0, 0, 2, 6, 0, 16, 48, 0, 254, 510, 1023, 2047] [] (
    [FactW.pure [] [] [] true (fun v => v = (.slice (some ⟨b126, 0, none⟩) 0 0)),
      FactW.pure [] [] [] true (fun v => v = (.slice p325 ((([(cf .f32 r226)]) ++ [(cf .f32 r312)]).length) q326)),
      FactW.mem [1] [] [] [] true (fun v w' => PtrR RF w' v (cf .f32 r226)) (by intro v w1 w2 hx' h; have hx := KpL.toExt hx'; exact h.ext RF.mono hx),
      FactW.pure [2] [] [] true (fun v => ∃ r_1 : Nat, v = (Fl r_1) ∧ cf .f32 r_1 = (cf .f32 r226)),
      FactW.pure [] [] [] true (fun v => v = (.slice p325 ((([(cf .f32 r226)]) ++ [(cf .f32 r312)]).length) q326)),
      FactW.mem [4] [] [] [] true (fun v w' => PtrR RF w' v (cf .f32 r312)) (by intro v w1 w2 hx' h; have hx := KpL.toExt hx'; exact h.ext RF.mono hx),
      FactW.pure [5] [] [] true (fun v => ∃ r_1 : Nat, v = (Fl r_1) ∧ cf .f32 r_1 = (cf .f32 r312)),
      FactW.pure [] [] [] true (fun v => v = (Fl r91)),
      FactW.pure [3, 6, 7] [] [] true (fun v => ∃ r_1 : Nat, v = (Fl r_1) ∧ cf .f32 r_1 = mixF (cf .f32 r226) (cf .f32 r312) (cf .f32 r91)),
      FactW.mem [8] [] [] [] true (fun v w' => ∃ b : Nat, ∃ r_1 : Nat, v = .slice (some ⟨b, 0, none⟩) 1 1 ∧ w317.heap.size ≤ b ∧ Blk w' b [(Fl r_1)] ∧ cf .f32 r_1 = mixF (cf .f32 r226) (cf .f32 r312) (cf .f32 r91)) (by rintro v w1 w2 hx' ⟨b, z0, rfl, hb, hB, k0⟩; have hx := KpL.toExt hx'; exact ⟨b, z0, rfl, hb, (hB.ext hx), k0⟩)]) mixed (by kernel_rfl) ?_
  obtain ⟨w330, hw332⟩ : ∃ w', w' = World.drew w317 := ⟨_, rfl⟩; rw [← hw332]; have E331 : Ext w317 w330 := by rw [hw332]; exact Ext.draw _
  clear hw332
  have X333 := Ext.gr X324 E331
  refine RW2_d _ rfl (fun v => by dsimp only [List.set]; try rfl) (fun u hu hF => ?_) (fun v334 => ?_)
  · replace hu : KpL [] _ _ := hu
    clear hF
    refine doesG_un rfl ?_
    refine (does_move (u := (.slice (some ⟨b126, 0, none⟩) 0 0)) (ev rfl)).mono ?_; rintro _ _ ⟨rfl, rfl⟩
    exact ⟨rfl, KpL.refl _ _⟩
  refine RW2_d _ rfl (fun v => by dsimp only [List.set]; try rfl) (fun u hu hF => ?_) (fun v335 => ?_)
  · replace hu : KpL [] _ _ := hu
    clear hF
    refine doesG_un rfl ?_
    refine (does_move (u := (.slice p325 ((([(cf .f32 r226)]) ++ [(cf .f32 r312)]).length) q326)) (ev rfl)).mono ?_; rintro _ _ ⟨rfl, rfl⟩
    exact ⟨rfl, KpL.refl _ _⟩
  refine RW2_d _ rfl (fun v => by dsimp only [List.set]; try rfl) (fun u hu hF => ?_) (fun v336 => ?_)
  · replace hu : KpL [] _ _ := hu
    have h139_ : v335 = (.slice p325 ((([(cf .f32 r226)]) ++ [(cf .f32 r312)]).length) q326) := hF.1
    clear hF
    refine doesG_un rfl ?_
    obtain rfl := h139_
    refine (does_indexSl (R := RF) (i := 0) (xs := ([(cf .f32 r226)]) ++ [(cf .f32 r312)]) (e := (cf .f32 r226)) Try.underlying25 Try.sizeOf22 (ev rfl) (ev rfl) (hH327 _ (((Same.refl _ _).ext E331).ext (KpL.toExt hu))) (by omega) rfl).mono ?_; rintro v u' ⟨b, of, cs, hv, hc, hR, hu'⟩; subst hu'
    exact ⟨⟨b, of, cs, hv, hc, hR⟩, KpL.refl _ _⟩
  refine RW2_d _ rfl (fun v => by dsimp only [List.set]; try rfl) (fun u hu hF => ?_) (fun v337 => ?_)
  · replace hu : KpL [] _ _ := hu
    have h140_ : PtrR RF u v336 (cf .f32 r226) := hF.1
    clear hF
    refine doesG_un rfl ?_
    obtain ⟨b140_, o140_, _, rfl, hc140_, ⟨r140_1, rfl, h140_2⟩⟩ := h140_
    refine (does_load (u := (Fl r140_1)) (ev rfl) Try.isAgg22 (Cells.at hc140_ 0 rfl)).mono ?_; rintro _ _ ⟨rfl, rfl⟩
    exact ⟨⟨r140_1, rfl, (by simp only [h140_2])⟩, KpL.refl _ _⟩
  refine RW2_d _ rfl (fun v => by dsimp only [List.set]; try rfl) (fun u hu hF => ?_) (fun v338 => ?_)
  · replace hu : KpL [] _ _ := hu
    clear hF
    refine doesG_un rfl ?_
    refine (does_move (u := (.slice p325 ((([(cf .f32 r226)]) ++ [(cf .f32 r312)]).length) q326)) (ev rfl)).mono ?_; rintro _ _ ⟨rfl, rfl⟩
    exact ⟨rfl, KpL.refl _ _⟩
  refine RW2_d _ rfl (fun v => by dsimp only [List.set]; try rfl) (fun u hu hF => ?_) (fun v339 => ?_)
  · replace hu : KpL [] _ _ := hu
    have h142_ : v338 = (.slice p325 ((([(cf .f32 r226)]) ++ [(cf .f32 r312)]).length) q326) := hF.1
    clear hF
    refine doesG_un rfl ?_
    obtain rfl := h142_
    refine (does_indexSl (R := RF) (i := 1) (xs := ([(cf .f32 r226)]) ++ [(cf .f32 r312)]) (e := (cf .f32 r312)) Try.underlying25 Try.sizeOf22 (ev rfl) (ev rfl) (hH327 _ (((Same.refl _ _).ext E331).ext (KpL.toExt hu))) (by omega) rfl).mono ?_; rintro v u' ⟨b, of, cs, hv, hc, hR, hu'⟩; subst hu'
    exact ⟨⟨b, of, cs, hv, hc, hR⟩, KpL.refl _ _⟩
  refine RW2_d _ rfl (fun v => by dsimp only [List.set]; try rfl) (fun u hu hF => ?_) (fun v340 => ?_)
  · replace hu : KpL [] _ _ := hu
    have h143_ : PtrR RF u v339 (cf .f32 r312) := hF.1
    clear hF
    refine doesG_un rfl ?_
    obtain ⟨b143_, o143_, _, rfl, hc143_, ⟨r143_1, rfl, h143_2⟩⟩ := h143_
    refine (does_load (u := (Fl r143_1)) (ev rfl) Try.isAgg22 (Cells.at hc143_ 0 rfl)).mono ?_; rintro _ _ ⟨rfl, rfl⟩
    exact ⟨⟨r143_1, rfl, (by simp only [h143_2])⟩, KpL.refl _ _⟩
  refine RW2_d _ rfl (fun v => by dsimp only [List.set]; try rfl) (fun u hu hF => ?_) (fun v341 => ?_)
  · replace hu : KpL [] _ _ := hu
    clear hF
    refine doesG_un rfl ?_
    refine (does_move (u := (Fl r91)) (ev rfl)).mono ?_; rintro _ _ ⟨rfl, rfl⟩
    exact ⟨rfl, KpL.refl _ _⟩
  refine RW2_d _ rfl (fun v => by dsimp only [List.set]; try rfl) (fun u hu hF => ?_) (fun v342 => ?_)
  · replace hu : KpL [] _ _ := hu
    have h141_ : ∃ r_1 : Nat, v337 = (Fl r_1) ∧ cf .f32 r_1 = (cf .f32 r226) := hF.1
    have h144_ : ∃ r_1 : Nat, v340 = (Fl r_1) ∧ cf .f32 r_1 = (cf .f32 r312) := hF.2.1
    have h145_ : v341 = (Fl r91) := hF.2.2.1
    clear hF
    refine doesG_un rfl ?_
    obtain ⟨r141_1, rfl, h141_2⟩ := h141_
    obtain ⟨r144_1, rfl, h144_2⟩ := h144_
    obtain rfl := h145_
    refine (does_call (args := #[(Fl r141_1), (Fl r144_1), (Fl r91)]) cal33 (evs rfl) (c_spec_l06Mix r141_1 r144_1 r91 _)).mono ?_; rintro v u' ⟨hx, ⟨rn1, hv, k0⟩⟩
    exact ⟨⟨rn1, hv.trans (by simp only [h141_2, h144_2]), (by simp only [k0, h141_2, h144_2])⟩, (KpL.of_ext hx)⟩
  refine RW2_d _ rfl (fun v => by dsimp only [List.set]; try rfl) (fun u hu hF => ?_) (fun v343 => ?_)
  · replace hu : KpL [] _ _ := hu
    have h146_ : ∃ r_1 : Nat, v342 = (Fl r_1) ∧ cf .f32 r_1 = mixF (cf .f32 r226) (cf .f32 r312) (cf .f32 r91) := hF.1
    clear hF
    refine doesG_un rfl ?_
    obtain ⟨r146_1, rfl, h146_2⟩ := h146_
    refine (does_buildSlice (e := 22) (parts' := [(0, (Fl r146_1))]) (cells := [(Fl r146_1)]) (evp rfl) (fun _ => by kernel_rfl)).mono ?_; rintro _ _ ⟨b, rfl, hb, hB, hx⟩
    exact ⟨⟨b, r146_1, rfl, Nat.le_trans (Nat.le_trans (Below.size E331) (KpL.size hu)) hb, hB, (by simp only [h146_2])⟩, (KpL.of_ext hx)⟩
  refine RW2_fin ?_; intro w344 E345 hP346; replace E345 : KpL [] _ _ := E345
  obtain ⟨⟨⟨⟨⟨⟨⟨⟨⟨⟨-, q347⟩, -⟩, -⟩, -⟩, -⟩, -⟩, -⟩, -⟩, -⟩, q348⟩ := hP346
  have X349 := Below.kl X333 E345 all0 (Nat.le_refl _)
  have q347 : v334 = (.slice (some ⟨b126, 0, none⟩) 0 0) := q347 rfl
  obtain rfl := q347
  have q348 : ∃ b : Nat, ∃ r_1 : Nat, v343 = .slice (some ⟨b, 0, none⟩) 1 1 ∧ w317.heap.size ≤ b ∧ Blk w344 b [(Fl r_1)] ∧ cf .f32 r_1 = mixF (cf .f32 r226) (cf .f32 r312) (cf .f32 r91) := q348 rfl
  obtain ⟨b350, r353, rfl, hb351, hB352, h354⟩ := q348
  have n355 : g_b < b350 := Nat.lt_of_lt_of_le (cell_lt (Cells.at (hc_g.ext X324) 0 rfl)) hb351
  have n356 : b21 < b350 := Nat.lt_of_lt_of_le (Blk.lt ((((((((((((((((((((((hB23.ext E31).ext E54).ext E63).ext E86).ext E95).ext E118).ext E130).ext E147).ext E160).ext E164).ext E169).ext E184).ext E191).kl E218 nin0).kl K234 (ninS (Nat.ne_of_lt (Nat.lt_of_lt_of_le n150 hN236)) nin0)).ext E246).ext E250).ext E255).ext E270).ext E277).kl E304 nin0).kl K320 (ninS (Nat.ne_of_lt (Nat.lt_of_lt_of_le n150 hN322)) nin0))) hb351
  have g357 : w.heap.size ≤ b350 := Nat.le_trans (Below.size X324) hb351
  show wpList _ _ _ _ (fr [_, _, _, _, _, _, _, _, _, _, _, _, _, _, _, _, _, _, _, _, _, _, _, _, _, _, _, _, _, _, _, _, _, _, _, _, _, _, _, _, _, _, _, _, _, _, _, _, _, _, _, _, _, _, _, _, _, _, _, _, _, _, _, _, _, _, _, _, _, _, _, _, _, _, _, _, _, _, _, _, _, _, _, _, _, _, _, _, _, _, _, _, _, _, _, _, _, _, _, _, _, _, _, _, _, _, _, _, _, _, _, _, _, _, _, _, _, _, _, _, _, _, _, _, _, _, _, _, _, _, _, _, _, _, _, _, _, _, _, _, _, _, _, _, _, _, _, _, _, _, _, _, _, _, _, _, _]) _
  refine seqd rfl rfl (does_append (R := RF) (k := 1) (g0 := b126) (B := w131.heap.size) (xs := ([])) (ys := [(cf .f32 r353)]) Try.underlying25 inf22 rfl (by decide) (ev rfl) (ev rfl) (Own.same hO135 RF.flat ((((((((((((((((((Same.refl _ _).ext E147).ext E160).ext E164).ext E169).ext E184).ext E191).kl E218 all0).kl K234 (allS (.inr (Nat.le_trans (Below.size (Ext.refl _)) hN236)) all0)).ext E246).ext E250).ext E255).ext E270).ext E277).kl E304 all0).kl K320 (allS (.inr (Nat.le_trans (Below.size (Ext.refl _)) hN322)) all0)).ext E331).kl E345 all0) hb127 (Below.size E130)) RF.flat hB352 rfl rfl rfl (fun i x hi => lit1 (R := RF) (cs := [(Fl r353)]) (y := (cf .f32 r353))  (⟨_, rfl, rfl⟩) i x hi) (by first | (simp only [List.length_append, List.length_cons, List.length_nil]; omega) | omega) (Nat.le_trans (Nat.le_trans (Nat.le_trans (Nat.le_trans (Nat.le_trans (Nat.le_trans (Nat.le_trans (Nat.le_trans (Nat.le_trans (Nat.le_trans (Nat.le_trans (Nat.le_trans (Nat.le_trans (Nat.le_trans (Nat.le_trans (Nat.le_trans (Below.size E147) (Below.size E160)) (Below.size E164)) (Below.size E169)) (Below.size E184)) (Below.size E191)) (KpL.size E218)) (KpL.size K234)) (Below.size E246)) (Below.size E250)) (Below.size E255)) (Below.size E270)) (Below.size E277)) (KpL.size E304)) (KpL.size K320)) (Below.size E331)) (KpL.size E345))) ?_; rintro y' w358 ⟨gg359, hg360, K361, hO362⟩
  have hN363 : w117.heap.size ≤ gg359 := by rcases hg360 with h | h; exact h ▸ hb127; exact Nat.le_trans (Below.size E130) h
  have g364 : w.heap.size ≤ gg359 := Nat.le_trans (Below.size (Ext.gr (Ext.gr (Ext.gr (Ext.gr (Ext.gr (Ext.gr (Ext.gr (Ext.refl _) E24) E31) E54) E63) E86) E95) E118)) hN363
  have X365 := Below.kl X349 K361 (allS g364 all0) (Nat.le_refl _)
  replace hO362 := hO362.cast (List.nil_append _)
  obtain ⟨p366, q367, rfl⟩ := Own.shape hO362
  have hH368 : Hang w117.heap.size w358 (fun u => Sl RF 1 u (.slice p366 (([(cf .f32 r353)]).length) q367) ([(cf .f32 r353)])) := Own.hang hO362 RF.flat (by decide) hb127 (Below.size E130)
  show wpList _ _ _ _ (fr [_, _, _, _, _, _, _, _, _, _, _, _, _, _, _, _, _, _, _, _, _, _, _, _, _, _, _, _, _, _, _, _, _, _, _, _, _, _, _, _, _, _, _, _, _, _, _, _, _, _, _, _, _, _, _, _, _, _, _, _, _, _, _, _, _, _, _, _, _, _, _, _, _, _, _, _, _, _, _, _, _, _, _, _, _, _, _, _, _, _, _, _, _, _, _, _, _, _, _, _, _, _, _, _, _, _, _, _, _, _, _, _, _, _, _, _, _, _, _, _, _, _, _, _, _, _, _, _, _, _, _, _, _, _, _, _, _, _, _, _, _, _, _, _, _, _, _, _, _, _, _, _, _, _, _, _, _]) _
  refine q_is rfl rfl (does_assign (u := (.slice p366 (([(cf .f32 r353)]).length) q367)) (ev rfl)) (by dsimp only [List.set]; try rfl) ?_
  refine wpList_nil (hK141 _ _ ?_)
  refine wp_region_lit ?_
  refine q_is rfl rfl (does_move (u := (Iv 0)) (ev rfl)) (by dsimp only [List.set]; try rfl) ?_
  refine q_is rfl rfl (does_iarith (p := 0) (q := 1) (r := (1)) (ev rfl) (ev rfl) (.inl ⟨rfl, rfl⟩)) (by dsimp only [List.set]; try rfl) ?_
  refine q_is rfl rfl (does_assign (u := (Iv 1)) (ev rfl)) (by dsimp only [List.set]; try rfl) ?_
  refine wpList_nil ?_
  refine un_step ?_
  refine wp_seq_k fun K369 hK369 => ?_
  refine wp_seq_k fun K370 hK370 => ?_
  refine wp_region_lit ?_
  refine q_is rfl rfl (does_move (u := (Iv 1)) (ev rfl)) (by dsimp only [List.set]; try rfl) ?_
  refine q_is rfl rfl (does_icmp (p := 1) (q := 2) (.inr (.inr (.inl rfl))) (ev rfl) (ev rfl)) (by dsimp only [List.set]; try rfl) ?_
  refine wpList_nil (hK370 _ _ ?_)
  refine wp_cond_true (ev rfl) ?_
  refine wp_skip (hK369 _ _ ?_)
  refine wp_seq_k fun K371 hK371 => ?_
  refine wp_block ?_
  refine wp_seq_k fun K372 hK372 => ?_
  refine wp_region_lit ?_
  have n379 : g_b < w358.heap.size := cell_lt (Cells.at (hc_g.ext X365) 0 rfl)
  have n380 : b21 < w358.heap.size := Blk.lt (((((((((((((((((((((((((hB23.ext E31).ext E54).ext E63).ext E86).ext E95).ext E118).ext E130).ext E147).ext E160).ext E164).ext E169).ext E184).ext E191).kl E218 nin0).kl K234 (ninS (Nat.ne_of_lt (Nat.lt_of_lt_of_le n150 hN236)) nin0)).ext E246).ext E250).ext E255).ext E270).ext E277).kl E304 nin0).kl K320 (ninS (Nat.ne_of_lt (Nat.lt_of_lt_of_le n150 hN322)) nin0)).ext E331).kl E345 nin0).kl K361 (ninS (Nat.ne_of_lt (Nat.lt_of_lt_of_le n133 hN363)) nin0))
  refine seqd rfl rfl (does_slice0 (e := 22) (fun _ => by kernel_rfl)) ?_; rintro _ w378 ⟨b373, rfl, hb374, hl375, hO376, E377⟩
  have X381 := Ext.gr X365 E377
  have hO382 := hO376 _ RF 1
  have hH383 : Hang w358.heap.size w378 (fun u => Sl RF 1 u (.slice (some ⟨b373, 0, none⟩) 0 0) ([])) := Own.hang hO382 RF.flat (by decide) hb374 (Below.size E377)
  show wpList _ _ _ _ (fr [_, _, _, _, _, _, _, _, _, _, _, _, _, _, _, _, _, _, _, _, _, _, _, _, _, _, _, _, _, _, _, _, _, _, _, _, _, _, _, _, _, _, _, _, _, _, _, _, _, _, _, _, _, _, _, _, _, _, _, _, _, _, _, _, _, _, _, _, _, _, _, _, _, _, _, _, _, _, _, _, _, _, _, _, _, _, _, _, _, _, _, _, _, _, _, _, _, _, _, _, _, _, _, _, _, _, _, _, _, _, _, _, _, _, _, _, _, _, _, _, _, _, _, _, _, _, _, _, _, _, _, _, _, _, _, _, _, _, _, _, _, _, _, _, _, _, _, _, _, _, _, _, _, _, _, _, _]) _
  refine q_is rfl rfl (does_assign (u := (.slice (some ⟨b373, 0, none⟩) 0 0)) (ev rfl)) (by dsimp only [List.set]; try rfl) ?_
  refine wpList_nil (hK372 _ _ ?_)
  refine wp_seq_k fun K384 hK384 => ?_
  refine wp_seq_k fun K385 hK385 => ?_
  refine wp_region_lit ?_
  refine q_is rfl rfl (does_assign (u := (Iv 0)) (ev rfl)) (by dsimp only [List.set]; try rfl) ?_
  refine wpList_nil (hK385 _ _ ?_)
  refine wp_block ?_
  refine loop_unroll 3 ?_
  refine un_step ?_
  refine wp_seq_k fun K386 hK386 => ?_
  refine wp_seq_k fun K387 hK387 => ?_
  refine wp_region_lit ?_
  refine q_is rfl rfl (does_move (u := (Iv 0)) (ev rfl)) (by dsimp only [List.set]; try rfl) ?_
  refine q_is rfl rfl (does_icmp (p := 0) (q := 2) (.inr (.inr (.inl rfl))) (ev rfl) (ev rfl)) (by dsimp only [List.set]; try rfl) ?_
  refine wpList_nil (hK387 _ _ ?_)
  refine wp_cond_true (ev rfl) ?_
  refine wp_skip (hK386 _ _ ?_)
  refine wp_seq_k fun K388 hK388 => ?_
  refine wp_block ?_
  refine wp_seq_k fun K389 hK389 => ?_
  refine wp_region_lit ?_
  refine q_is rfl rfl (does_move (u := (Iv (cellI (cf .f32 r13) (cf .f32 r3) (cf .f32 r7) A_g.y))) (ev rfl)) (by dsimp only [List.set]; try rfl) ?_
  refine q_is rfl rfl (does_move (u := (Iv 0)) (ev rfl)) (by dsimp only [List.set]; try rfl) ?_
  refine q_is rfl rfl (does_iarith (p := cellI (cf .f32 r13) (cf .f32 r3) (cf .f32 r7) A_g.y) (q := 0) (r := (cellI (cf .f32 r13) (cf .f32 r3) (cf .f32 r7) A_g.y) + 0) (ev rfl) (ev rfl) (.inl ⟨rfl, (in_i64 (by omega) (by omega)).symm⟩)) (by dsimp only [List.set]; try rfl) ?_
  refine q_is rfl rfl (does_move (u := (Pt g_b g_o)) (ev rfl)) (by dsimp only [List.set]; try rfl) ?_
  refine q_is rfl rfl (does_nilCheck (ev rfl)) (by dsimp only [List.set]; try rfl) ?_
  refine q_is rfl rfl (does_fieldAddr (ev rfl) fa33_3) (by dsimp only [List.set]; try rfl) ?_
  refine q_is rfl rfl (does_load (u := (Iv A_g.y)) (ev rfl) Try.isAgg2 (Cells.at (hc_g.ext X381) 5 rfl)) (by dsimp only [List.set]; try rfl) ?_
  refine q_is rfl rfl (does_iarith (p := A_g.y) (q := 1) (r := A_g.y - 1) (ev rfl) (ev rfl) (.inr (.inl ⟨rfl, (in_i64 (by omega) (by omega)).symm⟩))) (by dsimp only [List.set]; try rfl) ?_
  refine seqd rfl rfl (does_call (args := #[(Iv ((cellI (cf .f32 r13) (cf .f32 r3) (cf .f32 r7) A_g.y) + 0)), (Iv (A_g.y - 1))]) cal31 (evs rfl) (c_spec_l00Min ((cellI (cf .f32 r13) (cf .f32 r3) (cf .f32 r7) A_g.y) + 0) (A_g.y - 1) _)) ?_; rintro _ w391 ⟨E390, rfl⟩
  have X392 := Ext.gr X381 E390
  show wpList _ _ _ _ (fr [_, _, _, _, _, _, _, _, _, _, _, _, _, _, _, _, _, _, _, _, _, _, _, _, _, _, _, _, _, _, _, _, _, _, _, _, _, _, _, _, _, _, _, _, _, _, _, _, _, _, _, _, _, _, _, _, _, _, _, _, _, _, _, _, _, _, _, _, _, _, _, _, _, _, _, _, _, _, _, _, _, _, _, _, _, _, _, _, _, _, _, _, _, _, _, _, _, _, _, _, _, _, _, _, _, _, _, _, _, _, _, _, _, _, _, _, _, _, _, _, _, _, _, _, _, _, _, _, _, _, _, _, _, _, _, _, _, _, _, _, _, _, _, _, _, _, _, _, _, _, _, _, _, _, _, _, _]) _
  refine q_is rfl rfl (does_assign (u := (Iv (min ((cellI (cf .f32 r13) (cf .f32 r3) (cf .f32 r7) A_g.y) + 0) (A_g.y - 1)))) (ev rfl)) (by dsimp only [List.set]; try rfl) ?_
  refine wpList_nil (hK389 _ _ ?_)
  refine wp_seq_k fun K393 hK393 => ?_
  refine wp_region_lit ?_
  refine q_is rfl rfl (does_move (u := (Iv (cellI (cf .f32 r15) (cf .f32 r5) (cf .f32 r7) A_g.z))) (ev rfl)) (by dsimp only [List.set]; try rfl) ?_
  refine q_is rfl rfl (does_move (u := (Iv 1)) (ev rfl)) (by dsimp only [List.set]; try rfl) ?_
  refine q_is rfl rfl (does_iarith (p := cellI (cf .f32 r15) (cf .f32 r5) (cf .f32 r7) A_g.z) (q := 1) (r := (cellI (cf .f32 r15) (cf .f32 r5) (cf .f32 r7) A_g.z) + 1) (ev rfl) (ev rfl) (.inl ⟨rfl, (in_i64 (by omega) (by omega)).symm⟩)) (by dsimp only [List.set]; try rfl) ?_
  refine q_is rfl rfl (does_move (u := (Pt g_b g_o)) (ev rfl)) (by dsimp only [List.set]; try rfl) ?_
  refine q_is rfl rfl (does_nilCheck (ev rfl)) (by dsimp only [List.set]; try rfl) ?_
  refine q_is rfl rfl (does_fieldAddr (ev rfl) fa33_4) (by dsimp only [List.set]; try rfl) ?_
  refine q_is rfl rfl (does_load (u := (Iv A_g.z)) (ev rfl) Try.isAgg2 (Cells.at (hc_g.ext X392) 6 rfl)) (by dsimp only [List.set]; try rfl) ?_
  refine q_is rfl rfl (does_iarith (p := A_g.z) (q := 1) (r := A_g.z - 1) (ev rfl) (ev rfl) (.inr (.inl ⟨rfl, (in_i64 (by omega) (by omega)).symm⟩))) (by dsimp only [List.set]; try rfl) ?_
  refine seqd rfl rfl (does_call (args := #[(Iv ((cellI (cf .f32 r15) (cf .f32 r5) (cf .f32 r7) A_g.z) + 1)), (Iv (A_g.z - 1))]) cal31 (evs rfl) (c_spec_l00Min ((cellI (cf .f32 r15) (cf .f32 r5) (cf .f32 r7) A_g.z) + 1) (A_g.z - 1) _)) ?_; rintro _ w395 ⟨E394, rfl⟩
  have X396 := Ext.gr X392 E394
  show wpList _ _ _ _ (fr [_, _, _, _, _, _, _, _, _, _, _, _, _, _, _, _, _, _, _, _, _, _, _, _, _, _, _, _, _, _, _, _, _, _, _, _, _, _, _, _, _, _, _, _, _, _, _, _, _, _, _, _, _, _, _, _, _, _, _, _, _, _, _, _, _, _, _, _, _, _, _, _, _, _, _, _, _, _, _, _, _, _, _, _, _, _, _, _, _, _, _, _, _, _, _, _, _, _, _, _, _, _, _, _, _, _, _, _, _, _, _, _, _, _, _, _, _, _, _, _, _, _, _, _, _, _, _, _, _, _, _, _, _, _, _, _, _, _, _, _, _, _, _, _, _, _, _, _, _, _, _, _, _, _, _, _, _]) _
  refine q_is rfl rfl (does_assign (u := (Iv (min ((cellI (cf .f32 r15) (cf .f32 r5) (cf .f32 r7) A_g.z) + 1) (A_g.z - 1)))) (ev rfl)) (by dsimp only [List.set]; try rfl) ?_
  refine wpList_nil (hK393 _ _ ?_)
  refine wp_seq_k fun K397 hK397 => ?_
  obtain ⟨el5, hel5⟩ : ∃ e, A_g.vals[(idxG A_g (cellI (cf .f32 r11) (cf .f32 r1) (cf .f32 r7) A_g.x) (min ((cellI (cf .f32 r13) (cf .f32 r3) (cf .f32 r7) A_g.y) + 0) (A_g.y - 1)) (min ((cellI (cf .f32 r15) (cf .f32 r5) (cf .f32 r7) A_g.z) + 1) (A_g.z - 1))).toNat]? = some e := ⟨_, List.getElem?_eq_getElem (by omega)⟩
  refine region_draw (
    [Fact.pure [] (fun v => v = (Pt g_b g_o)),
    Fact.pure [103] (fun v => v = (Pt g_b g_o)),
    Fact.pure [104] (fun v => v = (Pt g_b (g_o + 7))),
    Fact.pure [105] (fun v => v = (.slice p17 A_g.vals.length q18)),
    Fact.pure [] (fun v => v = (Pt g_b g_o)),
    Fact.pure [] (fun v => v = (Iv (cellI (cf .f32 r11) (cf .f32 r1) (cf .f32 r7) A_g.x))),
    Fact.pure [] (fun v => v = (Iv (min ((cellI (cf .f32 r13) (cf .f32 r3) (cf .f32 r7) A_g.y) + 0) (A_g.y - 1)))),
    Fact.pure [] (fun v => v = (Iv (min ((cellI (cf .f32 r15) (cf .f32 r5) (cf .f32 r7) A_g.z) + 1) (A_g.z - 1)))),
    Fact.pure [107, 108, 109, 110] (fun v => v = (Iv (idxG A_g (cellI (cf .f32 r11) (cf .f32 r1) (cf .f32 r7) A_g.x) (min ((cellI (cf .f32 r13) (cf .f32 r3) (cf .f32 r7) A_g.y) + 0) (A_g.y - 1)) (min ((cellI (cf .f32 r15) (cf .f32 r5) (cf .f32 r7) A_g.z) + 1) (A_g.z - 1))))),
    Fact.mem [106, 111] (fun v w' => PtrR RF w' v el5) (by intro v w1 w2 hx h; exact h.ext RF.mono hx),
    Fact.pure [112] (fun v => ∃ r_1 : Nat, v = (Fl r_1) ∧ cf .f32 r_1 = el5)]) mixed (by kernel_rfl) (by intro _ _ d _ _ h; cases d <;> exact h) ?_
  obtain ⟨w398, hw400⟩ : ∃ w', w' = World.drew w395 := ⟨_, rfl⟩; rw [← hw400]; have E399 : Ext w395 w398 := by rw [hw400]; exact Ext.draw _
  clear hw400
  have X401 := Ext.gr X396 E399
  refine RW_d _ rfl (fun v => by dsimp only [List.set]; try rfl) (fun u hu hF => ?_) (fun v402 => ?_)
  · clear hF
    refine doesG_un rfl ?_
    refine (does_move (u := (Pt g_b g_o)) (ev rfl)).mono ?_; rintro _ _ ⟨rfl, rfl⟩
    exact ⟨rfl, Ext.refl _⟩
  refine RW_d _ rfl (fun v => by dsimp only [List.set]; try rfl) (fun u hu hF => ?_) (fun v403 => ?_)
  · have h103_ : v402 = (Pt g_b g_o) := hF.1
    clear hF
    refine doesG_un rfl ?_
    obtain rfl := h103_
    refine (does_nilCheck (ev rfl)).mono ?_; rintro _ _ ⟨rfl, rfl⟩
    exact ⟨rfl, Ext.refl _⟩
  refine RW_d _ rfl (fun v => by dsimp only [List.set]; try rfl) (fun u hu hF => ?_) (fun v404 => ?_)
  · have h104_ : v403 = (Pt g_b g_o) := hF.1
    clear hF
    refine doesG_un rfl ?_
    obtain rfl := h104_
    refine (does_fieldAddr (ev rfl) fa33_5).mono ?_; rintro _ _ ⟨rfl, rfl⟩
    exact ⟨rfl, Ext.refl _⟩
  refine RW_d _ rfl (fun v => by dsimp only [List.set]; try rfl) (fun u hu hF => ?_) (fun v405 => ?_)
  · have h105_ : v404 = (Pt g_b (g_o + 7)) := hF.1
    clear hF
    refine doesG_un rfl ?_
    obtain rfl := h105_
    refine (does_load (u := (.slice p17 A_g.vals.length q18)) (ev rfl) Try.isAgg25 (Cells.at ((hc_g.ext (Ext.gr X396 E399)).ext hu) 7 rfl)).mono ?_; rintro _ _ ⟨rfl, rfl⟩
    exact ⟨rfl, Ext.refl _⟩
  refine RW_d _ rfl (fun v => by dsimp only [List.set]; try rfl) (fun u hu hF => ?_) (fun v406 => ?_)
  · clear hF
    refine doesG_un rfl ?_
    refine (does_move (u := (Pt g_b g_o)) (ev rfl)).mono ?_; rintro _ _ ⟨rfl, rfl⟩
    exact ⟨rfl, Ext.refl _⟩
  refine RW_d _ rfl (fun v => by dsimp only [List.set]; try rfl) (fun u hu hF => ?_) (fun v407 => ?_)
  · clear hF
    refine doesG_un rfl ?_
    refine (does_move (u := (Iv (cellI (cf .f32 r11) (cf .f32 r1) (cf .f32 r7) A_g.x))) (ev rfl)).mono ?_; rintro _ _ ⟨rfl, rfl⟩
    exact ⟨rfl, Ext.refl _⟩
  refine RW_d _ rfl (fun v => by dsimp only [List.set]; try rfl) (fun u hu hF => ?_) (fun v408 => ?_)
  · clear hF
    refine doesG_un rfl ?_
    refine (does_move (u := (Iv (min ((cellI (cf .f32 r13) (cf .f32 r3) (cf .f32 r7) A_g.y) + 0) (A_g.y - 1)))) (ev rfl)).mono ?_; rintro _ _ ⟨rfl, rfl⟩
    exact ⟨rfl, Ext.refl _⟩
  refine RW_d _ rfl (fun v => by dsimp only [List.set]; try rfl) (fun u hu hF => ?_) (fun v409 => ?_)
  · clear hF
    refine doesG_un rfl ?_
    refine (does_move (u := (Iv (min ((cellI (cf .f32 r15) (cf .f32 r5) (cf .f32 r7) A_g.z) + 1) (A_g.z - 1)))) (ev rfl)).mono ?_; rintro _ _ ⟨rfl, rfl⟩
    exact ⟨rfl, Ext.refl _⟩
  refine RW_d _ rfl (fun v => by dsimp only [List.set]; try rfl) (fun u hu hF => ?_) (fun v410 => ?_)
  · have h107_ : v406 = (Pt g_b g_o) := hF.1
    have h108_ : v407 = (Iv (cellI (cf .f32 r11) (cf .f32 r1) (cf .f32 r7) A_g.x)) := hF.2.1
    have h109_ : v408 = (Iv (min ((cellI (cf .f32 r13) (cf .f32 r3) (cf .f32 r7) A_g.y) + 0) (A_g.y - 1))) := hF.2.2.1
    have h110_ : v409 = (Iv (min ((cellI (cf .f32 r15) (cf .f32 r5) (cf .f32 r7) A_g.z) + 1) (A_g.z - 1))) := hF.2.2.2.1
    clear hF
    refine doesG_un rfl ?_
    obtain rfl := h107_
    obtain rfl := h108_
    obtain rfl := h109_
    obtain rfl := h110_
    refine (does_call (args := #[(Pt g_b g_o), (Iv (cellI (cf .f32 r11) (cf .f32 r1) (cf .f32 r7) A_g.x)), (Iv (min ((cellI (cf .f32 r13) (cf .f32 r3) (cf .f32 r7) A_g.y) + 0) (A_g.y - 1))), (Iv (min ((cellI (cf .f32 r15) (cf .f32 r5) (cf .f32 r7) A_g.z) + 1) (A_g.z - 1)))]) cal32 (evs rfl) (c_spec_l06Index g_b g_o [(Fl r1), (Fl r3), (Fl r5), (Fl r7), (Iv A_g.x), (Iv A_g.y), (Iv A_g.z), (.slice p17 A_g.vals.length q18)] A_g (cellI (cf .f32 r11) (cf .f32 r1) (cf .f32 r7) A_g.x) (min ((cellI (cf .f32 r13) (cf .f32 r3) (cf .f32 r7) A_g.y) + 0) (A_g.y - 1)) (min ((cellI (cf .f32 r15) (cf .f32 r5) (cf .f32 r7) A_g.z) + 1) (A_g.z - 1)) _ ((hc_g.ext (Ext.gr X396 E399)).ext hu) ⟨r1, r3, r5, r7, (.slice p17 A_g.vals.length q18), rfl, h2, h4, h6, h8, (Sl.ext (Sl.ext hs19 RF.mono (Ext.gr X396 E399)) RF.mono hu)⟩)).mono ?_; rintro v u' ⟨hx, hv⟩
    exact ⟨hv, hx⟩
  refine RW_d _ rfl (fun v => by dsimp only [List.set]; try rfl) (fun u hu hF => ?_) (fun v411 => ?_)
  · have h106_ : v405 = (.slice p17 A_g.vals.length q18) := hF.1
    have h111_ : v410 = (Iv (idxG A_g (cellI (cf .f32 r11) (cf .f32 r1) (cf .f32 r7) A_g.x) (min ((cellI (cf .f32 r13) (cf .f32 r3) (cf .f32 r7) A_g.y) + 0) (A_g.y - 1)) (min ((cellI (cf .f32 r15) (cf .f32 r5) (cf .f32 r7) A_g.z) + 1) (A_g.z - 1)))) := hF.2.1
    clear hF
    refine doesG_un rfl ?_
    obtain rfl := h106_
    obtain rfl := h111_
    refine (does_indexSl (R := RF) (i := idxG A_g (cellI (cf .f32 r11) (cf .f32 r1) (cf .f32 r7) A_g.x) (min ((cellI (cf .f32 r13) (cf .f32 r3) (cf .f32 r7) A_g.y) + 0) (A_g.y - 1)) (min ((cellI (cf .f32 r15) (cf .f32 r5) (cf .f32 r7) A_g.z) + 1) (A_g.z - 1))) (xs := A_g.vals) (e := el5) Try.underlying25 Try.sizeOf22 (ev rfl) (ev rfl) (Sl.ext (Sl.ext hs19 RF.mono (Ext.gr X396 E399)) RF.mono hu) (by omega) hel5).mono ?_; rintro v u' ⟨b, of, cs, hv, hc, hR, hu'⟩; subst hu'
    exact ⟨⟨b, of, cs, hv, hc, hR⟩, Ext.refl _⟩
  refine RW_d _ rfl (fun v => by dsimp only [List.set]; try rfl) (fun u hu hF => ?_) (fun v412 => ?_)
  · have h112_ : PtrR RF u v411 el5 := hF.1
    clear hF
    refine doesG_un rfl ?_
    obtain ⟨b112_, o112_, _, rfl, hc112_, ⟨r112_1, rfl, h112_2⟩⟩ := h112_
    refine (does_load (u := (Fl r112_1)) (ev rfl) Try.isAgg22 (Cells.at hc112_ 0 rfl)).mono ?_; rintro _ _ ⟨rfl, rfl⟩
    exact ⟨⟨r112_1, rfl, (by simp only [h112_2])⟩, Ext.refl _⟩
  refine RW_fin ?_; intro w413 E414 hP415
  obtain ⟨⟨⟨⟨⟨⟨⟨⟨⟨⟨⟨-, -⟩, -⟩, -⟩, -⟩, -⟩, -⟩, -⟩, -⟩, -⟩, -⟩, q416⟩ := hP415
  have X417 := Ext.gr X401 E414
  have q416 : ∃ r_1 : Nat, v412 = (Fl r_1) ∧ cf .f32 r_1 = el5 := q416
  obtain ⟨r418, rfl, h419⟩ := q416
  show wpList _ _ _ _ (fr [_, _, _, _, _, _, _, _, _, _, _, _, _, _, _, _, _, _, _, _, _, _, _, _, _, _, _, _, _, _, _, _, _, _, _, _, _, _, _, _, _, _, _, _, _, _, _, _, _, _, _, _, _, _, _, _, _, _, _, _, _, _, _, _, _, _, _, _, _, _, _, _, _, _, _, _, _, _, _, _, _, _, _, _, _, _, _, _, _, _, _, _, _, _, _, _, _, _, _, _, _, _, _, _, _, _, _, _, _, _, _, _, _, _, _, _, _, _, _, _, _, _, _, _, _, _, _, _, _, _, _, _, _, _, _, _, _, _, _, _, _, _, _, _, _, _, _, _, _, _, _, _, _, _, _, _, _]) _
  refine q_is rfl rfl (does_assign (u := (Fl r418)) (ev rfl)) (by dsimp only [List.set]; try rfl) ?_
  refine wpList_nil (hK397 _ _ ?_)
  obtain ⟨el6, hel6⟩ : ∃ e, A_g.vals[(idxG A_g (min ((cellI (cf .f32 r11) (cf .f32 r1) (cf .f32 r7) A_g.x) + 1) (A_g.x - 1)) (min ((cellI (cf .f32 r13) (cf .f32 r3) (cf .f32 r7) A_g.y) + 0) (A_g.y - 1)) (min ((cellI (cf .f32 r15) (cf .f32 r5) (cf .f32 r7) A_g.z) + 1) (A_g.z - 1))).toNat]? = some e := ⟨_, List.getElem?_eq_getElem (by omega)⟩
  refine region_any2 [] [0, 0, 0, 4, 12, 28, 0, 0, 128, 0, 512, 1536, 3584, 7680, 16256, 0, 0, 131008, 262140, 524284, 0, 2097150, 4194302, 8388607, 16777215] [] (
    [FactW.pure [] [] [] true (fun v => v = (.slice (some ⟨b373, 0, none⟩) 0 0)),
      FactW.pure [] [] [] true (fun v => v = (Fl r418)),
      FactW.pure [] [] [] true (fun v => v = (Pt g_b g_o)),
      FactW.pure [2] [] [] true (fun v => v = (Pt g_b g_o)),
      FactW.pure [3] [] [] true (fun v => v = (Pt g_b (g_o + 7))),
      FactW.pure [4] [] [] true (fun v => v = (.slice p17 A_g.vals.length q18)),
      FactW.pure [] [] [] true (fun v => v = (Pt g_b g_o)),
      FactW.pure [] [] [] true (fun v => v = (Iv (cellI (cf .f32 r11) (cf .f32 r1) (cf .f32 r7) A_g.x))),
      FactW.pure [7] [] [] true (fun v => v = (Iv ((cellI (cf .f32 r11) (cf .f32 r1) (cf .f32 r7) A_g.x) + 1))),
      FactW.pure [] [] [] true (fun v => v = (Pt g_b g_o)),
      FactW.pure [9] [] [] true (fun v => v = (Pt g_b g_o)),
      FactW.pure [10] [] [] true (fun v => v = (Pt g_b (g_o + 4))),
      FactW.pure [11] [] [] true (fun v => v = (Iv A_g.x)),
      FactW.pure [12] [] [] true (fun v => v = (Iv (A_g.x - 1))),
      FactW.pure [8, 13] [] [] true (fun v => v = (Iv (min ((cellI (cf .f32 r11) (cf .f32 r1) (cf .f32 r7) A_g.x) + 1) (A_g.x - 1)))),
      FactW.pure [] [] [] true (fun v => v = (Iv (min ((cellI (cf .f32 r13) (cf .f32 r3) (cf .f32 r7) A_g.y) + 0) (A_g.y - 1)))),
      FactW.pure [] [] [] true (fun v => v = (Iv (min ((cellI (cf .f32 r15) (cf .f32 r5) (cf .f32 r7) A_g.z) + 1) (A_g.z - 1)))),
      FactW.pure [6, 14, 15, 16] [] [] true (fun v => v = (Iv (idxG A_g (min ((cellI (cf .f32 r11) (cf .f32 r1) (cf .f32 r7) A_g.x) + 1) (A_g.x - 1)) (min ((cellI (cf .f32 r13) (cf .f32 r3) (cf .f32 r7) A_g.y) + 0) (A_g.y - 1)) (min ((cellI (cf .f32 r15) (cf .f32 r5) (cf .f32 r7) A_g.z) + 1) (A_g.z - 1))))),
      FactW.mem [5, 17] [] [] [] true (fun v w' => PtrR RF w' v el6) (by intro v w1 w2 hx' h; have hx := KpL.toExt hx'; exact h.ext RF.mono hx),
      FactW.pure [18] [] [] true (fun v => ∃ r_1 : Nat, v = (Fl r_1) ∧ cf .f32 r_1 = el6),
      FactW.pure [] [] [] true (fun v => v = (Fl r59)),
      FactW.pure [1, 19, 20] [] [] true (fun v => ∃ r_1 : Nat, v = (Fl r_1) ∧ cf .f32 r_1 = mixF (cf .f32 r418) el6 (cf .f32 r59)),
      FactW.mem [21] [] [] [] true (fun v w' => ∃ b : Nat, ∃ r_1 : Nat, v = .slice (some ⟨b, 0, none⟩) 1 1 ∧ w413.heap.size ≤ b ∧ Blk w' b [(Fl r_1)] ∧ cf .f32 r_1 = mixF (cf .f32 r418) el6 (cf .f32 r59)) (by rintro v w1 w2 hx' ⟨b, z0, rfl, hb, hB, k0⟩; have hx := KpL.toExt hx'; exact ⟨b, z0, rfl, hb, (hB.ext hx), k0⟩)]) mixed (by kernel_rfl) ?_
  obtain ⟨w420, hw422⟩ : ∃ w', w' = World.drew w413 := ⟨_, rfl⟩; rw [← hw422]; have E421 : Ext w413 w420 := by rw [hw422]; exact Ext.draw _
  clear hw422
  have X423 := Ext.gr X417 E421
  refine RW2_d _ rfl (fun v => by dsimp only [List.set]; try rfl) (fun u hu hF => ?_) (fun v424 => ?_)
  · replace hu : KpL [] _ _ := hu
    clear hF
    refine doesG_un rfl ?_
    refine (does_move (u := (.slice (some ⟨b373, 0, none⟩) 0 0)) (ev rfl)).mono ?_; rintro _ _ ⟨rfl, rfl⟩
    exact ⟨rfl, KpL.refl _ _⟩
  refine RW2_d _ rfl (fun v => by dsimp only [List.set]; try rfl) (fun u hu hF => ?_) (fun v425 => ?_)
  · replace hu : KpL [] _ _ := hu
    clear hF
    refine doesG_un rfl ?_
    refine (does_move (u := (Fl r418)) (ev rfl)).mono ?_; rintro _ _ ⟨rfl, rfl⟩
    exact ⟨rfl, KpL.refl _ _⟩
  refine RW2_d _ rfl (fun v => by dsimp only [List.set]; try rfl) (fun u hu hF => ?_) (fun v426 => ?_)
  · replace hu : KpL [] _ _ := hu
    clear hF
    refine doesG_un rfl ?_
    refine (does_move (u := (Pt g_b g_o)) (ev rfl)).mono ?_; rintro _ _ ⟨rfl, rfl⟩
    exact ⟨rfl, KpL.refl _ _⟩
  refine RW2_d _ rfl (fun v => by dsimp only [List.set]; try rfl) (fun u hu hF => ?_) (fun v427 => ?_)
  · replace hu : KpL [] _ _ := hu
    have h116_ : v426 = (Pt g_b g_o) := hF.1
    clear hF
    refine doesG_un rfl ?_
    obtain rfl := h116_
    refine (does_nilCheck (ev rfl)).mono ?_; rintro _ _ ⟨rfl, rfl⟩
    exact ⟨rfl, KpL.refl _ _⟩
  refine RW2_d _ rfl (fun v => by dsimp only [List.set]; try rfl) (fun u hu hF => ?_) (fun v428 => ?_)
  · replace hu : KpL [] _ _ := hu
    have h117_ : v427 = (Pt g_b g_o) := hF.1
    clear hF
    refine doesG_un rfl ?_
    obtain rfl := h117_
    refine (does_fieldAddr (ev rfl) fa33_5).mono ?_; rintro _ _ ⟨rfl, rfl⟩
    exact ⟨rfl, KpL.refl _ _⟩
  refine RW2_d _ rfl (fun v => by dsimp only [List.set]; try rfl) (fun u hu hF => ?_) (fun v429 => ?_)
  · replace hu : KpL [] _ _ := hu
    have h118_ : v428 = (Pt g_b (g_o + 7)) := hF.1
    clear hF
    refine doesG_un rfl ?_
    obtain rfl := h118_
    refine (does_load (u := (.slice p17 A_g.vals.length q18)) (ev rfl) Try.isAgg25 (Cells.at (hc_g.ext (Ext.gr (Ext.gr X417 E421) (KpL.toExt hu))) 7 rfl)).mono ?_; rintro _ _ ⟨rfl, rfl⟩
    exact ⟨rfl, KpL.refl _ _⟩
  refine RW2_d _ rfl (fun v => by dsimp only [List.set]; try rfl) (fun u hu hF => ?_) (fun v430 => ?_)
  · replace hu : KpL [] _ _ := hu
    clear hF
    refine doesG_un rfl ?_
    refine (does_move (u := (Pt g_b g_o)) (ev rfl)).mono ?_; rintro _ _ ⟨rfl, rfl⟩
    exact ⟨rfl, KpL.refl _ _⟩
  refine RW2_d _ rfl (fun v => by dsimp only [List.set]; try rfl) (fun u hu hF => ?_) (fun v431 => ?_)
  · replace hu : KpL [] _ _ := hu
    clear hF
    refine doesG_un rfl ?_
    refine (does_move (u := (Iv (cellI (cf .f32 r11) (cf .f32 r1) (cf .f32 r7) A_g.x))) (ev rfl)).mono ?_; rintro _ _ ⟨rfl, rfl⟩
    exact ⟨rfl, KpL.refl _ _⟩
  refine RW2_d _ rfl (fun v => by dsimp only [List.set]; try rfl) (fun u hu hF => ?_) (fun v432 => ?_)
  · replace hu : KpL [] _ _ := hu
    have h121_ : v431 = (Iv (cellI (cf .f32 r11) (cf .f32 r1) (cf .f32 r7) A_g.x)) := hF.1
    clear hF
    refine doesG_un rfl ?_
    obtain rfl := h121_
    refine (does_iarith (p := cellI (cf .f32 r11) (cf .f32 r1) (cf .f32 r7) A_g.x) (q := 1) (r := (cellI (cf .f32 r11) (cf .f32 r1) (cf .f32 r7) A_g.x) + 1) (ev rfl) (ev rfl) (.inl ⟨rfl, (in_i64 (by omega) (by omega)).symm⟩)).mono ?_; rintro _ _ ⟨rfl, rfl⟩
    exact ⟨rfl, KpL.refl _ _⟩
  refine RW2_d _ rfl (fun v => by dsimp only [List.set]; try rfl) (fun u hu hF => ?_) (fun v433 => ?_)
  · replace hu : KpL [] _ _ := hu
    clear hF
    refine doesG_un rfl ?_
    refine (does_move (u := (Pt g_b g_o)) (ev rfl)).mono ?_; rintro _ _ ⟨rfl, rfl⟩
    exact ⟨rfl, KpL.refl _ _⟩
  refine RW2_d _ rfl (fun v => by dsimp only [List.set]; try rfl) (fun u hu hF => ?_) (fun v434 => ?_)
  · replace hu : KpL [] _ _ := hu
    have h123_ : v433 = (Pt g_b g_o) := hF.1
    clear hF
    refine doesG_un rfl ?_
    obtain rfl := h123_
    refine (does_nilCheck (ev rfl)).mono ?_; rintro _ _ ⟨rfl, rfl⟩
    exact ⟨rfl, KpL.refl _ _⟩
  refine RW2_d _ rfl (fun v => by dsimp only [List.set]; try rfl) (fun u hu hF => ?_) (fun v435 => ?_)
  · replace hu : KpL [] _ _ := hu
    have h124_ : v434 = (Pt g_b g_o) := hF.1
    clear hF
    refine doesG_un rfl ?_
    obtain rfl := h124_
    refine (does_fieldAddr (ev rfl) fa33_2).mono ?_; rintro _ _ ⟨rfl, rfl⟩
    exact ⟨rfl, KpL.refl _ _⟩
  refine RW2_d _ rfl (fun v => by dsimp only [List.set]; try rfl) (fun u hu hF => ?_) (fun v436 => ?_)
  · replace hu : KpL [] _ _ := hu
    have h125_ : v435 = (Pt g_b (g_o + 4)) := hF.1
    clear hF
    refine doesG_un rfl ?_
    obtain rfl := h125_
    refine (does_load (u := (Iv A_g.x)) (ev rfl) Try.isAgg2 (Cells.at (hc_g.ext (Ext.gr (Ext.gr X417 E421) (KpL.toExt hu))) 4 rfl)).mono ?_; rintro _ _ ⟨rfl, rfl⟩
    exact ⟨rfl, KpL.refl _ _⟩
  refine RW2_d _ rfl (fun v => by dsimp only [List.set]; try rfl) (fun u hu hF => ?_) (fun v437 => ?_)
  · replace hu : KpL [] _ _ := hu
    have h126_ : v436 = (Iv A_g.x) := hF.1
    clear hF
    refine doesG_un rfl ?_
    obtain rfl := h126_
    refine (does_iarith (p := A_g.x) (q := 1) (r := A_g.x - 1) (ev rfl) (ev rfl) (.inr (.inl ⟨rfl, (in_i64 (by omega) (by omega)).symm⟩))).mono ?_; rintro _ _ ⟨rfl, rfl⟩
    exact ⟨rfl, KpL.refl _ _⟩
  refine RW2_d _ rfl (fun v => by dsimp only [List.set]; try rfl) (fun u hu hF => ?_) (fun v438 => ?_)
  · replace hu : KpL [] _ _ := hu
    have h122_ : v432 = (Iv ((cellI (cf .f32 r11) (cf .f32 r1) (cf .f32 r7) A_g.x) + 1)) := hF.1
    have h127_ : v437 = (Iv (A_g.x - 1)) := hF.2.1
    clear hF
    refine doesG_un rfl ?_
    obtain rfl := h122_
    obtain rfl := h127_
    refine (does_call (args := #[(Iv ((cellI (cf .f32 r11) (cf .f32 r1) (cf .f32 r7) A_g.x) + 1)), (Iv (A_g.x - 1))]) cal31 (evs rfl) (c_spec_l00Min ((cellI (cf .f32 r11) (cf .f32 r1) (cf .f32 r7) A_g.x) + 1) (A_g.x - 1) _)).mono ?_; rintro v u' ⟨hx, hv⟩
    exact ⟨hv, (KpL.of_ext hx)⟩
  refine RW2_d _ rfl (fun v => by dsimp only [List.set]; try rfl) (fun u hu hF => ?_) (fun v439 => ?_)
  · replace hu : KpL [] _ _ := hu
    clear hF
    refine doesG_un rfl ?_
    refine (does_move (u := (Iv (min ((cellI (cf .f32 r13) (cf .f32 r3) (cf .f32 r7) A_g.y) + 0) (A_g.y - 1)))) (ev rfl)).mono ?_; rintro _ _ ⟨rfl, rfl⟩
    exact ⟨rfl, KpL.refl _ _⟩
  refine RW2_d _ rfl (fun v => by dsimp only [List.set]; try rfl) (fun u hu hF => ?_) (fun v440 => ?_)
  · replace hu : KpL [] _ _ := hu
    clear hF
    refine doesG_un rfl ?_
    refine (does_move (u := (Iv (min ((cellI (cf .f32 r15) (cf .f32 r5) (cf .f32 r7) A_g.z) + 1) (A_g.z - 1)))) (ev rfl)).mono ?_; rintro _ _ ⟨rfl, rfl⟩
    exact ⟨rfl, KpL.refl _ _⟩
  refine RW2_d _ rfl (fun v => by dsimp only [List.set]; try rfl) (fun u hu hF => ?_) (fun v441 => ?_)
  · replace hu : KpL [] _ _ := hu
    have h120_ : v430 = (Pt g_b g_o) := hF.1
    have h128_ : v438 = (Iv (min ((cellI (cf .f32 r11) (cf .f32 r1) (cf .f32 r7) A_g.x) + 1) (A_g.x - 1))) := hF.2.1
    have h129_ : v439 = (Iv (min ((cellI (cf .f32 r13) (cf .f32 r3) (cf .f32 r7) A_g.y) + 0) (A_g.y - 1))) := hF.2.2.1
    have h130_ : v440 = (Iv (min ((cellI (cf .f32 r15) (cf .f32 r5) (cf .f32 r7) A_g.z) + 1) (A_g.z - 1))) := hF.2.2.2.1
    clear hF
    refine doesG_un rfl ?_
    obtain rfl := h120_
    obtain rfl := h128_
    obtain rfl := h129_
    obtain rfl := h130_
    refine (does_call (args := #[(Pt g_b g_o), (Iv (min ((cellI (cf .f32 r11) (cf .f32 r1) (cf .f32 r7) A_g.x) + 1) (A_g.x - 1))), (Iv (min ((cellI (cf .f32 r13) (cf .f32 r3) (cf .f32 r7) A_g.y) + 0) (A_g.y - 1))), (Iv (min ((cellI (cf .f32 r15) (cf .f32 r5) (cf .f32 r7) A_g.z) + 1) (A_g.z - 1)))]) cal32 (evs rfl) (c_spec_l06Index g_b g_o [(Fl r1), (Fl r3), (Fl r5), (Fl r7), (Iv A_g.x), (Iv A_g.y), (Iv A_g.z), (.slice p17 A_g.vals.length q18)] A_g (min ((cellI (cf .f32 r11) (cf .f32 r1) (cf .f32 r7) A_g.x) + 1) (A_g.x - 1)) (min ((cellI (cf .f32 r13) (cf .f32 r3) (cf .f32 r7) A_g.y) + 0) (A_g.y - 1)) (min ((cellI (cf .f32 r15) (cf .f32 r5) (cf .f32 r7) A_g.z) + 1) (A_g.z - 1)) _ (hc_g.ext (Ext.gr (Ext.gr X417 E421) (KpL.toExt hu))) ⟨r1, r3, r5, r7, (.slice p17 A_g.vals.length q18), rfl, h2, h4, h6, h8, (Sl.ext hs19 RF.mono (Ext.gr (Ext.gr X417 E421) (KpL.toExt hu)))⟩)).mono ?_; rintro v u' ⟨hx, hv⟩
    exact ⟨hv, (KpL.of_ext hx)⟩
  refine RW2_d _ rfl (fun v => by dsimp only [List.set]; try rfl) (fun u hu hF => ?_) (fun v442 => ?_)
  · replace hu : KpL [] _ _ := hu
    have h119_ : v429 = (.slice p17 A_g.vals.length q18) := hF.1
    have h131_ : v441 = (Iv (idxG A_g (min ((cellI (cf .f32 r11) (cf .f32 r1) (cf .f32 r7) A_g.x) + 1) (A_g.x - 1)) (min ((cellI (cf .f32 r13) (cf .f32 r3) (cf .f32 r7) A_g.y) + 0) (A_g.y - 1)) (min ((cellI (cf .f32 r15) (cf .f32 r5) (cf .f32 r7) A_g.z) + 1) (A_g.z - 1)))) := hF.2.1
    clear hF
    refine doesG_un rfl ?_
    obtain rfl := h119_
    obtain rfl := h131_
    refine (does_indexSl (R := RF) (i := idxG A_g (min ((cellI (cf .f32 r11) (cf .f32 r1) (cf .f32 r7) A_g.x) + 1) (A_g.x - 1)) (min ((cellI (cf .f32 r13) (cf .f32 r3) (cf .f32 r7) A_g.y) + 0) (A_g.y - 1)) (min ((cellI (cf .f32 r15) (cf .f32 r5) (cf .f32 r7) A_g.z) + 1) (A_g.z - 1))) (xs := A_g.vals) (e := el6) Try.underlying25 Try.sizeOf22 (ev rfl) (ev rfl) (Sl.ext hs19 RF.mono (Ext.gr (Ext.gr X417 E421) (KpL.toExt hu))) (by omega) hel6).mono ?_; rintro v u' ⟨b, of, cs, hv, hc, hR, hu'⟩; subst hu'
    exact ⟨⟨b, of, cs, hv, hc, hR⟩, KpL.refl _ _⟩
  refine RW2_d _ rfl (fun v => by dsimp only [List.set]; try rfl) (fun u hu hF => ?_) (fun v443 => ?_)
  · replace hu : KpL [] _ _ := hu
    have h132_ : PtrR RF u v442 el6 := hF.1
    clear hF
    refine doesG_un rfl ?_
    obtain ⟨b132_, o132_, _, rfl, hc132_, ⟨r132_1, rfl, h132_2⟩⟩ := h132_
    refine (does_load (u := (Fl r132_1)) (ev rfl) Try.isAgg22 (Cells.at hc132_ 0 rfl)).mono ?_; rintro _ _ ⟨rfl, rfl⟩
    exact ⟨⟨r132_1, rfl, (by simp only [h132_2])⟩, KpL.refl _ _⟩
  refine RW2_d _ rfl (fun v => by dsimp only [List.set]; try rfl) (fun u hu hF => ?_) (fun v444 => ?_)
  · replace hu : KpL [] _ _ := hu
    clear hF
    refine doesG_un rfl ?_
    refine (does_move (u := (Fl r59)) (ev rfl)).mono ?_; rintro _ _ ⟨rfl, rfl⟩
    exact ⟨rfl, KpL.refl _ _⟩
  refine RW2_d _ rfl (fun v => by dsimp only [List.set]; try rfl) (fun u hu hF => ?_) (fun v445 => ?_)
  · replace hu : KpL [] _ _ := hu
    have h115_ : v425 = (Fl r418) := hF.1
    have h133_ : ∃ r_1 : Nat, v443 = (Fl r_1) ∧ cf .f32 r_1 = el6 := hF.2.1
    have h134_ : v444 = (Fl r59) := hF.2.2.1
    clear hF
    refine doesG_un rfl ?_
    obtain rfl := h115_
    obtain ⟨r133_1, rfl, h133_2⟩ := h133_
    obtain rfl := h134_
    refine (does_call (args := #[(Fl r418), (Fl r133_1), (Fl r59)]) cal33 (evs rfl) (c_spec_l06Mix r418 r133_1 r59 _)).mono ?_; rintro v u' ⟨hx, ⟨rn1, hv, k0⟩⟩
    exact ⟨⟨rn1, hv.trans (by simp only [h133_2]), (by simp only [k0, h133_2])⟩, (KpL.of_ext hx)⟩
  refine RW2_d _ rfl (fun v => by dsimp only [List.set]; try rfl) (fun u hu hF => ?_) (fun v446 => ?_)
  · replace hu : KpL [] _ _ := hu
    have h135_ : ∃ r_1 : Nat, v445 = (Fl r_1) ∧ cf .f32 r_1 = mixF (cf .f32 r418) el6 (cf .f32 r59) := hF.1
    clear hF
    refine doesG_un rfl ?_
    obtain ⟨r135_1, rfl, h135_2⟩ := h135_
    refine (does_buildSlice (e := 22) (parts' := [(0, (Fl r135_1))]) (cells := [(Fl r135_1)]) (evp rfl) (fun _ => by kernel_rfl)).mono ?_; rintro _ _ ⟨b, rfl, hb, hB, hx⟩
    exact ⟨⟨b, r135_1, rfl, Nat.le_trans (Nat.le_trans (Below.size E421) (KpL.size hu)) hb, hB, (by simp only [h135_2])⟩, (KpL.of_ext hx)⟩
  refine RW2_fin ?_; intro w447 E448 hP449; replace E448 : KpL [] _ _ := E448
  obtain ⟨⟨⟨⟨⟨⟨⟨⟨⟨⟨⟨⟨⟨⟨⟨⟨⟨⟨⟨⟨⟨⟨⟨-, q450⟩, -⟩, -⟩, -⟩, -⟩, -⟩, -⟩, -⟩, -⟩, -⟩, -⟩, -⟩, -⟩, -⟩, -⟩, -⟩, -⟩, -⟩, -⟩, -⟩, -⟩, -⟩, q451⟩ := hP449
  have X452 := Below.kl X423 E448 all0 (Nat.le_refl _)
  have q450 : v424 = (.slice (some ⟨b373, 0, none⟩) 0 0) := q450 rfl
  obtain rfl := q450
  have q451 : ∃ b : Nat, ∃ r_1 : Nat, v446 = .slice (some ⟨b, 0, none⟩) 1 1 ∧ w413.heap.size ≤ b ∧ Blk w447 b [(Fl r_1)] ∧ cf .f32 r_1 = mixF (cf .f32 r418) el6 (cf .f32 r59) := q451 rfl
  obtain ⟨b453, r456, rfl, hb454, hB455, h457⟩ := q451
  have n458 : g_b < b453 := Nat.lt_of_lt_of_le (cell_lt (Cells.at (hc_g.ext X417) 0 rfl)) hb454
  have n459 : b21 < b453 := Nat.lt_of_lt_of_le (Blk.lt ((((((((((((((((((((((((((((((hB23.ext E31).ext E54).ext E63).ext E86).ext E95).ext E118).ext E130).ext E147).ext E160).ext E164).ext E169).ext E184).ext E191).kl E218 nin0).kl K234 (ninS (Nat.ne_of_lt (Nat.lt_of_lt_of_le n150 hN236)) nin0)).ext E246).ext E250).ext E255).ext E270).ext E277).kl E304 nin0).kl K320 (ninS (Nat.ne_of_lt (Nat.lt_of_lt_of_le n150 hN322)) nin0)).ext E331).kl E345 nin0).kl K361 (ninS (Nat.ne_of_lt (Nat.lt_of_lt_of_le n133 hN363)) nin0)).ext E377).ext E390).ext E394).ext E399).ext E414)) hb454
  have g460 : w.heap.size ≤ b453 := Nat.le_trans (Below.size X417) hb454
  show wpList _ _ _ _ (fr [_, _, _, _, _, _, _, _, _, _, _, _, _, _, _, _, _, _, _, _, _, _, _, _, _, _, _, _, _, _, _, _, _, _, _, _, _, _, _, _, _, _, _, _, _, _, _, _, _, _, _, _, _, _, _, _, _, _, _, _, _, _, _, _, _, _, _, _, _, _, _, _, _, _, _, _, _, _, _, _, _, _, _, _, _, _, _, _, _, _, _, _, _, _, _, _, _, _, _, _, _, _, _, _, _, _, _, _, _, _, _, _, _, _, _, _, _, _, _, _, _, _, _, _, _, _, _, _, _, _, _, _, _, _, _, _, _, _, _, _, _, _, _, _, _, _, _, _, _, _, _, _, _, _, _, _, _]) _
  refine seqd rfl rfl (does_append (R := RF) (k := 1) (g0 := b373) (B := w378.heap.size) (xs := ([])) (ys := [(cf .f32 r456)]) Try.underlying25 inf22 rfl (by decide) (ev rfl) (ev rfl) (Own.same hO382 RF.flat (((((((Same.refl _ _).ext E390).ext E394).ext E399).ext E414).ext E421).kl E448 all0) hb374 (Below.size E377)) RF.flat hB455 rfl rfl rfl (fun i x hi => lit1 (R := RF) (cs := [(Fl r456)]) (y := (cf .f32 r456))  (⟨_, rfl, rfl⟩) i x hi) (by first | (simp only [List.length_append, List.length_cons, List.length_nil]; omega) | omega) (Nat.le_trans (Nat.le_trans (Nat.le_trans (Nat.le_trans (Nat.le_trans (Below.size E390) (Below.size E394)) (Below.size E399)) (Below.size E414)) (Below.size E421)) (KpL.size E448))) ?_; rintro y' w461 ⟨gg462, hg463, K464, hO465⟩
  have hN466 : w358.heap.size ≤ gg462 := by rcases hg463 with h | h; exact h ▸ hb374; exact Nat.le_trans (Below.size E377) h
  have g467 : w.heap.size ≤ gg462 := Nat.le_trans (Below.size (Below.kl (Below.kl (Ext.gr (Below.kl (Below.kl (Ext.gr (Ext.gr (Ext.gr (Ext.gr (Ext.gr (Below.kl (Below.kl (Ext.gr (Ext.gr (Ext.gr (Ext.gr (Ext.gr (Ext.gr (Ext.gr (Ext.gr (Ext.gr (Ext.gr (Ext.gr (Ext.gr (Ext.gr (Ext.gr (Ext.refl _) E24) E31) E54) E63) E86) E95) E118) E130) E147) E160) E164) E169) E184) E191) E218 all0 (Nat.le_refl _)) K234 (allS g237 all0) (Nat.le_refl _)) E246) E250) E255) E270) E277) E304 all0 (Nat.le_refl _)) K320 (allS g323 all0) (Nat.le_refl _)) E331) E345 all0 (Nat.le_refl _)) K361 (allS g364 all0) (Nat.le_refl _))) hN466
  have X468 := Below.kl X452 K464 (allS g467 all0) (Nat.le_refl _)
  replace hO465 := hO465.cast (List.nil_append _)
  obtain ⟨p469, q470, rfl⟩ := Own.shape hO465
  have hH471 : Hang w358.heap.size w461 (fun u => Sl RF 1 u (.slice p469 (([(cf .f32 r456)]).length) q470) ([(cf .f32 r456)])) := Own.hang hO465 RF.flat (by decide) hb374 (Below.size E377)
  show wpList _ _ _ _ (fr [_, _, _, _, _, _, _, _, _, _, _, _, _, _, _, _, _, _, _, _, _, _, _, _, _, _, _, _, _, _, _, _, _, _, _, _, _, _, _, _, _, _, _, _, _, _, _, _, _, _, _, _, _, _, _, _, _, _, _, _, _, _, _, _, _, _, _, _, _, _, _, _, _, _, _, _, _, _, _, _, _, _, _, _, _, _, _, _, _, _, _, _, _, _, _, _, _, _, _, _, _, _, _, _, _, _, _, _, _, _, _, _, _, _, _, _, _, _, _, _, _, _, _, _, _, _, _, _, _, _, _, _, _, _, _, _, _, _, _, _, _, _, _, _, _, _, _, _, _, _, _, _, _, _, _, _, _]) _
  refine q_is rfl rfl (does_assign (u := (.slice p469 (([(cf .f32 r456)]).length) q470)) (ev rfl)) (by dsimp only [List.set]; try rfl) ?_
  refine wpList_nil (hK388 _ _ ?_)
  refine wp_region_lit ?_
  refine q_is rfl rfl (does_move (u := (Iv 0)) (ev rfl)) (by dsimp only [List.set]; try rfl) ?_
  refine q_is rfl rfl (does_iarith (p := 0) (q := 1) (r := (1)) (ev rfl) (ev rfl) (.inl ⟨rfl, rfl⟩)) (by dsimp only [List.set]; try rfl) ?_
  refine q_is rfl rfl (does_assign (u := (Iv 1)) (ev rfl)) (by dsimp only [List.set]; try rfl) ?_
  refine wpList_nil ?_
  refine un_step ?_
  refine wp_seq_k fun K472 hK472 => ?_
  refine wp_seq_k fun K473 hK473 => ?_
  refine wp_region_lit ?_
  refine q_is rfl rfl (does_move (u := (Iv 1)) (ev rfl)) (by dsimp only [List.set]; try rfl) ?_
  refine q_is rfl rfl (does_icmp (p := 1) (q := 2) (.inr (.inr (.inl rfl))) (ev rfl) (ev rfl)) (by dsimp only [List.set]; try rfl) ?_
  refine wpList_nil (hK473 _ _ ?_)
  refine wp_cond_true (ev rfl) ?_
  refine wp_skip (hK472 _ _ ?_)
  refine wp_seq_k fun K474 hK474 => ?_
  refine wp_block ?_
  refine wp_seq_k fun K475 hK475 => ?_
  refine wp_region_lit ?_
  refine q_is rfl rfl (does_move (u := (Iv (cellI (cf .f32 r13) (cf .f32 r3) (cf .f32 r7) A_g.y))) (ev rfl)) (by dsimp only [List.set]; try rfl) ?_
  refine q_is rfl rfl (does_move (u := (Iv 1)) (ev rfl)) (by dsimp only [List.set]; try rfl) ?_
  refine q_is rfl rfl (does_iarith (p := cellI (cf .f32 r13) (cf .f32 r3) (cf .f32 r7) A_g.y) (q := 1) (r := (cellI (cf .f32 r13) (cf .f32 r3) (cf .f32 r7) A_g.y) + 1) (ev rfl) (ev rfl) (.inl ⟨rfl, (in_i64 (by omega) (by omega)).symm⟩)) (by dsimp only [List.set]; try rfl) ?_
  refine q_is rfl rfl (does_move (u := (Pt g_b g_o)) (ev rfl)) (by dsimp only [List.set]; try rfl) ?_
  refine q_is rfl rfl (does_nilCheck (ev rfl)) (by dsimp only [List.set]; try rfl) ?_
  refine q_is rfl rfl (does_fieldAddr (ev rfl) fa33_3) (by dsimp only [List.set]; try rfl) ?_
  refine q_is rfl rfl (does_load (u := (Iv A_g.y)) (ev rfl) Try.isAgg2 (Cells.at (hc_g.ext X468) 5 rfl)) (by dsimp only [List.set]; try rfl) ?_
  refine q_is rfl rfl (does_iarith (p := A_g.y) (q := 1) (r := A_g.y - 1) (ev rfl) (ev rfl) (.inr (.inl ⟨rfl, (in_i64 (by omega) (by omega)).symm⟩))) (by dsimp only [List.set]; try rfl) ?_
  refine seqd rfl rfl (does_call (args := #[(Iv ((cellI (cf .f32 r13) (cf .f32 r3) (cf .f32 r7) A_g.y) + 1)), (Iv (A_g.y - 1))]) cal31 (evs rfl) (c_spec_l00Min ((cellI (cf .f32 r13) (cf .f32 r3) (cf .f32 r7) A_g.y) + 1) (A_g.y - 1) _)) ?_; rintro _ w477 ⟨E476, rfl⟩
  have X478 := Ext.gr X468 E476
  show wpList _ _ _ _ (fr [_, _, _, _, _, _, _, _, _, _, _, _, _, _, _, _, _, _, _, _, _, _, _, _, _, _, _, _, _, _, _, _, _, _, _, _, _, _, _, _, _, _, _, _, _, _, _, _, _, _, _, _, _, _, _, _, _, _, _, _, _, _, _, _, _, _, _, _, _, _, _, _, _, _, _, _, _, _, _, _, _, _, _, _, _, _, _, _, _, _, _, _, _, _, _, _, _, _, _, _, _, _, _, _, _, _, _, _, _, _, _, _, _, _, _, _, _, _, _, _, _, _, _, _, _, _, _, _, _, _, _, _, _, _, _, _, _, _, _, _, _, _, _, _, _, _, _, _, _, _, _, _, _, _, _, _, _]) _
  refine q_is rfl rfl (does_assign (u := (Iv (min ((cellI (cf .f32 r13) (cf .f32 r3) (cf .f32 r7) A_g.y) + 1) (A_g.y - 1)))) (ev rfl)) (by dsimp only [List.set]; try rfl) ?_
  refine wpList_nil (hK475 _ _ ?_)
  refine wp_seq_k fun K479 hK479 => ?_
  refine wp_region_lit ?_
  refine q_is rfl rfl (does_move (u := (Iv (cellI (cf .f32 r15) (cf .f32 r5) (cf .f32 r7) A_g.z))) (ev rfl)) (by dsimp only [List.set]; try rfl) ?_
  refine q_is rfl rfl (does_move (u := (Iv 1)) (ev rfl)) (by dsimp only [List.set]; try rfl) ?_
  refine q_is rfl rfl (does_iarith (p := cellI (cf .f32 r15) (cf .f32 r5) (cf .f32 r7) A_g.z) (q := 1) (r := (cellI (cf .f32 r15) (cf .f32 r5) (cf .f32 r7) A_g.z) + 1) (ev rfl) (ev rfl) (.inl ⟨rfl, (in_i64 (by omega) (by omega)).symm⟩)) (by dsimp only [List.set]; try rfl) ?_
  refine q_is rfl rfl (does_move (u := (Pt g_b g_o)) (ev rfl)) (by dsimp only [List.set]; try rfl) ?_
  refine q_is rfl rfl (does_nilCheck (ev rfl)) (by dsimp only [List.set]; try rfl) ?_
  refine q_is rfl rfl (does_fieldAddr (ev rfl) fa33_4) (by dsimp only [List.set]; try rfl) ?_
  refine q_is rfl rfl (does_load (u := (Iv A_g.z)) (ev rfl) Try.isAgg2 (Cells.at (hc_g.ext X478) 6 rfl)) (by dsimp only [List.set]; try rfl) ?_
  refine q_is rfl rfl (does_iarith (p := A_g.z) (q := 1) (r := A_g.z - 1) (ev rfl) (ev rfl) (.inr (.inl ⟨rfl, (in_i64 (by omega) (by omega)).symm⟩))) (by dsimp only [List.set]; try rfl) ?_
  refine seqd rfl rfl (does_call (args := #[(Iv ((cellI (cf .f32 r15) (cf .f32 r5) (cf .f32 r7) A_g.z) + 1)), (Iv (A_g.z - 1))]) cal31 (evs rfl) (c_spec_l00Min ((cellI (cf .f32 r15) (cf .f32 r5) (cf .f32 r7) A_g.z) + 1) (A_g.z - 1) _)) ?_; rintro _ w481 ⟨E480, rfl⟩
  have X482 := Ext.gr X478 E480
  show wpList _ _ _ _ (fr [_, _, _, _, _, _, _, _, _, _, _, _, _, _, _, _, _, _, _, _, _, _, _, _, _, _, _, _, _, _, _, _, _, _, _, _, _, _, _, _, _, _, _, _, _, _, _, _, _, _, _, _, _, _, _, _, _, _, _, _, _, _, _, _, _, _, _, _, _, _, _, _, _, _, _, _, _, _, _, _, _, _, _, _, _, _, _, _, _, _, _, _, _, _, _, _, _, _, _, _, _, _, _, _, _, _, _, _, _, _, _, _, _, _, _, _, _, _, _, _, _, _, _, _, _, _, _, _, _, _, _, _, _, _, _, _, _, _, _, _, _, _, _, _, _, _, _, _, _, _, _, _, _, _, _, _, _]) _
  refine q_is rfl rfl (does_assign (u := (Iv (min ((cellI (cf .f32 r15) (cf .f32 r5) (cf .f32 r7) A_g.z) + 1) (A_g.z - 1)))) (ev rfl)) (by dsimp only [List.set]; try rfl) ?_
  refine wpList_nil (hK479 _ _ ?_)
  refine wp_seq_k fun K483 hK483 => ?_
  obtain ⟨el7, hel7⟩ : ∃ e, A_g.vals[(idxG A_g (cellI (cf .f32 r11) (cf .f32 r1) (cf .f32 r7) A_g.x) (min ((cellI (cf .f32 r13) (cf .f32 r3) (cf .f32 r7) A_g.y) + 1) (A_g.y - 1)) (min ((cellI (cf .f32 r15) (cf .f32 r5) (cf .f32 r7) A_g.z) + 1) (A_g.z - 1))).toNat]? = some e := ⟨_, List.getElem?_eq_getElem (by omega)⟩
  refine region_draw (
    [Fact.pure [] (fun v => v = (Pt g_b g_o)),
    Fact.pure [103] (fun v => v = (Pt g_b g_o)),
    Fact.pure [104] (fun v => v = (Pt g_b (g_o + 7))),
    Fact.pure [105] (fun v => v = (.slice p17 A_g.vals.length q18)),
    Fact.pure [] (fun v => v = (Pt g_b g_o)),
    Fact.pure [] (fun v => v = (Iv (cellI (cf .f32 r11) (cf .f32 r1) (cf .f32 r7) A_g.x))),
    Fact.pure [] (fun v => v = (Iv (min ((cellI (cf .f32 r13) (cf .f32 r3) (cf .f32 r7) A_g.y) + 1) (A_g.y - 1)))),
    Fact.pure [] (fun v => v = (Iv (min ((cellI (cf .f32 r15) (cf .f32 r5) (cf .f32 r7) A_g.z) + 1) (A_g.z - 1)))),
    Fact.pure [107, 108, 109, 110] (fun v => v = (Iv (idxG A_g (cellI (cf .f32 r11) (cf .f32 r1) (cf .f32 r7) A_g.x) (min ((cellI (cf .f32 r13) (cf .f32 r3) (cf .f32 r7) A_g.y) + 1) (A_g.y - 1)) (min ((cellI (cf .f32 r15) (cf .f32 r5) (cf .f32 r7) A_g.z) + 1) (A_g.z - 1))))),
    Fact.mem [106, 111] (fun v w' => PtrR RF w' v el7) (by intro v w1 w2 hx h; exact h.ext RF.mono hx),
    Fact.pure [112] (fun v => ∃ r_1 : Nat, v = (Fl r_1) ∧ cf .f32 r_1 = el7)]) mixed (by kernel_rfl) (by intro _ _ d _ _ h; cases d <;> exact h) ?_
  obtain ⟨w484, hw486⟩ : ∃ w', w' = World.drew w481 := ⟨_, rfl⟩; rw [← hw486]; have E485 : Ext w481 w484 := by rw [hw486]; exact Ext.draw _
  clear hw486
  have X487 := Ext.gr X482 E485
  refine RW_d _ rfl (fun v => by dsimp only [List.set]; try rfl) (fun u hu hF => ?_) (fun v488 => ?_)
  · clear hF
    refine doesG_un rfl ?_
    refine (does_move (u := (Pt g_b g_o)) (ev rfl)).mono ?_; rintro _ _ ⟨rfl, rfl⟩
    exact ⟨rfl, Ext.refl _⟩
  refine RW_d _ rfl (fun v => by dsimp only [List.set]; try rfl) (fun u hu hF => ?_) (fun v489 => ?_)
  · have h103_ : v488 = (Pt g_b g_o) := hF.1
    clear hF
    refine doesG_un rfl ?_
    obtain rfl := h103_
    refine (does_nilCheck (ev rfl)).mono ?_; rintro _ _ ⟨rfl, rfl⟩
    exact ⟨rfl, Ext.refl _⟩
  refine RW_d _ rfl (fun v => by dsimp only [List.set]; try rfl) (fun u hu hF => ?_) (fun v490 => ?_)
  · have h104_ : v489 = (Pt g_b g_o) := hF.1
    clear hF
    refine doesG_un rfl ?_
    obtain rfl := h104_
    refine (does_fieldAddr (ev rfl) fa33_5).mono ?_; rintro _ _ ⟨rfl, rfl⟩
    exact ⟨rfl, Ext.refl _⟩
  refine RW_d _ rfl (fun v => by dsimp only [List.set]; try rfl) (fun u hu hF => ?_) (fun v491 => ?_)
  · have h105_ : v490 = (Pt g_b (g_o + 7)) := hF.1
    clear hF
    refine doesG_un rfl ?_
    obtain rfl := h105_
    refine (does_load (u := (.slice p17 A_g.vals.length q18)) (ev rfl) Try.isAgg25 (Cells.at ((hc_g.ext (Ext.gr X482 E485)).ext hu) 7 rfl)).mono ?_; rintro _ _ ⟨rfl, rfl⟩
    exact ⟨rfl, Ext.refl _⟩
  refine RW_d _ rfl (fun v => by dsimp only [List.set]; try rfl) (fun u hu hF => ?_) (fun v492 => ?_)
  · clear hF
    refine doesG_un rfl ?_
    refine (does_move (u := (Pt g_b g_o)) (ev rfl)).mono ?_; rintro _ _ ⟨rfl, rfl⟩
    exact ⟨rfl, Ext.refl _⟩
  refine RW_d _ rfl (fun v => by dsimp only [List.set]; try rfl) (fun u hu hF => ?_) (fun v493 => ?_)
  · clear hF
    refine doesG_un rfl ?_
    refine (does_move (u := (Iv (cellI (cf .f32 r11) (cf .f32 r1) (cf .f32 r7) A_g.x))) (ev rfl)).mono ?_; rintro _ _ ⟨rfl, rfl⟩
    exact ⟨rfl, Ext.refl _⟩
  refine RW_d _ rfl (fun v => by dsimp only [List.set]; try rfl) (fun u hu hF => ?_) (fun v494 => ?_)
  · clear hF
    refine doesG_un rfl ?_
    refine (does_move (u := (Iv (min ((cellI (cf .f32 r13) (cf .f32 r3) (cf .f32 r7) A_g.y) + 1) (A_g.y - 1)))) (ev rfl)).mono ?_; rintro _ _ ⟨rfl, rfl⟩
    exact ⟨rfl, Ext.refl _⟩
  refine RW_d _ rfl (fun v => by dsimp only [List.set]; try rfl) (fun u hu hF => ?_) (fun v495 => ?_)
  · clear hF
    refine doesG_un rfl ?_
    refine (does_move (u := (Iv (min ((cellI (cf .f32 r15) (cf .f32 r5) (cf .f32 r7) A_g.z) + 1) (A_g.z - 1)))) (ev rfl)).mono ?_; rintro _ _ ⟨rfl, rfl⟩
    exact ⟨rfl, Ext.refl _⟩
  refine RW_d _ rfl (fun v => by dsimp only [List.set]; try rfl) (fun u hu hF => ?_) (fun v496 => ?_)
  · have h107_ : v492 = (Pt g_b g_o) := hF.1
    have h108_ : v493 = (Iv (cellI (cf .f32 r11) (cf .f32 r1) (cf .f32 r7) A_g.x)) := hF.2.1
    have h109_ : v494 = (Iv (min ((cellI (cf .f32 r13) (cf .f32 r3) (cf .f32 r7) A_g.y) + 1) (A_g.y - 1))) := hF.2.2.1
    have h110_ : v495 = (Iv (min ((cellI (cf .f32 r15) (cf .f32 r5) (cf .f32 r7) A_g.z) + 1) (A_g.z - 1))) := hF.2.2.2.1
    clear hF
    refine doesG_un rfl ?_
    obtain rfl := h107_
    obtain rfl := h108_
    obtain rfl := h109_
    obtain rfl := h110_
    refine (does_call (args := #[(Pt g_b g_o), (Iv (cellI (cf .f32 r11) (cf .f32 r1) (cf .f32 r7) A_g.x)), (Iv (min ((cellI (cf .f32 r13) (cf .f32 r3) (cf .f32 r7) A_g.y) + 1) (A_g.y - 1))), (Iv (min ((cellI (cf .f32 r15) (cf .f32 r5) (cf .f32 r7) A_g.z) + 1) (A_g.z - 1)))]) cal32 (evs rfl) (c_spec_l06Index g_b g_o [(Fl r1), (Fl r3), (Fl r5), (Fl r7), (Iv A_g.x), (Iv A_g.y), (Iv A_g.z), (.slice p17 A_g.vals.length q18)] A_g (cellI (cf .f32 r11) (cf .f32 r1) (cf .f32 r7) A_g.x) (min ((cellI (cf .f32 r13) (cf .f32 r3) (cf .f32 r7) A_g.y) + 1) (A_g.y - 1)) (min ((cellI (cf .f32 r15) (cf .f32 r5) (cf .f32 r7) A_g.z) + 1) (A_g.z - 1)) _ ((hc_g.ext (Ext.gr X482 E485)).ext hu) ⟨r1, r3, r5, r7, (.slice p17 A_g.vals.length q18), rfl, h2, h4, h6, h8, (Sl.ext (Sl.ext hs19 RF.mono (Ext.gr X482 E485)) RF.mono hu)⟩)).mono ?_; rintro v u' ⟨hx, hv⟩
    exact ⟨hv, hx⟩
  refine RW_d _ rfl (fun v => by dsimp only [List.set]; try rfl) (fun u hu hF => ?_) (fun v497 => ?_)
  · have h106_ : v491 = (.slice p17 A_g.vals.length q18) := hF.1
    have h111_ : v496 = (Iv (idxG A_g (cellI (cf .f32 r11) (cf .f32 r1) (cf .f32 r7) A_g.x) (min ((cellI (cf .f32 r13) (cf .f32 r3) (cf .f32 r7) A_g.y) + 1) (A_g.y - 1)) (min ((cellI (cf .f32 r15) (cf .f32 r5) (cf .f32 r7) A_g.z) + 1) (A_g.z - 1)))) := hF.2.1
    clear hF
    refine doesG_un rfl ?_
    obtain rfl := h106_
    obtain rfl := h111_
    refine (does_indexSl (R := RF) (i := idxG A_g (cellI (cf .f32 r11) (cf .f32 r1) (cf .f32 r7) A_g.x) (min ((cellI (cf .f32 r13) (cf .f32 r3) (cf .f32 r7) A_g.y) + 1) (A_g.y - 1)) (min ((cellI (cf .f32 r15) (cf .f32 r5) (cf .f32 r7) A_g.z) + 1) (A_g.z - 1))) (xs := A_g.vals) (e := el7) Try.underlying25 Try.sizeOf22 (ev rfl) (ev rfl) (Sl.ext (Sl.ext hs19 RF.mono (Ext.gr X482 E485)) RF.mono hu) (by omega) hel7).mono ?_; rintro v u' ⟨b, of, cs, hv, hc, hR, hu'⟩; subst hu'
    exact ⟨⟨b, of, cs, hv, hc, hR⟩, Ext.refl _⟩
  refine RW_d _ rfl (fun v => by dsimp only [List.set]; try rfl) (fun u hu hF => ?_) (fun v498 => ?_)
  · have h112_ : PtrR RF u v497 el7 := hF.1
    clear hF
    refine doesG_un rfl ?_
    obtain ⟨b112_, o112_, _, rfl, hc112_, ⟨r112_1, rfl, h112_2⟩⟩ := h112_
    refine (does_load (u := (Fl r112_1)) (ev rfl) Try.isAgg22 (Cells.at hc112_ 0 rfl)).mono ?_; rintro _ _ ⟨rfl, rfl⟩
    exact ⟨⟨r112_1, rfl, (by simp only [h112_2])⟩, Ext.refl _⟩
  refine RW_fin ?_; intro w499 E500 hP501
  obtain ⟨⟨⟨⟨⟨⟨⟨⟨⟨⟨⟨-, -⟩, -⟩, -⟩, -⟩, -⟩, -⟩, -⟩, -⟩, -⟩, -⟩, q502⟩ := hP501
  have X503 := Ext.gr X487 E500
  have q502 : ∃ r_1 : Nat, v498 = (Fl r_1) ∧ cf .f32 r_1 = el7 := q502
  obtain ⟨r504, rfl, h505⟩ := q502
  show wpList _ _ _ _ (fr [_, _, _, _, _, _, _, _, _, _, _, _, _, _, _, _, _, _, _, _, _, _, _, _, _, _, _, _, _, _, _, _, _, _, _, _, _, _, _, _, _, _, _, _, _, _, _, _, _, _, _, _, _, _, _, _, _, _, _, _, _, _, _, _, _, _, _, _, _, _, _, _, _, _, _, _, _, _, _, _, _, _, _, _, _, _, _, _, _, _, _, _, _, _, _, _, _, _, _, _, _, _, _, _, _, _, _, _, _, _, _, _, _, _, _, _, _, _, _, _, _, _, _, _, _, _, _, _, _, _, _, _, _, _, _, _, _, _, _, _, _, _, _, _, _, _, _, _, _, _, _, _, _, _, _, _, _]) _
  refine q_is rfl rfl (does_assign (u := (Fl r504)) (ev rfl)) (by dsimp only [List.set]; try rfl) ?_
  refine wpList_nil (hK483 _ _ ?_)
  obtain ⟨el8, hel8⟩ : ∃ e, A_g.vals[(idxG A_g (min ((cellI (cf .f32 r11) (cf .f32 r1) (cf .f32 r7) A_g.x) + 1) (A_g.x - 1)) (min ((cellI (cf .f32 r13) (cf .f32 r3) (cf .f32 r7) A_g.y) + 1) (A_g.y - 1)) (min ((cellI (cf .f32 r15) (cf .f32 r5) (cf .f32 r7) A_g.z) + 1) (A_g.z - 1))).toNat]? = some e := ⟨_, List.getElem?_eq_getElem (by omega)⟩
  refine region_any2 [] [0, 0, 0, 4, 12, 28, 0, 0, 128, 0, 512, 1536, 3584, 7680, 16256, 0, 0, 131008, 262140, 524284, 0, 2097150, 4194302, 8388607, 16777215] [] (
    [FactW.pure [] [] [] true (fun v => v = (.slice p469 (([(cf .f32 r456)]).length) q470)),
      FactW.pure [] [] [] true (fun v => v = (Fl r504)),
      FactW.pure [] [] [] true (fun v => v = (Pt g_b g_o)),
      FactW.pure [2] [] [] true (fun v => v = (Pt g_b g_o)),
      FactW.pure [3] [] [] true (fun v => v = (Pt g_b (g_o + 7))),
      FactW.pure [4] [] [] true (fun v => v = (.slice p17 A_g.vals.length q18)),
      FactW.pure [] [] [] true (fun v => v = (Pt g_b g_o)),
      FactW.pure [] [] [] true (fun v => v = (Iv (cellI (cf .f32 r11) (cf .f32 r1) (cf .f32 r7) A_g.x))),
      FactW.pure [7] [] [] true (fun v => v = (Iv ((cellI (cf .f32 r11) (cf .f32 r1) (cf .f32 r7) A_g.x) + 1))),
      FactW.pure [] [] [] true (fun v => v = (Pt g_b g_o)),
      FactW.pure [9] [] [] true (fun v => v = (Pt g_b g_o)),
      FactW.pure [10] [] [] true (fun v => v = (Pt g_b (g_o + 4))),
      FactW.pure [11] [] [] true (fun v => v = (Iv A_g.x)),
      FactW.pure [12] [] [] true (fun v => v = (Iv (A_g.x - 1))),
      FactW.pure [8, 13] [] [] true (fun v => v = (Iv (min ((cellI (cf .f32 r11) (cf .f32 r1) (cf .f32 r7) A_g.x) + 1) (A_g.x - 1)))),
      FactW.pure [] [] [] true (fun v => v = (Iv (min ((cellI (cf .f32 r13) (cf .f32 r3) (cf .f32 r7) A_g.y) + 1) (A_g.y - 1)))),
      FactW.pure [] [] [] true (fun v => v = (Iv (min ((cellI (cf .f32 r15) (cf .f32 r5) (cf .f32 r7) A_g.z) + 1) (A_g.z - 1)))),
      FactW.pure [6, 14, 15, 16] [] [] true (fun v => v = (Iv (idxG A_g (min ((cellI (cf .f32 r11) (cf .f32 r1) (cf .f32 r7) A_g.x) + 1) (A_g.x - 1)) (min ((cellI (cf .f32 r13) (cf .f32 r3) (cf .f32 r7) A_g.y) + 1) (A_g.y - 1)) (min ((cellI (cf .f32 r15) (cf .f32 r5) (cf .f32 r7) A_g.z) + 1) (A_g.z - 1))))),
      FactW.mem [5, 17] [] [] [] true (fun v w' => PtrR RF w' v el8) (by intro v w1 w2 hx' h; have hx := KpL.toExt hx'; exact h.ext RF.mono hx),
      FactW.pure [18] [] [] true (fun v => ∃ r_1 : Nat, v = (Fl r_1) ∧ cf .f32 r_1 = el8),
      FactW.pure [] [] [] true (fun v => v = (Fl r59)),
      FactW.pure [1, 19, 20] [] [] true (fun v => ∃ r_1 : Nat, v = (Fl r_1) ∧ cf .f32 r_1 = mixF (cf .f32 r504) el8 (cf .f32 r59)),
      FactW.mem [21] [] [] [] true (fun v w' => ∃ b : Nat, ∃ r_1 : Nat, v = .slice (some ⟨b, 0, none⟩) 1 1 ∧ w499.heap.size ≤ b ∧ Blk w' b [(Fl r_1)] ∧ cf .f32 r_1 = mixF (cf .f32 r504) el8 (cf .f32 r59)) (by rintro v w1 w2 hx' ⟨b, z0, rfl, hb, hB, k0⟩; have hx := KpL.toExt hx'; exact ⟨b, z0, rfl, hb, (hB.ext hx), k0⟩)]) mixed (by kernel_rfl) ?_
  obtain ⟨w506, hw508⟩ : ∃ w', w' = World.drew w499 := ⟨_, rfl⟩; rw [← hw508]; have E507 : Ext w499 w506 := by rw [hw508]; exact Ext.draw _
  clear hw508
  have X509 := Ext.gr X503 E507
  refine RW2_d _ rfl (fun v => by dsimp only [List.set]; try rfl) (fun u hu hF => ?_) (fun v510 => ?_)
  · replace hu : KpL [] _ _ := hu
    clear hF
    refine doesG_un rfl ?_
    refine (does_move (u := (.slice p469 (([(cf .f32 r456)]).length) q470)) (ev rfl)).mono ?_; rintro _ _ ⟨rfl, rfl⟩
    exact ⟨rfl, KpL.refl _ _⟩
  refine RW2_d _ rfl (fun v => by dsimp only [List.set]; try rfl) (fun u hu hF => ?_) (fun v511 => ?_)
  · replace hu : KpL [] _ _ := hu
    clear hF
    refine doesG_un rfl ?_
    refine (does_move (u := (Fl r504)) (ev rfl)).mono ?_; rintro _ _ ⟨rfl, rfl⟩
    exact ⟨rfl, KpL.refl _ _⟩
  refine RW2_d _ rfl (fun v => by dsimp only [List.set]; try rfl) (fun u hu hF => ?_) (fun v512 => ?_)
  · replace hu : KpL [] _ _ := hu
    clear hF
    refine doesG_un rfl ?_
    refine (does_move (u := (Pt g_b g_o)) (ev rfl)).mono ?_; rintro _ _ ⟨rfl, rfl⟩
    exact ⟨rfl, KpL.refl _ _⟩
  refine RW2_d _ rfl (fun v => by dsimp only [List.set]; try rfl) (fun u hu hF => ?_) (fun v513 => ?_)
  · replace hu : KpL [] _ _ := hu
    have h116_ : v512 = (Pt g_b g_o) := hF.1
    clear hF
    refine doesG_un rfl ?_
    obtain rfl := h116_
    refine (does_nilCheck (ev rfl)).mono ?_; rintro _ _ ⟨rfl, rfl⟩
    exact ⟨rfl, KpL.refl _ _⟩
  refine RW2_d _ rfl (fun v => by dsimp only [List.set]; try rfl) (fun u hu hF => ?_) (fun v514 => ?_)
  · replace hu : KpL [] _ _ := hu
    have h117_ : v513 = (Pt g_b g_o) := hF.1
    clear hF
    refine doesG_un rfl ?_
    obtain rfl := h117_
    refine (does_fieldAddr (ev rfl) fa33_5).mono ?_; rintro _ _ ⟨rfl, rfl⟩
    exact ⟨rfl, KpL.refl _ _⟩
  refine RW2_d _ rfl (fun v => by dsimp only [List.set]; try rfl) (fun u hu hF => ?_) (fun v515 => ?_)
  · replace hu : KpL [] _ _ := hu
    have h118_ : v514 = (Pt g_b (g_o + 7)) := hF.1
    clear hF
    refine doesG_un rfl ?_
    obtain rfl := h118_
    refine (does_load (u := (.slice p17 A_g.vals.length q18)) (ev rfl) Try.isAgg25 (Cells.at (hc_g.ext (Ext.gr (Ext.gr X503 E507) (KpL.toExt hu))) 7 rfl)).mono ?_; rintro _ _ ⟨rfl, rfl⟩
    exact ⟨rfl, KpL.refl _ _⟩
  refine RW2_d _ rfl (fun v => by dsimp only [List.set]; try rfl) (fun u hu hF => ?_) (fun v516 => ?_)
  · replace hu : KpL [] _ _ := hu
    clear hF
    refine doesG_un rfl ?_
    refine (does_move (u := (Pt g_b g_o)) (ev rfl)).mono ?_; rintro _ _ ⟨rfl, rfl⟩
    exact ⟨rfl, KpL.refl _ _⟩
  refine RW2_d _ rfl (fun v => by dsimp only [List.set]; try rfl) (fun u hu hF => ?_) (fun v517 => ?_)
  · replace hu : KpL [] _ _ := hu
    clear hF
    refine doesG_un rfl ?_
    refine (does_move (u := (Iv (cellI (cf .f32 r11) (cf .f32 r1) (cf .f32 r7) A_g.x))) (ev rfl)).mono ?_; rintro _ _ ⟨rfl, rfl⟩
    exact ⟨rfl, KpL.refl _ _⟩
  refine RW2_d _ rfl (fun v => by dsimp only [List.set]; try rfl) (fun u hu hF => ?_) (fun v518 => ?_)
  · replace hu : KpL [] _ _ := hu
    have h121_ : v517 = (Iv (cellI (cf .f32 r11) (cf .f32 r1) (cf .f32 r7) A_g.x)) := hF.1
    clear hF
    refine doesG_un rfl ?_
    obtain rfl := h121_
    refine (does_iarith (p := cellI (cf .f32 r11) (cf .f32 r1) (cf .f32 r7) A_g.x) (q := 1) (r := (cellI (cf .f32 r11) (cf .f32 r1) (cf .f32 r7) A_g.x) + 1) (ev rfl) (ev rfl) (.inl ⟨rfl, (in_i64 (by omega) (by omega)).symm⟩)).mono ?_; rintro _ _ ⟨rfl, rfl⟩
    exact ⟨rfl, KpL.refl _ _⟩
  refine RW2_d _ rfl (fun v => by dsimp only [List.set]; try rfl) (fun u hu hF => ?_) (fun v519 => ?_)
  · replace hu : KpL [] _ _ := hu
    clear hF
    refine doesG_un rfl ?_
    refine (does_move (u := (Pt g_b g_o)) (ev rfl)).mono ?_; rintro _ _ ⟨rfl, rfl⟩
    exact ⟨rfl, KpL.refl _ _⟩
  refine RW2_d _ rfl (fun v => by dsimp only [List.set]; try rfl) (fun u hu hF => ?_) (fun v520 => ?_)
  · replace hu : KpL [] _ _ := hu
    have h123_ : v519 = (Pt g_b g_o) := hF.1
    clear hF
    refine doesG_un rfl ?_
    obtain rfl := h123_
    refine (does_nilCheck (ev rfl)).mono ?_; rintro _ _ ⟨rfl, rfl⟩
    exact ⟨rfl, KpL.refl _ _⟩
  refine RW2_d _ rfl (fun v => by dsimp only [List.set]; try rfl) (fun u hu hF => ?_) (fun v521 => ?_)
  · replace hu : KpL [] _ _ := hu
    have h124_ : v520 = (Pt g_b g_o) := hF.1
    clear hF
    refine doesG_un rfl ?_
    obtain rfl := h124_
    refine (does_fieldAddr (ev rfl) fa33_2).mono ?_; rintro _ _ ⟨rfl, rfl⟩
    exact ⟨rfl, KpL.refl _ _⟩
  refine RW2_d _ rfl (fun v => by dsimp only [List.set]; try rfl) (fun u hu hF => ?_) (fun v522 => ?_)
  · replace hu : KpL [] _ _ := hu
    have h125_ : v521 = (Pt g_b (g_o + 4)) := hF.1
    clear hF
    refine doesG_un rfl ?_
    obtain rfl := h125_
    refine (does_load (u := (Iv A_g.x)) (ev rfl) Try.isAgg2 (Cells.at (hc_g.ext (Ext.gr (Ext.gr X503 E507) (KpL.toExt hu))) 4 rfl)).mono ?_; rintro _ _ ⟨rfl, rfl⟩
    exact ⟨rfl, KpL.refl _ _⟩
  refine RW2_d _ rfl (fun v => by dsimp only [List.set]; try rfl) (fun u hu hF => ?_) (fun v523 => ?_)
  · replace hu : KpL [] _ _ := hu
    have h126_ : v522 = (Iv A_g.x) := hF.1
    clear hF
    refine doesG_un rfl ?_
    obtain rfl := h126_
    refine (does_iarith (p := A_g.x) (q := 1) (r := A_g.x - 1) (ev rfl) (ev rfl) (.inr (.inl ⟨rfl, (in_i64 (by omega) (by omega)).symm⟩))).mono ?_; rintro _ _ ⟨rfl, rfl⟩
    exact ⟨rfl, KpL.refl _ _⟩
  refine RW2_d _ rfl (fun v => by dsimp only [List.set]; try rfl) (fun u hu hF => ?_) (fun v524 => ?_)
  · replace hu : KpL [] _ _ := hu
    have h122_ : v518 = (Iv ((cellI (cf .f32 r11) (cf .f32 r1) (cf .f32 r7) A_g.x) + 1)) := hF.1
    have h127_ : v523 = (Iv (A_g.x - 1)) := hF.2.1
    clear hF
    refine doesG_un rfl ?_
    obtain rfl := h122_
    obtain rfl := h127_
    refine (does_call (args := #[(Iv ((cellI (cf .f32 r11) (cf .f32 r1) (cf .f32 r7) A_g.x) + 1)), (Iv (A_g.x - 1))]) cal31 (evs rfl) (c_spec_l00Min ((cellI (cf .f32 r11) (cf .f32 r1) (cf .f32 r7) A_g.x) + 1) (A_g.x - 1) _)).mono ?_; rintro v u' ⟨hx, hv⟩
    exact ⟨hv, (KpL.of_ext hx)⟩
  refine RW2_d _ rfl (fun v => by dsimp only [List.set]; try rfl) (fun u hu hF => ?_) (fun v525 => ?_)
  · replace hu : KpL [] _ _ := hu
    clear hF
    refine doesG_un rfl ?_
    refine (does_move (u := (Iv (min ((cellI (cf .f32 r13) (cf .f32 r3) (cf .f32 r7) A_g.y) + 1) (A_g.y - 1)))) (ev rfl)).mono ?_; rintro _ _ ⟨rfl, rfl⟩
    exact ⟨rfl, KpL.refl _ _⟩
  refine RW2_d _ rfl (fun v => by dsimp only [List.set]; try rfl) (fun u hu hF => ?_) (fun v526 => ?_)
  · replace hu : KpL [] _ _ := hu
    clear hF
    refine doesG_un rfl ?_
    refine (does_move (u := (Iv (min ((cellI (cf .f32 r15) (cf .f32 r5) (cf .f32 r7) A_g.z) + 1) (A_g.z - 1)))) (ev rfl)).mono ?_; rintro _ _ ⟨rfl, rfl⟩
    exact ⟨rfl, KpL.refl _ _⟩
  refine RW2_d _ rfl (fun v => by dsimp only [List.set]; try rfl) (fun u hu hF => ?_) (fun v527 => ?_)
  · replace hu : KpL [] _ _ := hu
    have h120_ : v516 = (Pt g_b g_o) := hF.1
    have h128_ : v524 = (Iv (min ((cellI (cf .f32 r11) (cf .f32 r1) (cf .f32 r7) A_g.x) + 1) (A_g.x - 1))) := hF.2.1
    have h129_ : v525 = (Iv (min ((cellI (cf .f32 r13) (cf .f32 r3) (cf .f32 r7) A_g.y) + 1) (A_g.y - 1))) := hF.2.2.1
    have h130_ : v526 = (Iv (min ((cellI (cf .f32 r15) (cf .f32 r5) (cf .f32 r7) A_g.z) + 1) (A_g.z - 1))) := hF.2.2.2.1
    clear hF
    refine doesG_un rfl ?_
    obtain rfl := h120_
    obtain rfl := h128_
    obtain rfl := h129_
    obtain rfl := h130_
    refine (does_call (args := #[(Pt g_b g_o), (Iv (min ((cellI (cf .f32 r11) (cf .f32 r1) (cf .f32 r7) A_g.x) + 1) (A_g.x - 1))), (Iv (min ((cellI (cf .f32 r13) (cf .f32 r3) (cf .f32 r7) A_g.y) + 1) (A_g.y - 1))), (Iv (min ((cellI (cf .f32 r15) (cf .f32 r5) (cf .f32 r7) A_g.z) + 1) (A_g.z - 1)))]) cal32 (evs rfl) (c_spec_l06Index g_b g_o [(Fl r1), (Fl r3), (Fl r5), (Fl r7), (Iv A_g.x), (Iv A_g.y), (Iv A_g.z), (.slice p17 A_g.vals.length q18)] A_g (min ((cellI (cf .f32 r11) (cf .f32 r1) (cf .f32 r7) A_g.x) + 1) (A_g.x - 1)) (min ((cellI (cf .f32 r13) (cf .f32 r3) (cf .f32 r7) A_g.y) + 1) (A_g.y - 1)) (min ((cellI (cf .f32 r15) (cf .f32 r5) (cf .f32 r7) A_g.z) + 1) (A_g.z - 1)) _ (hc_g.ext (Ext.gr (Ext.gr X503 E507) (KpL.toExt hu))) ⟨r1, r3, r5, r7, (.slice p17 A_g.vals.length q18), rfl, h2, h4, h6, h8, (Sl.ext hs19 RF.mono (Ext.gr (Ext.gr X503 E507) (KpL.toExt hu)))⟩)).mono ?_; rintro v u' ⟨hx, hv⟩
    exact ⟨hv, (KpL.of_ext hx)⟩
  refine RW2_d _ rfl (fun v => by dsimp only [List.set]; try rfl) (fun u hu hF => ?_) (fun v528 => ?_)
  · replace hu : KpL [] _ _ := hu
    have h119_ : v515 = (.slice p17 A_g.vals.length q18) := hF.1
    have h131_ : v527 = (Iv (idxG A_g (min ((cellI (cf .f32 r11) (cf .f32 r1) (cf .f32 r7) A_g.x) + 1) (A_g.x - 1)) (min ((cellI (cf .f32 r13) (cf .f32 r3) (cf .f32 r7) A_g.y) + 1) (A_g.y - 1)) (min ((cellI (cf .f32 r15) (cf .f32 r5) (cf .f32 r7) A_g.z) + 1) (A_g.z - 1)))) := hF.2.1
    clear hF
    refine doesG_un rfl ?_
    obtain rfl := h119_
    obtain rfl := h131_
    refine (does_indexSl (R := RF) (i := idxG A_g (min ((cellI (cf .f32 r11) (cf .f32 r1) (cf .f32 r7) A_g.x) + 1) (A_g.x - 1)) (min ((cellI (cf .f32 r13) (cf .f32 r3) (cf .f32 r7) A_g.y) + 1) (A_g.y - 1)) (min ((cellI (cf .f32 r15) (cf .f32 r5) (cf .f32 r7) A_g.z) + 1) (A_g.z - 1))) (xs := A_g.vals) (e := el8) Try.underlying25 Try.sizeOf22 (ev rfl) (ev rfl) (Sl.ext hs19 RF.mono (Ext.gr (Ext.gr X503 E507) (KpL.toExt hu))) (by omega) hel8).mono ?_; rintro v u' ⟨b, of, cs, hv, hc, hR, hu'⟩; subst hu'
    exact ⟨⟨b, of, cs, hv, hc, hR⟩, KpL.refl _ _⟩
  refine RW2_d _ rfl (fun v => by dsimp only [List.set]; try rfl) (fun u hu hF => ?_) (fun v529 => ?_)
  · replace hu : KpL [] _ _ := hu
    have h132_ : PtrR RF u v528 el8 := hF.1
    clear hF
    refine doesG_un rfl ?_
    obtain ⟨b132_, o132_, _, rfl, hc132_, ⟨r132_1, rfl, h132_2⟩⟩ := h132_
    refine (does_load (u := (Fl r132_1)) (ev rfl) Try.isAgg22 (Cells.at hc132_ 0 rfl)).mono ?_; rintro _ _ ⟨rfl, rfl⟩
    exact ⟨⟨r132_1, rfl, (by simp only [h132_2])⟩, KpL.refl _ _⟩
  refine RW2_d _ rfl (fun v => by dsimp only [List.set]; try rfl) (fun u hu hF => ?_) (fun v530 => ?_)
  · replace hu : KpL [] _ _ := hu
    clear hF
    refine doesG_un rfl ?_
    refine (does_move (u := (Fl r59)) (ev rfl)).mono ?_; rintro _ _ ⟨rfl, rfl⟩
    exact ⟨rfl, KpL.refl _ _⟩
  refine RW2_d _ rfl (fun v => by dsimp only [List.set]; try rfl) (fun u hu hF => ?_) (fun v531 => ?_)
  · replace hu : KpL [] _ _ := hu
    have h115_ : v511 = (Fl r504) := hF.1
    have h133_ : ∃ r_1 : Nat, v529 = (Fl r_1) ∧ cf .f32 r_1 = el8 := hF.2.1
    have h134_ : v530 = (Fl r59) := hF.2.2.1
    clear hF
    refine doesG_un rfl ?_
    obtain rfl := h115_
    obtain ⟨r133_1, rfl, h133_2⟩ := h133_
    obtain rfl := h134_
    refine (does_call (args := #[(Fl r504), (Fl r133_1), (Fl r59)]) cal33 (evs rfl) (c_spec_l06Mix r504 r133_1 r59 _)).mono ?_; rintro v u' ⟨hx, ⟨rn1, hv, k0⟩⟩
    exact ⟨⟨rn1, hv.trans (by simp only [h133_2]), (by simp only [k0, h133_2])⟩, (KpL.of_ext hx)⟩
  refine RW2_d _ rfl (fun v => by dsimp only [List.set]; try rfl) (fun u hu hF => ?_) (fun v532 => ?_)
  · replace hu : KpL [] _ _ := hu
    have h135_ : ∃ r_1 : Nat, v531 = (Fl r_1) ∧ cf .f32 r_1 = mixF (cf .f32 r504) el8 (cf .f32 r59) := hF.1
    clear hF
    refine doesG_un rfl ?_
    obtain ⟨r135_1, rfl, h135_2⟩ := h135_
    refine (does_buildSlice (e := 22) (parts' := [(0, (Fl r135_1))]) (cells := [(Fl r135_1)]) (evp rfl) (fun _ => by kernel_rfl)).mono ?_; rintro _ _ ⟨b, rfl, hb, hB, hx⟩
    exact ⟨⟨b, r135_1, rfl, Nat.le_trans (Nat.le_trans (Below.size E507) (KpL.size hu)) hb, hB, (by simp only [h135_2])⟩, (KpL.of_ext hx)⟩
  refine RW2_fin ?_; intro w533 E534 hP535; replace E534 : KpL [] _ _ := E534
  obtain ⟨⟨⟨⟨⟨⟨⟨⟨⟨⟨⟨⟨⟨⟨⟨⟨⟨⟨⟨⟨⟨⟨⟨-, q536⟩, -⟩, -⟩, -⟩, -⟩, -⟩, -⟩, -⟩, -⟩, -⟩, -⟩, -⟩, -⟩, -⟩, -⟩, -⟩, -⟩, -⟩, -⟩, -⟩, -⟩, -⟩, q537⟩ := hP535
  have X538 := Below.kl X509 E534 all0 (Nat.le_refl _)
  have q536 : v510 = (.slice p469 (([(cf .f32 r456)]).length) q470) := q536 rfl
  obtain rfl := q536
  have q537 : ∃ b : Nat, ∃ r_1 : Nat, v532 = .slice (some ⟨b, 0, none⟩) 1 1 ∧ w499.heap.size ≤ b ∧ Blk w533 b [(Fl r_1)] ∧ cf .f32 r_1 = mixF (cf .f32 r504) el8 (cf .f32 r59) := q537 rfl
  obtain ⟨b539, r542, rfl, hb540, hB541, h543⟩ := q537
  have n544 : g_b < b539 := Nat.lt_of_lt_of_le (cell_lt (Cells.at (hc_g.ext X503) 0 rfl)) hb540
  have n545 : b21 < b539 := Nat.lt_of_lt_of_le (Blk.lt (((((((((((((((((((((((((((((((((((((hB23.ext E31).ext E54).ext E63).ext E86).ext E95).ext E118).ext E130).ext E147).ext E160).ext E164).ext E169).ext E184).ext E191).kl E218 nin0).kl K234 (ninS (Nat.ne_of_lt (Nat.lt_of_lt_of_le n150 hN236)) nin0)).ext E246).ext E250).ext E255).ext E270).ext E277).kl E304 nin0).kl K320 (ninS (Nat.ne_of_lt (Nat.lt_of_lt_of_le n150 hN322)) nin0)).ext E331).kl E345 nin0).kl K361 (ninS (Nat.ne_of_lt (Nat.lt_of_lt_of_le n133 hN363)) nin0)).ext E377).ext E390).ext E394).ext E399).ext E414).ext E421).kl E448 nin0).kl K464 (ninS (Nat.ne_of_lt (Nat.lt_of_lt_of_le n380 hN466)) nin0)).ext E476).ext E480).ext E485).ext E500)) hb540
  have g546 : w.heap.size ≤ b539 := Nat.le_trans (Below.size X503) hb540
  show wpList _ _ _ _ (fr [_, _, _, _, _, _, _, _, _, _, _, _, _, _, _, _, _, _, _, _, _, _, _, _, _, _, _, _, _, _, _, _, _, _, _, _, _, _, _, _, _, _, _, _, _, _, _, _, _, _, _, _, _, _, _, _, _, _, _, _, _, _, _, _, _, _, _, _, _, _, _, _, _, _, _, _, _, _, _, _, _, _, _, _, _, _, _, _, _, _, _, _, _, _, _, _, _, _, _, _, _, _, _, _, _, _, _, _, _, _, _, _, _, _, _, _, _, _, _, _, _, _, _, _, _, _, _, _, _, _, _, _, _, _, _, _, _, _, _, _, _, _, _, _, _, _, _, _, _, _, _, _, _, _, _, _, _]) _
  refine seqd rfl rfl (does_append (R := RF) (k := 1) (g0 := b373) (B := w378.heap.size) (xs := ([(cf .f32 r456)])) (ys := [(cf .f32 r542)]) Try.underlying25 inf22 rfl (by decide) (ev rfl) (ev rfl) (Own.same hO465 RF.flat (((((((Same.refl _ _).ext E476).ext E480).ext E485).ext E500).ext E507).kl E534 all0) hb374 (Below.size E377)) RF.flat hB541 rfl rfl rfl (fun i x hi => lit1 (R := RF) (cs := [(Fl r542)]) (y := (cf .f32 r542))  (⟨_, rfl, rfl⟩) i x hi) (by first | (simp only [List.length_append, List.length_cons, List.length_nil]; omega) | omega) (Nat.le_trans (Nat.le_trans (Nat.le_trans (Nat.le_trans (Nat.le_trans (Nat.le_trans (Nat.le_trans (Nat.le_trans (Nat.le_trans (Nat.le_trans (Nat.le_trans (Nat.le_trans (Below.size E390) (Below.size E394)) (Below.size E399)) (Below.size E414)) (Below.size E421)) (KpL.size E448)) (KpL.size K464)) (Below.size E476)) (Below.size E480)) (Below.size E485)) (Below.size E500)) (Below.size E507)) (KpL.size E534))) ?_; rintro y' w547 ⟨gg548, hg549, K550, hO551⟩
  have hN552 : w358.heap.size ≤ gg548 := by rcases hg549 with h | h; exact h ▸ hb374; exact Nat.le_trans (Below.size E377) h
  have g553 : w.heap.size ≤ gg548 := Nat.le_trans (Below.size (Below.kl (Below.kl (Ext.gr (Below.kl (Below.kl (Ext.gr (Ext.gr (Ext.gr (Ext.gr (Ext.gr (Below.kl (Below.kl (Ext.gr (Ext.gr (Ext.gr (Ext.gr (Ext.gr (Ext.gr (Ext.gr (Ext.gr (Ext.gr (Ext.gr (Ext.gr (Ext.gr (Ext.gr (Ext.gr (Ext.refl _) E24) E31) E54) E63) E86) E95) E118) E130) E147) E160) E164) E169) E184) E191) E218 all0 (Nat.le_refl _)) K234 (allS g237 all0) (Nat.le_refl _)) E246) E250) E255) E270) E277) E304 all0 (Nat.le_refl _)) K320 (allS g323 all0) (Nat.le_refl _)) E331) E345 all0 (Nat.le_refl _)) K361 (allS g364 all0) (Nat.le_refl _))) hN552
  have X554 := Below.kl X538 K550 (allS g553 all0) (Nat.le_refl _)
  obtain ⟨p555, q556, rfl⟩ := Own.shape hO551
  have hH557 : Hang w358.heap.size w547 (fun u => Sl RF 1 u (.slice p555 ((([(cf .f32 r456)]) ++ [(cf .f32 r542)]).length) q556) (([(cf .f32 r456)]) ++ [(cf .f32 r542)])) := Own.hang hO551 RF.flat (by decide) hb374 (Below.size E377)
  show wpList _ _ _ _ (fr [_, _, _, _, _, _, _, _, _, _, _, _, _, _, _, _, _, _, _, _, _, _, _, _, _, _, _, _, _, _, _, _, _, _, _, _, _, _, _, _, _, _, _, _, _, _, _, _, _, _, _, _, _, _, _, _, _, _, _, _, _, _, _, _, _, _, _, _, _, _, _, _, _, _, _, _, _, _, _, _, _, _, _, _, _, _, _, _, _, _, _, _, _, _, _, _, _, _, _, _, _, _, _, _, _, _, _, _, _, _, _, _, _, _, _, _, _, _, _, _, _, _, _, _, _, _, _, _, _, _, _, _, _, _, _, _, _, _, _, _, _, _, _, _, _, _, _, _, _, _, _, _, _, _, _, _, _]) _
  refine q_is rfl rfl (does_assign (u := (.slice p555 ((([(cf .f32 r456)]) ++ [(cf .f32 r542)]).length) q556)) (ev rfl)) (by dsimp only [List.set]; try rfl) ?_
  refine wpList_nil (hK474 _ _ ?_)
  refine wp_region_lit ?_
  refine q_is rfl rfl (does_move (u := (Iv 1)) (ev rfl)) (by dsimp only [List.set]; try rfl) ?_
  refine q_is rfl rfl (does_iarith (p := 1) (q := 1) (r := (2)) (ev rfl) (ev rfl) (.inl ⟨rfl, rfl⟩)) (by dsimp only [List.set]; try rfl) ?_
  refine q_is rfl rfl (does_assign (u := (Iv 2)) (ev rfl)) (by dsimp only [List.set]; try rfl) ?_
  refine wpList_nil ?_
  refine un_step ?_
  refine wp_seq_k fun K558 hK558 => ?_
  refine wp_seq_k fun K559 hK559 => ?_
  refine wp_region_lit ?_
  refine q_is rfl rfl (does_move (u := (Iv 2)) (ev rfl)) (by dsimp only [List.set]; try rfl) ?_
  refine q_is rfl rfl (does_icmp (p := 2) (q := 2) (.inr (.inr (.inl rfl))) (ev rfl) (ev rfl)) (by dsimp only [List.set]; try rfl) ?_
  refine wpList_nil (hK559 _ _ ?_)
  refine wp_cond_false (ev rfl) ?_
  refine wp_exit ?_
  refine hK384 _ _ ?_
  refine region_any2 [] [0, 0, 2, 6, 0, 16, 48, 0, 254, 510, 1023, 2047] [] (
    [FactW.pure [] [] [] true (fun v => v = (.slice p366 (([(cf .f32 r353)]).length) q367)),
      FactW.pure [] [] [] true (fun v => v = (.slice p555 ((([(cf .f32 r456)]) ++ [(cf .f32 r542)]).length) q556)),
      FactW.mem [1] [] [] [] true (fun v w' => PtrR RF w' v (cf .f32 r456)) (by intro v w1 w2 hx' h; have hx := KpL.toExt hx'; exact h.ext RF.mono hx),
      FactW.pure [2] [] [] true (fun v => ∃ r_1 : Nat, v = (Fl r_1) ∧ cf .f32 r_1 = (cf .f32 r456)),
      FactW.pure [] [] [] true (fun v => v = (.slice p555 ((([(cf .f32 r456)]) ++ [(cf .f32 r542)]).length) q556)),
      FactW.mem [4] [] [] [] true (fun v w' => PtrR RF w' v (cf .f32 r542)) (by intro v w1 w2 hx' h; have hx := KpL.toExt hx'; exact h.ext RF.mono hx),
      FactW.pure [5] [] [] true (fun v => ∃ r_1 : Nat, v = (Fl r_1) ∧ cf .f32 r_1 = (cf .f32 r542)),
      FactW.pure [] [] [] true (fun v => v = (Fl r91)),
      FactW.pure [3, 6, 7] [] [] true (fun v => ∃ r_1 : Nat, v = (Fl r_1) ∧ cf .f32 r_1 = mixF (cf .f32 r456) (cf .f32 r542) (cf .f32 r91)),
      FactW.mem [8] [] [] [] true (fun v w' => ∃ b : Nat, ∃ r_1 : Nat, v = .slice (some ⟨b, 0, none⟩) 1 1 ∧ w547.heap.size ≤ b ∧ Blk w' b [(Fl r_1)] ∧ cf .f32 r_1 = mixF (cf .f32 r456) (cf .f32 r542) (cf .f32 r91)) (by rintro v w1 w2 hx' ⟨b, z0, rfl, hb, hB, k0⟩; have hx := KpL.toExt hx'; exact ⟨b, z0, rfl, hb, (hB.ext hx), k0⟩)]) mixed (by kernel_rfl) ?_
  obtain ⟨w560, hw562⟩ : ∃ w', w' = World.drew w547 := ⟨_, rfl⟩; rw [← hw562]; have E561 : Ext w547 w560 := by rw [hw562]; exact Ext.draw _
  clear hw562
  have X563 := Ext.gr X554 E561
  refine RW2_d _ rfl (fun v => by dsimp only [List.set]; try rfl) (fun u hu hF => ?_) (fun v564 => ?_)
  · replace hu : KpL [] _ _ := hu
    clear hF
    refine doesG_un rfl ?_
    refine (does_move (u := (.slice p366 (([(cf .f32 r353)]).length) q367)) (ev rfl)).mono ?_; rintro _ _ ⟨rfl, rfl⟩
    exact ⟨rfl, KpL.refl _ _⟩
  refine RW2_d _ rfl (fun v => by dsimp only [List.set]; try rfl) (fun u hu hF => ?_) (fun v565 => ?_)
  · replace hu : KpL [] _ _ := hu
    clear hF
    refine doesG_un rfl ?_
    refine (does_move (u := (.slice p555 ((([(cf .f32 r456)]) ++ [(cf .f32 r542)]).length) q556)) (ev rfl)).mono ?_; rintro _ _ ⟨rfl, rfl⟩
    exact ⟨rfl, KpL.refl _ _⟩
  refine RW2_d _ rfl (fun v => by dsimp only [List.set]; try rfl) (fun u hu hF => ?_) (fun v566 => ?_)
  · replace hu : KpL [] _ _ := hu
    have h139_ : v565 = (.slice p555 ((([(cf .f32 r456)]) ++ [(cf .f32 r542)]).length) q556) := hF.1
    clear hF
    refine doesG_un rfl ?_
    obtain rfl := h139_
    refine (does_indexSl (R := RF) (i := 0) (xs := ([(cf .f32 r456)]) ++ [(cf .f32 r542)]) (e := (cf .f32 r456)) Try.underlying25 Try.sizeOf22 (ev rfl) (ev rfl) (hH557 _ (((Same.refl _ _).ext E561).ext (KpL.toExt hu))) (by omega) rfl).mono ?_; rintro v u' ⟨b, of, cs, hv, hc, hR, hu'⟩; subst hu'
    exact ⟨⟨b, of, cs, hv, hc, hR⟩, KpL.refl _ _⟩
  refine RW2_d _ rfl (fun v => by dsimp only [List.set]; try rfl) (fun u hu hF => ?_) (fun v567 => ?_)
  · replace hu : KpL [] _ _ := hu
    have h140_ : PtrR RF u v566 (cf .f32 r456) := hF.1
    clear hF
    refine doesG_un rfl ?_
    obtain ⟨b140_, o140_, _, rfl, hc140_, ⟨r140_1, rfl, h140_2⟩⟩ := h140_
    refine (does_load (u := (Fl r140_1)) (ev rfl) Try.isAgg22 (Cells.at hc140_ 0 rfl)).mono ?_; rintro _ _ ⟨rfl, rfl⟩
    exact ⟨⟨r140_1, rfl, (by simp only [h140_2])⟩, KpL.refl _ _⟩
  refine RW2_d _ rfl (fun v => by dsimp only [List.set]; try rfl) (fun u hu hF => ?_) (fun v568 => ?_)
  · replace hu : KpL [] _ _ := hu
    clear hF
    refine doesG_un rfl ?_
    refine (does_move (u := (.slice p555 ((([(cf .f32 r456)]) ++ [(cf .f32 r542)]).length) q556)) (ev rfl)).mono ?_; rintro _ _ ⟨rfl, rfl⟩
    exact ⟨rfl, KpL.refl _ _⟩
  refine RW2_d _ rfl (fun v => by dsimp only [List.set]; try rfl) (fun u hu hF => ?_) (fun v569 => ?_)
  · replace hu : KpL [] _ _ := hu
    have h142_ : v568 = (.slice p555 ((([(cf .f32 r456)]) ++ [(cf .f32 r542)]).length) q556) := hF.1
    clear hF
    refine doesG_un rfl ?_
    obtain rfl := h142_
    refine (does_indexSl (R := RF) (i := 1) (xs := ([(cf .f32 r456)]) ++ [(cf .f32 r542)]) (e := (cf .f32 r542)) Try.underlying25 Try.sizeOf22 (ev rfl) (ev rfl) (hH557 _ (((Same.refl _ _).ext E561).ext (KpL.toExt hu))) (by omega) rfl).mono ?_; rintro v u' ⟨b, of, cs, hv, hc, hR, hu'⟩; subst hu'
    exact ⟨⟨b, of, cs, hv, hc, hR⟩, KpL.refl _ _⟩
  refine RW2_d _ rfl (fun v => by dsimp only [List.set]; try rfl) (fun u hu hF => ?_) (fun v570 => ?_)
  · replace hu : KpL [] _ _ := hu
    have h143_ : PtrR RF u v569 (cf .f32 r542) := hF.1
    clear hF
    refine doesG_un rfl ?_
    obtain ⟨b143_, o143_, _, rfl, hc143_, ⟨r143_1, rfl, h143_2⟩⟩ := h143_
    refine (does_load (u := (Fl r143_1)) (ev rfl) Try.isAgg22 (Cells.at hc143_ 0 rfl)).mono ?_; rintro _ _ ⟨rfl, rfl⟩
    exact ⟨⟨r143_1, rfl, (by simp only [h143_2])⟩, KpL.refl _ _⟩
  refine RW2_d _ rfl (fun v => by dsimp only [List.set]; try rfl) (fun u hu hF => ?_) (fun v571 => ?_)
  · replace hu : KpL [] _ _ := hu
    clear hF
    refine doesG_un rfl ?_
    refine (does_move (u := (Fl r91)) (ev rfl)).mono ?_; rintro _ _ ⟨rfl, rfl⟩
    exact ⟨rfl, KpL.refl _ _⟩
  refine RW2_d _ rfl (fun v => by dsimp only [List.set]; try rfl) (fun u hu hF => ?_) (fun v572 => ?_)
  · replace hu : KpL [] _ _ := hu
    have h141_ : ∃ r_1 : Nat, v567 = (Fl r_1) ∧ cf .f32 r_1 = (cf .f32 r456) := hF.1
    have h144_ : ∃ r_1 : Nat, v570 = (Fl r_1) ∧ cf .f32 r_1 = (cf .f32 r542) := hF.2.1
    have h145_ : v571 = (Fl r91) := hF.2.2.1
    clear hF
    refine doesG_un rfl ?_
    obtain ⟨r141_1, rfl, h141_2⟩ := h141_
    obtain ⟨r144_1, rfl, h144_2⟩ := h144_
    obtain rfl := h145_
    refine (does_call (args := #[(Fl r141_1), (Fl r144_1), (Fl r91)]) cal33 (evs rfl) (c_spec_l06Mix r141_1 r144_1 r91 _)).mono ?_; rintro v u' ⟨hx, ⟨rn1, hv, k0⟩⟩
    exact ⟨⟨rn1, hv.trans (by simp only [h141_2, h144_2]), (by simp only [k0, h141_2, h144_2])⟩, (KpL.of_ext hx)⟩
  refine RW2_d _ rfl (fun v => by dsimp only [List.set]; try rfl) (fun u hu hF => ?_) (fun v573 => ?_)
  · replace hu : KpL [] _ _ := hu
    have h146_ : ∃ r_1 : Nat, v572 = (Fl r_1) ∧ cf .f32 r_1 = mixF (cf .f32 r456) (cf .f32 r542) (cf .f32 r91) := hF.1
    clear hF
    refine doesG_un rfl ?_
    obtain ⟨r146_1, rfl, h146_2⟩ := h146_
    refine (does_buildSlice (e := 22) (parts' := [(0, (Fl r146_1))]) (cells := [(Fl r146_1)]) (evp rfl) (fun _ => by kernel_rfl)).mono ?_; rintro _ _ ⟨b, rfl, hb, hB, hx⟩
    exact ⟨⟨b, r146_1, rfl, Nat.le_trans (Nat.le_trans (Below.size E561) (KpL.size hu)) hb, hB, (by simp only [h146_2])⟩, (KpL.of_ext hx)⟩
  refine RW2_fin ?_; intro w574 E575 hP576; replace E575 : KpL [] _ _ := E575
  obtain ⟨⟨⟨⟨⟨⟨⟨⟨⟨⟨-, q577⟩, -⟩, -⟩, -⟩, -⟩, -⟩, -⟩, -⟩, -⟩, q578⟩ := hP576
  have X579 := Below.kl X563 E575 all0 (Nat.le_refl _)
  have q577 : v564 = (.slice p366 (([(cf .f32 r353)]).length) q367) := q577 rfl
  obtain rfl := q577
  have q578 : ∃ b : Nat, ∃ r_1 : Nat, v573 = .slice (some ⟨b, 0, none⟩) 1 1 ∧ w547.heap.size ≤ b ∧ Blk w574 b [(Fl r_1)] ∧ cf .f32 r_1 = mixF (cf .f32 r456) (cf .f32 r542) (cf .f32 r91) := q578 rfl
  obtain ⟨b580, r583, rfl, hb581, hB582, h584⟩ := q578
  have n585 : g_b < b580 := Nat.lt_of_lt_of_le (cell_lt (Cells.at (hc_g.ext X554) 0 rfl)) hb581
  have n586 : b21 < b580 := Nat.lt_of_lt_of_le (Blk.lt ((((((((((((((((((((((((((((((((((((((((hB23.ext E31).ext E54).ext E63).ext E86).ext E95).ext E118).ext E130).ext E147).ext E160).ext E164).ext E169).ext E184).ext E191).kl E218 nin0).kl K234 (ninS (Nat.ne_of_lt (Nat.lt_of_lt_of_le n150 hN236)) nin0)).ext E246).ext E250).ext E255).ext E270).ext E277).kl E304 nin0).kl K320 (ninS (Nat.ne_of_lt (Nat.lt_of_lt_of_le n150 hN322)) nin0)).ext E331).kl E345 nin0).kl K361 (ninS (Nat.ne_of_lt (Nat.lt_of_lt_of_le n133 hN363)) nin0)).ext E377).ext E390).ext E394).ext E399).ext E414).ext E421).kl E448 nin0).kl K464 (ninS (Nat.ne_of_lt (Nat.lt_of_lt_of_le n380 hN466)) nin0)).ext E476).ext E480).ext E485).ext E500).ext E507).kl E534 nin0).kl K550 (ninS (Nat.ne_of_lt (Nat.lt_of_lt_of_le n380 hN552)) nin0))) hb581
  have g587 : w.heap.size ≤ b580 := Nat.le_trans (Below.size X554) hb581
  show wpList _ _ _ _ (fr [_, _, _, _, _, _, _, _, _, _, _, _, _, _, _, _, _, _, _, _, _, _, _, _, _, _, _, _, _, _, _, _, _, _, _, _, _, _, _, _, _, _, _, _, _, _, _, _, _, _, _, _, _, _, _, _, _, _, _, _, _, _, _, _, _, _, _, _, _, _, _, _, _, _, _, _, _, _, _, _, _, _, _, _, _, _, _, _, _, _, _, _, _, _, _, _, _, _, _, _, _, _, _, _, _, _, _, _, _, _, _, _, _, _, _, _, _, _, _, _, _, _, _, _, _, _, _, _, _, _, _, _, _, _, _, _, _, _, _, _, _, _, _, _, _, _, _, _, _, _, _, _, _, _, _, _, _]) _
  refine seqd rfl rfl (does_append (R := RF) (k := 1) (g0 := b126) (B := w131.heap.size) (xs := ([(cf .f32 r353)])) (ys := [(cf .f32 r583)]) Try.underlying25 inf22 rfl (by decide) (ev rfl) (ev rfl) (Own.same hO362 RF.flat ((((((((((((((((((Same.refl _ _).ext E377).ext E390).ext E394).ext E399).ext E414).ext E421).kl E448 all0).kl K464 (allS (.inr (Nat.le_trans (Below.size (Ext.refl _)) hN466)) all0)).ext E476).ext E480).ext E485).ext E500).ext E507).kl E534 all0).kl K550 (allS (.inr (Nat.le_trans (Below.size (Ext.refl _)) hN552)) all0)).ext E561).kl E575 all0) hb127 (Below.size E130)) RF.flat hB582 rfl rfl rfl (fun i x hi => lit1 (R := RF) (cs := [(Fl r583)]) (y := (cf .f32 r583))  (⟨_, rfl, rfl⟩) i x hi) (by first | (simp only [List.length_append, List.length_cons, List.length_nil]; omega) | omega) (Nat.le_trans (Nat.le_trans (Nat.le_trans (Nat.le_trans (Nat.le_trans (Nat.le_trans (Nat.le_trans (Nat.le_trans (Nat.le_trans (Nat.le_trans (Nat.le_trans (Nat.le_trans (Nat.le_trans (Nat.le_trans (Nat.le_trans (Nat.le_trans (Nat.le_trans (Nat.le_trans (Nat.le_trans (Nat.le_trans (Nat.le_trans (Nat.le_trans (Nat.le_trans (Nat.le_trans (Nat.le_trans (Nat.le_trans (Nat.le_trans (Nat.le_trans (Nat.le_trans (Nat.le_trans (Nat.le_trans (Nat.le_trans (Nat.le_trans (Nat.le_trans (Below.size E147) (Below.size E160)) (Below.size E164)) (Below.size E169)) (Below.size E184)) (Below.size E191)) (KpL.size E218)) (KpL.size K234)) (Below.size E246)) (Below.size E250)) (Below.size E255)) (Below.size E270)) (Below.size E277)) (KpL.size E304)) (KpL.size K320)) (Below.size E331)) (KpL.size E345)) (KpL.size K361)) (Below.size E377)) (Below.size E390)) (Below.size E394)) (Below.size E399)) (Below.size E414)) (Below.size E421)) (KpL.size E448)) (KpL.size K464)) (Below.size E476)) (Below.size E480)) (Below.size E485)) (Below.size E500)) (Below.size E507)) (KpL.size E534)) (KpL.size K550)) (Below.size E561)) (KpL.size E575))) ?_; rintro y' w588 ⟨gg589, hg590, K591, hO592⟩
  have hN593 : w117.heap.size ≤ gg589 := by rcases hg590 with h | h; exact h ▸ hb127; exact Nat.le_trans (Below.size E130) h
  have g594 : w.heap.size ≤ gg589 := Nat.le_trans (Below.size (Ext.gr (Ext.gr (Ext.gr (Ext.gr (Ext.gr (Ext.gr (Ext.gr (Ext.refl _) E24) E31) E54) E63) E86) E95) E118)) hN593
  have X595 := Below.kl X579 K591 (allS g594 all0) (Nat.le_refl _)
  obtain ⟨p596, q597, rfl⟩ := Own.shape hO592
  have hH598 : Hang w117.heap.size w588 (fun u => Sl RF 1 u (.slice p596 ((([(cf .f32 r353)]) ++ [(cf .f32 r583)]).length) q597) (([(cf .f32 r353)]) ++ [(cf .f32 r583)])) := Own.hang hO592 RF.flat (by decide) hb127 (Below.size E130)
  show wpList _ _ _ _ (fr [_, _, _, _, _, _, _, _, _, _, _, _, _, _, _, _, _, _, _, _, _, _, _, _, _, _, _, _, _, _, _, _, _, _, _, _, _, _, _, _, _, _, _, _, _, _, _, _, _, _, _, _, _, _, _, _, _, _, _, _, _, _, _, _, _, _, _, _, _, _, _, _, _, _, _, _, _, _, _, _, _, _, _, _, _, _, _, _, _, _, _, _, _, _, _, _, _, _, _, _, _, _, _, _, _, _, _, _, _, _, _, _, _, _, _, _, _, _, _, _, _, _, _, _, _, _, _, _, _, _, _, _, _, _, _, _, _, _, _, _, _, _, _, _, _, _, _, _, _, _, _, _, _, _, _, _, _]) _
  refine q_is rfl rfl (does_assign (u := (.slice p596 ((([(cf .f32 r353)]) ++ [(cf .f32 r583)]).length) q597)) (ev rfl)) (by dsimp only [List.set]; try rfl) ?_
  refine wpList_nil (hK371 _ _ ?_)
  refine wp_region_lit ?_
  refine q_is rfl rfl (does_move (u := (Iv 1)) (ev rfl)) (by dsimp only [List.set]; try rfl) ?_
  refine q_is rfl rfl (does_iarith (p := 1) (q := 1) (r := (2)) (ev rfl) (ev rfl) (.inl ⟨rfl, rfl⟩)) (by dsimp only [List.set]; try rfl) ?_
  refine q_is rfl rfl (does_assign (u := (Iv 2)) (ev rfl)) (by dsimp only [List.set]; try rfl) ?_
  refine wpList_nil ?_
  refine un_step ?_
  refine wp_seq_k fun K599 hK599 => ?_
  refine wp_seq_k fun K600 hK600 => ?_
  refine wp_region_lit ?_
  refine q_is rfl rfl (does_move (u := (Iv 2)) (ev rfl)) (by dsimp only [List.set]; try rfl) ?_
  refine q_is rfl rfl (does_icmp (p := 2) (q := 2) (.inr (.inr (.inl rfl))) (ev rfl) (ev rfl)) (by dsimp only [List.set]; try rfl) ?_
  refine wpList_nil (hK600 _ _ ?_)
  refine wp_cond_false (ev rfl) ?_
  refine wp_exit ?_
  refine hK137 _ _ ?_
  refine wp_seq_k fun K601 hK601 => ?_
  refine region_draw (
    [Fact.pure [] (fun v => v = (.slice p596 ((([(cf .f32 r353)]) ++ [(cf .f32 r583)]).length) q597)),
    Fact.mem [149] (fun v w' => PtrR RF w' v (cf .f32 r353)) (by intro v w1 w2 hx h; exact h.ext RF.mono hx),
    Fact.pure [150] (fun v => ∃ r_1 : Nat, v = (Fl r_1) ∧ cf .f32 r_1 = (cf .f32 r353)),
    Fact.pure [] (fun v => v = (.slice p596 ((([(cf .f32 r353)]) ++ [(cf .f32 r583)]).length) q597)),
    Fact.mem [152] (fun v w' => PtrR RF w' v (cf .f32 r583)) (by intro v w1 w2 hx h; exact h.ext RF.mono hx),
    Fact.pure [153] (fun v => ∃ r_1 : Nat, v = (Fl r_1) ∧ cf .f32 r_1 = (cf .f32 r583)),
    Fact.pure [] (fun v => v = (Fl r123)),
    Fact.pure [151, 154, 155] (fun v => ∃ r_1 : Nat, v = (Fl r_1) ∧ cf .f32 r_1 = mixF (cf .f32 r353) (cf .f32 r583) (cf .f32 r123))]) mixed (by kernel_rfl) (by intro _ _ d _ _ h; cases d <;> exact h) ?_
  obtain ⟨w602, hw604⟩ : ∃ w', w' = World.drew w588 := ⟨_, rfl⟩; rw [← hw604]; have E603 : Ext w588 w602 := by rw [hw604]; exact Ext.draw _
  clear hw604
  have X605 := Ext.gr X595 E603
  refine RW_d _ rfl (fun v => by dsimp only [List.set]; try rfl) (fun u hu hF => ?_) (fun v606 => ?_)
  · clear hF
    refine doesG_un rfl ?_
    refine (does_move (u := (.slice p596 ((([(cf .f32 r353)]) ++ [(cf .f32 r583)]).length) q597)) (ev rfl)).mono ?_; rintro _ _ ⟨rfl, rfl⟩
    exact ⟨rfl, Ext.refl _⟩
  refine RW_d _ rfl (fun v => by dsimp only [List.set]; try rfl) (fun u hu hF => ?_) (fun v607 => ?_)
  · have h149_ : v606 = (.slice p596 ((([(cf .f32 r353)]) ++ [(cf .f32 r583)]).length) q597) := hF.1
    clear hF
    refine doesG_un rfl ?_
    obtain rfl := h149_
    refine (does_indexSl (R := RF) (i := 0) (xs := ([(cf .f32 r353)]) ++ [(cf .f32 r583)]) (e := (cf .f32 r353)) Try.underlying25 Try.sizeOf22 (ev rfl) (ev rfl) (Sl.ext (hH598 _ ((Same.refl _ _).ext E603)) RF.mono hu) (by omega) rfl).mono ?_; rintro v u' ⟨b, of, cs, hv, hc, hR, hu'⟩; subst hu'
    exact ⟨⟨b, of, cs, hv, hc, hR⟩, Ext.refl _⟩
  refine RW_d _ rfl (fun v => by dsimp only [List.set]; try rfl) (fun u hu hF => ?_) (fun v608 => ?_)
  · have h150_ : PtrR RF u v607 (cf .f32 r353) := hF.1
    clear hF
    refine doesG_un rfl ?_
    obtain ⟨b150_, o150_, _, rfl, hc150_, ⟨r150_1, rfl, h150_2⟩⟩ := h150_
    refine (does_load (u := (Fl r150_1)) (ev rfl) Try.isAgg22 (Cells.at hc150_ 0 rfl)).mono ?_; rintro _ _ ⟨rfl, rfl⟩
    exact ⟨⟨r150_1, rfl, (by simp only [h150_2])⟩, Ext.refl _⟩
  refine RW_d _ rfl (fun v => by dsimp only [List.set]; try rfl) (fun u hu hF => ?_) (fun v609 => ?_)
  · clear hF
    refine doesG_un rfl ?_
    refine (does_move (u := (.slice p596 ((([(cf .f32 r353)]) ++ [(cf .f32 r583)]).length) q597)) (ev rfl)).mono ?_; rintro _ _ ⟨rfl, rfl⟩
    exact ⟨rfl, Ext.refl _⟩
  refine RW_d _ rfl (fun v => by dsimp only [List.set]; try rfl) (fun u hu hF => ?_) (fun v610 => ?_)
  · have h152_ : v609 = (.slice p596 ((([(cf .f32 r353)]) ++ [(cf .f32 r583)]).length) q597) := hF.1
    clear hF
    refine doesG_un rfl ?_
    obtain rfl := h152_
    refine (does_indexSl (R := RF) (i := 1) (xs := ([(cf .f32 r353)]) ++ [(cf .f32 r583)]) (e := (cf .f32 r583)) Try.underlying25 Try.sizeOf22 (ev rfl) (ev rfl) (Sl.ext (hH598 _ ((Same.refl _ _).ext E603)) RF.mono hu) (by omega) rfl).mono ?_; rintro v u' ⟨b, of, cs, hv, hc, hR, hu'⟩; subst hu'
    exact ⟨⟨b, of, cs, hv, hc, hR⟩, Ext.refl _⟩
  refine RW_d _ rfl (fun v => by dsimp only [List.set]; try rfl) (fun u hu hF => ?_) (fun v611 => ?_)
  · have h153_ : PtrR RF u v610 (cf .f32 r583) := hF.1
    clear hF
    refine doesG_un rfl ?_
    obtain ⟨b153_, o153_, _, rfl, hc153_, ⟨r153_1, rfl, h153_2⟩⟩ := h153_
    refine (does_load (u := (Fl r153_1)) (ev rfl) Try.isAgg22 (Cells.at hc153_ 0 rfl)).mono ?_; rintro _ _ ⟨rfl, rfl⟩
    exact ⟨⟨r153_1, rfl, (by simp only [h153_2])⟩, Ext.refl _⟩
  refine RW_d _ rfl (fun v => by dsimp only [List.set]; try rfl) (fun u hu hF => ?_) (fun v612 => ?_)
  · clear hF
    refine doesG_un rfl ?_
    refine (does_move (u := (Fl r123)) (ev rfl)).mono ?_; rintro _ _ ⟨rfl, rfl⟩
    exact ⟨rfl, Ext.refl _⟩
  refine RW_d _ rfl (fun v => by dsimp only [List.set]; try rfl) (fun u hu hF => ?_) (fun v613 => ?_)
  · have h151_ : ∃ r_1 : Nat, v608 = (Fl r_1) ∧ cf .f32 r_1 = (cf .f32 r353) := hF.1
    have h154_ : ∃ r_1 : Nat, v611 = (Fl r_1) ∧ cf .f32 r_1 = (cf .f32 r583) := hF.2.1
    have h155_ : v612 = (Fl r123) := hF.2.2.1
    clear hF
    refine doesG_un rfl ?_
    obtain ⟨r151_1, rfl, h151_2⟩ := h151_
    obtain ⟨r154_1, rfl, h154_2⟩ := h154_
    obtain rfl := h155_
    refine (does_call (args := #[(Fl r151_1), (Fl r154_1), (Fl r123)]) cal33 (evs rfl) (c_spec_l06Mix r151_1 r154_1 r123 _)).mono ?_; rintro v u' ⟨hx, ⟨rn1, hv, k0⟩⟩
    exact ⟨⟨rn1, hv.trans (by simp only [h151_2, h154_2]), (by simp only [k0, h151_2, h154_2])⟩, hx⟩
  refine RW_fin ?_; intro w614 E615 hP616
  obtain ⟨⟨⟨⟨⟨⟨⟨⟨-, -⟩, -⟩, -⟩, -⟩, -⟩, -⟩, -⟩, q617⟩ := hP616
  have X618 := Ext.gr X605 E615
  have q617 : ∃ r_1 : Nat, v613 = (Fl r_1) ∧ cf .f32 r_1 = mixF (cf .f32 r353) (cf .f32 r583) (cf .f32 r123) := q617
  obtain ⟨r619, rfl, h620⟩ := q617
  show wpList _ _ _ _ (fr [_, _, _, _, _, _, _, _, _, _, _, _, _, _, _, _, _, _, _, _, _, _, _, _, _, _, _, _, _, _, _, _, _, _, _, _, _, _, _, _, _, _, _, _, _, _, _, _, _, _, _, _, _, _, _, _, _, _, _, _, _, _, _, _, _, _, _, _, _, _, _, _, _, _, _, _, _, _, _, _, _, _, _, _, _, _, _, _, _, _, _, _, _, _, _, _, _, _, _, _, _, _, _, _, _, _, _, _, _, _, _, _, _, _, _, _, _, _, _, _, _, _, _, _, _, _, _, _, _, _, _, _, _, _, _, _, _, _, _, _, _, _, _, _, _, _, _, _, _, _, _, _, _, _, _, _, _]) _
  refine q_is rfl rfl (does_assign (u := (Fl r619)) (ev rfl)) (by dsimp only [List.set]; try rfl) ?_
  refine wpList_nil (hK601 _ _ ?_)
  refine wp_ret ?_
  refine ret_val (v := (Fl r619)) (res_T rfl (slot rfl)) X618 ?_
  have x621 : cf .f32 r619 = readG A_g A_p := by have v1 := vat_of hel1; (try simp only [hmy, hmz] at v1); (try simp only [h2, h4, h6, h8, h12, h14, h16, h60, h92, h124, hel1, h189, hel2, h227, hel3, h275, hel4, h313, h354, hel5, h419, hel6, h457, hel7, h505, hel8, h543, h584, h620] at v1); have v2 := vat_of hel2; (try simp only [hmy, hmz] at v2); (try simp only [h2, h4, h6, h8, h12, h14, h16, h60, h92, h124, hel1, h189, hel2, h227, hel3, h275, hel4, h313, h354, hel5, h419, hel6, h457, hel7, h505, hel8, h543, h584, h620] at v2); have v3 := vat_of hel3; (try simp only [hmy, hmz] at v3); (try simp only [h2, h4, h6, h8, h12, h14, h16, h60, h92, h124, hel1, h189, hel2, h227, hel3, h275, hel4, h313, h354, hel5, h419, hel6, h457, hel7, h505, hel8, h543, h584, h620] at v3); have v4 := vat_of hel4; (try simp only [hmy, hmz] at v4); (try simp only [h2, h4, h6, h8, h12, h14, h16, h60, h92, h124, hel1, h189, hel2, h227, hel3, h275, hel4, h313, h354, hel5, h419, hel6, h457, hel7, h505, hel8, h543, h584, h620] at v4); have v5 := vat_of hel5; (try simp only [hmy, hmz] at v5); (try simp only [h2, h4, h6, h8, h12, h14, h16, h60, h92, h124, hel1, h189, hel2, h227, hel3, h275, hel4, h313, h354, hel5, h419, hel6, h457, hel7, h505, hel8, h543, h584, h620] at v5); have v6 := vat_of hel6; (try simp only [hmy, hmz] at v6); (try simp only [h2, h4, h6, h8, h12, h14, h16, h60, h92, h124, hel1, h189, hel2, h227, hel3, h275, hel4, h313, h354, hel5, h419, hel6, h457, hel7, h505, hel8, h543, h584, h620] at v6); have v7 := vat_of hel7; (try simp only [hmy, hmz] at v7); (try simp only [h2, h4, h6, h8, h12, h14, h16, h60, h92, h124, hel1, h189, hel2, h227, hel3, h275, hel4, h313, h354, hel5, h419, hel6, h457, hel7, h505, hel8, h543, h584, h620] at v7); have v8 := vat_of hel8; (try simp only [hmy, hmz] at v8); (try simp only [h2, h4, h6, h8, h12, h14, h16, h60, h92, h124, hel1, h189, hel2, h227, hel3, h275, hel4, h313, h354, hel5, h419, hel6, h457, hel7, h505, hel8, h543, h584, h620] at v8); simp only [h2, h4, h6, h8, h12, h14, h16, h60, h92, h124, hel1, h189, hel2, h227, hel3, h275, hel4, h313, h354, hel5, h419, hel6, h457, hel7, h505, hel8, h543, h584, h620, readG, plnG, rowG, v1, v2, v3, v4, v5, v6, v7, v8]
  exact ⟨r619, rfl, x621⟩

/- spec.l02Pick -/
theorem c_spec_l02Pick (v : List Value) (A_v : V3) (n_ : Int) (w : World) (hv_v : RV3 w A_v v) : Gives Try.prog 24 #[(.agg v.toArray), (Iv n_)] w (fun v w' => ∃ r_1 : Nat, v = (Fl r_1) ∧ cf .f32 r_1 = pickV A_v n_) := by
  obtain ⟨r1, r3, r5, rfl, h2, h4, h6⟩ := hv_v
  refine enter [(.agg #[(Fl r1), (Fl r3), (Fl r5)]), (Iv n_), Ud, Ud, Ud, Ud, Ud, Ud, Ud, Ud, Ud, Ud, Ud, Ud, Ud, Ud] Try.func24 rfl Try.ntmps24 rfl ?_
  refine wp_seq_k fun K7 hK7 => ?_
  refine wp_region_lit ?_
  refine seqd rfl rfl (does_box (u := (.agg #[(Fl r1), (Fl r3), (Fl r5)])) (ev rfl)) ?_; rintro _ w12 ⟨b8, rfl, hb9, hB10, E11⟩
  have g13 : w.heap.size ≤ b8 := Nat.le_trans (Below.size (Ext.refl w)) hb9
  change Blk _ _ [(Fl r1), (Fl r3), (Fl r5)] at hB10
  have X14 := Ext.gr (Ext.refl w) E11
  show wpList _ _ _ _ (fr [(.agg #[(Fl r1), (Fl r3), (Fl r5)]), (Iv n_), (Pt b8 0), Ud, Ud, Ud, Ud, Ud, Ud, Ud, Ud, Ud, Ud, Ud, Ud, Ud]) _
  refine q_is (l' := [(.agg #[(Fl r1), (Fl r3), (Fl r5)]), (Iv n_), (Pt b8 0), Ud, (Fl 0), Ud, Ud, Ud, Ud, Ud, Ud, Ud, Ud, Ud, Ud, Ud]) rfl rfl (does_assign (u := (Fl 0)) (ev rfl)) rfl ?_
  refine wpList_nil (hK7 _ _ ?_)
  refine wp_seq_k fun K15 hK15 => ?_
  refine wp_seq_k fun K16 hK16 => ?_
  refine wp_region_lit ?_
  refine q_is (l' := [(.agg #[(Fl r1), (Fl r3), (Fl r5)]), (Iv n_), (Pt b8 0), Ud, (Fl 0), (Iv n_), Ud, Ud, Ud, Ud, Ud, Ud, Ud, Ud, Ud, Ud]) rfl rfl (does_move (u := (Iv n_)) (ev rfl)) rfl ?_
  refine wpList_nil (hK16 _ _ ?_)
  refine wp_block ?_
  refine wp_seq_k fun K17 hK17 => ?_
  refine wp_region_lit ?_
  refine q_is (l' := [(.agg #[(Fl r1), (Fl r3), (Fl r5)]), (Iv n_), (Pt b8 0), Ud, (Fl 0), (Iv n_), Ud, (Bo (icmp .eql n_ 0)), Ud, Ud, Ud, Ud, Ud, Ud, Ud, Ud]) rfl rfl (does_icmp (p := n_) (q := 0) (.inl rfl) (ev rfl) (ev rfl)) rfl ?_
  refine q_is (l' := [(.agg #[(Fl r1), (Fl r3), (Fl r5)]), (Iv n_), (Pt b8 0), Ud, (Fl 0), (Iv n_), (Bo (icmp .eql n_ 0)), (Bo (icmp .eql n_ 0)), Ud, Ud, Ud, Ud, Ud, Ud, Ud, Ud]) rfl rfl (does_assign (u := (Bo (icmp .eql n_ 0))) (ev rfl)) rfl ?_
  refine wpList_nil (hK17 _ _ ?_)
  refine wp_cond_split (t := icmp .eql n_ 0) (ev rfl) (fun c18 => ?_) (fun c18 => ?_)
  · have c18' := c18
    (try simp only [icmp, Bool.and_eq_true, Bool.or_eq_true, Bool.and_eq_false_iff, Bool.or_eq_false_iff, Bool.not_eq_true', Bool.not_eq_false', decide_eq_true_eq, decide_eq_false_iff_not, beq_iff_eq, bne_iff_ne, beq_eq_false_iff_ne, bne_eq_false_iff_eq] at c18')
    refine wp_seq_k fun K19 hK19 => ?_
    refine wp_region_lit ?_
    refine q_is (l' := [(.agg #[(Fl r1), (Fl r3), (Fl r5)]), (Iv n_), (Pt b8 0), Ud, (Fl 0), (Iv n_), (Bo (icmp .eql n_ 0)), (Bo (icmp .eql n_ 0)), (Pt b8 0), Ud, Ud, Ud, Ud, Ud, Ud, Ud]) rfl rfl (does_fieldAddr (ev rfl) fa31_0) rfl ?_
    refine q_is (l' := [(.agg #[(Fl r1), (Fl r3), (Fl r5)]), (Iv n_), (Pt b8 0), Ud, (Fl 0), (Iv n_), (Bo (icmp .eql n_ 0)), (Bo (icmp .eql n_ 0)), (Pt b8 0), (Fl r1), Ud, Ud, Ud, Ud, Ud, Ud]) rfl rfl (does_load (u := (Fl r1)) (ev rfl) Try.isAgg22 (Cells.at (Blk.cells hB10) 0 rfl)) rfl ?_
    refine q_is (l' := [(.agg #[(Fl r1), (Fl r3), (Fl r5)]), (Iv n_), (Pt b8 0), Ud, (Fl r1), (Iv n_), (Bo (icmp .eql n_ 0)), (Bo (icmp .eql n_ 0)), (Pt b8 0), (Fl r1), Ud, Ud, Ud, Ud, Ud, Ud]) rfl rfl (does_assign (u := (Fl r1)) (ev rfl)) rfl ?_
    refine wpList_nil (hK19 _ _ ?_)
    refine wp_ret ?_
    dsimp only [Exit.then, Exit.inBlock]
    refine ret_val (v := (Fl r1)) (res_T rfl (slot rfl)) X14 ?_
    try simp only [h2, h4, h6] at c18
    have x20 : cf .f32 r1 = pickV A_v n_ := by first | (rw [pickV_a (by omega)]; assumption) | (rw [pickV_b (by omega) (by omega)]; assumption) | (rw [pickV_c (by omega) (by omega)]; assumption)
    exact ⟨r1, rfl, x20⟩
  have c18' := c18
  (try simp only [icmp, Bool.and_eq_true, Bool.or_eq_true, Bool.and_eq_false_iff, Bool.or_eq_false_iff, Bool.not_eq_true', Bool.not_eq_false', decide_eq_true_eq, decide_eq_false_iff_not, beq_iff_eq, bne_iff_ne, beq_eq_false_iff_ne, bne_eq_false_iff_eq] at c18')
  refine wp_seq_k fun K21 hK21 => ?_
  refine wp_region_lit ?_
  refine q_is (l' := [(.agg #[(Fl r1), (Fl r3), (Fl r5)]), (Iv n_), (Pt b8 0), Ud, (Fl 0), (Iv n_), (Bo (icmp .eql n_ 0)), (Bo (icmp .eql n_ 0)), Ud, Ud, Ud, (Bo (icmp .eql n_ 1)), Ud, Ud, Ud, Ud]) rfl rfl (does_icmp (p := n_) (q := 1) (.inl rfl) (ev rfl) (ev rfl)) rfl ?_
  refine q_is (l' := [(.agg #[(Fl r1), (Fl r3), (Fl r5)]), (Iv n_), (Pt b8 0), Ud, (Fl 0), (Iv n_), (Bo (icmp .eql n_ 0)), (Bo (icmp .eql n_ 0)), Ud, Ud, (Bo (icmp .eql n_ 1)), (Bo (icmp .eql n_ 1)), Ud, Ud, Ud, Ud]) rfl rfl (does_assign (u := (Bo (icmp .eql n_ 1))) (ev rfl)) rfl ?_
  refine wpList_nil (hK21 _ _ ?_)
  refine wp_cond_split (t := icmp .eql n_ 1) (ev rfl) (fun c22 => ?_) (fun c22 => ?_)
  · have c22' := c22
    (try simp only [icmp, Bool.and_eq_true, Bool.or_eq_true, Bool.and_eq_false_iff, Bool.or_eq_false_iff, Bool.not_eq_true', Bool.not_eq_false', decide_eq_true_eq, decide_eq_false_iff_not, beq_iff_eq, bne_iff_ne, beq_eq_false_iff_ne, bne_eq_false_iff_eq] at c22')
    refine wp_seq_k fun K23 hK23 => ?_
    refine wp_region_lit ?_
    refine q_is (l' := [(.agg #[(Fl r1), (Fl r3), (Fl r5)]), (Iv n_), (Pt b8 0), Ud, (Fl 0), (Iv n_), (Bo (icmp .eql n_ 0)), (Bo (icmp .eql n_ 0)), Ud, Ud, (Bo (icmp .eql n_ 1)), (Bo (icmp .eql n_ 1)), (Pt b8 1), Ud, Ud, Ud]) rfl rfl (does_fieldAddr (ev rfl) fa31_1) rfl ?_
    refine q_is (l' := [(.agg #[(Fl r1), (Fl r3), (Fl r5)]), (Iv n_), (Pt b8 0), Ud, (Fl 0), (Iv n_), (Bo (icmp .eql n_ 0)), (Bo (icmp .eql n_ 0)), Ud, Ud, (Bo (icmp .eql n_ 1)), (Bo (icmp .eql n_ 1)), (Pt b8 1), (Fl r3), Ud, Ud]) rfl rfl (does_load (u := (Fl r3)) (ev rfl) Try.isAgg22 (Cells.at (Blk.cells hB10) 1 rfl)) rfl ?_
    refine q_is (l' := [(.agg #[(Fl r1), (Fl r3), (Fl r5)]), (Iv n_), (Pt b8 0), Ud, (Fl r3), (Iv n_), (Bo (icmp .eql n_ 0)), (Bo (icmp .eql n_ 0)), Ud, Ud, (Bo (icmp .eql n_ 1)), (Bo (icmp .eql n_ 1)), (Pt b8 1), (Fl r3), Ud, Ud]) rfl rfl (does_assign (u := (Fl r3)) (ev rfl)) rfl ?_
    refine wpList_nil (hK23 _ _ ?_)
    refine wp_ret ?_
    dsimp only [Exit.then, Exit.inBlock]
    refine ret_val (v := (Fl r3)) (res_T rfl (slot rfl)) X14 ?_
    try simp only [h2, h4, h6] at c18 c22
    have x24 : cf .f32 r3 = pickV A_v n_ := by first | (rw [pickV_a (by omega)]; assumption) | (rw [pickV_b (by omega) (by omega)]; assumption) | (rw [pickV_c (by omega) (by omega)]; assumption)
    exact ⟨r3, rfl, x24⟩
  have c22' := c22
  (try simp only [icmp, Bool.and_eq_true, Bool.or_eq_true, Bool.and_eq_false_iff, Bool.or_eq_false_iff, Bool.not_eq_true', Bool.not_eq_false', decide_eq_true_eq, decide_eq_false_iff_not, beq_iff_eq, bne_iff_ne, beq_eq_false_iff_ne, bne_eq_false_iff_eq] at c22')
  refine wp_skip (hK15 _ _ ?_)
  refine wp_seq_k fun K25 hK25 => ?_
  refine wp_region_lit ?_
  refine q_is (l' := [(.agg #[(Fl r1), (Fl r3), (Fl r5)]), (Iv n_), (Pt b8 0), Ud, (Fl 0), (Iv n_), (Bo (icmp .eql n_ 0)), (Bo (icmp .eql n_ 0)), Ud, Ud, (Bo (icmp .eql n_ 1)), (Bo (icmp .eql n_ 1)), Ud, Ud, (Pt b8 2), Ud]) rfl rfl (does_fieldAddr (ev rfl) fa31_2) rfl ?_
  refine q_is (l' := [(.agg #[(Fl r1), (Fl r3), (Fl r5)]), (Iv n_), (Pt b8 0), Ud, (Fl 0), (Iv n_), (Bo (icmp .eql n_ 0)), (Bo (icmp .eql n_ 0)), Ud, Ud, (Bo (icmp .eql n_ 1)), (Bo (icmp .eql n_ 1)), Ud, Ud, (Pt b8 2), (Fl r5)]) rfl rfl (does_load (u := (Fl r5)) (ev rfl) Try.isAgg22 (Cells.at (Blk.cells hB10) 2 rfl)) rfl ?_
  refine q_is (l' := [(.agg #[(Fl r1), (Fl r3), (Fl r5)]), (Iv n_), (Pt b8 0), Ud, (Fl r5), (Iv n_), (Bo (icmp .eql n_ 0)), (Bo (icmp .eql n_ 0)), Ud, Ud, (Bo (icmp .eql n_ 1)), (Bo (icmp .eql n_ 1)), Ud, Ud, (Pt b8 2), (Fl r5)]) rfl rfl (does_assign (u := (Fl r5)) (ev rfl)) rfl ?_
  refine wpList_nil (hK25 _ _ ?_)
  refine wp_ret ?_
  refine ret_val (v := (Fl r5)) (res_T rfl (slot rfl)) X14 ?_
  try simp only [h2, h4, h6] at c18 c22
  have x26 : cf .f32 r5 = pickV A_v n_ := by first | (rw [pickV_a (by omega)]; assumption) | (rw [pickV_b (by omega) (by omega)]; assumption) | (rw [pickV_c (by omega) (by omega)]; assumption)
  exact ⟨r5, rfl, x26⟩

/- spec.l02Set -/
theorem c_spec_l02Set (v : List Value) (A_v : V3) (n_ : Int) (c_ : Nat) (w : World) (hv_v : RV3 w A_v v) : Gives Try.prog 25 #[(.agg v.toArray), (Iv n_), (Fl c_)] w (fun v w' => ∃ cs_1 : List Value, v = (.agg cs_1.toArray) ∧ RV3 w (setV A_v n_ (cf .f32 c_)) cs_1) := by
  obtain ⟨r1, r3, r5, rfl, h2, h4, h6⟩ := hv_v
  refine enter [(.agg #[(Fl r1), (Fl r3), (Fl r5)]), (Iv n_), (Fl c_), Ud, Ud, Ud, Ud, Ud, Ud, Ud, Ud, Ud, Ud, Ud, Ud, Ud, Ud, Ud, Ud] Try.func25 rfl Try.ntmps25 rfl ?_
  refine wp_seq_k fun K7 hK7 => ?_
  refine wp_region_lit ?_
  refine seqd rfl rfl (does_box (u := (.agg #[(Fl r1), (Fl r3), (Fl r5)])) (ev rfl)) ?_; rintro _ w12 ⟨b8, rfl, hb9, hB10, E11⟩
  have g13 : w.heap.size ≤ b8 := Nat.le_trans (Below.size (Ext.refl w)) hb9
  change Blk _ _ [(Fl r1), (Fl r3), (Fl r5)] at hB10
  have X14 := Ext.gr (Ext.refl w) E11
  show wpList _ _ _ _ (fr [(.agg #[(Fl r1), (Fl r3), (Fl r5)]), (Iv n_), (Fl c_), (Pt b8 0), Ud, Ud, Ud, Ud, Ud, Ud, Ud, Ud, Ud, Ud, Ud, Ud, Ud, Ud, Ud]) _
  refine seqd rfl rfl (does_alloc z31) ?_; rintro _ w19 ⟨b15, rfl, hb16, hB17, E18⟩
  have n20 : b8 < b15 := Nat.lt_of_lt_of_le (Blk.lt hB10) hb16
  have g21 : w.heap.size ≤ b15 := Nat.le_trans (Below.size X14) hb16
  change Blk _ _ [(Fl 0), (Fl 0), (Fl 0)] at hB17
  have X22 := Ext.gr X14 E18
  show wpList _ _ _ _ (fr [(.agg #[(Fl r1), (Fl r3), (Fl r5)]), (Iv n_), (Fl c_), (Pt b8 0), Ud, Ud, (Pt b15 0), Ud, Ud, Ud, Ud, Ud, Ud, Ud, Ud, Ud, Ud, Ud, Ud]) _
  refine wpList_nil (hK7 _ _ ?_)
  refine wp_seq_k fun K23 hK23 => ?_
  refine wp_seq_k fun K24 hK24 => ?_
  refine wp_region_lit ?_
  refine q_is (l' := [(.agg #[(Fl r1), (Fl r3), (Fl r5)]), (Iv n_), (Fl c_), (Pt b8 0), Ud, Ud, (Pt b15 0), (Iv n_), Ud, Ud, Ud, Ud, Ud, Ud, Ud, Ud, Ud, Ud, Ud]) rfl rfl (does_move (u := (Iv n_)) (ev rfl)) rfl ?_
  refine wpList_nil (hK24 _ _ ?_)
  refine wp_block ?_
  refine wp_seq_k fun K25 hK25 => ?_
  refine wp_region_lit ?_
  refine q_is (l' := [(.agg #[(Fl r1), (Fl r3), (Fl r5)]), (Iv n_), (Fl c_), (Pt b8 0), Ud, Ud, (Pt b15 0), (Iv n_), Ud, Ud, Ud, (Bo (icmp .eql n_ 0)), Ud, Ud, Ud, Ud, Ud, Ud, Ud]) rfl rfl (does_icmp (p := n_) (q := 0) (.inl rfl) (ev rfl) (ev rfl)) rfl ?_
  refine q_is (l' := [(.agg #[(Fl r1), (Fl r3), (Fl r5)]), (Iv n_), (Fl c_), (Pt b8 0), Ud, Ud, (Pt b15 0), (Iv n_), Ud, Ud, (Bo (icmp .eql n_ 0)), (Bo (icmp .eql n_ 0)), Ud, Ud, Ud, Ud, Ud, Ud, Ud]) rfl rfl (does_assign (u := (Bo (icmp .eql n_ 0))) (ev rfl)) rfl ?_
  refine wpList_nil (hK25 _ _ ?_)
  refine wp_cond_split (t := icmp .eql n_ 0) (ev rfl) (fun c26 => ?_) (fun c26 => ?_)
  · have c26' := c26
    (try simp only [icmp, Bool.and_eq_true, Bool.or_eq_true, Bool.and_eq_false_iff, Bool.or_eq_false_iff, Bool.not_eq_true', Bool.not_eq_false', decide_eq_true_eq, decide_eq_false_iff_not, beq_iff_eq, bne_iff_ne, beq_eq_false_iff_ne, bne_eq_false_iff_eq] at c26')
    refine wp_region_lit ?_
    refine q_is (l' := [(.agg #[(Fl r1), (Fl r3), (Fl r5)]), (Iv n_), (Fl c_), (Pt b8 0), Ud, Ud, (Pt b15 0), (Iv n_), Ud, Ud, (Bo (icmp .eql n_ 0)), (Bo (icmp .eql n_ 0)), (Fl c_), Ud, Ud, Ud, Ud, Ud, Ud]) rfl rfl (does_move (u := (Fl c_)) (ev rfl)) rfl ?_
    refine q_is (l' := [(.agg #[(Fl r1), (Fl r3), (Fl r5)]), (Iv n_), (Fl c_), (Pt b8 0), Ud, Ud, (Pt b15 0), (Iv n_), Ud, Ud, (Bo (icmp .eql n_ 0)), (Bo (icmp .eql n_ 0)), (Fl c_), (Pt b8 0), Ud, Ud, Ud, Ud, Ud]) rfl rfl (does_fieldAddr (ev rfl) fa31_0) rfl ?_
    refine seqn rfl rfl (does_store (n := 1) (cs := [(Fl r1), (Fl r3), (Fl r5)]) (u := (Fl c_)) (ev rfl) (ev rfl) Try.sizeOf22 rfl (hB10.ext E18) (Nat.le_of_ble_eq_true rfl) rfl) ?_; rintro _ w29 ⟨rfl, W27, hB28⟩
    change Blk _ _ [(Fl c_), (Fl r3), (Fl r5)] at hB28
    have X30 := Below.wr X22 W27 g13
    refine wpList_nil (hK23 _ _ ?_)
    refine wp_seq_k fun K31 hK31 => ?_
    refine wp_region_lit ?_
    refine q_is (l' := [(.agg #[(Fl r1), (Fl r3), (Fl r5)]), (Iv n_), (Fl c_), (Pt b8 0), Ud, Ud, (Pt b15 0), (Iv n_), Ud, Ud, (Bo (icmp .eql n_ 0)), (Bo (icmp .eql n_ 0)), (Fl c_), (Pt b8 0), Ud, Ud, Ud, Ud, (.agg #[(Fl c_), (Fl r3), (Fl r5)])]) rfl rfl (does_loadAgg (cs := [(Fl c_), (Fl r3), (Fl r5)]) (ev rfl) Try.isAgg31 Try.sizeOf31 (Blk.cells hB28) rfl) rfl ?_
    refine seqn rfl rfl (does_store (n := 3) (cs := [(Fl 0), (Fl 0), (Fl 0)]) (u := (.agg #[(Fl c_), (Fl r3), (Fl r5)])) (ev rfl) (ev rfl) Try.sizeOf31 rfl (hB17.wr W27 (Nat.ne_of_gt n20)) (Nat.le_of_ble_eq_true rfl) rfl) ?_; rintro _ w34 ⟨rfl, W32, hB33⟩
    change Blk _ _ [(Fl c_), (Fl r3), (Fl r5)] at hB33
    have X35 := Below.wr X30 W32 g21
    refine wpList_nil (hK31 _ _ ?_)
    refine wp_ret ?_
    refine ret_val (v := (.agg #[(Fl c_), (Fl r3), (Fl r5)])) (res_C rfl (slot rfl) (run_loadAgg (cs := [(Fl c_), (Fl r3), (Fl r5)]) Try.isAgg31 Try.sizeOf31 (Blk.cells hB33) rfl)) X35 ?_
    try simp only [h2, h4, h6] at c26
    have x36 : cf .f32 c_ = (setV A_v n_ (cf .f32 c_)).x := by first | (rw [setV_a (by omega)] <;> first | rfl | assumption | (simp only [h2, h4, h6, c26]; done)) | (rw [setV_b (by omega) (by omega)] <;> first | rfl | assumption | (simp only [h2, h4, h6, c26]; done)) | (rw [setV_c (by omega) (by omega)] <;> first | rfl | assumption | (simp only [h2, h4, h6, c26]; done))
    have x37 : cf .f32 r3 = (setV A_v n_ (cf .f32 c_)).y := by first | (rw [setV_a (by omega)] <;> first | rfl | assumption | (simp only [h2, h4, h6, c26]; done)) | (rw [setV_b (by omega) (by omega)] <;> first | rfl | assumption | (simp only [h2, h4, h6, c26]; done)) | (rw [setV_c (by omega) (by omega)] <;> first | rfl | assumption | (simp only [h2, h4, h6, c26]; done))
    have x38 : cf .f32 r5 = (setV A_v n_ (cf .f32 c_)).z := by first | (rw [setV_a (by omega)] <;> first | rfl | assumption | (simp only [h2, h4, h6, c26]; done)) | (rw [setV_b (by omega) (by omega)] <;> first | rfl | assumption | (simp only [h2, h4, h6, c26]; done)) | (rw [setV_c (by omega) (by omega)] <;> first | rfl | assumption | (simp only [h2, h4, h6, c26]; done))
    exact ⟨[(Fl c_), (Fl r3), (Fl r5)], rfl, ⟨c_, r3, r5, rfl, x36, x37, x38⟩⟩
  have c26' := c26
  (try simp only [icmp, Bool.and_eq_true, Bool.or_eq_true, Bool.and_eq_false_iff, Bool.or_eq_false_iff, Bool.not_eq_true', Bool.not_eq_false', decide_eq_true_eq, decide_eq_false_iff_not, beq_iff_eq, bne_iff_ne, beq_eq_false_iff_ne, bne_eq_false_iff_eq] at c26')
  refine wp_seq_k fun K39 hK39 => ?_
  refine wp_region_lit ?_
  refine q_is (l' := [(.agg #[(Fl r1), (Fl r3), (Fl r5)]), (Iv n_), (Fl c_), (Pt b8 0), Ud, Ud, (Pt b15 0), (Iv n_), Ud, Ud, (Bo (icmp .eql n_ 0)), (Bo (icmp .eql n_ 0)), Ud, Ud, Ud, (Bo (icmp .eql n_ 1)), Ud, Ud, Ud]) rfl rfl (does_icmp (p := n_) (q := 1) (.inl rfl) (ev rfl) (ev rfl)) rfl ?_
  refine q_is (l' := [(.agg #[(Fl r1), (Fl r3), (Fl r5)]), (Iv n_), (Fl c_), (Pt b8 0), Ud, Ud, (Pt b15 0), (Iv n_), Ud, Ud, (Bo (icmp .eql n_ 0)), (Bo (icmp .eql n_ 0)), Ud, Ud, (Bo (icmp .eql n_ 1)), (Bo (icmp .eql n_ 1)), Ud, Ud, Ud]) rfl rfl (does_assign (u := (Bo (icmp .eql n_ 1))) (ev rfl)) rfl ?_
  refine wpList_nil (hK39 _ _ ?_)
  refine wp_cond_split (t := icmp .eql n_ 1) (ev rfl) (fun c40 => ?_) (fun c40 => ?_)
  · have c40' := c40
    (try simp only [icmp, Bool.and_eq_true, Bool.or_eq_true, Bool.and_eq_false_iff, Bool.or_eq_false_iff, Bool.not_eq_true', Bool.not_eq_false', decide_eq_true_eq, decide_eq_false_iff_not, beq_iff_eq, bne_iff_ne, beq_eq_false_iff_ne, bne_eq_false_iff_eq] at c40')
    refine wp_region_lit ?_
    refine q_is (l' := [(.agg #[(Fl r1), (Fl r3), (Fl r5)]), (Iv n_), (Fl c_), (Pt b8 0), Ud, Ud, (Pt b15 0), (Iv n_), Ud, Ud, (Bo (icmp .eql n_ 0)), (Bo (icmp .eql n_ 0)), Ud, Ud, (Bo (icmp .eql n_ 1)), (Bo (icmp .eql n_ 1)), (Fl c_), Ud, Ud]) rfl rfl (does_move (u := (Fl c_)) (ev rfl)) rfl ?_
    refine q_is (l' := [(.agg #[(Fl r1), (Fl r3), (Fl r5)]), (Iv n_), (Fl c_), (Pt b8 0), Ud, Ud, (Pt b15 0), (Iv n_), Ud, Ud, (Bo (icmp .eql n_ 0)), (Bo (icmp .eql n_ 0)), Ud, Ud, (Bo (icmp .eql n_ 1)), (Bo (icmp .eql n_ 1)), (Fl c_), (Pt b8 1), Ud]) rfl rfl (does_fieldAddr (ev rfl) fa31_1) rfl ?_
    refine seqn rfl rfl (does_store (n := 1) (cs := [(Fl r1), (Fl r3), (Fl r5)]) (u := (Fl c_)) (ev rfl) (ev rfl) Try.sizeOf22 rfl (hB10.ext E18) (Nat.le_of_ble_eq_true rfl) rfl) ?_; rintro _ w43 ⟨rfl, W41, hB42⟩
    change Blk _ _ [(Fl r1), (Fl c_), (Fl r5)] at hB42
    have X44 := Below.wr X22 W41 g13
    refine wpList_nil (hK23 _ _ ?_)
    refine wp_seq_k fun K45 hK45 => ?_
    refine wp_region_lit ?_
    refine q_is (l' := [(.agg #[(Fl r1), (Fl r3), (Fl r5)]), (Iv n_), (Fl c_), (Pt b8 0), Ud, Ud, (Pt b15 0), (Iv n_), Ud, Ud, (Bo (icmp .eql n_ 0)), (Bo (icmp .eql n_ 0)), Ud, Ud, (Bo (icmp .eql n_ 1)), (Bo (icmp .eql n_ 1)), (Fl c_), (Pt b8 1), (.agg #[(Fl r1), (Fl c_), (Fl r5)])]) rfl rfl (does_loadAgg (cs := [(Fl r1), (Fl c_), (Fl r5)]) (ev rfl) Try.isAgg31 Try.sizeOf31 (Blk.cells hB42) rfl) rfl ?_
    refine seqn rfl rfl (does_store (n := 3) (cs := [(Fl 0), (Fl 0), (Fl 0)]) (u := (.agg #[(Fl r1), (Fl c_), (Fl r5)])) (ev rfl) (ev rfl) Try.sizeOf31 rfl (hB17.wr W41 (Nat.ne_of_gt n20)) (Nat.le_of_ble_eq_true rfl) rfl) ?_; rintro _ w48 ⟨rfl, W46, hB47⟩
    change Blk _ _ [(Fl r1), (Fl c_), (Fl r5)] at hB47
    have X49 := Below.wr X44 W46 g21
    refine wpList_nil (hK45 _ _ ?_)
    refine wp_ret ?_
    refine ret_val (v := (.agg #[(Fl r1), (Fl c_), (Fl r5)])) (res_C rfl (slot rfl) (run_loadAgg (cs := [(Fl r1), (Fl c_), (Fl r5)]) Try.isAgg31 Try.sizeOf31 (Blk.cells hB47) rfl)) X49 ?_
    try simp only [h2, h4, h6] at c26 c40
    have x50 : cf .f32 r1 = (setV A_v n_ (cf .f32 c_)).x := by first | (rw [setV_a (by omega)] <;> first | rfl | assumption | (simp only [h2, h4, h6, c26, c40]; done)) | (rw [setV_b (by omega) (by omega)] <;> first | rfl | assumption | (simp only [h2, h4, h6, c26, c40]; done)) | (rw [setV_c (by omega) (by omega)] <;> first | rfl | assumption | (simp only [h2, h4, h6, c26, c40]; done))
    have x51 : cf .f32 c_ = (setV A_v n_ (cf .f32 c_)).y := by first | (rw [setV_a (by omega)] <;> first | rfl | assumption | (simp only [h2, h4, h6, c26, c40]; done)) | (rw [setV_b (by omega) (by omega)] <;> first | rfl | assumption | (simp only [h2, h4, h6, c26, c40]; done)) | (rw [setV_c (by omega) (by omega)] <;> first | rfl | assumption | (simp only [h2, h4, h6, c26, c40]; done))
    have x52 : cf .f32 r5 = (setV A_v n_ (cf .f32 c_)).z := by first | (rw [setV_a (by omega)] <;> first | rfl | assumption | (simp only [h2, h4, h6, c26, c40]; done)) | (rw [setV_b (by omega) (by omega)] <;> first | rfl | assumption | (simp only [h2, h4, h6, c26, c40]; done)) | (rw [setV_c (by omega) (by omega)] <;> first | rfl | assumption | (simp only [h2, h4, h6, c26, c40]; done))
    exact ⟨[(Fl r1), (Fl c_), (Fl r5)], rfl, ⟨r1, c_, r5, rfl, x50, x51, x52⟩⟩
  have c40' := c40
  (try simp only [icmp, Bool.and_eq_true, Bool.or_eq_true, Bool.and_eq_false_iff, Bool.or_eq_false_iff, Bool.not_eq_true', Bool.not_eq_false', decide_eq_true_eq, decide_eq_false_iff_not, beq_iff_eq, bne_iff_ne, beq_eq_false_iff_ne, bne_eq_false_iff_eq] at c40')
  refine wp_region_lit ?_
  refine q_is (l' := [(.agg #[(Fl r1), (Fl r3), (Fl r5)]), (Iv n_), (Fl c_), (Pt b8 0), Ud, Ud, (Pt b15 0), (Iv n_), (Fl c_), Ud, (Bo (icmp .eql n_ 0)), (Bo (icmp .eql n_ 0)), Ud, Ud, (Bo (icmp .eql n_ 1)), (Bo (icmp .eql n_ 1)), Ud, Ud, Ud]) rfl rfl (does_move (u := (Fl c_)) (ev rfl)) rfl ?_
  refine q_is (l' := [(.agg #[(Fl r1), (Fl r3), (Fl r5)]), (Iv n_), (Fl c_), (Pt b8 0), Ud, Ud, (Pt b15 0), (Iv n_), (Fl c_), (Pt b8 2), (Bo (icmp .eql n_ 0)), (Bo (icmp .eql n_ 0)), Ud, Ud, (Bo (icmp .eql n_ 1)), (Bo (icmp .eql n_ 1)), Ud, Ud, Ud]) rfl rfl (does_fieldAddr (ev rfl) fa31_2) rfl ?_
  refine seqn rfl rfl (does_store (n := 1) (cs := [(Fl r1), (Fl r3), (Fl r5)]) (u := (Fl c_)) (ev rfl) (ev rfl) Try.sizeOf22 rfl (hB10.ext E18) (Nat.le_of_ble_eq_true rfl) rfl) ?_; rintro _ w55 ⟨rfl, W53, hB54⟩
  change Blk _ _ [(Fl r1), (Fl r3), (Fl c_)] at hB54
  have X56 := Below.wr X22 W53 g13
  refine wpList_nil (hK23 _ _ ?_)
  refine wp_seq_k fun K57 hK57 => ?_
  refine wp_region_lit ?_
  refine q_is (l' := [(.agg #[(Fl r1), (Fl r3), (Fl r5)]), (Iv n_), (Fl c_), (Pt b8 0), Ud, Ud, (Pt b15 0), (Iv n_), (Fl c_), (Pt b8 2), (Bo (icmp .eql n_ 0)), (Bo (icmp .eql n_ 0)), Ud, Ud, (Bo (icmp .eql n_ 1)), (Bo (icmp .eql n_ 1)), Ud, Ud, (.agg #[(Fl r1), (Fl r3), (Fl c_)])]) rfl rfl (does_loadAgg (cs := [(Fl r1), (Fl r3), (Fl c_)]) (ev rfl) Try.isAgg31 Try.sizeOf31 (Blk.cells hB54) rfl) rfl ?_
  refine seqn rfl rfl (does_store (n := 3) (cs := [(Fl 0), (Fl 0), (Fl 0)]) (u := (.agg #[(Fl r1), (Fl r3), (Fl c_)])) (ev rfl) (ev rfl) Try.sizeOf31 rfl (hB17.wr W53 (Nat.ne_of_gt n20)) (Nat.le_of_ble_eq_true rfl) rfl) ?_; rintro _ w60 ⟨rfl, W58, hB59⟩
  change Blk _ _ [(Fl r1), (Fl r3), (Fl c_)] at hB59
  have X61 := Below.wr X56 W58 g21
  refine wpList_nil (hK57 _ _ ?_)
  refine wp_ret ?_
  refine ret_val (v := (.agg #[(Fl r1), (Fl r3), (Fl c_)])) (res_C rfl (slot rfl) (run_loadAgg (cs := [(Fl r1), (Fl r3), (Fl c_)]) Try.isAgg31 Try.sizeOf31 (Blk.cells hB59) rfl)) X61 ?_
  try simp only [h2, h4, h6] at c26 c40
  have x62 : cf .f32 r1 = (setV A_v n_ (cf .f32 c_)).x := by first | (rw [setV_a (by omega)] <;> first | rfl | assumption | (simp only [h2, h4, h6, c26, c40]; done)) | (rw [setV_b (by omega) (by omega)] <;> first | rfl | assumption | (simp only [h2, h4, h6, c26, c40]; done)) | (rw [setV_c (by omega) (by omega)] <;> first | rfl | assumption | (simp only [h2, h4, h6, c26, c40]; done))
  have x63 : cf .f32 r3 = (setV A_v n_ (cf .f32 c_)).y := by first | (rw [setV_a (by omega)] <;> first | rfl | assumption | (simp only [h2, h4, h6, c26, c40]; done)) | (rw [setV_b (by omega) (by omega)] <;> first | rfl | assumption | (simp only [h2, h4, h6, c26, c40]; done)) | (rw [setV_c (by omega) (by omega)] <;> first | rfl | assumption | (simp only [h2, h4, h6, c26, c40]; done))
  have x64 : cf .f32 c_ = (setV A_v n_ (cf .f32 c_)).z := by first | (rw [setV_a (by omega)] <;> first | rfl | assumption | (simp only [h2, h4, h6, c26, c40]; done)) | (rw [setV_b (by omega) (by omega)] <;> first | rfl | assumption | (simp only [h2, h4, h6, c26, c40]; done)) | (rw [setV_c (by omega) (by omega)] <;> first | rfl | assumption | (simp only [h2, h4, h6, c26, c40]; done))
  exact ⟨[(Fl r1), (Fl r3), (Fl c_)], rfl, ⟨r1, r3, c_, rfl, x62, x63, x64⟩⟩

end Go.Proofs.Ytlpgjgombdcheaa
