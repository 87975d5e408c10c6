/- contracts of functions, each walked once -/
import Derived.Test.YthmejogjmjjmgaaE
namespace Go.Proofs.Ythmejogjmjjmgaa
open Go Go.RowKit
set_option maxRecDepth 100000
set_option linter.unusedVariables false
set_option linter.unusedSimpArgs false

/- spec.l04High -/
theorem c_spec_l04High (a : List Value) (A_a : V3) (b : List Value) (A_b : V3) (w : World) (hv_a : RV3 w A_a a) (hv_b : RV3 w A_b b) : Gives Try.prog 82 #[(.agg a.toArray), (.agg b.toArray)] w (fun v w' => ∃ cs_1 : List Value, v = (.agg cs_1.toArray) ∧ RV3 w (vmax A_a A_b) cs_1) := by
  obtain ⟨r1, r3, r5, rfl, h2, h4, h6⟩ := hv_a
  obtain ⟨r7, r9, r11, rfl, h8, h10, h12⟩ := hv_b
  refine enter [(.agg #[(Fl r1), (Fl r3), (Fl r5)]), (.agg #[(Fl r7), (Fl r9), (Fl r11)]), Ud, Ud, Ud, Ud, Ud, Ud, Ud, Ud, Ud, Ud, Ud, Ud, Ud, Ud, Ud, Ud, Ud, Ud, Ud] Try.func82 rfl Try.ntmps82 rfl ?_
  refine wp_seq_k fun K13 hK13 => ?_
  refine wp_region_lit ?_
  refine seqd rfl rfl (does_box (u := (.agg #[(Fl r1), (Fl r3), (Fl r5)])) (ev rfl)) ?_; rintro _ w18 ⟨b14, rfl, hb15, hB16, E17⟩
  have g19 : w.heap.size ≤ b14 := Nat.le_trans (Below.size (Ext.refl w)) hb15
  change Blk _ _ [(Fl r1), (Fl r3), (Fl r5)] at hB16
  have X20 := Ext.gr (Ext.refl w) E17
  show wpList _ _ _ _ (fr [(.agg #[(Fl r1), (Fl r3), (Fl r5)]), (.agg #[(Fl r7), (Fl r9), (Fl r11)]), (Pt b14 0), Ud, Ud, Ud, Ud, Ud, Ud, Ud, Ud, Ud, Ud, Ud, Ud, Ud, Ud, Ud, Ud, Ud, Ud]) _
  refine seqd rfl rfl (does_box (u := (.agg #[(Fl r7), (Fl r9), (Fl r11)])) (ev rfl)) ?_; rintro _ w25 ⟨b21, rfl, hb22, hB23, E24⟩
  have n26 : b14 < b21 := Nat.lt_of_lt_of_le (Blk.lt hB16) hb22
  have g27 : w.heap.size ≤ b21 := Nat.le_trans (Below.size X20) hb22
  change Blk _ _ [(Fl r7), (Fl r9), (Fl r11)] at hB23
  have X28 := Ext.gr X20 E24
  show wpList _ _ _ _ (fr [(.agg #[(Fl r1), (Fl r3), (Fl r5)]), (.agg #[(Fl r7), (Fl r9), (Fl r11)]), (Pt b14 0), (Pt b21 0), Ud, Ud, Ud, Ud, Ud, Ud, Ud, Ud, Ud, Ud, Ud, Ud, Ud, Ud, Ud, Ud, Ud]) _
  refine seqd rfl rfl (does_alloc z31) ?_; rintro _ w33 ⟨b29, rfl, hb30, hB31, E32⟩
  have n34 : b14 < b29 := Nat.lt_of_lt_of_le (Blk.lt (hB16.ext E24)) hb30
  have n35 : b21 < b29 := Nat.lt_of_lt_of_le (Blk.lt hB23) hb30
  have g36 : w.heap.size ≤ b29 := Nat.le_trans (Below.size X28) hb30
  change Blk _ _ [(Fl 0), (Fl 0), (Fl 0)] at hB31
  have X37 := Ext.gr X28 E32
  show wpList _ _ _ _ (fr [(.agg #[(Fl r1), (Fl r3), (Fl r5)]), (.agg #[(Fl r7), (Fl r9), (Fl r11)]), (Pt b14 0), (Pt b21 0), (Pt b29 0), Ud, Ud, Ud, Ud, Ud, Ud, Ud, Ud, Ud, Ud, Ud, Ud, Ud, Ud, Ud, Ud]) _
  refine wpList_nil (hK13 _ _ ?_)
  refine wp_seq_k fun K38 hK38 => ?_
  refine region_draw (
    [Fact.pure [] (fun v => v = (Pt b14 0)),
    Fact.pure [5] (fun v => v = (Fl r1)),
    Fact.pure [] (fun v => v = (Pt b21 0)),
    Fact.pure [7] (fun v => v = (Fl r7)),
    Fact.pure [6, 8] (fun v => ∃ r_1 : Nat, v = (Fl r_1) ∧ cf .f32 r_1 = fmaxG (cf .f32 r1) (cf .f32 r7)),
    Fact.pure [] (fun v => v = (Pt b14 1)),
    Fact.pure [10] (fun v => v = (Fl r3)),
    Fact.pure [] (fun v => v = (Pt b21 1)),
    Fact.pure [12] (fun v => v = (Fl r9)),
    Fact.pure [11, 13] (fun v => ∃ r_1 : Nat, v = (Fl r_1) ∧ cf .f32 r_1 = fmaxG (cf .f32 r3) (cf .f32 r9)),
    Fact.pure [] (fun v => v = (Pt b14 2)),
    Fact.pure [15] (fun v => v = (Fl r5)),
    Fact.pure [] (fun v => v = (Pt b21 2)),
    Fact.pure [17] (fun v => v = (Fl r11)),
    Fact.pure [16, 18] (fun v => ∃ r_1 : Nat, v = (Fl r_1) ∧ cf .f32 r_1 = fmaxG (cf .f32 r5) (cf .f32 r11)),
    Fact.pure [9, 14, 19] (fun v => ∃ r_1 : Nat, ∃ r_2 : Nat, ∃ r_3 : Nat, v = (.agg #[(Fl r_1), (Fl r_2), (Fl r_3)]) ∧ cf .f32 r_1 = fmaxG (cf .f32 r1) (cf .f32 r7) ∧ cf .f32 r_2 = fmaxG (cf .f32 r3) (cf .f32 r9) ∧ cf .f32 r_3 = fmaxG (cf .f32 r5) (cf .f32 r11))]) mixed (by kernel_rfl) (by intro _ _ d _ _ h; cases d <;> exact h) ?_
  obtain ⟨w39, hw41⟩ : ∃ w', w' = World.drew w33 := ⟨_, rfl⟩; rw [← hw41]; have E40 : Ext w33 w39 := by rw [hw41]; exact Ext.draw _
  clear hw41
  have X42 := Ext.gr X37 E40
  refine RW_d (fun v43 => [(.agg #[(Fl r1), (Fl r3), (Fl r5)]), (.agg #[(Fl r7), (Fl r9), (Fl r11)]), (Pt b14 0), (Pt b21 0), (Pt b29 0), v43, Ud, Ud, Ud, Ud, Ud, Ud, Ud, Ud, Ud, Ud, Ud, Ud, Ud, Ud, Ud]) rfl (fun _ => rfl) (fun u hu hF => ?_) (fun v43 => ?_)
  · clear hF
    refine doesG_un rfl ?_
    refine (does_fieldAddr (ev rfl) fa31_0).mono ?_; rintro _ _ ⟨rfl, rfl⟩
    exact ⟨rfl, Ext.refl _⟩
  refine RW_d (fun v44 => [(.agg #[(Fl r1), (Fl r3), (Fl r5)]), (.agg #[(Fl r7), (Fl r9), (Fl r11)]), (Pt b14 0), (Pt b21 0), (Pt b29 0), v43, v44, Ud, Ud, Ud, Ud, Ud, Ud, Ud, Ud, Ud, Ud, Ud, Ud, Ud, Ud]) rfl (fun _ => rfl) (fun u hu hF => ?_) (fun v44 => ?_)
  · have h5_ : v43 = (Pt b14 0) := hF.1
    clear hF
    obtain rfl := h5_
    refine doesG_un rfl ?_
    refine (does_load (u := (Fl r1)) (ev rfl) Try.isAgg25 (Cells.at (Blk.cells ((((hB16.ext E24).ext E32).ext E40).ext hu)) 0 rfl)).mono ?_; rintro _ _ ⟨rfl, rfl⟩
    exact ⟨rfl, Ext.refl _⟩
  refine RW_d (fun v45 => [(.agg #[(Fl r1), (Fl r3), (Fl r5)]), (.agg #[(Fl r7), (Fl r9), (Fl r11)]), (Pt b14 0), (Pt b21 0), (Pt b29 0), v43, v44, v45, Ud, Ud, Ud, Ud, Ud, Ud, Ud, Ud, Ud, Ud, Ud, Ud, Ud]) rfl (fun _ => rfl) (fun u hu hF => ?_) (fun v45 => ?_)
  · clear hF
    refine doesG_un rfl ?_
    refine (does_fieldAddr (ev rfl) fa31_0).mono ?_; rintro _ _ ⟨rfl, rfl⟩
    exact ⟨rfl, Ext.refl _⟩
  refine RW_d (fun v46 => [(.agg #[(Fl r1), (Fl r3), (Fl r5)]), (.agg #[(Fl r7), (Fl r9), (Fl r11)]), (Pt b14 0), (Pt b21 0), (Pt b29 0), v43, v44, v45, v46, Ud, Ud, Ud, Ud, Ud, Ud, Ud, Ud, Ud, Ud, Ud, Ud]) rfl (fun _ => rfl) (fun u hu hF => ?_) (fun v46 => ?_)
  · have h7_ : v45 = (Pt b21 0) := hF.1
    clear hF
    obtain rfl := h7_
    refine doesG_un rfl ?_
    refine (does_load (u := (Fl r7)) (ev rfl) Try.isAgg25 (Cells.at (Blk.cells (((hB23.ext E32).ext E40).ext hu)) 0 rfl)).mono ?_; rintro _ _ ⟨rfl, rfl⟩
    exact ⟨rfl, Ext.refl _⟩
  refine RW_d (fun v47 => [(.agg #[(Fl r1), (Fl r3), (Fl r5)]), (.agg #[(Fl r7), (Fl r9), (Fl r11)]), (Pt b14 0), (Pt b21 0), (Pt b29 0), v43, v44, v45, v46, v47, Ud, Ud, Ud, Ud, Ud, Ud, Ud, Ud, Ud, Ud, Ud]) rfl (fun _ => rfl) (fun u hu hF => ?_) (fun v47 => ?_)
  · have h6_ : v44 = (Fl r1) := hF.1
    have h8_ : v46 = (Fl r7) := hF.2.1
    clear hF
    obtain rfl := h6_
    obtain rfl := h8_
    refine doesG_un rfl ?_
    refine (does_call (args := #[(Fl r1), (Fl r7)]) cal98 (evs rfl) (c_spec_l02Greater r1 r7 _)).mono ?_; rintro v u' ⟨hx, ⟨rn1, hv, k0⟩⟩
    exact ⟨⟨rn1, hv, (by simp only [k0])⟩, hx⟩
  refine RW_d (fun v48 => [(.agg #[(Fl r1), (Fl r3), (Fl r5)]), (.agg #[(Fl r7), (Fl r9), (Fl r11)]), (Pt b14 0), (Pt b21 0), (Pt b29 0), v43, v44, v45, v46, v47, v48, Ud, Ud, Ud, Ud, Ud, Ud, Ud, Ud, Ud, Ud]) rfl (fun _ => rfl) (fun u hu hF => ?_) (fun v48 => ?_)
  · clear hF
    refine doesG_un rfl ?_
    refine (does_fieldAddr (ev rfl) fa31_1).mono ?_; rintro _ _ ⟨rfl, rfl⟩
    exact ⟨rfl, Ext.refl _⟩
  refine RW_d (fun v49 => [(.agg #[(Fl r1), (Fl r3), (Fl r5)]), (.agg #[(Fl r7), (Fl r9), (Fl r11)]), (Pt b14 0), (Pt b21 0), (Pt b29 0), v43, v44, v45, v46, v47, v48, v49, Ud, Ud, Ud, Ud, Ud, Ud, Ud, Ud, Ud]) rfl (fun _ => rfl) (fun u hu hF => ?_) (fun v49 => ?_)
  · have h10_ : v48 = (Pt b14 1) := hF.1
    clear hF
    obtain rfl := h10_
    refine doesG_un rfl ?_
    refine (does_load (u := (Fl r3)) (ev rfl) Try.isAgg25 (Cells.at (Blk.cells ((((hB16.ext E24).ext E32).ext E40).ext hu)) 1 rfl)).mono ?_; rintro _ _ ⟨rfl, rfl⟩
    exact ⟨rfl, Ext.refl _⟩
  refine RW_d (fun v50 => [(.agg #[(Fl r1), (Fl r3), (Fl r5)]), (.agg #[(Fl r7), (Fl r9), (Fl r11)]), (Pt b14 0), (Pt b21 0), (Pt b29 0), v43, v44, v45, v46, v47, v48, v49, v50, Ud, Ud, Ud, Ud, Ud, Ud, Ud, Ud]) rfl (fun _ => rfl) (fun u hu hF => ?_) (fun v50 => ?_)
  · clear hF
    refine doesG_un rfl ?_
    refine (does_fieldAddr (ev rfl) fa31_1).mono ?_; rintro _ _ ⟨rfl, rfl⟩
    exact ⟨rfl, Ext.refl _⟩
  refine RW_d (fun v51 => [(.agg #[(Fl r1), (Fl r3), (Fl r5)]), (.agg #[(Fl r7), (Fl r9), (Fl r11)]), (Pt b14 0), (Pt b21 0), (Pt b29 0), v43, v44, v45, v46, v47, v48, v49, v50, v51, Ud, Ud, Ud, Ud, Ud, Ud, Ud]) rfl (fun _ => rfl) (fun u hu hF => ?_) (fun v51 => ?_)
  · have h12_ : v50 = (Pt b21 1) := hF.1
    clear hF
    obtain rfl := h12_
    refine doesG_un rfl ?_
    refine (does_load (u := (Fl r9)) (ev rfl) Try.isAgg25 (Cells.at (Blk.cells (((hB23.ext E32).ext E40).ext hu)) 1 rfl)).mono ?_; rintro _ _ ⟨rfl, rfl⟩
    exact ⟨rfl, Ext.refl _⟩
  refine RW_d (fun v52 => [(.agg #[(Fl r1), (Fl r3), (Fl r5)]), (.agg #[(Fl r7), (Fl r9), (Fl r11)]), (Pt b14 0), (Pt b21 0), (Pt b29 0), v43, v44, v45, v46, v47, v48, v49, v50, v51, v52, Ud, Ud, Ud, Ud, Ud, Ud]) rfl (fun _ => rfl) (fun u hu hF => ?_) (fun v52 => ?_)
  · have h11_ : v49 = (Fl r3) := hF.1
    have h13_ : v51 = (Fl r9) := hF.2.1
    clear hF
    obtain rfl := h11_
    obtain rfl := h13_
    refine doesG_un rfl ?_
    refine (does_call (args := #[(Fl r3), (Fl r9)]) cal98 (evs rfl) (c_spec_l02Greater r3 r9 _)).mono ?_; rintro v u' ⟨hx, ⟨rn1, hv, k0⟩⟩
    exact ⟨⟨rn1, hv, (by simp only [k0])⟩, hx⟩
  refine RW_d (fun v53 => [(.agg #[(Fl r1), (Fl r3), (Fl r5)]), (.agg #[(Fl r7), (Fl r9), (Fl r11)]), (Pt b14 0), (Pt b21 0), (Pt b29 0), v43, v44, v45, v46, v47, v48, v49, v50, v51, v52, v53, Ud, Ud, Ud, Ud, Ud]) rfl (fun _ => rfl) (fun u hu hF => ?_) (fun v53 => ?_)
  · clear hF
    refine doesG_un rfl ?_
    refine (does_fieldAddr (ev rfl) fa31_2).mono ?_; rintro _ _ ⟨rfl, rfl⟩
    exact ⟨rfl, Ext.refl _⟩
  refine RW_d (fun v54 => [(.agg #[(Fl r1), (Fl r3), (Fl r5)]), (.agg #[(Fl r7), (Fl r9), (Fl r11)]), (Pt b14 0), (Pt b21 0), (Pt b29 0), v43, v44, v45, v46, v47, v48, v49, v50, v51, v52, v53, v54, Ud, Ud, Ud, Ud]) rfl (fun _ => rfl) (fun u hu hF => ?_) (fun v54 => ?_)
  · have h15_ : v53 = (Pt b14 2) := hF.1
    clear hF
    obtain rfl := h15_
    refine doesG_un rfl ?_
    refine (does_load (u := (Fl r5)) (ev rfl) Try.isAgg25 (Cells.at (Blk.cells ((((hB16.ext E24).ext E32).ext E40).ext hu)) 2 rfl)).mono ?_; rintro _ _ ⟨rfl, rfl⟩
    exact ⟨rfl, Ext.refl _⟩
  refine RW_d (fun v55 => [(.agg #[(Fl r1), (Fl r3), (Fl r5)]), (.agg #[(Fl r7), (Fl r9), (Fl r11)]), (Pt b14 0), (Pt b21 0), (Pt b29 0), v43, v44, v45, v46, v47, v48, v49, v50, v51, v52, v53, v54, v55, Ud, Ud, Ud]) rfl (fun _ => rfl) (fun u hu hF => ?_) (fun v55 => ?_)
  · clear hF
    refine doesG_un rfl ?_
    refine (does_fieldAddr (ev rfl) fa31_2).mono ?_; rintro _ _ ⟨rfl, rfl⟩
    exact ⟨rfl, Ext.refl _⟩
  refine RW_d (fun v56 => [(.agg #[(Fl r1), (Fl r3), (Fl r5)]), (.agg #[(Fl r7), (Fl r9), (Fl r11)]), (Pt b14 0), (Pt b21 0), (Pt b29 0), v43, v44, v45, v46, v47, v48, v49, v50, v51, v52, v53, v54, v55, v56, Ud, Ud]) rfl (fun _ => rfl) (fun u hu hF => ?_) (fun v56 => ?_)
  · have h17_ : v55 = (Pt b21 2) := hF.1
    clear hF
    obtain rfl := h17_
    refine doesG_un rfl ?_
    refine (does_load (u := (Fl r11)) (ev rfl) Try.isAgg25 (Cells.at (Blk.cells (((hB23.ext E32).ext E40).ext hu)) 2 rfl)).mono ?_; rintro _ _ ⟨rfl, rfl⟩
    exact ⟨rfl, Ext.refl _⟩
  refine RW_d (fun v57 => [(.agg #[(Fl r1), (Fl r3), (Fl r5)]), (.agg #[(Fl r7), (Fl r9), (Fl r11)]), (Pt b14 0), (Pt b21 0), (Pt b29 0), v43, v44, v45, v46, v47, v48, v49, v50, v51, v52, v53, v54, v55, v56, v57, Ud]) rfl (fun _ => rfl) (fun u hu hF => ?_) (fun v57 => ?_)
  · have h16_ : v54 = (Fl r5) := hF.1
    have h18_ : v56 = (Fl r11) := hF.2.1
    clear hF
    obtain rfl := h16_
    obtain rfl := h18_
    refine doesG_un rfl ?_
    refine (does_call (args := #[(Fl r5), (Fl r11)]) cal98 (evs rfl) (c_spec_l02Greater r5 r11 _)).mono ?_; rintro v u' ⟨hx, ⟨rn1, hv, k0⟩⟩
    exact ⟨⟨rn1, hv, (by simp only [k0])⟩, hx⟩
  refine RW_d (fun v58 => [(.agg #[(Fl r1), (Fl r3), (Fl r5)]), (.agg #[(Fl r7), (Fl r9), (Fl r11)]), (Pt b14 0), (Pt b21 0), (Pt b29 0), v43, v44, v45, v46, v47, v48, v49, v50, v51, v52, v53, v54, v55, v56, v57, v58]) rfl (fun _ => rfl) (fun u hu hF => ?_) (fun v58 => ?_)
  · have h9_ : ∃ r_1 : Nat, v47 = (Fl r_1) ∧ cf .f32 r_1 = fmaxG (cf .f32 r1) (cf .f32 r7) := hF.1
    have h14_ : ∃ r_1 : Nat, v52 = (Fl r_1) ∧ cf .f32 r_1 = fmaxG (cf .f32 r3) (cf .f32 r9) := hF.2.1
    have h19_ : ∃ r_1 : Nat, v57 = (Fl r_1) ∧ cf .f32 r_1 = fmaxG (cf .f32 r5) (cf .f32 r11) := hF.2.2.1
    clear hF
    obtain ⟨r9_1, rfl, h9_2⟩ := h9_
    obtain ⟨r14_1, rfl, h14_2⟩ := h14_
    obtain ⟨r19_1, rfl, h19_2⟩ := h19_
    refine doesG_un rfl ?_
    refine (does_build (parts' := [(0, (Fl r9_1)), (1, (Fl r14_1)), (2, (Fl r19_1))]) (cells := #[(Fl r9_1), (Fl r14_1), (Fl r19_1)]) (evp rfl) (by kernel_rfl)).mono ?_; rintro _ _ ⟨rfl, rfl⟩
    exact ⟨⟨r9_1, r14_1, r19_1, rfl, (by simp only [h9_2, h14_2, h19_2]), (by simp only [h9_2, h14_2, h19_2]), (by simp only [h9_2, h14_2, h19_2])⟩, Ext.refl _⟩
  refine RW_fin ?_; intro w59 E60 hP61
  obtain ⟨⟨⟨⟨⟨⟨⟨⟨⟨⟨⟨⟨⟨⟨⟨⟨-, -⟩, -⟩, -⟩, -⟩, -⟩, -⟩, -⟩, -⟩, -⟩, -⟩, -⟩, -⟩, -⟩, -⟩, -⟩, q62⟩ := hP61
  have X63 := Ext.gr X42 E60
  have q62 : ∃ r_1 : Nat, ∃ r_2 : Nat, ∃ r_3 : Nat, v58 = (.agg #[(Fl r_1), (Fl r_2), (Fl r_3)]) ∧ cf .f32 r_1 = fmaxG (cf .f32 r1) (cf .f32 r7) ∧ cf .f32 r_2 = fmaxG (cf .f32 r3) (cf .f32 r9) ∧ cf .f32 r_3 = fmaxG (cf .f32 r5) (cf .f32 r11) := q62
  obtain ⟨r64, r66, r68, rfl, h65, h67, h69⟩ := q62
  show wpList _ _ _ _ (fr [(.agg #[(Fl r1), (Fl r3), (Fl r5)]), (.agg #[(Fl r7), (Fl r9), (Fl r11)]), (Pt b14 0), (Pt b21 0), (Pt b29 0), v43, v44, v45, v46, v47, v48, v49, v50, v51, v52, v53, v54, v55, v56, v57, (.agg #[(Fl r64), (Fl r66), (Fl r68)])]) _
  refine seqn rfl rfl (does_store (n := 3) (cs := [(Fl 0), (Fl 0), (Fl 0)]) (u := (.agg #[(Fl r64), (Fl r66), (Fl r68)])) (ev rfl) (ev rfl) Try.sizeOf31 rfl ((hB31.ext E40).ext E60) (Nat.le_of_ble_eq_true rfl) rfl) ?_; rintro _ w72 ⟨rfl, W70, hB71⟩
  change Blk _ _ [(Fl r64), (Fl r66), (Fl r68)] at hB71
  have X73 := Below.wr X63 W70 g36
  refine wpList_nil (hK38 _ _ ?_)
  refine wp_ret ?_
  refine ret_val (v := (.agg #[(Fl r64), (Fl r66), (Fl r68)])) (res_C rfl (slot rfl) (run_loadAgg (cs := [(Fl r64), (Fl r66), (Fl r68)]) Try.isAgg31 Try.sizeOf31 (Blk.cells hB71) rfl)) X73 ?_
  have x74 : cf .f32 r64 = (vmax A_a A_b).x := by first | rfl | (simp only [vmax, h2, h4, h6, h8, h10, h12, h65, h67, h69]; done) | (simp [vmax, h2, h4, h6, h8, h10, h12, h65, h67, h69]; done)
  have x75 : cf .f32 r66 = (vmax A_a A_b).y := by first | rfl | (simp only [vmax, h2, h4, h6, h8, h10, h12, h65, h67, h69]; done) | (simp [vmax, h2, h4, h6, h8, h10, h12, h65, h67, h69]; done)
  have x76 : cf .f32 r68 = (vmax A_a A_b).z := by first | rfl | (simp only [vmax, h2, h4, h6, h8, h10, h12, h65, h67, h69]; done) | (simp [vmax, h2, h4, h6, h8, h10, h12, h65, h67, h69]; done)
  exact ⟨[(Fl r64), (Fl r66), (Fl r68)], rfl, ⟨r64, r66, r68, rfl, x74, x75, x76⟩⟩

/- spec.l02Lesser -/
theorem c_spec_l02Lesser (x : Nat) (y : Nat) (w : World) : Gives Try.prog 113 #[(Fl x), (Fl y)] w (fun v w' => ∃ r_1 : Nat, v = (Fl r_1) ∧ cf .f32 r_1 = fminL (cf .f32 x) (cf .f32 y)) := by
  refine enter [(Fl x), (Fl y), Ud, Ud, Ud, Ud, Ud, Ud, Ud, Ud] Try.func113 rfl Try.ntmps113 rfl ?_
  refine wp_seq_k fun K1 hK1 => ?_
  refine wp_region_lit ?_
  refine q_is (l' := [(Fl x), (Fl y), Ud, Ud, (Fl 0), Ud, Ud, Ud, Ud, Ud]) rfl rfl (does_assign (u := (Fl 0)) (ev rfl)) rfl ?_
  refine wpList_nil (hK1 _ _ ?_)
  refine wp_seq_k fun K2 hK2 => ?_
  refine wp_seq_k fun K3 hK3 => ?_
  refine wp_region_lit ?_
  refine q_is (l' := [(Fl x), (Fl y), Ud, Ud, (Fl 0), (Fl y), Ud, Ud, Ud, Ud]) rfl rfl (does_move (u := (Fl y)) (ev rfl)) rfl ?_
  refine q_is (l' := [(Fl x), (Fl y), Ud, Ud, (Fl 0), (Fl y), (Fl x), Ud, Ud, Ud]) rfl rfl (does_move (u := (Fl x)) (ev rfl)) rfl ?_
  refine q_is (l' := [(Fl x), (Fl y), Ud, Ud, (Fl 0), (Fl y), (Fl x), (Bo (fcmp .lss (ford .f32 (cf .f32 y) (cf .f32 x)))), Ud, Ud]) rfl rfl (does_fcmp (.inr (.inr (.inl rfl))) (ev rfl) (ev rfl)) rfl ?_
  refine wpList_nil (hK3 _ _ ?_)
  refine wp_cond_split (t := fcmp .lss (ford .f32 (cf .f32 y) (cf .f32 x))) (ev rfl) (fun c4 => ?_) (fun c4 => ?_)
  · have c4' := c4
    refine wp_seq_k fun K5 hK5 => ?_
    refine wp_region_lit ?_
    refine q_is (l' := [(Fl x), (Fl y), Ud, Ud, (Fl 0), (Fl y), (Fl x), (Bo (fcmp .lss (ford .f32 (cf .f32 y) (cf .f32 x)))), (Fl y), Ud]) rfl rfl (does_move (u := (Fl y)) (ev rfl)) rfl ?_
    refine q_is (l' := [(Fl x), (Fl y), Ud, Ud, (Fl y), (Fl y), (Fl x), (Bo (fcmp .lss (ford .f32 (cf .f32 y) (cf .f32 x)))), (Fl y), Ud]) rfl rfl (does_assign (u := (Fl y)) (ev rfl)) rfl ?_
    refine wpList_nil (hK5 _ _ ?_)
    refine wp_ret ?_
    dsimp only [Exit.then, Exit.inBlock]
    refine ret_val (v := (Fl y)) (res_T rfl (slot rfl)) (Ext.refl w) ?_
    have x6 : cf .f32 y = fminL (cf .f32 x) (cf .f32 y) := by first | rfl | (simp only [fminL, c4]; done) | (simp [fminL, c4]; done) | (revert c4; simp +contextual [fminL]; done) | (rcases c4' with hh | hh <;> simp only [hh, fminL, c4]; done)
    exact ⟨y, rfl, x6⟩
  have c4' := c4
  refine wp_skip (hK2 _ _ ?_)
  refine wp_seq_k fun K7 hK7 => ?_
  refine wp_region_lit ?_
  refine q_is (l' := [(Fl x), (Fl y), Ud, Ud, (Fl 0), (Fl y), (Fl x), (Bo (fcmp .lss (ford .f32 (cf .f32 y) (cf .f32 x)))), Ud, (Fl x)]) rfl rfl (does_move (u := (Fl x)) (ev rfl)) rfl ?_
  refine q_is (l' := [(Fl x), (Fl y), Ud, Ud, (Fl x), (Fl y), (Fl x), (Bo (fcmp .lss (ford .f32 (cf .f32 y) (cf .f32 x)))), Ud, (Fl x)]) rfl rfl (does_assign (u := (Fl x)) (ev rfl)) rfl ?_
  refine wpList_nil (hK7 _ _ ?_)
  refine wp_ret ?_
  refine ret_val (v := (Fl x)) (res_T rfl (slot rfl)) (Ext.refl w) ?_
  have x8 : cf .f32 x = fminL (cf .f32 x) (cf .f32 y) := by first | rfl | (simp only [fminL, c4]; done) | (simp [fminL, c4]; done) | (revert c4; simp +contextual [fminL]; done) | (rcases c4' with hh | hh <;> simp only [hh, fminL, c4]; done)
  exact ⟨x, rfl, x8⟩

/- spec.l04Low -/
theorem c_spec_l04Low (a : List Value) (A_a : V3) (b : List Value) (A_b : V3) (w : World) (hv_a : RV3 w A_a a) (hv_b : RV3 w A_b b) : Gives Try.prog 83 #[(.agg a.toArray), (.agg b.toArray)] w (fun v w' => ∃ cs_1 : List Value, v = (.agg cs_1.toArray) ∧ RV3 w (vmin A_a A_b) cs_1) := by
  obtain ⟨r1, r3, r5, rfl, h2, h4, h6⟩ := hv_a
  obtain ⟨r7, r9, r11, rfl, h8, h10, h12⟩ := hv_b
  refine enter [(.agg #[(Fl r1), (Fl r3), (Fl r5)]), (.agg #[(Fl r7), (Fl r9), (Fl r11)]), Ud, Ud, Ud, Ud, Ud, Ud, Ud, Ud, Ud, Ud, Ud, Ud, Ud, Ud, Ud, Ud, Ud, Ud, Ud] Try.func83 rfl Try.ntmps83 rfl ?_
  refine wp_seq_k fun K13 hK13 => ?_
  refine wp_region_lit ?_
  refine seqd rfl rfl (does_box (u := (.agg #[(Fl r1), (Fl r3), (Fl r5)])) (ev rfl)) ?_; rintro _ w18 ⟨b14, rfl, hb15, hB16, E17⟩
  have g19 : w.heap.size ≤ b14 := Nat.le_trans (Below.size (Ext.refl w)) hb15
  change Blk _ _ [(Fl r1), (Fl r3), (Fl r5)] at hB16
  have X20 := Ext.gr (Ext.refl w) E17
  show wpList _ _ _ _ (fr [(.agg #[(Fl r1), (Fl r3), (Fl r5)]), (.agg #[(Fl r7), (Fl r9), (Fl r11)]), (Pt b14 0), Ud, Ud, Ud, Ud, Ud, Ud, Ud, Ud, Ud, Ud, Ud, Ud, Ud, Ud, Ud, Ud, Ud, Ud]) _
  refine seqd rfl rfl (does_box (u := (.agg #[(Fl r7), (Fl r9), (Fl r11)])) (ev rfl)) ?_; rintro _ w25 ⟨b21, rfl, hb22, hB23, E24⟩
  have n26 : b14 < b21 := Nat.lt_of_lt_of_le (Blk.lt hB16) hb22
  have g27 : w.heap.size ≤ b21 := Nat.le_trans (Below.size X20) hb22
  change Blk _ _ [(Fl r7), (Fl r9), (Fl r11)] at hB23
  have X28 := Ext.gr X20 E24
  show wpList _ _ _ _ (fr [(.agg #[(Fl r1), (Fl r3), (Fl r5)]), (.agg #[(Fl r7), (Fl r9), (Fl r11)]), (Pt b14 0), (Pt b21 0), Ud, Ud, Ud, Ud, Ud, Ud, Ud, Ud, Ud, Ud, Ud, Ud, Ud, Ud, Ud, Ud, Ud]) _
  refine seqd rfl rfl (does_alloc z31) ?_; rintro _ w33 ⟨b29, rfl, hb30, hB31, E32⟩
  have n34 : b14 < b29 := Nat.lt_of_lt_of_le (Blk.lt (hB16.ext E24)) hb30
  have n35 : b21 < b29 := Nat.lt_of_lt_of_le (Blk.lt hB23) hb30
  have g36 : w.heap.size ≤ b29 := Nat.le_trans (Below.size X28) hb30
  change Blk _ _ [(Fl 0), (Fl 0), (Fl 0)] at hB31
  have X37 := Ext.gr X28 E32
  show wpList _ _ _ _ (fr [(.agg #[(Fl r1), (Fl r3), (Fl r5)]), (.agg #[(Fl r7), (Fl r9), (Fl r11)]), (Pt b14 0), (Pt b21 0), (Pt b29 0), Ud, Ud, Ud, Ud, Ud, Ud, Ud, Ud, Ud, Ud, Ud, Ud, Ud, Ud, Ud, Ud]) _
  refine wpList_nil (hK13 _ _ ?_)
  refine wp_seq_k fun K38 hK38 => ?_
  refine region_draw (
    [Fact.pure [] (fun v => v = (Pt b14 0)),
    Fact.pure [5] (fun v => v = (Fl r1)),
    Fact.pure [] (fun v => v = (Pt b21 0)),
    Fact.pure [7] (fun v => v = (Fl r7)),
    Fact.pure [6, 8] (fun v => ∃ r_1 : Nat, v = (Fl r_1) ∧ cf .f32 r_1 = fminL (cf .f32 r1) (cf .f32 r7)),
    Fact.pure [] (fun v => v = (Pt b14 1)),
    Fact.pure [10] (fun v => v = (Fl r3)),
    Fact.pure [] (fun v => v = (Pt b21 1)),
    Fact.pure [12] (fun v => v = (Fl r9)),
    Fact.pure [11, 13] (fun v => ∃ r_1 : Nat, v = (Fl r_1) ∧ cf .f32 r_1 = fminL (cf .f32 r3) (cf .f32 r9)),
    Fact.pure [] (fun v => v = (Pt b14 2)),
    Fact.pure [15] (fun v => v = (Fl r5)),
    Fact.pure [] (fun v => v = (Pt b21 2)),
    Fact.pure [17] (fun v => v = (Fl r11)),
    Fact.pure [16, 18] (fun v => ∃ r_1 : Nat, v = (Fl r_1) ∧ cf .f32 r_1 = fminL (cf .f32 r5) (cf .f32 r11)),
    Fact.pure [9, 14, 19] (fun v => ∃ r_1 : Nat, ∃ r_2 : Nat, ∃ r_3 : Nat, v = (.agg #[(Fl r_1), (Fl r_2), (Fl r_3)]) ∧ cf .f32 r_1 = fminL (cf .f32 r1) (cf .f32 r7) ∧ cf .f32 r_2 = fminL (cf .f32 r3) (cf .f32 r9) ∧ cf .f32 r_3 = fminL (cf .f32 r5) (cf .f32 r11))]) mixed (by kernel_rfl) (by intro _ _ d _ _ h; cases d <;> exact h) ?_
  obtain ⟨w39, hw41⟩ : ∃ w', w' = World.drew w33 := ⟨_, rfl⟩; rw [← hw41]; have E40 : Ext w33 w39 := by rw [hw41]; exact Ext.draw _
  clear hw41
  have X42 := Ext.gr X37 E40
  refine RW_d (fun v43 => [(.agg #[(Fl r1), (Fl r3), (Fl r5)]), (.agg #[(Fl r7), (Fl r9), (Fl r11)]), (Pt b14 0), (Pt b21 0), (Pt b29 0), v43, Ud, Ud, Ud, Ud, Ud, Ud, Ud, Ud, Ud, Ud, Ud, Ud, Ud, Ud, Ud]) rfl (fun _ => rfl) (fun u hu hF => ?_) (fun v43 => ?_)
  · clear hF
    refine doesG_un rfl ?_
    refine (does_fieldAddr (ev rfl) fa31_0).mono ?_; rintro _ _ ⟨rfl, rfl⟩
    exact ⟨rfl, Ext.refl _⟩
  refine RW_d (fun v44 => [(.agg #[(Fl r1), (Fl r3), (Fl r5)]), (.agg #[(Fl r7), (Fl r9), (Fl r11)]), (Pt b14 0), (Pt b21 0), (Pt b29 0), v43, v44, Ud, Ud, Ud, Ud, Ud, Ud, Ud, Ud, Ud, Ud, Ud, Ud, Ud, Ud]) rfl (fun _ => rfl) (fun u hu hF => ?_) (fun v44 => ?_)
  · have h5_ : v43 = (Pt b14 0) := hF.1
    clear hF
    obtain rfl := h5_
    refine doesG_un rfl ?_
    refine (does_load (u := (Fl r1)) (ev rfl) Try.isAgg25 (Cells.at (Blk.cells ((((hB16.ext E24).ext E32).ext E40).ext hu)) 0 rfl)).mono ?_; rintro _ _ ⟨rfl, rfl⟩
    exact ⟨rfl, Ext.refl _⟩
  refine RW_d (fun v45 => [(.agg #[(Fl r1), (Fl r3), (Fl r5)]), (.agg #[(Fl r7), (Fl r9), (Fl r11)]), (Pt b14 0), (Pt b21 0), (Pt b29 0), v43, v44, v45, Ud, Ud, Ud, Ud, Ud, Ud, Ud, Ud, Ud, Ud, Ud, Ud, Ud]) rfl (fun _ => rfl) (fun u hu hF => ?_) (fun v45 => ?_)
  · clear hF
    refine doesG_un rfl ?_
    refine (does_fieldAddr (ev rfl) fa31_0).mono ?_; rintro _ _ ⟨rfl, rfl⟩
    exact ⟨rfl, Ext.refl _⟩
  refine RW_d (fun v46 => [(.agg #[(Fl r1), (Fl r3), (Fl r5)]), (.agg #[(Fl r7), (Fl r9), (Fl r11)]), (Pt b14 0), (Pt b21 0), (Pt b29 0), v43, v44, v45, v46, Ud, Ud, Ud, Ud, Ud, Ud, Ud, Ud, Ud, Ud, Ud, Ud]) rfl (fun _ => rfl) (fun u hu hF => ?_) (fun v46 => ?_)
  · have h7_ : v45 = (Pt b21 0) := hF.1
    clear hF
    obtain rfl := h7_
    refine doesG_un rfl ?_
    refine (does_load (u := (Fl r7)) (ev rfl) Try.isAgg25 (Cells.at (Blk.cells (((hB23.ext E32).ext E40).ext hu)) 0 rfl)).mono ?_; rintro _ _ ⟨rfl, rfl⟩
    exact ⟨rfl, Ext.refl _⟩
  refine RW_d (fun v47 => [(.agg #[(Fl r1), (Fl r3), (Fl r5)]), (.agg #[(Fl r7), (Fl r9), (Fl r11)]), (Pt b14 0), (Pt b21 0), (Pt b29 0), v43, v44, v45, v46, v47, Ud, Ud, Ud, Ud, Ud, Ud, Ud, Ud, Ud, Ud, Ud]) rfl (fun _ => rfl) (fun u hu hF => ?_) (fun v47 => ?_)
  · have h6_ : v44 = (Fl r1) := hF.1
    have h8_ : v46 = (Fl r7) := hF.2.1
    clear hF
    obtain rfl := h6_
    obtain rfl := h8_
    refine doesG_un rfl ?_
    refine (does_call (args := #[(Fl r1), (Fl r7)]) cal113 (evs rfl) (c_spec_l02Lesser r1 r7 _)).mono ?_; rintro v u' ⟨hx, ⟨rn1, hv, k0⟩⟩
    exact ⟨⟨rn1, hv, (by simp only [k0])⟩, hx⟩
  refine RW_d (fun v48 => [(.agg #[(Fl r1), (Fl r3), (Fl r5)]), (.agg #[(Fl r7), (Fl r9), (Fl r11)]), (Pt b14 0), (Pt b21 0), (Pt b29 0), v43, v44, v45, v46, v47, v48, Ud, Ud, Ud, Ud, Ud, Ud, Ud, Ud, Ud, Ud]) rfl (fun _ => rfl) (fun u hu hF => ?_) (fun v48 => ?_)
  · clear hF
    refine doesG_un rfl ?_
    refine (does_fieldAddr (ev rfl) fa31_1).mono ?_; rintro _ _ ⟨rfl, rfl⟩
    exact ⟨rfl, Ext.refl _⟩
  refine RW_d (fun v49 => [(.agg #[(Fl r1), (Fl r3), (Fl r5)]), (.agg #[(Fl r7), (Fl r9), (Fl r11)]), (Pt b14 0), (Pt b21 0), (Pt b29 0), v43, v44, v45, v46, v47, v48, v49, Ud, Ud, Ud, Ud, Ud, Ud, Ud, Ud, Ud]) rfl (fun _ => rfl) (fun u hu hF => ?_) (fun v49 => ?_)
  · have h10_ : v48 = (Pt b14 1) := hF.1
    clear hF
    obtain rfl := h10_
    refine doesG_un rfl ?_
    refine (does_load (u := (Fl r3)) (ev rfl) Try.isAgg25 (Cells.at (Blk.cells ((((hB16.ext E24).ext E32).ext E40).ext hu)) 1 rfl)).mono ?_; rintro _ _ ⟨rfl, rfl⟩
    exact ⟨rfl, Ext.refl _⟩
  refine RW_d (fun v50 => [(.agg #[(Fl r1), (Fl r3), (Fl r5)]), (.agg #[(Fl r7), (Fl r9), (Fl r11)]), (Pt b14 0), (Pt b21 0), (Pt b29 0), v43, v44, v45, v46, v47, v48, v49, v50, Ud, Ud, Ud, Ud, Ud, Ud, Ud, Ud]) rfl (fun _ => rfl) (fun u hu hF => ?_) (fun v50 => ?_)
  · clear hF
    refine doesG_un rfl ?_
    refine (does_fieldAddr (ev rfl) fa31_1).mono ?_; rintro _ _ ⟨rfl, rfl⟩
    exact ⟨rfl, Ext.refl _⟩
  refine RW_d (fun v51 => [(.agg #[(Fl r1), (Fl r3), (Fl r5)]), (.agg #[(Fl r7), (Fl r9), (Fl r11)]), (Pt b14 0), (Pt b21 0), (Pt b29 0), v43, v44, v45, v46, v47, v48, v49, v50, v51, Ud, Ud, Ud, Ud, Ud, Ud, Ud]) rfl (fun _ => rfl) (fun u hu hF => ?_) (fun v51 => ?_)
  · have h12_ : v50 = (Pt b21 1) := hF.1
    clear hF
    obtain rfl := h12_
    refine doesG_un rfl ?_
    refine (does_load (u := (Fl r9)) (ev rfl) Try.isAgg25 (Cells.at (Blk.cells (((hB23.ext E32).ext E40).ext hu)) 1 rfl)).mono ?_; rintro _ _ ⟨rfl, rfl⟩
    exact ⟨rfl, Ext.refl _⟩
  refine RW_d (fun v52 => [(.agg #[(Fl r1), (Fl r3), (Fl r5)]), (.agg #[(Fl r7), (Fl r9), (Fl r11)]), (Pt b14 0), (Pt b21 0), (Pt b29 0), v43, v44, v45, v46, v47, v48, v49, v50, v51, v52, Ud, Ud, Ud, Ud, Ud, Ud]) rfl (fun _ => rfl) (fun u hu hF => ?_) (fun v52 => ?_)
  · have h11_ : v49 = (Fl r3) := hF.1
    have h13_ : v51 = (Fl r9) := hF.2.1
    clear hF
    obtain rfl := h11_
    obtain rfl := h13_
    refine doesG_un rfl ?_
    refine (does_call (args := #[(Fl r3), (Fl r9)]) cal113 (evs rfl) (c_spec_l02Lesser r3 r9 _)).mono ?_; rintro v u' ⟨hx, ⟨rn1, hv, k0⟩⟩
    exact ⟨⟨rn1, hv, (by simp only [k0])⟩, hx⟩
  refine RW_d (fun v53 => [(.agg #[(Fl r1), (Fl r3), (Fl r5)]), (.agg #[(Fl r7), (Fl r9), (Fl r11)]), (Pt b14 0), (Pt b21 0), (Pt b29 0), v43, v44, v45, v46, v47, v48, v49, v50, v51, v52, v53, Ud, Ud, Ud, Ud, Ud]) rfl (fun _ => rfl) (fun u hu hF => ?_) (fun v53 => ?_)
  · clear hF
    refine doesG_un rfl ?_
    refine (does_fieldAddr (ev rfl) fa31_2).mono ?_; rintro _ _ ⟨rfl, rfl⟩
    exact ⟨rfl, Ext.refl _⟩
  refine RW_d (fun v54 => [(.agg #[(Fl r1), (Fl r3), (Fl r5)]), (.agg #[(Fl r7), (Fl r9), (Fl r11)]), (Pt b14 0), (Pt b21 0), (Pt b29 0), v43, v44, v45, v46, v47, v48, v49, v50, v51, v52, v53, v54, Ud, Ud, Ud, Ud]) rfl (fun _ => rfl) (fun u hu hF => ?_) (fun v54 => ?_)
  · have h15_ : v53 = (Pt b14 2) := hF.1
    clear hF
    obtain rfl := h15_
    refine doesG_un rfl ?_
    refine (does_load (u := (Fl r5)) (ev rfl) Try.isAgg25 (Cells.at (Blk.cells ((((hB16.ext E24).ext E32).ext E40).ext hu)) 2 rfl)).mono ?_; rintro _ _ ⟨rfl, rfl⟩
    exact ⟨rfl, Ext.refl _⟩
  refine RW_d (fun v55 => [(.agg #[(Fl r1), (Fl r3), (Fl r5)]), (.agg #[(Fl r7), (Fl r9), (Fl r11)]), (Pt b14 0), (Pt b21 0), (Pt b29 0), v43, v44, v45, v46, v47, v48, v49, v50, v51, v52, v53, v54, v55, Ud, Ud, Ud]) rfl (fun _ => rfl) (fun u hu hF => ?_) (fun v55 => ?_)
  · clear hF
    refine doesG_un rfl ?_
    refine (does_fieldAddr (ev rfl) fa31_2).mono ?_; rintro _ _ ⟨rfl, rfl⟩
    exact ⟨rfl, Ext.refl _⟩
  refine RW_d (fun v56 => [(.agg #[(Fl r1), (Fl r3), (Fl r5)]), (.agg #[(Fl r7), (Fl r9), (Fl r11)]), (Pt b14 0), (Pt b21 0), (Pt b29 0), v43, v44, v45, v46, v47, v48, v49, v50, v51, v52, v53, v54, v55, v56, Ud, Ud]) rfl (fun _ => rfl) (fun u hu hF => ?_) (fun v56 => ?_)
  · have h17_ : v55 = (Pt b21 2) := hF.1
    clear hF
    obtain rfl := h17_
    refine doesG_un rfl ?_
    refine (does_load (u := (Fl r11)) (ev rfl) Try.isAgg25 (Cells.at (Blk.cells (((hB23.ext E32).ext E40).ext hu)) 2 rfl)).mono ?_; rintro _ _ ⟨rfl, rfl⟩
    exact ⟨rfl, Ext.refl _⟩
  refine RW_d (fun v57 => [(.agg #[(Fl r1), (Fl r3), (Fl r5)]), (.agg #[(Fl r7), (Fl r9), (Fl r11)]), (Pt b14 0), (Pt b21 0), (Pt b29 0), v43, v44, v45, v46, v47, v48, v49, v50, v51, v52, v53, v54, v55, v56, v57, Ud]) rfl (fun _ => rfl) (fun u hu hF => ?_) (fun v57 => ?_)
  · have h16_ : v54 = (Fl r5) := hF.1
    have h18_ : v56 = (Fl r11) := hF.2.1
    clear hF
    obtain rfl := h16_
    obtain rfl := h18_
    refine doesG_un rfl ?_
    refine (does_call (args := #[(Fl r5), (Fl r11)]) cal113 (evs rfl) (c_spec_l02Lesser r5 r11 _)).mono ?_; rintro v u' ⟨hx, ⟨rn1, hv, k0⟩⟩
    exact ⟨⟨rn1, hv, (by simp only [k0])⟩, hx⟩
  refine RW_d (fun v58 => [(.agg #[(Fl r1), (Fl r3), (Fl r5)]), (.agg #[(Fl r7), (Fl r9), (Fl r11)]), (Pt b14 0), (Pt b21 0), (Pt b29 0), v43, v44, v45, v46, v47, v48, v49, v50, v51, v52, v53, v54, v55, v56, v57, v58]) rfl (fun _ => rfl) (fun u hu hF => ?_) (fun v58 => ?_)
  · have h9_ : ∃ r_1 : Nat, v47 = (Fl r_1) ∧ cf .f32 r_1 = fminL (cf .f32 r1) (cf .f32 r7) := hF.1
    have h14_ : ∃ r_1 : Nat, v52 = (Fl r_1) ∧ cf .f32 r_1 = fminL (cf .f32 r3) (cf .f32 r9) := hF.2.1
    have h19_ : ∃ r_1 : Nat, v57 = (Fl r_1) ∧ cf .f32 r_1 = fminL (cf .f32 r5) (cf .f32 r11) := hF.2.2.1
    clear hF
    obtain ⟨r9_1, rfl, h9_2⟩ := h9_
    obtain ⟨r14_1, rfl, h14_2⟩ := h14_
    obtain ⟨r19_1, rfl, h19_2⟩ := h19_
    refine doesG_un rfl ?_
    refine (does_build (parts' := [(0, (Fl r9_1)), (1, (Fl r14_1)), (2, (Fl r19_1))]) (cells := #[(Fl r9_1), (Fl r14_1), (Fl r19_1)]) (evp rfl) (by kernel_rfl)).mono ?_; rintro _ _ ⟨rfl, rfl⟩
    exact ⟨⟨r9_1, r14_1, r19_1, rfl, (by simp only [h9_2, h14_2, h19_2]), (by simp only [h9_2, h14_2, h19_2]), (by simp only [h9_2, h14_2, h19_2])⟩, Ext.refl _⟩
  refine RW_fin ?_; intro w59 E60 hP61
  obtain ⟨⟨⟨⟨⟨⟨⟨⟨⟨⟨⟨⟨⟨⟨⟨⟨-, -⟩, -⟩, -⟩, -⟩, -⟩, -⟩, -⟩, -⟩, -⟩, -⟩, -⟩, -⟩, -⟩, -⟩, -⟩, q62⟩ := hP61
  have X63 := Ext.gr X42 E60
  have q62 : ∃ r_1 : Nat, ∃ r_2 : Nat, ∃ r_3 : Nat, v58 = (.agg #[(Fl r_1), (Fl r_2), (Fl r_3)]) ∧ cf .f32 r_1 = fminL (cf .f32 r1) (cf .f32 r7) ∧ cf .f32 r_2 = fminL (cf .f32 r3) (cf .f32 r9) ∧ cf .f32 r_3 = fminL (cf .f32 r5) (cf .f32 r11) := q62
  obtain ⟨r64, r66, r68, rfl, h65, h67, h69⟩ := q62
  show wpList _ _ _ _ (fr [(.agg #[(Fl r1), (Fl r3), (Fl r5)]), (.agg #[(Fl r7), (Fl r9), (Fl r11)]), (Pt b14 0), (Pt b21 0), (Pt b29 0), v43, v44, v45, v46, v47, v48, v49, v50, v51, v52, v53, v54, v55, v56, v57, (.agg #[(Fl r64), (Fl r66), (Fl r68)])]) _
  refine seqn rfl rfl (does_store (n := 3) (cs := [(Fl 0), (Fl 0), (Fl 0)]) (u := (.agg #[(Fl r64), (Fl r66), (Fl r68)])) (ev rfl) (ev rfl) Try.sizeOf31 rfl ((hB31.ext E40).ext E60) (Nat.le_of_ble_eq_true rfl) rfl) ?_; rintro _ w72 ⟨rfl, W70, hB71⟩
  change Blk _ _ [(Fl r64), (Fl r66), (Fl r68)] at hB71
  have X73 := Below.wr X63 W70 g36
  refine wpList_nil (hK38 _ _ ?_)
  refine wp_ret ?_
  refine ret_val (v := (.agg #[(Fl r64), (Fl r66), (Fl r68)])) (res_C rfl (slot rfl) (run_loadAgg (cs := [(Fl r64), (Fl r66), (Fl r68)]) Try.isAgg31 Try.sizeOf31 (Blk.cells hB71) rfl)) X73 ?_
  have x74 : cf .f32 r64 = (vmin A_a A_b).x := by first | rfl | (simp only [vmin, h2, h4, h6, h8, h10, h12, h65, h67, h69]; done) | (simp [vmin, h2, h4, h6, h8, h10, h12, h65, h67, h69]; done)
  have x75 : cf .f32 r66 = (vmin A_a A_b).y := by first | rfl | (simp only [vmin, h2, h4, h6, h8, h10, h12, h65, h67, h69]; done) | (simp [vmin, h2, h4, h6, h8, h10, h12, h65, h67, h69]; done)
  have x76 : cf .f32 r68 = (vmin A_a A_b).z := by first | rfl | (simp only [vmin, h2, h4, h6, h8, h10, h12, h65, h67, h69]; done) | (simp [vmin, h2, h4, h6, h8, h10, h12, h65, h67, h69]; done)
  exact ⟨[(Fl r64), (Fl r66), (Fl r68)], rfl, ⟨r64, r66, r68, rfl, x74, x75, x76⟩⟩

/- spec.CutBoxes -/
theorem c_spec_CutBoxes (a : List Value) (A_a : Bx) (b : List Value) (A_b : Bx) (w : World) (hv_a : RBx w A_a a) (hv_b : RBx w A_b b) : Gives Try.prog 42 #[(.agg a.toArray), (.agg b.toArray)] w (fun v w' => ∃ cs_1 : List Value, v = (.tuple #[(.agg cs_1.toArray), (Bo (cutOk A_a A_b))]) ∧ RBx w (gvB (cutOk A_a A_b) (cutB A_a A_b)) cs_1) := by
  obtain ⟨r1, r3, r5, r7, r9, r11, rfl, h2, h4, h6, h8, h10, h12⟩ := hv_a
  obtain ⟨r13, r15, r17, r19, r21, r23, rfl, h14, h16, h18, h20, h22, h24⟩ := hv_b
  refine enter [(.agg #[(Fl r1), (Fl r3), (Fl r5), (Fl r7), (Fl r9), (Fl r11)]), (.agg #[(Fl r13), (Fl r15), (Fl r17), (Fl r19), (Fl r21), (Fl r23)]), Ud, Ud, Ud, Ud, Ud, Ud, Ud, Ud, Ud, Ud, Ud, Ud, Ud, Ud, Ud, Ud, Ud, Ud, Ud, Ud, Ud, Ud, Ud, Ud, Ud] Try.func42 rfl Try.ntmps42 rfl ?_
  refine wp_seq_k fun K25 hK25 => ?_
  refine wp_region_lit ?_
  refine seqd rfl rfl (does_box (u := (.agg #[(Fl r1), (Fl r3), (Fl r5), (Fl r7), (Fl r9), (Fl r11)])) (ev rfl)) ?_; rintro _ w30 ⟨b26, rfl, hb27, hB28, E29⟩
  have g31 : w.heap.size ≤ b26 := Nat.le_trans (Below.size (Ext.refl w)) hb27
  change Blk _ _ [(Fl r1), (Fl r3), (Fl r5), (Fl r7), (Fl r9), (Fl r11)] at hB28
  have X32 := Ext.gr (Ext.refl w) E29
  show wpList _ _ _ _ (fr [(.agg #[(Fl r1), (Fl r3), (Fl r5), (Fl r7), (Fl r9), (Fl r11)]), (.agg #[(Fl r13), (Fl r15), (Fl r17), (Fl r19), (Fl r21), (Fl r23)]), (Pt b26 0), Ud, Ud, Ud, Ud, Ud, Ud, Ud, Ud, Ud, Ud, Ud, Ud, Ud, Ud, Ud, Ud, Ud, Ud, Ud, Ud, Ud, Ud, Ud, Ud]) _
  refine seqd rfl rfl (does_box (u := (.agg #[(Fl r13), (Fl r15), (Fl r17), (Fl r19), (Fl r21), (Fl r23)])) (ev rfl)) ?_; rintro _ w37 ⟨b33, rfl, hb34, hB35, E36⟩
  have n38 : b26 < b33 := Nat.lt_of_lt_of_le (Blk.lt hB28) hb34
  have g39 : w.heap.size ≤ b33 := Nat.le_trans (Below.size X32) hb34
  change Blk _ _ [(Fl r13), (Fl r15), (Fl r17), (Fl r19), (Fl r21), (Fl r23)] at hB35
  have X40 := Ext.gr X32 E36
  show wpList _ _ _ _ (fr [(.agg #[(Fl r1), (Fl r3), (Fl r5), (Fl r7), (Fl r9), (Fl r11)]), (.agg #[(Fl r13), (Fl r15), (Fl r17), (Fl r19), (Fl r21), (Fl r23)]), (Pt b26 0), (Pt b33 0), Ud, Ud, Ud, Ud, Ud, Ud, Ud, Ud, Ud, Ud, Ud, Ud, Ud, Ud, Ud, Ud, Ud, Ud, Ud, Ud, Ud, Ud, Ud]) _
  refine seqd rfl rfl (does_alloc z33) ?_; rintro _ w45 ⟨b41, rfl, hb42, hB43, E44⟩
  have n46 : b26 < b41 := Nat.lt_of_lt_of_le (Blk.lt (hB28.ext E36)) hb42
  have n47 : b33 < b41 := Nat.lt_of_lt_of_le (Blk.lt hB35) hb42
  have g48 : w.heap.size ≤ b41 := Nat.le_trans (Below.size X40) hb42
  change Blk _ _ [(Fl 0), (Fl 0), (Fl 0), (Fl 0), (Fl 0), (Fl 0)] at hB43
  have X49 := Ext.gr X40 E44
  show wpList _ _ _ _ (fr [(.agg #[(Fl r1), (Fl r3), (Fl r5), (Fl r7), (Fl r9), (Fl r11)]), (.agg #[(Fl r13), (Fl r15), (Fl r17), (Fl r19), (Fl r21), (Fl r23)]), (Pt b26 0), (Pt b33 0), (Pt b41 0), Ud, Ud, Ud, Ud, Ud, Ud, Ud, Ud, Ud, Ud, Ud, Ud, Ud, Ud, Ud, Ud, Ud, Ud, Ud, Ud, Ud, Ud]) _
  refine q_is (l' := [(.agg #[(Fl r1), (Fl r3), (Fl r5), (Fl r7), (Fl r9), (Fl r11)]), (.agg #[(Fl r13), (Fl r15), (Fl r17), (Fl r19), (Fl r21), (Fl r23)]), (Pt b26 0), (Pt b33 0), (Pt b41 0), (Bo false), Ud, Ud, Ud, Ud, Ud, Ud, Ud, Ud, Ud, Ud, Ud, Ud, Ud, Ud, Ud, Ud, Ud, Ud, Ud, Ud, Ud]) rfl rfl (does_assign (u := (Bo false)) (ev rfl)) rfl ?_
  refine wpList_nil (hK25 _ _ ?_)
  refine wp_seq_k fun K50 hK50 => ?_
  refine wp_seq_k fun K51 hK51 => ?_
  obtain ⟨β1, hβ1⟩ : ∃ b : Bool, b = ((!(isBox A_a)) || (!(isBox A_b))) := ⟨_, rfl⟩
  refine region_text (
    [Fact.pure [] (fun v => v = (Bo (isBox A_a))),
    Fact.pure [6] (fun v => v = (Bo (!(isBox A_a)))),
    Fact.pure [7] (fun v => v = (Bo (!(isBox A_a)))),
    Fact.pure [8] (fun v => (!(isBox A_a)) = false → v = (Bo (isBox A_b))),
    Fact.pure [9, 8] (fun v => (!(isBox A_a)) = false → v = (Bo (!(isBox A_b)))),
    Fact.pure [8, 10] (fun v => v = (Bo β1))]) (by simp [Fact.pure, Fact.mem]) ?_
  refine RW_d (fun v52 => [(.agg #[(Fl r1), (Fl r3), (Fl r5), (Fl r7), (Fl r9), (Fl r11)]), (.agg #[(Fl r13), (Fl r15), (Fl r17), (Fl r19), (Fl r21), (Fl r23)]), (Pt b26 0), (Pt b33 0), (Pt b41 0), (Bo false), v52, Ud, Ud, Ud, Ud, Ud, Ud, Ud, Ud, Ud, Ud, Ud, Ud, Ud, Ud, Ud, Ud, Ud, Ud, Ud, Ud]) rfl (fun _ => rfl) (fun u hu hF => ?_) (fun v52 => ?_)
  · clear hF
    refine doesG_un rfl ?_
    refine (does_call (args := #[(Pt b26 0)]) cal51 (evs rfl) (c_spec_l04Is b26 0 [(Fl r1), (Fl r3), (Fl r5), (Fl r7), (Fl r9), (Fl r11)] A_a _ (Blk.cells (((hB28.ext E36).ext E44).ext hu)) ⟨r1, r3, r5, r7, r9, r11, rfl, h2, h4, h6, h8, h10, h12⟩)).mono ?_; rintro v u' ⟨hx, hv⟩
    exact ⟨hv, hx⟩
  refine RW_d (fun v53 => [(.agg #[(Fl r1), (Fl r3), (Fl r5), (Fl r7), (Fl r9), (Fl r11)]), (.agg #[(Fl r13), (Fl r15), (Fl r17), (Fl r19), (Fl r21), (Fl r23)]), (Pt b26 0), (Pt b33 0), (Pt b41 0), (Bo false), v52, v53, Ud, Ud, Ud, Ud, Ud, Ud, Ud, Ud, Ud, Ud, Ud, Ud, Ud, Ud, Ud, Ud, Ud, Ud, Ud]) rfl (fun _ => rfl) (fun u hu hF => ?_) (fun v53 => ?_)
  · have h6_ : v52 = (Bo (isBox A_a)) := hF.1
    clear hF
    obtain rfl := h6_
    refine doesG_un rfl ?_
    refine (does_not (ev rfl)).mono ?_; rintro _ _ ⟨rfl, rfl⟩
    exact ⟨rfl, Ext.refl _⟩
  refine RW_d (fun v54 => [(.agg #[(Fl r1), (Fl r3), (Fl r5), (Fl r7), (Fl r9), (Fl r11)]), (.agg #[(Fl r13), (Fl r15), (Fl r17), (Fl r19), (Fl r21), (Fl r23)]), (Pt b26 0), (Pt b33 0), (Pt b41 0), (Bo false), v52, v53, v54, Ud, Ud, Ud, Ud, Ud, Ud, Ud, Ud, Ud, Ud, Ud, Ud, Ud, Ud, Ud, Ud, Ud, Ud]) rfl (fun _ => rfl) (fun u hu hF => ?_) (fun v54 => ?_)
  · have h7_ : v53 = (Bo (!(isBox A_a))) := hF.1
    clear hF
    obtain rfl := h7_
    refine doesG_un rfl ?_
    refine (does_move (u := (Bo (!(isBox A_a)))) (ev rfl)).mono ?_; rintro _ _ ⟨rfl, rfl⟩
    exact ⟨rfl, Ext.refl _⟩
  refine RW_d (fun v55 => [(.agg #[(Fl r1), (Fl r3), (Fl r5), (Fl r7), (Fl r9), (Fl r11)]), (.agg #[(Fl r13), (Fl r15), (Fl r17), (Fl r19), (Fl r21), (Fl r23)]), (Pt b26 0), (Pt b33 0), (Pt b41 0), (Bo false), v52, v53, v54, v55, Ud, Ud, Ud, Ud, Ud, Ud, Ud, Ud, Ud, Ud, Ud, Ud, Ud, Ud, Ud, Ud, Ud]) rfl (fun _ => rfl) (fun u hu hF => ?_) (fun v55 => ?_)
  · have h8_ : v54 = (Bo (!(isBox A_a))) := hF.1
    clear hF
    obtain rfl := h8_
    refine doesG_g (b := (!(isBox A_a))) rfl (yld rfl rfl) (fun hg => ?_) (fun hg => ⟨fun h => absurd h hg, Ext.refl _⟩)
    refine (does_call (args := #[(Pt b33 0)]) cal51 (evs rfl) (c_spec_l04Is b33 0 [(Fl r13), (Fl r15), (Fl r17), (Fl r19), (Fl r21), (Fl r23)] A_b _ (Blk.cells ((hB35.ext E44).ext hu)) ⟨r13, r15, r17, r19, r21, r23, rfl, h14, h16, h18, h20, h22, h24⟩)).mono ?_; rintro v u' ⟨hx, hv⟩
    exact ⟨fun _ => hv, hx⟩
  refine RW_d (fun v56 => [(.agg #[(Fl r1), (Fl r3), (Fl r5), (Fl r7), (Fl r9), (Fl r11)]), (.agg #[(Fl r13), (Fl r15), (Fl r17), (Fl r19), (Fl r21), (Fl r23)]), (Pt b26 0), (Pt b33 0), (Pt b41 0), (Bo false), v52, v53, v54, v55, v56, Ud, Ud, Ud, Ud, Ud, Ud, Ud, Ud, Ud, Ud, Ud, Ud, Ud, Ud, Ud, Ud]) rfl (fun _ => rfl) (fun u hu hF => ?_) (fun v56 => ?_)
  · have h9_ : (!(isBox A_a)) = false → v55 = (Bo (isBox A_b)) := hF.1
    have h8_ : v54 = (Bo (!(isBox A_a))) := hF.2.1
    clear hF
    obtain rfl := h8_
    refine doesG_g (b := (!(isBox A_a))) rfl (yld rfl rfl) (fun hg => ?_) (fun hg => ⟨fun h => absurd h hg, Ext.refl _⟩)
    obtain rfl := h9_ hg
    refine (does_not (ev rfl)).mono ?_; rintro _ _ ⟨rfl, rfl⟩
    exact ⟨fun _ => rfl, Ext.refl _⟩
  refine RW_d (fun v57 => [(.agg #[(Fl r1), (Fl r3), (Fl r5), (Fl r7), (Fl r9), (Fl r11)]), (.agg #[(Fl r13), (Fl r15), (Fl r17), (Fl r19), (Fl r21), (Fl r23)]), (Pt b26 0), (Pt b33 0), (Pt b41 0), (Bo false), v52, v53, v54, v55, v56, v57, Ud, Ud, Ud, Ud, Ud, Ud, Ud, Ud, Ud, Ud, Ud, Ud, Ud, Ud, Ud]) rfl (fun _ => rfl) (fun u hu hF => ?_) (fun v57 => ?_)
  · have h8_ : v54 = (Bo (!(isBox A_a))) := hF.1
    have h10_ : (!(isBox A_a)) = false → v56 = (Bo (!(isBox A_b))) := hF.2.1
    clear hF
    obtain rfl := h8_
    refine doesG_un rfl ((does_pick (b := (!(isBox A_a))) (ev rfl) (ev rfl) (ev rfl)).mono ?_); rintro _ _ ⟨rfl, rfl⟩; refine ⟨?_, Ext.refl _⟩; rw [hβ1]; skip
    cases hbb : (!(isBox A_a)) <;> simp [hbb] at h10_ ⊢
    all_goals (first | rfl | (subst h10_; rfl) | simp_all)
  refine RW_fin ?_; intro w58 E59 hP60
  obtain ⟨⟨⟨⟨⟨⟨-, -⟩, -⟩, -⟩, -⟩, -⟩, q61⟩ := hP60
  have X62 := Ext.gr X49 E59
  have q61 : v57 = (Bo β1) := q61
  obtain rfl := q61
  show wpList _ _ _ _ (fr [(.agg #[(Fl r1), (Fl r3), (Fl r5), (Fl r7), (Fl r9), (Fl r11)]), (.agg #[(Fl r13), (Fl r15), (Fl r17), (Fl r19), (Fl r21), (Fl r23)]), (Pt b26 0), (Pt b33 0), (Pt b41 0), (Bo false), v52, v53, v54, v55, v56, (Bo β1), Ud, Ud, Ud, Ud, Ud, Ud, Ud, Ud, Ud, Ud, Ud, Ud, Ud, Ud, Ud]) _
  refine wpList_nil (hK51 _ _ ?_)
  refine wp_cond_split (t := β1) (ev rfl) (fun c63 => ?_) (fun c63 => ?_)
  · have c63' := c63
    (try simp only [hβ1] at c63')
    (try simp only [icmp, Bool.and_eq_true, Bool.or_eq_true, Bool.and_eq_false_iff, Bool.or_eq_false_iff, Bool.not_eq_true', Bool.not_eq_false', decide_eq_true_eq, decide_eq_false_iff_not, beq_iff_eq, bne_iff_ne, beq_eq_false_iff_ne, bne_eq_false_iff_eq] at c63')
    refine wp_seq_k fun K64 hK64 => ?_
    refine wp_region_lit ?_
    refine q_is (l' := [(.agg #[(Fl r1), (Fl r3), (Fl r5), (Fl r7), (Fl r9), (Fl r11)]), (.agg #[(Fl r13), (Fl r15), (Fl r17), (Fl r19), (Fl r21), (Fl r23)]), (Pt b26 0), (Pt b33 0), (Pt b41 0), (Bo false), v52, v53, v54, v55, v56, (Bo β1), (.agg #[(Fl 0), (Fl 0), (Fl 0), (Fl 0), (Fl 0), (Fl 0)]), Ud, Ud, Ud, Ud, Ud, Ud, Ud, Ud, Ud, Ud, Ud, Ud, Ud, Ud]) rfl rfl (does_build (parts' := []) (cells := #[(Fl 0), (Fl 0), (Fl 0), (Fl 0), (Fl 0), (Fl 0)]) (evp rfl) (by kernel_rfl)) rfl ?_
    refine seqn rfl rfl (does_store (n := 6) (cs := [(Fl 0), (Fl 0), (Fl 0), (Fl 0), (Fl 0), (Fl 0)]) (u := (.agg #[(Fl 0), (Fl 0), (Fl 0), (Fl 0), (Fl 0), (Fl 0)])) (ev rfl) (ev rfl) Try.sizeOf33 rfl (hB43.ext E59) (Nat.le_of_ble_eq_true rfl) rfl) ?_; rintro _ w67 ⟨rfl, W65, hB66⟩
    change Blk _ _ [(Fl 0), (Fl 0), (Fl 0), (Fl 0), (Fl 0), (Fl 0)] at hB66
    have X68 := Below.wr X62 W65 g48
    refine q_is (l' := [(.agg #[(Fl r1), (Fl r3), (Fl r5), (Fl r7), (Fl r9), (Fl r11)]), (.agg #[(Fl r13), (Fl r15), (Fl r17), (Fl r19), (Fl r21), (Fl r23)]), (Pt b26 0), (Pt b33 0), (Pt b41 0), (Bo false), v52, v53, v54, v55, v56, (Bo β1), (.agg #[(Fl 0), (Fl 0), (Fl 0), (Fl 0), (Fl 0), (Fl 0)]), Ud, Ud, Ud, Ud, Ud, Ud, Ud, Ud, Ud, Ud, Ud, Ud, Ud, Ud]) rfl rfl (does_assign (u := (Bo false)) (ev rfl)) rfl ?_
    refine wpList_nil (hK64 _ _ ?_)
    refine wp_ret ?_
    dsimp only [Exit.then, Exit.inBlock]
    refine ret_val (v := (.tuple #[(.agg #[(Fl 0), (Fl 0), (Fl 0), (Fl 0), (Fl 0), (Fl 0)]), (Bo false)])) (res_CT rfl (slot rfl) (run_loadAgg (cs := [(Fl 0), (Fl 0), (Fl 0), (Fl 0), (Fl 0), (Fl 0)]) Try.isAgg33 Try.sizeOf33 (Blk.cells hB66) rfl) (slot rfl)) X68 ?_
    try simp only [h2, h4, h6, h8, h10, h12, h14, h16, h18, h20, h22, h24, hβ1] at c63
    have x69 : (cutOk A_a A_b) = false := by first | rfl | (simp only [cutOk, cutB, v2, vmax, vmin, gvB_t, gvB_f, zB, zV, Bool.true_and, Bool.false_and, Bool.and_true, Bool.and_false, Bool.not_eq_true', Bool.not_eq_false', h2, h4, h6, h8, h10, h12, h14, h16, h18, h20, h22, h24, hβ1, c63]; done) | (simp [cutOk, cutB, v2, vmax, vmin, gvB_t, gvB_f, zB, zV, Bool.true_and, Bool.false_and, Bool.and_true, Bool.and_false, Bool.not_eq_true', Bool.not_eq_false', h2, h4, h6, h8, h10, h12, h14, h16, h18, h20, h22, h24, hβ1, c63]; done) | (revert c63; simp +contextual [cutOk, cutB, v2, vmax, vmin, gvB_t, gvB_f, zB, zV, Bool.true_and, Bool.false_and, Bool.and_true, Bool.and_false, Bool.not_eq_true', Bool.not_eq_false', h2, h4, h6, h8, h10, h12, h14, h16, h18, h20, h22, h24, hβ1]; done) | (rcases c63' with hh | hh <;> simp only [hh, cutOk, cutB, v2, vmax, vmin, gvB_t, gvB_f, zB, zV, Bool.true_and, Bool.false_and, Bool.and_true, Bool.and_false, Bool.not_eq_true', Bool.not_eq_false', h2, h4, h6, h8, h10, h12, h14, h16, h18, h20, h22, h24, hβ1, c63]; done)
    have x70 : cf .f32 0 = (gvB (cutOk A_a A_b) (cutB A_a A_b)).lo.x := by first | rfl | (simp only [cutOk, cutB, v2, vmax, vmin, gvB_t, gvB_f, zB, zV, Bool.true_and, Bool.false_and, Bool.and_true, Bool.and_false, Bool.not_eq_true', Bool.not_eq_false', h2, h4, h6, h8, h10, h12, h14, h16, h18, h20, h22, h24, hβ1, c63]; done) | (simp [cutOk, cutB, v2, vmax, vmin, gvB_t, gvB_f, zB, zV, Bool.true_and, Bool.false_and, Bool.and_true, Bool.and_false, Bool.not_eq_true', Bool.not_eq_false', h2, h4, h6, h8, h10, h12, h14, h16, h18, h20, h22, h24, hβ1, c63]; done) | (revert c63; simp +contextual [cutOk, cutB, v2, vmax, vmin, gvB_t, gvB_f, zB, zV, Bool.true_and, Bool.false_and, Bool.and_true, Bool.and_false, Bool.not_eq_true', Bool.not_eq_false', h2, h4, h6, h8, h10, h12, h14, h16, h18, h20, h22, h24, hβ1]; done) | (rcases c63' with hh | hh <;> simp only [hh, cutOk, cutB, v2, vmax, vmin, gvB_t, gvB_f, zB, zV, Bool.true_and, Bool.false_and, Bool.and_true, Bool.and_false, Bool.not_eq_true', Bool.not_eq_false', h2, h4, h6, h8, h10, h12, h14, h16, h18, h20, h22, h24, hβ1, c63]; done)
    have x71 : cf .f32 0 = (gvB (cutOk A_a A_b) (cutB A_a A_b)).lo.y := by first | rfl | (simp only [cutOk, cutB, v2, vmax, vmin, gvB_t, gvB_f, zB, zV, Bool.true_and, Bool.false_and, Bool.and_true, Bool.and_false, Bool.not_eq_true', Bool.not_eq_false', h2, h4, h6, h8, h10, h12, h14, h16, h18, h20, h22, h24, hβ1, c63]; done) | (simp [cutOk, cutB, v2, vmax, vmin, gvB_t, gvB_f, zB, zV, Bool.true_and, Bool.false_and, Bool.and_true, Bool.and_false, Bool.not_eq_true', Bool.not_eq_false', h2, h4, h6, h8, h10, h12, h14, h16, h18, h20, h22, h24, hβ1, c63]; done) | (revert c63; simp +contextual [cutOk, cutB, v2, vmax, vmin, gvB_t, gvB_f, zB, zV, Bool.true_and, Bool.false_and, Bool.and_true, Bool.and_false, Bool.not_eq_true', Bool.not_eq_false', h2, h4, h6, h8, h10, h12, h14, h16, h18, h20, h22, h24, hβ1]; done) | (rcases c63' with hh | hh <;> simp only [hh, cutOk, cutB, v2, vmax, vmin, gvB_t, gvB_f, zB, zV, Bool.true_and, Bool.false_and, Bool.and_true, Bool.and_false, Bool.not_eq_true', Bool.not_eq_false', h2, h4, h6, h8, h10, h12, h14, h16, h18, h20, h22, h24, hβ1, c63]; done)
    have x72 : cf .f32 0 = (gvB (cutOk A_a A_b) (cutB A_a A_b)).lo.z := by first | rfl | (simp only [cutOk, cutB, v2, vmax, vmin, gvB_t, gvB_f, zB, zV, Bool.true_and, Bool.false_and, Bool.and_true, Bool.and_false, Bool.not_eq_true', Bool.not_eq_false', h2, h4, h6, h8, h10, h12, h14, h16, h18, h20, h22, h24, hβ1, c63]; done) | (simp [cutOk, cutB, v2, vmax, vmin, gvB_t, gvB_f, zB, zV, Bool.true_and, Bool.false_and, Bool.and_true, Bool.and_false, Bool.not_eq_true', Bool.not_eq_false', h2, h4, h6, h8, h10, h12, h14, h16, h18, h20, h22, h24, hβ1, c63]; done) | (revert c63; simp +contextual [cutOk, cutB, v2, vmax, vmin, gvB_t, gvB_f, zB, zV, Bool.true_and, Bool.false_and, Bool.and_true, Bool.and_false, Bool.not_eq_true', Bool.not_eq_false', h2, h4, h6, h8, h10, h12, h14, h16, h18, h20, h22, h24, hβ1]; done) | (rcases c63' with hh | hh <;> simp only [hh, cutOk, cutB, v2, vmax, vmin, gvB_t, gvB_f, zB, zV, Bool.true_and, Bool.false_and, Bool.and_true, Bool.and_false, Bool.not_eq_true', Bool.not_eq_false', h2, h4, h6, h8, h10, h12, h14, h16, h18, h20, h22, h24, hβ1, c63]; done)
    have x73 : cf .f32 0 = (gvB (cutOk A_a A_b) (cutB A_a A_b)).hi.x := by first | rfl | (simp only [cutOk, cutB, v2, vmax, vmin, gvB_t, gvB_f, zB, zV, Bool.true_and, Bool.false_and, Bool.and_true, Bool.and_false, Bool.not_eq_true', Bool.not_eq_false', h2, h4, h6, h8, h10, h12, h14, h16, h18, h20, h22, h24, hβ1, c63]; done) | (simp [cutOk, cutB, v2, vmax, vmin, gvB_t, gvB_f, zB, zV, Bool.true_and, Bool.false_and, Bool.and_true, Bool.and_false, Bool.not_eq_true', Bool.not_eq_false', h2, h4, h6, h8, h10, h12, h14, h16, h18, h20, h22, h24, hβ1, c63]; done) | (revert c63; simp +contextual [cutOk, cutB, v2, vmax, vmin, gvB_t, gvB_f, zB, zV, Bool.true_and, Bool.false_and, Bool.and_true, Bool.and_false, Bool.not_eq_true', Bool.not_eq_false', h2, h4, h6, h8, h10, h12, h14, h16, h18, h20, h22, h24, hβ1]; done) | (rcases c63' with hh | hh <;> simp only [hh, cutOk, cutB, v2, vmax, vmin, gvB_t, gvB_f, zB, zV, Bool.true_and, Bool.false_and, Bool.and_true, Bool.and_false, Bool.not_eq_true', Bool.not_eq_false', h2, h4, h6, h8, h10, h12, h14, h16, h18, h20, h22, h24, hβ1, c63]; done)
    have x74 : cf .f32 0 = (gvB (cutOk A_a A_b) (cutB A_a A_b)).hi.y := by first | rfl | (simp only [cutOk, cutB, v2, vmax, vmin, gvB_t, gvB_f, zB, zV, Bool.true_and, Bool.false_and, Bool.and_true, Bool.and_false, Bool.not_eq_true', Bool.not_eq_false', h2, h4, h6, h8, h10, h12, h14, h16, h18, h20, h22, h24, hβ1, c63]; done) | (simp [cutOk, cutB, v2, vmax, vmin, gvB_t, gvB_f, zB, zV, Bool.true_and, Bool.false_and, Bool.and_true, Bool.and_false, Bool.not_eq_true', Bool.not_eq_false', h2, h4, h6, h8, h10, h12, h14, h16, h18, h20, h22, h24, hβ1, c63]; done) | (revert c63; simp +contextual [cutOk, cutB, v2, vmax, vmin, gvB_t, gvB_f, zB, zV, Bool.true_and, Bool.false_and, Bool.and_true, Bool.and_false, Bool.not_eq_true', Bool.not_eq_false', h2, h4, h6, h8, h10, h12, h14, h16, h18, h20, h22, h24, hβ1]; done) | (rcases c63' with hh | hh <;> simp only [hh, cutOk, cutB, v2, vmax, vmin, gvB_t, gvB_f, zB, zV, Bool.true_and, Bool.false_and, Bool.and_true, Bool.and_false, Bool.not_eq_true', Bool.not_eq_false', h2, h4, h6, h8, h10, h12, h14, h16, h18, h20, h22, h24, hβ1, c63]; done)
    have x75 : cf .f32 0 = (gvB (cutOk A_a A_b) (cutB A_a A_b)).hi.z := by first | rfl | (simp only [cutOk, cutB, v2, vmax, vmin, gvB_t, gvB_f, zB, zV, Bool.true_and, Bool.false_and, Bool.and_true, Bool.and_false, Bool.not_eq_true', Bool.not_eq_false', h2, h4, h6, h8, h10, h12, h14, h16, h18, h20, h22, h24, hβ1, c63]; done) | (simp [cutOk, cutB, v2, vmax, vmin, gvB_t, gvB_f, zB, zV, Bool.true_and, Bool.false_and, Bool.and_true, Bool.and_false, Bool.not_eq_true', Bool.not_eq_false', h2, h4, h6, h8, h10, h12, h14, h16, h18, h20, h22, h24, hβ1, c63]; done) | (revert c63; simp +contextual [cutOk, cutB, v2, vmax, vmin, gvB_t, gvB_f, zB, zV, Bool.true_and, Bool.false_and, Bool.and_true, Bool.and_false, Bool.not_eq_true', Bool.not_eq_false', h2, h4, h6, h8, h10, h12, h14, h16, h18, h20, h22, h24, hβ1]; done) | (rcases c63' with hh | hh <;> simp only [hh, cutOk, cutB, v2, vmax, vmin, gvB_t, gvB_f, zB, zV, Bool.true_and, Bool.false_and, Bool.and_true, Bool.and_false, Bool.not_eq_true', Bool.not_eq_false', h2, h4, h6, h8, h10, h12, h14, h16, h18, h20, h22, h24, hβ1, c63]; done)
    exact ⟨[(Fl 0), (Fl 0), (Fl 0), (Fl 0), (Fl 0), (Fl 0)], (by first | rfl | rw [x69]), ⟨0, 0, 0, 0, 0, 0, rfl, x70, x71, x72, x73, x74, x75⟩⟩
  have c63' := c63
  (try simp only [hβ1] at c63')
  (try simp only [icmp, Bool.and_eq_true, Bool.or_eq_true, Bool.and_eq_false_iff, Bool.or_eq_false_iff, Bool.not_eq_true', Bool.not_eq_false', decide_eq_true_eq, decide_eq_false_iff_not, beq_iff_eq, bne_iff_ne, beq_eq_false_iff_ne, bne_eq_false_iff_eq] at c63')
  refine wp_skip (hK50 _ _ ?_)
  refine wp_seq_k fun K76 hK76 => ?_
  obtain ⟨β2, hβ2⟩ : ∃ b : Bool, b = (isBox (Bx.mk (vmax A_a.lo A_b.lo) (vmin A_a.hi A_b.hi))) := ⟨_, rfl⟩
  refine region_draw (
    [Fact.pure [] (fun v => v = (Pt b26 0)),
    Fact.pure [13] (fun v => v = (.agg #[(Fl r1), (Fl r3), (Fl r5)])),
    Fact.pure [] (fun v => v = (Pt b33 0)),
    Fact.pure [15] (fun v => v = (.agg #[(Fl r13), (Fl r15), (Fl r17)])),
    Fact.pure [14, 16] (fun v => ∃ cs_1 : List Value, v = (.agg cs_1.toArray) ∧ RV3 w (vmax A_a.lo A_b.lo) cs_1),
    Fact.pure [] (fun v => v = (Pt b26 3)),
    Fact.pure [18] (fun v => v = (.agg #[(Fl r7), (Fl r9), (Fl r11)])),
    Fact.pure [] (fun v => v = (Pt b33 3)),
    Fact.pure [20] (fun v => v = (.agg #[(Fl r19), (Fl r21), (Fl r23)])),
    Fact.pure [19, 21] (fun v => ∃ cs_1 : List Value, v = (.agg cs_1.toArray) ∧ RV3 w (vmin A_a.hi A_b.hi) cs_1),
    Fact.pure [17, 22] (fun v => ∃ r_1 : Nat, ∃ r_2 : Nat, ∃ r_3 : Nat, ∃ r_4 : Nat, ∃ r_5 : Nat, ∃ r_6 : Nat, v = (.agg #[(Fl r_1), (Fl r_2), (Fl r_3), (Fl r_4), (Fl r_5), (Fl r_6)]) ∧ cf .f32 r_1 = (vmax A_a.lo A_b.lo).x ∧ cf .f32 r_2 = (vmax A_a.lo A_b.lo).y ∧ cf .f32 r_3 = (vmax A_a.lo A_b.lo).z ∧ cf .f32 r_4 = (vmin A_a.hi A_b.hi).x ∧ cf .f32 r_5 = (vmin A_a.hi A_b.hi).y ∧ cf .f32 r_6 = (vmin A_a.hi A_b.hi).z),
    Fact.pure [23] (fun v => ∃ cs_1 : List Value, v = (.tuple #[(.agg cs_1.toArray), (Bo (isBox (Bx.mk (vmax A_a.lo A_b.lo) (vmin A_a.hi A_b.hi))))]) ∧ RBx w (gvB (isBox (Bx.mk (vmax A_a.lo A_b.lo) (vmin A_a.hi A_b.hi))) (Bx.mk (vmax A_a.lo A_b.lo) (vmin A_a.hi A_b.hi))) cs_1),
    Fact.pure [24] (fun v => ∃ r_1 : Nat, ∃ r_2 : Nat, ∃ r_3 : Nat, ∃ r_4 : Nat, ∃ r_5 : Nat, ∃ r_6 : Nat, v = (.agg #[(Fl r_1), (Fl r_2), (Fl r_3), (Fl r_4), (Fl r_5), (Fl r_6)]) ∧ cf .f32 r_1 = (gvB (isBox (Bx.mk (vmax A_a.lo A_b.lo) (vmin A_a.hi A_b.hi))) (Bx.mk (vmax A_a.lo A_b.lo) (vmin A_a.hi A_b.hi))).lo.x ∧ cf .f32 r_2 = (gvB (isBox (Bx.mk (vmax A_a.lo A_b.lo) (vmin A_a.hi A_b.hi))) (Bx.mk (vmax A_a.lo A_b.lo) (vmin A_a.hi A_b.hi))).lo.y ∧ cf .f32 r_3 = (gvB (isBox (Bx.mk (vmax A_a.lo A_b.lo) (vmin A_a.hi A_b.hi))) (Bx.mk (vmax A_a.lo A_b.lo) (vmin A_a.hi A_b.hi))).lo.z ∧ cf .f32 r_4 = (gvB (isBox (Bx.mk (vmax A_a.lo A_b.lo) (vmin A_a.hi A_b.hi))) (Bx.mk (vmax A_a.lo A_b.lo) (vmin A_a.hi A_b.hi))).hi.x ∧ cf .f32 r_5 = (gvB (isBox (Bx.mk (vmax A_a.lo A_b.lo) (vmin A_a.hi A_b.hi))) (Bx.mk (vmax A_a.lo A_b.lo) (vmin A_a.hi A_b.hi))).hi.y ∧ cf .f32 r_6 = (gvB (isBox (Bx.mk (vmax A_a.lo A_b.lo) (vmin A_a.hi A_b.hi))) (Bx.mk (vmax A_a.lo A_b.lo) (vmin A_a.hi A_b.hi))).hi.z),
    Fact.pure [24] (fun v => v = (Bo β2))]) mixed (by kernel_rfl) (by intro _ _ d _ _ h; cases d <;> exact h) ?_
  obtain ⟨w77, hw79⟩ : ∃ w', w' = World.drew w58 := ⟨_, rfl⟩; rw [← hw79]; have E78 : Ext w58 w77 := by rw [hw79]; exact Ext.draw _
  clear hw79
  have X80 := Ext.gr X62 E78
  refine RW_d (fun v81 => [(.agg #[(Fl r1), (Fl r3), (Fl r5), (Fl r7), (Fl r9), (Fl r11)]), (.agg #[(Fl r13), (Fl r15), (Fl r17), (Fl r19), (Fl r21), (Fl r23)]), (Pt b26 0), (Pt b33 0), (Pt b41 0), (Bo false), v52, v53, v54, v55, v56, (Bo β1), Ud, v81, Ud, Ud, Ud, Ud, Ud, Ud, Ud, Ud, Ud, Ud, Ud, Ud, Ud]) rfl (fun _ => rfl) (fun u hu hF => ?_) (fun v81 => ?_)
  · clear hF
    refine doesG_un rfl ?_
    refine (does_fieldAddr (ev rfl) fa33_0).mono ?_; rintro _ _ ⟨rfl, rfl⟩
    exact ⟨rfl, Ext.refl _⟩
  refine RW_d (fun v82 => [(.agg #[(Fl r1), (Fl r3), (Fl r5), (Fl r7), (Fl r9), (Fl r11)]), (.agg #[(Fl r13), (Fl r15), (Fl r17), (Fl r19), (Fl r21), (Fl r23)]), (Pt b26 0), (Pt b33 0), (Pt b41 0), (Bo false), v52, v53, v54, v55, v56, (Bo β1), Ud, v81, v82, Ud, Ud, Ud, Ud, Ud, Ud, Ud, Ud, Ud, Ud, Ud, Ud]) rfl (fun _ => rfl) (fun u hu hF => ?_) (fun v82 => ?_)
  · have h13_ : v81 = (Pt b26 0) := hF.1
    clear hF
    obtain rfl := h13_
    refine doesG_un rfl ?_
    refine (does_loadAgg (cs := [(Fl r1), (Fl r3), (Fl r5)]) (ev rfl) Try.isAgg31 Try.sizeOf31 (Cells.sub (Blk.cells (((((hB28.ext E36).ext E44).ext E59).ext E78).ext hu)) 0 3) rfl).mono ?_; rintro _ _ ⟨rfl, rfl⟩
    exact ⟨rfl, Ext.refl _⟩
  refine RW_d (fun v83 => [(.agg #[(Fl r1), (Fl r3), (Fl r5), (Fl r7), (Fl r9), (Fl r11)]), (.agg #[(Fl r13), (Fl r15), (Fl r17), (Fl r19), (Fl r21), (Fl r23)]), (Pt b26 0), (Pt b33 0), (Pt b41 0), (Bo false), v52, v53, v54, v55, v56, (Bo β1), Ud, v81, v82, v83, Ud, Ud, Ud, Ud, Ud, Ud, Ud, Ud, Ud, Ud, Ud]) rfl (fun _ => rfl) (fun u hu hF => ?_) (fun v83 => ?_)
  · clear hF
    refine doesG_un rfl ?_
    refine (does_fieldAddr (ev rfl) fa33_0).mono ?_; rintro _ _ ⟨rfl, rfl⟩
    exact ⟨rfl, Ext.refl _⟩
  refine RW_d (fun v84 => [(.agg #[(Fl r1), (Fl r3), (Fl r5), (Fl r7), (Fl r9), (Fl r11)]), (.agg #[(Fl r13), (Fl r15), (Fl r17), (Fl r19), (Fl r21), (Fl r23)]), (Pt b26 0), (Pt b33 0), (Pt b41 0), (Bo false), v52, v53, v54, v55, v56, (Bo β1), Ud, v81, v82, v83, v84, Ud, Ud, Ud, Ud, Ud, Ud, Ud, Ud, Ud, Ud]) rfl (fun _ => rfl) (fun u hu hF => ?_) (fun v84 => ?_)
  · have h15_ : v83 = (Pt b33 0) := hF.1
    clear hF
    obtain rfl := h15_
    refine doesG_un rfl ?_
    refine (does_loadAgg (cs := [(Fl r13), (Fl r15), (Fl r17)]) (ev rfl) Try.isAgg31 Try.sizeOf31 (Cells.sub (Blk.cells ((((hB35.ext E44).ext E59).ext E78).ext hu)) 0 3) rfl).mono ?_; rintro _ _ ⟨rfl, rfl⟩
    exact ⟨rfl, Ext.refl _⟩
  refine RW_d (fun v85 => [(.agg #[(Fl r1), (Fl r3), (Fl r5), (Fl r7), (Fl r9), (Fl r11)]), (.agg #[(Fl r13), (Fl r15), (Fl r17), (Fl r19), (Fl r21), (Fl r23)]), (Pt b26 0), (Pt b33 0), (Pt b41 0), (Bo false), v52, v53, v54, v55, v56, (Bo β1), Ud, v81, v82, v83, v84, v85, Ud, Ud, Ud, Ud, Ud, Ud, Ud, Ud, Ud]) rfl (fun _ => rfl) (fun u hu hF => ?_) (fun v85 => ?_)
  · have h14_ : v82 = (.agg #[(Fl r1), (Fl r3), (Fl r5)]) := hF.1
    have h16_ : v84 = (.agg #[(Fl r13), (Fl r15), (Fl r17)]) := hF.2.1
    clear hF
    obtain rfl := h14_
    obtain rfl := h16_
    refine doesG_un rfl ?_
    refine (does_call (args := #[(.agg #[(Fl r1), (Fl r3), (Fl r5)]), (.agg #[(Fl r13), (Fl r15), (Fl r17)])]) cal82 (evs rfl) (c_spec_l04High [(Fl r1), (Fl r3), (Fl r5)] A_a.lo [(Fl r13), (Fl r15), (Fl r17)] A_b.lo _ ⟨r1, r3, r5, rfl, h2, h4, h6⟩ ⟨r13, r15, r17, rfl, h14, h16, h18⟩)).mono ?_; rintro v u' ⟨hx, ⟨csn1, hv, k0⟩⟩
    exact ⟨⟨csn1, hv, k0⟩, hx⟩
  refine RW_d (fun v86 => [(.agg #[(Fl r1), (Fl r3), (Fl r5), (Fl r7), (Fl r9), (Fl r11)]), (.agg #[(Fl r13), (Fl r15), (Fl r17), (Fl r19), (Fl r21), (Fl r23)]), (Pt b26 0), (Pt b33 0), (Pt b41 0), (Bo false), v52, v53, v54, v55, v56, (Bo β1), Ud, v81, v82, v83, v84, v85, v86, Ud, Ud, Ud, Ud, Ud, Ud, Ud, Ud]) rfl (fun _ => rfl) (fun u hu hF => ?_) (fun v86 => ?_)
  · clear hF
    refine doesG_un rfl ?_
    refine (does_fieldAddr (ev rfl) fa33_1).mono ?_; rintro _ _ ⟨rfl, rfl⟩
    exact ⟨rfl, Ext.refl _⟩
  refine RW_d (fun v87 => [(.agg #[(Fl r1), (Fl r3), (Fl r5), (Fl r7), (Fl r9), (Fl r11)]), (.agg #[(Fl r13), (Fl r15), (Fl r17), (Fl r19), (Fl r21), (Fl r23)]), (Pt b26 0), (Pt b33 0), (Pt b41 0), (Bo false), v52, v53, v54, v55, v56, (Bo β1), Ud, v81, v82, v83, v84, v85, v86, v87, Ud, Ud, Ud, Ud, Ud, Ud, Ud]) rfl (fun _ => rfl) (fun u hu hF => ?_) (fun v87 => ?_)
  · have h18_ : v86 = (Pt b26 3) := hF.1
    clear hF
    obtain rfl := h18_
    refine doesG_un rfl ?_
    refine (does_loadAgg (cs := [(Fl r7), (Fl r9), (Fl r11)]) (ev rfl) Try.isAgg31 Try.sizeOf31 (Cells.sub (Blk.cells (((((hB28.ext E36).ext E44).ext E59).ext E78).ext hu)) 3 3) rfl).mono ?_; rintro _ _ ⟨rfl, rfl⟩
    exact ⟨rfl, Ext.refl _⟩
  refine RW_d (fun v88 => [(.agg #[(Fl r1), (Fl r3), (Fl r5), (Fl r7), (Fl r9), (Fl r11)]), (.agg #[(Fl r13), (Fl r15), (Fl r17), (Fl r19), (Fl r21), (Fl r23)]), (Pt b26 0), (Pt b33 0), (Pt b41 0), (Bo false), v52, v53, v54, v55, v56, (Bo β1), Ud, v81, v82, v83, v84, v85, v86, v87, v88, Ud, Ud, Ud, Ud, Ud, Ud]) rfl (fun _ => rfl) (fun u hu hF => ?_) (fun v88 => ?_)
  · clear hF
    refine doesG_un rfl ?_
    refine (does_fieldAddr (ev rfl) fa33_1).mono ?_; rintro _ _ ⟨rfl, rfl⟩
    exact ⟨rfl, Ext.refl _⟩
  refine RW_d (fun v89 => [(.agg #[(Fl r1), (Fl r3), (Fl r5), (Fl r7), (Fl r9), (Fl r11)]), (.agg #[(Fl r13), (Fl r15), (Fl r17), (Fl r19), (Fl r21), (Fl r23)]), (Pt b26 0), (Pt b33 0), (Pt b41 0), (Bo false), v52, v53, v54, v55, v56, (Bo β1), Ud, v81, v82, v83, v84, v85, v86, v87, v88, v89, Ud, Ud, Ud, Ud, Ud]) rfl (fun _ => rfl) (fun u hu hF => ?_) (fun v89 => ?_)
  · have h20_ : v88 = (Pt b33 3) := hF.1
    clear hF
    obtain rfl := h20_
    refine doesG_un rfl ?_
    refine (does_loadAgg (cs := [(Fl r19), (Fl r21), (Fl r23)]) (ev rfl) Try.isAgg31 Try.sizeOf31 (Cells.sub (Blk.cells ((((hB35.ext E44).ext E59).ext E78).ext hu)) 3 3) rfl).mono ?_; rintro _ _ ⟨rfl, rfl⟩
    exact ⟨rfl, Ext.refl _⟩
  refine RW_d (fun v90 => [(.agg #[(Fl r1), (Fl r3), (Fl r5), (Fl r7), (Fl r9), (Fl r11)]), (.agg #[(Fl r13), (Fl r15), (Fl r17), (Fl r19), (Fl r21), (Fl r23)]), (Pt b26 0), (Pt b33 0), (Pt b41 0), (Bo false), v52, v53, v54, v55, v56, (Bo β1), Ud, v81, v82, v83, v84, v85, v86, v87, v88, v89, v90, Ud, Ud, Ud, Ud]) rfl (fun _ => rfl) (fun u hu hF => ?_) (fun v90 => ?_)
  · have h19_ : v87 = (.agg #[(Fl r7), (Fl r9), (Fl r11)]) := hF.1
    have h21_ : v89 = (.agg #[(Fl r19), (Fl r21), (Fl r23)]) := hF.2.1
    clear hF
    obtain rfl := h19_
    obtain rfl := h21_
    refine doesG_un rfl ?_
    refine (does_call (args := #[(.agg #[(Fl r7), (Fl r9), (Fl r11)]), (.agg #[(Fl r19), (Fl r21), (Fl r23)])]) cal83 (evs rfl) (c_spec_l04Low [(Fl r7), (Fl r9), (Fl r11)] A_a.hi [(Fl r19), (Fl r21), (Fl r23)] A_b.hi _ ⟨r7, r9, r11, rfl, h8, h10, h12⟩ ⟨r19, r21, r23, rfl, h20, h22, h24⟩)).mono ?_; rintro v u' ⟨hx, ⟨csn1, hv, k0⟩⟩
    exact ⟨⟨csn1, hv, k0⟩, hx⟩
  refine RW_d (fun v91 => [(.agg #[(Fl r1), (Fl r3), (Fl r5), (Fl r7), (Fl r9), (Fl r11)]), (.agg #[(Fl r13), (Fl r15), (Fl r17), (Fl r19), (Fl r21), (Fl r23)]), (Pt b26 0), (Pt b33 0), (Pt b41 0), (Bo false), v52, v53, v54, v55, v56, (Bo β1), Ud, v81, v82, v83, v84, v85, v86, v87, v88, v89, v90, v91, Ud, Ud, Ud]) rfl (fun _ => rfl) (fun u hu hF => ?_) (fun v91 => ?_)
  · have h17_ : ∃ cs_1 : List Value, v85 = (.agg cs_1.toArray) ∧ RV3 w (vmax A_a.lo A_b.lo) cs_1 := hF.1
    have h22_ : ∃ cs_1 : List Value, v90 = (.agg cs_1.toArray) ∧ RV3 w (vmin A_a.hi A_b.hi) cs_1 := hF.2.1
    clear hF
    obtain ⟨_, rfl, ⟨r17_1, r17_3, r17_5, rfl, h17_2, h17_4, h17_6⟩⟩ := h17_
    obtain ⟨_, rfl, ⟨r22_1, r22_3, r22_5, rfl, h22_2, h22_4, h22_6⟩⟩ := h22_
    refine doesG_un rfl ?_
    refine (does_build (parts' := [(0, (.agg #[(Fl r17_1), (Fl r17_3), (Fl r17_5)])), (1, (.agg #[(Fl r22_1), (Fl r22_3), (Fl r22_5)]))]) (cells := #[(Fl r17_1), (Fl r17_3), (Fl r17_5), (Fl r22_1), (Fl r22_3), (Fl r22_5)]) (evp rfl) (by kernel_rfl)).mono ?_; rintro _ _ ⟨rfl, rfl⟩
    exact ⟨⟨r17_1, r17_3, r17_5, r22_1, r22_3, r22_5, rfl, (by simp only [h17_2, h17_4, h17_6, h22_2, h22_4, h22_6]), (by simp only [h17_2, h17_4, h17_6, h22_2, h22_4, h22_6]), (by simp only [h17_2, h17_4, h17_6, h22_2, h22_4, h22_6]), (by simp only [h17_2, h17_4, h17_6, h22_2, h22_4, h22_6]), (by simp only [h17_2, h17_4, h17_6, h22_2, h22_4, h22_6]), (by simp only [h17_2, h17_4, h17_6, h22_2, h22_4, h22_6])⟩, Ext.refl _⟩
  refine RW_d (fun v92 => [(.agg #[(Fl r1), (Fl r3), (Fl r5), (Fl r7), (Fl r9), (Fl r11)]), (.agg #[(Fl r13), (Fl r15), (Fl r17), (Fl r19), (Fl r21), (Fl r23)]), (Pt b26 0), (Pt b33 0), (Pt b41 0), (Bo false), v52, v53, v54, v55, v56, (Bo β1), Ud, v81, v82, v83, v84, v85, v86, v87, v88, v89, v90, v91, v92, Ud, Ud]) rfl (fun _ => rfl) (fun u hu hF => ?_) (fun v92 => ?_)
  · have h23_ : ∃ r_1 : Nat, ∃ r_2 : Nat, ∃ r_3 : Nat, ∃ r_4 : Nat, ∃ r_5 : Nat, ∃ r_6 : Nat, v91 = (.agg #[(Fl r_1), (Fl r_2), (Fl r_3), (Fl r_4), (Fl r_5), (Fl r_6)]) ∧ cf .f32 r_1 = (vmax A_a.lo A_b.lo).x ∧ cf .f32 r_2 = (vmax A_a.lo A_b.lo).y ∧ cf .f32 r_3 = (vmax A_a.lo A_b.lo).z ∧ cf .f32 r_4 = (vmin A_a.hi A_b.hi).x ∧ cf .f32 r_5 = (vmin A_a.hi A_b.hi).y ∧ cf .f32 r_6 = (vmin A_a.hi A_b.hi).z := hF.1
    clear hF
    obtain ⟨r23_1, r23_3, r23_5, r23_7, r23_9, r23_11, rfl, h23_2, h23_4, h23_6, h23_8, h23_10, h23_12⟩ := h23_
    refine doesG_un rfl ?_
    refine (does_call (args := #[(.agg #[(Fl r23_1), (Fl r23_3), (Fl r23_5), (Fl r23_7), (Fl r23_9), (Fl r23_11)])]) cal77 (evs rfl) (c_spec_l04Give [(Fl r23_1), (Fl r23_3), (Fl r23_5), (Fl r23_7), (Fl r23_9), (Fl r23_11)] (Bx.mk (vmax A_a.lo A_b.lo) (vmin A_a.hi A_b.hi)) _ ⟨r23_1, r23_3, r23_5, r23_7, r23_9, r23_11, rfl, (by assumption), (by assumption), (by assumption), (by assumption), (by assumption), (by assumption)⟩)).mono ?_; rintro v u' ⟨hx, ⟨csn1, hv, k0⟩⟩
    exact ⟨⟨csn1, hv.trans (by simp only [h23_2, h23_4, h23_6, h23_8, h23_10, h23_12]), (by first | exact k0 | simpa only [h23_2, h23_4, h23_6, h23_8, h23_10, h23_12] using RBx.any (w := w) k0)⟩, hx⟩
  refine RW_d (fun v93 => [(.agg #[(Fl r1), (Fl r3), (Fl r5), (Fl r7), (Fl r9), (Fl r11)]), (.agg #[(Fl r13), (Fl r15), (Fl r17), (Fl r19), (Fl r21), (Fl r23)]), (Pt b26 0), (Pt b33 0), (Pt b41 0), (Bo false), v52, v53, v54, v55, v56, (Bo β1), Ud, v81, v82, v83, v84, v85, v86, v87, v88, v89, v90, v91, v92, v93, Ud]) rfl (fun _ => rfl) (fun u hu hF => ?_) (fun v93 => ?_)
  · have h24_ : ∃ cs_1 : List Value, v92 = (.tuple #[(.agg cs_1.toArray), (Bo (isBox (Bx.mk (vmax A_a.lo A_b.lo) (vmin A_a.hi A_b.hi))))]) ∧ RBx w (gvB (isBox (Bx.mk (vmax A_a.lo A_b.lo) (vmin A_a.hi A_b.hi))) (Bx.mk (vmax A_a.lo A_b.lo) (vmin A_a.hi A_b.hi))) cs_1 := hF.1
    clear hF
    obtain ⟨_, rfl, ⟨r24_1, r24_3, r24_5, r24_7, r24_9, r24_11, rfl, h24_2, h24_4, h24_6, h24_8, h24_10, h24_12⟩⟩ := h24_
    refine doesG_un rfl ?_
    refine (does_extract (vs := #[(.agg #[(Fl r24_1), (Fl r24_3), (Fl r24_5), (Fl r24_7), (Fl r24_9), (Fl r24_11)]), (Bo (isBox (Bx.mk (vmax A_a.lo A_b.lo) (vmin A_a.hi A_b.hi))))]) (u := (.agg #[(Fl r24_1), (Fl r24_3), (Fl r24_5), (Fl r24_7), (Fl r24_9), (Fl r24_11)])) (ev rfl) rfl).mono ?_; rintro _ _ ⟨rfl, rfl⟩
    exact ⟨⟨r24_1, r24_3, r24_5, r24_7, r24_9, r24_11, rfl, (by simp only [h24_2, h24_4, h24_6, h24_8, h24_10, h24_12]), (by simp only [h24_2, h24_4, h24_6, h24_8, h24_10, h24_12]), (by simp only [h24_2, h24_4, h24_6, h24_8, h24_10, h24_12]), (by simp only [h24_2, h24_4, h24_6, h24_8, h24_10, h24_12]), (by simp only [h24_2, h24_4, h24_6, h24_8, h24_10, h24_12]), (by simp only [h24_2, h24_4, h24_6, h24_8, h24_10, h24_12])⟩, Ext.refl _⟩
  refine RW_d (fun v94 => [(.agg #[(Fl r1), (Fl r3), (Fl r5), (Fl r7), (Fl r9), (Fl r11)]), (.agg #[(Fl r13), (Fl r15), (Fl r17), (Fl r19), (Fl r21), (Fl r23)]), (Pt b26 0), (Pt b33 0), (Pt b41 0), (Bo false), v52, v53, v54, v55, v56, (Bo β1), Ud, v81, v82, v83, v84, v85, v86, v87, v88, v89, v90, v91, v92, v93, v94]) rfl (fun _ => rfl) (fun u hu hF => ?_) (fun v94 => ?_)
  · have h24_ : ∃ cs_1 : List Value, v92 = (.tuple #[(.agg cs_1.toArray), (Bo (isBox (Bx.mk (vmax A_a.lo A_b.lo) (vmin A_a.hi A_b.hi))))]) ∧ RBx w (gvB (isBox (Bx.mk (vmax A_a.lo A_b.lo) (vmin A_a.hi A_b.hi))) (Bx.mk (vmax A_a.lo A_b.lo) (vmin A_a.hi A_b.hi))) cs_1 := hF.1
    clear hF
    obtain ⟨_, rfl, ⟨r24_1, r24_3, r24_5, r24_7, r24_9, r24_11, rfl, h24_2, h24_4, h24_6, h24_8, h24_10, h24_12⟩⟩ := h24_
    refine doesG_un rfl ?_
    refine (does_extract (vs := #[(.agg #[(Fl r24_1), (Fl r24_3), (Fl r24_5), (Fl r24_7), (Fl r24_9), (Fl r24_11)]), (Bo (isBox (Bx.mk (vmax A_a.lo A_b.lo) (vmin A_a.hi A_b.hi))))]) (u := (Bo (isBox (Bx.mk (vmax A_a.lo A_b.lo) (vmin A_a.hi A_b.hi))))) (ev rfl) rfl).mono ?_; rintro _ _ ⟨rfl, rfl⟩
    exact ⟨(by first | rfl | (show _ = _; simp only [hβ2, h24_2, h24_4, h24_6, h24_8, h24_10, h24_12])), Ext.refl _⟩
  refine RW_fin ?_; intro w95 E96 hP97
  obtain ⟨⟨⟨⟨⟨⟨⟨⟨⟨⟨⟨⟨⟨⟨-, -⟩, -⟩, -⟩, -⟩, -⟩, -⟩, -⟩, -⟩, -⟩, -⟩, -⟩, -⟩, q98⟩, q99⟩ := hP97
  have X100 := Ext.gr X80 E96
  have q98 : ∃ r_1 : Nat, ∃ r_2 : Nat, ∃ r_3 : Nat, ∃ r_4 : Nat, ∃ r_5 : Nat, ∃ r_6 : Nat, v93 = (.agg #[(Fl r_1), (Fl r_2), (Fl r_3), (Fl r_4), (Fl r_5), (Fl r_6)]) ∧ cf .f32 r_1 = (gvB (isBox (Bx.mk (vmax A_a.lo A_b.lo) (vmin A_a.hi A_b.hi))) (Bx.mk (vmax A_a.lo A_b.lo) (vmin A_a.hi A_b.hi))).lo.x ∧ cf .f32 r_2 = (gvB (isBox (Bx.mk (vmax A_a.lo A_b.lo) (vmin A_a.hi A_b.hi))) (Bx.mk (vmax A_a.lo A_b.lo) (vmin A_a.hi A_b.hi))).lo.y ∧ cf .f32 r_3 = (gvB (isBox (Bx.mk (vmax A_a.lo A_b.lo) (vmin A_a.hi A_b.hi))) (Bx.mk (vmax A_a.lo A_b.lo) (vmin A_a.hi A_b.hi))).lo.z ∧ cf .f32 r_4 = (gvB (isBox (Bx.mk (vmax A_a.lo A_b.lo) (vmin A_a.hi A_b.hi))) (Bx.mk (vmax A_a.lo A_b.lo) (vmin A_a.hi A_b.hi))).hi.x ∧ cf .f32 r_5 = (gvB (isBox (Bx.mk (vmax A_a.lo A_b.lo) (vmin A_a.hi A_b.hi))) (Bx.mk (vmax A_a.lo A_b.lo) (vmin A_a.hi A_b.hi))).hi.y ∧ cf .f32 r_6 = (gvB (isBox (Bx.mk (vmax A_a.lo A_b.lo) (vmin A_a.hi A_b.hi))) (Bx.mk (vmax A_a.lo A_b.lo) (vmin A_a.hi A_b.hi))).hi.z := q98
  obtain ⟨r101, r103, r105, r107, r109, r111, rfl, h102, h104, h106, h108, h110, h112⟩ := q98
  have q99 : v94 = (Bo β2) := q99
  obtain rfl := q99
  show wpList _ _ _ _ (fr [(.agg #[(Fl r1), (Fl r3), (Fl r5), (Fl r7), (Fl r9), (Fl r11)]), (.agg #[(Fl r13), (Fl r15), (Fl r17), (Fl r19), (Fl r21), (Fl r23)]), (Pt b26 0), (Pt b33 0), (Pt b41 0), (Bo false), v52, v53, v54, v55, v56, (Bo β1), Ud, v81, v82, v83, v84, v85, v86, v87, v88, v89, v90, v91, v92, (.agg #[(Fl r101), (Fl r103), (Fl r105), (Fl r107), (Fl r109), (Fl r111)]), (Bo β2)]) _
  refine seqn rfl rfl (does_store (n := 6) (cs := [(Fl 0), (Fl 0), (Fl 0), (Fl 0), (Fl 0), (Fl 0)]) (u := (.agg #[(Fl r101), (Fl r103), (Fl r105), (Fl r107), (Fl r109), (Fl r111)])) (ev rfl) (ev rfl) Try.sizeOf33 rfl (((hB43.ext E59).ext E78).ext E96) (Nat.le_of_ble_eq_true rfl) rfl) ?_; rintro _ w115 ⟨rfl, W113, hB114⟩
  change Blk _ _ [(Fl r101), (Fl r103), (Fl r105), (Fl r107), (Fl r109), (Fl r111)] at hB114
  have X116 := Below.wr X100 W113 g48
  refine q_is (l' := [(.agg #[(Fl r1), (Fl r3), (Fl r5), (Fl r7), (Fl r9), (Fl r11)]), (.agg #[(Fl r13), (Fl r15), (Fl r17), (Fl r19), (Fl r21), (Fl r23)]), (Pt b26 0), (Pt b33 0), (Pt b41 0), (Bo β2), v52, v53, v54, v55, v56, (Bo β1), Ud, v81, v82, v83, v84, v85, v86, v87, v88, v89, v90, v91, v92, (.agg #[(Fl r101), (Fl r103), (Fl r105), (Fl r107), (Fl r109), (Fl r111)]), (Bo β2)]) rfl rfl (does_assign (u := (Bo β2)) (ev rfl)) rfl ?_
  refine wpList_nil (hK76 _ _ ?_)
  refine wp_ret ?_
  refine ret_val (v := (.tuple #[(.agg #[(Fl r101), (Fl r103), (Fl r105), (Fl r107), (Fl r109), (Fl r111)]), (Bo β2)])) (res_CT rfl (slot rfl) (run_loadAgg (cs := [(Fl r101), (Fl r103), (Fl r105), (Fl r107), (Fl r109), (Fl r111)]) Try.isAgg33 Try.sizeOf33 (Blk.cells hB114) rfl) (slot rfl)) X116 ?_
  try simp only [h2, h4, h6, h8, h10, h12, h14, h16, h18, h20, h22, h24, hβ1, hβ2, h102, h104, h106, h108, h110, h112] at c63
  have x117 : (cutOk A_a A_b) = β2 := by first | rfl | (simp only [cutOk, cutB, v2, vmax, vmin, gvB_t, gvB_f, zB, zV, Bool.true_and, Bool.false_and, Bool.and_true, Bool.and_false, Bool.not_eq_true', Bool.not_eq_false', h2, h4, h6, h8, h10, h12, h14, h16, h18, h20, h22, h24, hβ1, hβ2, h102, h104, h106, h108, h110, h112, c63]; done) | (simp [cutOk, cutB, v2, vmax, vmin, gvB_t, gvB_f, zB, zV, Bool.true_and, Bool.false_and, Bool.and_true, Bool.and_false, Bool.not_eq_true', Bool.not_eq_false', h2, h4, h6, h8, h10, h12, h14, h16, h18, h20, h22, h24, hβ1, hβ2, h102, h104, h106, h108, h110, h112, c63]; done) | (revert c63; simp +contextual [cutOk, cutB, v2, vmax, vmin, gvB_t, gvB_f, zB, zV, Bool.true_and, Bool.false_and, Bool.and_true, Bool.and_false, Bool.not_eq_true', Bool.not_eq_false', h2, h4, h6, h8, h10, h12, h14, h16, h18, h20, h22, h24, hβ1, hβ2, h102, h104, h106, h108, h110, h112]; done) | (rcases c63' with hh | hh <;> simp only [hh, cutOk, cutB, v2, vmax, vmin, gvB_t, gvB_f, zB, zV, Bool.true_and, Bool.false_and, Bool.and_true, Bool.and_false, Bool.not_eq_true', Bool.not_eq_false', h2, h4, h6, h8, h10, h12, h14, h16, h18, h20, h22, h24, hβ1, hβ2, h102, h104, h106, h108, h110, h112, c63]; done)
  have x118 : cf .f32 r101 = (gvB (cutOk A_a A_b) (cutB A_a A_b)).lo.x := by first | rfl | (simp only [cutOk, cutB, v2, vmax, vmin, gvB_t, gvB_f, zB, zV, Bool.true_and, Bool.false_and, Bool.and_true, Bool.and_false, Bool.not_eq_true', Bool.not_eq_false', h2, h4, h6, h8, h10, h12, h14, h16, h18, h20, h22, h24, hβ1, hβ2, h102, h104, h106, h108, h110, h112, c63]; done) | (simp [cutOk, cutB, v2, vmax, vmin, gvB_t, gvB_f, zB, zV, Bool.true_and, Bool.false_and, Bool.and_true, Bool.and_false, Bool.not_eq_true', Bool.not_eq_false', h2, h4, h6, h8, h10, h12, h14, h16, h18, h20, h22, h24, hβ1, hβ2, h102, h104, h106, h108, h110, h112, c63]; done) | (revert c63; simp +contextual [cutOk, cutB, v2, vmax, vmin, gvB_t, gvB_f, zB, zV, Bool.true_and, Bool.false_and, Bool.and_true, Bool.and_false, Bool.not_eq_true', Bool.not_eq_false', h2, h4, h6, h8, h10, h12, h14, h16, h18, h20, h22, h24, hβ1, hβ2, h102, h104, h106, h108, h110, h112]; done) | (rcases c63' with hh | hh <;> simp only [hh, cutOk, cutB, v2, vmax, vmin, gvB_t, gvB_f, zB, zV, Bool.true_and, Bool.false_and, Bool.and_true, Bool.and_false, Bool.not_eq_true', Bool.not_eq_false', h2, h4, h6, h8, h10, h12, h14, h16, h18, h20, h22, h24, hβ1, hβ2, h102, h104, h106, h108, h110, h112, c63]; done)
  have x119 : cf .f32 r103 = (gvB (cutOk A_a A_b) (cutB A_a A_b)).lo.y := by first | rfl | (simp only [cutOk, cutB, v2, vmax, vmin, gvB_t, gvB_f, zB, zV, Bool.true_and, Bool.false_and, Bool.and_true, Bool.and_false, Bool.not_eq_true', Bool.not_eq_false', h2, h4, h6, h8, h10, h12, h14, h16, h18, h20, h22, h24, hβ1, hβ2, h102, h104, h106, h108, h110, h112, c63]; done) | (simp [cutOk, cutB, v2, vmax, vmin, gvB_t, gvB_f, zB, zV, Bool.true_and, Bool.false_and, Bool.and_true, Bool.and_false, Bool.not_eq_true', Bool.not_eq_false', h2, h4, h6, h8, h10, h12, h14, h16, h18, h20, h22, h24, hβ1, hβ2, h102, h104, h106, h108, h110, h112, c63]; done) | (revert c63; simp +contextual [cutOk, cutB, v2, vmax, vmin, gvB_t, gvB_f, zB, zV, Bool.true_and, Bool.false_and, Bool.and_true, Bool.and_false, Bool.not_eq_true', Bool.not_eq_false', h2, h4, h6, h8, h10, h12, h14, h16, h18, h20, h22, h24, hβ1, hβ2, h102, h104, h106, h108, h110, h112]; done) | (rcases c63' with hh | hh <;> simp only [hh, cutOk, cutB, v2, vmax, vmin, gvB_t, gvB_f, zB, zV, Bool.true_and, Bool.false_and, Bool.and_true, Bool.and_false, Bool.not_eq_true', Bool.not_eq_false', h2, h4, h6, h8, h10, h12, h14, h16, h18, h20, h22, h24, hβ1, hβ2, h102, h104, h106, h108, h110, h112, c63]; done)
  have x120 : cf .f32 r105 = (gvB (cutOk A_a A_b) (cutB A_a A_b)).lo.z := by first | rfl | (simp only [cutOk, cutB, v2, vmax, vmin, gvB_t, gvB_f, zB, zV, Bool.true_and, Bool.false_and, Bool.and_true, Bool.and_false, Bool.not_eq_true', Bool.not_eq_false', h2, h4, h6, h8, h10, h12, h14, h16, h18, h20, h22, h24, hβ1, hβ2, h102, h104, h106, h108, h110, h112, c63]; done) | (simp [cutOk, cutB, v2, vmax, vmin, gvB_t, gvB_f, zB, zV, Bool.true_and, Bool.false_and, Bool.and_true, Bool.and_false, Bool.not_eq_true', Bool.not_eq_false', h2, h4, h6, h8, h10, h12, h14, h16, h18, h20, h22, h24, hβ1, hβ2, h102, h104, h106, h108, h110, h112, c63]; done) | (revert c63; simp +contextual [cutOk, cutB, v2, vmax, vmin, gvB_t, gvB_f, zB, zV, Bool.true_and, Bool.false_and, Bool.and_true, Bool.and_false, Bool.not_eq_true', Bool.not_eq_false', h2, h4, h6, h8, h10, h12, h14, h16, h18, h20, h22, h24, hβ1, hβ2, h102, h104, h106, h108, h110, h112]; done) | (rcases c63' with hh | hh <;> simp only [hh, cutOk, cutB, v2, vmax, vmin, gvB_t, gvB_f, zB, zV, Bool.true_and, Bool.false_and, Bool.and_true, Bool.and_false, Bool.not_eq_true', Bool.not_eq_false', h2, h4, h6, h8, h10, h12, h14, h16, h18, h20, h22, h24, hβ1, hβ2, h102, h104, h106, h108, h110, h112, c63]; done)
  have x121 : cf .f32 r107 = (gvB (cutOk A_a A_b) (cutB A_a A_b)).hi.x := by first | rfl | (simp only [cutOk, cutB, v2, vmax, vmin, gvB_t, gvB_f, zB, zV, Bool.true_and, Bool.false_and, Bool.and_true, Bool.and_false, Bool.not_eq_true', Bool.not_eq_false', h2, h4, h6, h8, h10, h12, h14, h16, h18, h20, h22, h24, hβ1, hβ2, h102, h104, h106, h108, h110, h112, c63]; done) | (simp [cutOk, cutB, v2, vmax, vmin, gvB_t, gvB_f, zB, zV, Bool.true_and, Bool.false_and, Bool.and_true, Bool.and_false, Bool.not_eq_true', Bool.not_eq_false', h2, h4, h6, h8, h10, h12, h14, h16, h18, h20, h22, h24, hβ1, hβ2, h102, h104, h106, h108, h110, h112, c63]; done) | (revert c63; simp +contextual [cutOk, cutB, v2, vmax, vmin, gvB_t, gvB_f, zB, zV, Bool.true_and, Bool.false_and, Bool.and_true, Bool.and_false, Bool.not_eq_true', Bool.not_eq_false', h2, h4, h6, h8, h10, h12, h14, h16, h18, h20, h22, h24, hβ1, hβ2, h102, h104, h106, h108, h110, h112]; done) | (rcases c63' with hh | hh <;> simp only [hh, cutOk, cutB, v2, vmax, vmin, gvB_t, gvB_f, zB, zV, Bool.true_and, Bool.false_and, Bool.and_true, Bool.and_false, Bool.not_eq_true', Bool.not_eq_false', h2, h4, h6, h8, h10, h12, h14, h16, h18, h20, h22, h24, hβ1, hβ2, h102, h104, h106, h108, h110, h112, c63]; done)
  have x122 : cf .f32 r109 = (gvB (cutOk A_a A_b) (cutB A_a A_b)).hi.y := by first | rfl | (simp only [cutOk, cutB, v2, vmax, vmin, gvB_t, gvB_f, zB, zV, Bool.true_and, Bool.false_and, Bool.and_true, Bool.and_false, Bool.not_eq_true', Bool.not_eq_false', h2, h4, h6, h8, h10, h12, h14, h16, h18, h20, h22, h24, hβ1, hβ2, h102, h104, h106, h108, h110, h112, c63]; done) | (simp [cutOk, cutB, v2, vmax, vmin, gvB_t, gvB_f, zB, zV, Bool.true_and, Bool.false_and, Bool.and_true, Bool.and_false, Bool.not_eq_true', Bool.not_eq_false', h2, h4, h6, h8, h10, h12, h14, h16, h18, h20, h22, h24, hβ1, hβ2, h102, h104, h106, h108, h110, h112, c63]; done) | (revert c63; simp +contextual [cutOk, cutB, v2, vmax, vmin, gvB_t, gvB_f, zB, zV, Bool.true_and, Bool.false_and, Bool.and_true, Bool.and_false, Bool.not_eq_true', Bool.not_eq_false', h2, h4, h6, h8, h10, h12, h14, h16, h18, h20, h22, h24, hβ1, hβ2, h102, h104, h106, h108, h110, h112]; done) | (rcases c63' with hh | hh <;> simp only [hh, cutOk, cutB, v2, vmax, vmin, gvB_t, gvB_f, zB, zV, Bool.true_and, Bool.false_and, Bool.and_true, Bool.and_false, Bool.not_eq_true', Bool.not_eq_false', h2, h4, h6, h8, h10, h12, h14, h16, h18, h20, h22, h24, hβ1, hβ2, h102, h104, h106, h108, h110, h112, c63]; done)
  have x123 : cf .f32 r111 = (gvB (cutOk A_a A_b) (cutB A_a A_b)).hi.z := by first | rfl | (simp only [cutOk, cutB, v2, vmax, vmin, gvB_t, gvB_f, zB, zV, Bool.true_and, Bool.false_and, Bool.and_true, Bool.and_false, Bool.not_eq_true', Bool.not_eq_false', h2, h4, h6, h8, h10, h12, h14, h16, h18, h20, h22, h24, hβ1, hβ2, h102, h104, h106, h108, h110, h112, c63]; done) | (simp [cutOk, cutB, v2, vmax, vmin, gvB_t, gvB_f, zB, zV, Bool.true_and, Bool.false_and, Bool.and_true, Bool.and_false, Bool.not_eq_true', Bool.not_eq_false', h2, h4, h6, h8, h10, h12, h14, h16, h18, h20, h22, h24, hβ1, hβ2, h102, h104, h106, h108, h110, h112, c63]; done) | (revert c63; simp +contextual [cutOk, cutB, v2, vmax, vmin, gvB_t, gvB_f, zB, zV, Bool.true_and, Bool.false_and, Bool.and_true, Bool.and_false, Bool.not_eq_true', Bool.not_eq_false', h2, h4, h6, h8, h10, h12, h14, h16, h18, h20, h22, h24, hβ1, hβ2, h102, h104, h106, h108, h110, h112]; done) | (rcases c63' with hh | hh <;> simp only [hh, cutOk, cutB, v2, vmax, vmin, gvB_t, gvB_f, zB, zV, Bool.true_and, Bool.false_and, Bool.and_true, Bool.and_false, Bool.not_eq_true', Bool.not_eq_false', h2, h4, h6, h8, h10, h12, h14, h16, h18, h20, h22, h24, hβ1, hβ2, h102, h104, h106, h108, h110, h112, c63]; done)
  exact ⟨[(Fl r101), (Fl r103), (Fl r105), (Fl r107), (Fl r109), (Fl r111)], (by first | rfl | rw [x117]), ⟨r101, r103, r105, r107, r109, r111, rfl, x118, x119, x120, x121, x122, x123⟩⟩

/- impl.greater -/
theorem c_impl_greater (x : Nat) (y : Nat) (w : World) : Gives Try.prog 55 #[(Fl x), (Fl y)] w (fun v w' => ∃ r_1 : Nat, v = (Fl r_1) ∧ cf .f32 r_1 = fmaxG (cf .f32 x) (cf .f32 y)) := by
  refine enter [(Fl x), (Fl y), Ud, Ud, Ud, Ud, Ud, Ud, Ud, Ud] Try.func55 rfl Try.ntmps55 rfl ?_
  refine wp_seq_k fun K1 hK1 => ?_
  refine wp_region_lit ?_
  refine q_is (l' := [(Fl x), (Fl y), Ud, Ud, (Fl 0), Ud, Ud, Ud, Ud, Ud]) rfl rfl (does_assign (u := (Fl 0)) (ev rfl)) rfl ?_
  refine wpList_nil (hK1 _ _ ?_)
  refine wp_seq_k fun K2 hK2 => ?_
  refine wp_seq_k fun K3 hK3 => ?_
  refine wp_region_lit ?_
  refine q_is (l' := [(Fl x), (Fl y), Ud, Ud, (Fl 0), (Fl y), Ud, Ud, Ud, Ud]) rfl rfl (does_move (u := (Fl y)) (ev rfl)) rfl ?_
  refine q_is (l' := [(Fl x), (Fl y), Ud, Ud, (Fl 0), (Fl y), (Fl x), Ud, Ud, Ud]) rfl rfl (does_move (u := (Fl x)) (ev rfl)) rfl ?_
  refine q_is (l' := [(Fl x), (Fl y), Ud, Ud, (Fl 0), (Fl y), (Fl x), (Bo (fcmp .gtr (ford .f32 (cf .f32 y) (cf .f32 x)))), Ud, Ud]) rfl rfl (does_fcmp (.inr (.inr (.inr (.inr (.inl rfl))))) (ev rfl) (ev rfl)) rfl ?_
  refine wpList_nil (hK3 _ _ ?_)
  refine wp_cond_split (t := fcmp .gtr (ford .f32 (cf .f32 y) (cf .f32 x))) (ev rfl) (fun c4 => ?_) (fun c4 => ?_)
  · have c4' := c4
    refine wp_seq_k fun K5 hK5 => ?_
    refine wp_region_lit ?_
    refine q_is (l' := [(Fl x), (Fl y), Ud, Ud, (Fl 0), (Fl y), (Fl x), (Bo (fcmp .gtr (ford .f32 (cf .f32 y) (cf .f32 x)))), (Fl y), Ud]) rfl rfl (does_move (u := (Fl y)) (ev rfl)) rfl ?_
    refine q_is (l' := [(Fl x), (Fl y), Ud, Ud, (Fl y), (Fl y), (Fl x), (Bo (fcmp .gtr (ford .f32 (cf .f32 y) (cf .f32 x)))), (Fl y), Ud]) rfl rfl (does_assign (u := (Fl y)) (ev rfl)) rfl ?_
    refine wpList_nil (hK5 _ _ ?_)
    refine wp_ret ?_
    dsimp only [Exit.then, Exit.inBlock]
    refine ret_val (v := (Fl y)) (res_T rfl (slot rfl)) (Ext.refl w) ?_
    have x6 : cf .f32 y = fmaxG (cf .f32 x) (cf .f32 y) := by first | rfl | (simp only [fmaxG, c4]; done) | (simp [fmaxG, c4]; done) | (revert c4; simp +contextual [fmaxG]; done) | (rcases c4' with hh | hh <;> simp only [hh, fmaxG, c4]; done)
    exact ⟨y, rfl, x6⟩
  have c4' := c4
  refine wp_skip (hK2 _ _ ?_)
  refine wp_seq_k fun K7 hK7 => ?_
  refine wp_region_lit ?_
  refine q_is (l' := [(Fl x), (Fl y), Ud, Ud, (Fl 0), (Fl y), (Fl x), (Bo (fcmp .gtr (ford .f32 (cf .f32 y) (cf .f32 x)))), Ud, (Fl x)]) rfl rfl (does_move (u := (Fl x)) (ev rfl)) rfl ?_
  refine q_is (l' := [(Fl x), (Fl y), Ud, Ud, (Fl x), (Fl y), (Fl x), (Bo (fcmp .gtr (ford .f32 (cf .f32 y) (cf .f32 x)))), Ud, (Fl x)]) rfl rfl (does_assign (u := (Fl x)) (ev rfl)) rfl ?_
  refine wpList_nil (hK7 _ _ ?_)
  refine wp_ret ?_
  refine ret_val (v := (Fl x)) (res_T rfl (slot rfl)) (Ext.refl w) ?_
  have x8 : cf .f32 x = fmaxG (cf .f32 x) (cf .f32 y) := by first | rfl | (simp only [fmaxG, c4]; done) | (simp [fmaxG, c4]; done) | (revert c4; simp +contextual [fmaxG]; done) | (rcases c4' with hh | hh <;> simp only [hh, fmaxG, c4]; done)
  exact ⟨x, rfl, x8⟩

/- impl.each -/
theorem c_impl_each (a : List Value) (A_a : V3) (b : List Value) (A_b : V3) (f : Value) (pr_f : Nat → Nat → Nat) (w : World) (hv_a : RV3 w A_a a) (hv_b : RV3 w A_b b) (hv_f : NumF2 Try.prog f w pr_f) : Gives Try.prog 84 #[(.agg a.toArray), (.agg b.toArray), f] w (fun v w' => ∃ cs_1 : List Value, v = (.agg cs_1.toArray) ∧ RV3 w (v2 pr_f A_a A_b) cs_1) := by
  obtain ⟨r1, r3, r5, rfl, h2, h4, h6⟩ := hv_a
  obtain ⟨r7, r9, r11, rfl, h8, h10, h12⟩ := hv_b
  obtain ⟨f_f, s_f, c_f, rfl, hcal_f, hg_f⟩ := hv_f
  refine enter [(.agg #[(Fl r1), (Fl r3), (Fl r5)]), (.agg #[(Fl r7), (Fl r9), (Fl r11)]), (.func (.func f_f) s_f c_f), Ud, Ud, Ud, Ud, Ud, Ud, Ud, Ud, Ud, Ud, Ud, Ud, Ud, Ud, Ud, Ud, Ud, Ud, Ud, Ud, Ud, Ud, Ud] Try.func84 rfl Try.ntmps84 rfl ?_
  refine wp_seq_k fun K13 hK13 => ?_
  refine wp_region_lit ?_
  refine seqd rfl rfl (does_box (u := (.agg #[(Fl r1), (Fl r3), (Fl r5)])) (ev rfl)) ?_; rintro _ w18 ⟨b14, rfl, hb15, hB16, E17⟩
  have g19 : w.heap.size ≤ b14 := Nat.le_trans (Below.size (Ext.refl w)) hb15
  change Blk _ _ [(Fl r1), (Fl r3), (Fl r5)] at hB16
  have X20 := Ext.gr (Ext.refl w) E17
  show wpList _ _ _ _ (fr [(.agg #[(Fl r1), (Fl r3), (Fl r5)]), (.agg #[(Fl r7), (Fl r9), (Fl r11)]), (.func (.func f_f) s_f c_f), (Pt b14 0), Ud, Ud, Ud, Ud, Ud, Ud, Ud, Ud, Ud, Ud, Ud, Ud, Ud, Ud, Ud, Ud, Ud, Ud, Ud, Ud, Ud, Ud]) _
  refine seqd rfl rfl (does_box (u := (.agg #[(Fl r7), (Fl r9), (Fl r11)])) (ev rfl)) ?_; rintro _ w25 ⟨b21, rfl, hb22, hB23, E24⟩
  have n26 : b14 < b21 := Nat.lt_of_lt_of_le (Blk.lt hB16) hb22
  have g27 : w.heap.size ≤ b21 := Nat.le_trans (Below.size X20) hb22
  change Blk _ _ [(Fl r7), (Fl r9), (Fl r11)] at hB23
  have X28 := Ext.gr X20 E24
  show wpList _ _ _ _ (fr [(.agg #[(Fl r1), (Fl r3), (Fl r5)]), (.agg #[(Fl r7), (Fl r9), (Fl r11)]), (.func (.func f_f) s_f c_f), (Pt b14 0), (Pt b21 0), Ud, Ud, Ud, Ud, Ud, Ud, Ud, Ud, Ud, Ud, Ud, Ud, Ud, Ud, Ud, Ud, Ud, Ud, Ud, Ud, Ud]) _
  refine seqd rfl rfl (does_alloc z31) ?_; rintro _ w33 ⟨b29, rfl, hb30, hB31, E32⟩
  have n34 : b14 < b29 := Nat.lt_of_lt_of_le (Blk.lt (hB16.ext E24)) hb30
  have n35 : b21 < b29 := Nat.lt_of_lt_of_le (Blk.lt hB23) hb30
  have g36 : w.heap.size ≤ b29 := Nat.le_trans (Below.size X28) hb30
  change Blk _ _ [(Fl 0), (Fl 0), (Fl 0)] at hB31
  have X37 := Ext.gr X28 E32
  show wpList _ _ _ _ (fr [(.agg #[(Fl r1), (Fl r3), (Fl r5)]), (.agg #[(Fl r7), (Fl r9), (Fl r11)]), (.func (.func f_f) s_f c_f), (Pt b14 0), (Pt b21 0), Ud, (Pt b29 0), Ud, Ud, Ud, Ud, Ud, Ud, Ud, Ud, Ud, Ud, Ud, Ud, Ud, Ud, Ud, Ud, Ud, Ud, Ud]) _
  refine wpList_nil (hK13 _ _ ?_)
  refine wp_seq_k fun K38 hK38 => ?_
  refine region_draw (
    [Fact.pure [] (fun v => v = (.func (.func f_f) s_f c_f)),
    Fact.pure [] (fun v => v = (Pt b14 0)),
    Fact.pure [8] (fun v => v = (Fl r1)),
    Fact.pure [] (fun v => v = (Pt b21 0)),
    Fact.pure [10] (fun v => v = (Fl r7)),
    Fact.pure [9, 11, 7] (fun v => ∃ r_1 : Nat, v = (Fl r_1) ∧ cf .f32 r_1 = pr_f (cf .f32 r1) (cf .f32 r7)),
    Fact.pure [] (fun v => v = (.func (.func f_f) s_f c_f)),
    Fact.pure [] (fun v => v = (Pt b14 1)),
    Fact.pure [14] (fun v => v = (Fl r3)),
    Fact.pure [] (fun v => v = (Pt b21 1)),
    Fact.pure [16] (fun v => v = (Fl r9)),
    Fact.pure [15, 17, 13] (fun v => ∃ r_1 : Nat, v = (Fl r_1) ∧ cf .f32 r_1 = pr_f (cf .f32 r3) (cf .f32 r9)),
    Fact.pure [] (fun v => v = (.func (.func f_f) s_f c_f)),
    Fact.pure [] (fun v => v = (Pt b14 2)),
    Fact.pure [20] (fun v => v = (Fl r5)),
    Fact.pure [] (fun v => v = (Pt b21 2)),
    Fact.pure [22] (fun v => v = (Fl r11)),
    Fact.pure [21, 23, 19] (fun v => ∃ r_1 : Nat, v = (Fl r_1) ∧ cf .f32 r_1 = pr_f (cf .f32 r5) (cf .f32 r11)),
    Fact.pure [12, 18, 24] (fun v => ∃ r_1 : Nat, ∃ r_2 : Nat, ∃ r_3 : Nat, v = (.agg #[(Fl r_1), (Fl r_2), (Fl r_3)]) ∧ cf .f32 r_1 = pr_f (cf .f32 r1) (cf .f32 r7) ∧ cf .f32 r_2 = pr_f (cf .f32 r3) (cf .f32 r9) ∧ cf .f32 r_3 = pr_f (cf .f32 r5) (cf .f32 r11))]) mixed (by kernel_rfl) (by intro _ _ d _ _ h; cases d <;> exact h) ?_
  obtain ⟨w39, hw41⟩ : ∃ w', w' = World.drew w33 := ⟨_, rfl⟩; rw [← hw41]; have E40 : Ext w33 w39 := by rw [hw41]; exact Ext.draw _
  clear hw41
  have X42 := Ext.gr X37 E40
  refine RW_d (fun v43 => [(.agg #[(Fl r1), (Fl r3), (Fl r5)]), (.agg #[(Fl r7), (Fl r9), (Fl r11)]), (.func (.func f_f) s_f c_f), (Pt b14 0), (Pt b21 0), Ud, (Pt b29 0), v43, Ud, Ud, Ud, Ud, Ud, Ud, Ud, Ud, Ud, Ud, Ud, Ud, Ud, Ud, Ud, Ud, Ud, Ud]) rfl (fun _ => rfl) (fun u hu hF => ?_) (fun v43 => ?_)
  · clear hF
    refine doesG_un rfl ?_
    refine (does_move (u := (.func (.func f_f) s_f c_f)) (ev rfl)).mono ?_; rintro _ _ ⟨rfl, rfl⟩
    exact ⟨rfl, Ext.refl _⟩
  refine RW_d (fun v44 => [(.agg #[(Fl r1), (Fl r3), (Fl r5)]), (.agg #[(Fl r7), (Fl r9), (Fl r11)]), (.func (.func f_f) s_f c_f), (Pt b14 0), (Pt b21 0), Ud, (Pt b29 0), v43, v44, Ud, Ud, Ud, Ud, Ud, Ud, Ud, Ud, Ud, Ud, Ud, Ud, Ud, Ud, Ud, Ud, Ud]) rfl (fun _ => rfl) (fun u hu hF => ?_) (fun v44 => ?_)
  · clear hF
    refine doesG_un rfl ?_
    refine (does_fieldAddr (ev rfl) fa31_0).mono ?_; rintro _ _ ⟨rfl, rfl⟩
    exact ⟨rfl, Ext.refl _⟩
  refine RW_d (fun v45 => [(.agg #[(Fl r1), (Fl r3), (Fl r5)]), (.agg #[(Fl r7), (Fl r9), (Fl r11)]), (.func (.func f_f) s_f c_f), (Pt b14 0), (Pt b21 0), Ud, (Pt b29 0), v43, v44, v45, Ud, Ud, Ud, Ud, Ud, Ud, Ud, Ud, Ud, Ud, Ud, Ud, Ud, Ud, Ud, Ud]) rfl (fun _ => rfl) (fun u hu hF => ?_) (fun v45 => ?_)
  · have h8_ : v44 = (Pt b14 0) := hF.1
    clear hF
    obtain rfl := h8_
    refine doesG_un rfl ?_
    refine (does_load (u := (Fl r1)) (ev rfl) Try.isAgg25 (Cells.at (Blk.cells ((((hB16.ext E24).ext E32).ext E40).ext hu)) 0 rfl)).mono ?_; rintro _ _ ⟨rfl, rfl⟩
    exact ⟨rfl, Ext.refl _⟩
  refine RW_d (fun v46 => [(.agg #[(Fl r1), (Fl r3), (Fl r5)]), (.agg #[(Fl r7), (Fl r9), (Fl r11)]), (.func (.func f_f) s_f c_f), (Pt b14 0), (Pt b21 0), Ud, (Pt b29 0), v43, v44, v45, v46, Ud, Ud, Ud, Ud, Ud, Ud, Ud, Ud, Ud, Ud, Ud, Ud, Ud, Ud, Ud]) rfl (fun _ => rfl) (fun u hu hF => ?_) (fun v46 => ?_)
  · clear hF
    refine doesG_un rfl ?_
    refine (does_fieldAddr (ev rfl) fa31_0).mono ?_; rintro _ _ ⟨rfl, rfl⟩
    exact ⟨rfl, Ext.refl _⟩
  refine RW_d (fun v47 => [(.agg #[(Fl r1), (Fl r3), (Fl r5)]), (.agg #[(Fl r7), (Fl r9), (Fl r11)]), (.func (.func f_f) s_f c_f), (Pt b14 0), (Pt b21 0), Ud, (Pt b29 0), v43, v44, v45, v46, v47, Ud, Ud, Ud, Ud, Ud, Ud, Ud, Ud, Ud, Ud, Ud, Ud, Ud, Ud]) rfl (fun _ => rfl) (fun u hu hF => ?_) (fun v47 => ?_)
  · have h10_ : v46 = (Pt b21 0) := hF.1
    clear hF
    obtain rfl := h10_
    refine doesG_un rfl ?_
    refine (does_load (u := (Fl r7)) (ev rfl) Try.isAgg25 (Cells.at (Blk.cells (((hB23.ext E32).ext E40).ext hu)) 0 rfl)).mono ?_; rintro _ _ ⟨rfl, rfl⟩
    exact ⟨rfl, Ext.refl _⟩
  refine RW_d (fun v48 => [(.agg #[(Fl r1), (Fl r3), (Fl r5)]), (.agg #[(Fl r7), (Fl r9), (Fl r11)]), (.func (.func f_f) s_f c_f), (Pt b14 0), (Pt b21 0), Ud, (Pt b29 0), v43, v44, v45, v46, v47, v48, Ud, Ud, Ud, Ud, Ud, Ud, Ud, Ud, Ud, Ud, Ud, Ud, Ud]) rfl (fun _ => rfl) (fun u hu hF => ?_) (fun v48 => ?_)
  · have h9_ : v45 = (Fl r1) := hF.1
    have h11_ : v47 = (Fl r7) := hF.2.1
    have h7_ : v43 = (.func (.func f_f) s_f c_f) := hF.2.2.1
    clear hF
    obtain rfl := h9_
    obtain rfl := h11_
    obtain rfl := h7_
    refine doesG_un rfl ?_
    refine (does_callf (args := #[(Fl r1), (Fl r7)]) (ev rfl) hcal_f (evs rfl) (hg_f r1 r7 _ (Ext.gr (Ext.gr X37 E40) hu))).mono ?_; rintro v u' ⟨hx, ⟨rn1, hv, k0⟩⟩
    exact ⟨⟨rn1, hv, (by simp only [k0])⟩, hx⟩
  refine RW_d (fun v49 => [(.agg #[(Fl r1), (Fl r3), (Fl r5)]), (.agg #[(Fl r7), (Fl r9), (Fl r11)]), (.func (.func f_f) s_f c_f), (Pt b14 0), (Pt b21 0), Ud, (Pt b29 0), v43, v44, v45, v46, v47, v48, v49, Ud, Ud, Ud, Ud, Ud, Ud, Ud, Ud, Ud, Ud, Ud, Ud]) rfl (fun _ => rfl) (fun u hu hF => ?_) (fun v49 => ?_)
  · clear hF
    refine doesG_un rfl ?_
    refine (does_move (u := (.func (.func f_f) s_f c_f)) (ev rfl)).mono ?_; rintro _ _ ⟨rfl, rfl⟩
    exact ⟨rfl, Ext.refl _⟩
  refine RW_d (fun v50 => [(.agg #[(Fl r1), (Fl r3), (Fl r5)]), (.agg #[(Fl r7), (Fl r9), (Fl r11)]), (.func (.func f_f) s_f c_f), (Pt b14 0), (Pt b21 0), Ud, (Pt b29 0), v43, v44, v45, v46, v47, v48, v49, v50, Ud, Ud, Ud, Ud, Ud, Ud, Ud, Ud, Ud, Ud, Ud]) rfl (fun _ => rfl) (fun u hu hF => ?_) (fun v50 => ?_)
  · clear hF
    refine doesG_un rfl ?_
    refine (does_fieldAddr (ev rfl) fa31_1).mono ?_; rintro _ _ ⟨rfl, rfl⟩
    exact ⟨rfl, Ext.refl _⟩
  refine RW_d (fun v51 => [(.agg #[(Fl r1), (Fl r3), (Fl r5)]), (.agg #[(Fl r7), (Fl r9), (Fl r11)]), (.func (.func f_f) s_f c_f), (Pt b14 0), (Pt b21 0), Ud, (Pt b29 0), v43, v44, v45, v46, v47, v48, v49, v50, v51, Ud, Ud, Ud, Ud, Ud, Ud, Ud, Ud, Ud, Ud]) rfl (fun _ => rfl) (fun u hu hF => ?_) (fun v51 => ?_)
  · have h14_ : v50 = (Pt b14 1) := hF.1
    clear hF
    obtain rfl := h14_
    refine doesG_un rfl ?_
    refine (does_load (u := (Fl r3)) (ev rfl) Try.isAgg25 (Cells.at (Blk.cells ((((hB16.ext E24).ext E32).ext E40).ext hu)) 1 rfl)).mono ?_; rintro _ _ ⟨rfl, rfl⟩
    exact ⟨rfl, Ext.refl _⟩
  refine RW_d (fun v52 => [(.agg #[(Fl r1), (Fl r3), (Fl r5)]), (.agg #[(Fl r7), (Fl r9), (Fl r11)]), (.func (.func f_f) s_f c_f), (Pt b14 0), (Pt b21 0), Ud, (Pt b29 0), v43, v44, v45, v46, v47, v48, v49, v50, v51, v52, Ud, Ud, Ud, Ud, Ud, Ud, Ud, Ud, Ud]) rfl (fun _ => rfl) (fun u hu hF => ?_) (fun v52 => ?_)
  · clear hF
    refine doesG_un rfl ?_
    refine (does_fieldAddr (ev rfl) fa31_1).mono ?_; rintro _ _ ⟨rfl, rfl⟩
    exact ⟨rfl, Ext.refl _⟩
  refine RW_d (fun v53 => [(.agg #[(Fl r1), (Fl r3), (Fl r5)]), (.agg #[(Fl r7), (Fl r9), (Fl r11)]), (.func (.func f_f) s_f c_f), (Pt b14 0), (Pt b21 0), Ud, (Pt b29 0), v43, v44, v45, v46, v47, v48, v49, v50, v51, v52, v53, Ud, Ud, Ud, Ud, Ud, Ud, Ud, Ud]) rfl (fun _ => rfl) (fun u hu hF => ?_) (fun v53 => ?_)
  · have h16_ : v52 = (Pt b21 1) := hF.1
    clear hF
    obtain rfl := h16_
    refine doesG_un rfl ?_
    refine (does_load (u := (Fl r9)) (ev rfl) Try.isAgg25 (Cells.at (Blk.cells (((hB23.ext E32).ext E40).ext hu)) 1 rfl)).mono ?_; rintro _ _ ⟨rfl, rfl⟩
    exact ⟨rfl, Ext.refl _⟩
  refine RW_d (fun v54 => [(.agg #[(Fl r1), (Fl r3), (Fl r5)]), (.agg #[(Fl r7), (Fl r9), (Fl r11)]), (.func (.func f_f) s_f c_f), (Pt b14 0), (Pt b21 0), Ud, (Pt b29 0), v43, v44, v45, v46, v47, v48, v49, v50, v51, v52, v53, v54, Ud, Ud, Ud, Ud, Ud, Ud, Ud]) rfl (fun _ => rfl) (fun u hu hF => ?_) (fun v54 => ?_)
  · have h15_ : v51 = (Fl r3) := hF.1
    have h17_ : v53 = (Fl r9) := hF.2.1
    have h13_ : v49 = (.func (.func f_f) s_f c_f) := hF.2.2.1
    clear hF
    obtain rfl := h15_
    obtain rfl := h17_
    obtain rfl := h13_
    refine doesG_un rfl ?_
    refine (does_callf (args := #[(Fl r3), (Fl r9)]) (ev rfl) hcal_f (evs rfl) (hg_f r3 r9 _ (Ext.gr (Ext.gr X37 E40) hu))).mono ?_; rintro v u' ⟨hx, ⟨rn1, hv, k0⟩⟩
    exact ⟨⟨rn1, hv, (by simp only [k0])⟩, hx⟩
  refine RW_d (fun v55 => [(.agg #[(Fl r1), (Fl r3), (Fl r5)]), (.agg #[(Fl r7), (Fl r9), (Fl r11)]), (.func (.func f_f) s_f c_f), (Pt b14 0), (Pt b21 0), Ud, (Pt b29 0), v43, v44, v45, v46, v47, v48, v49, v50, v51, v52, v53, v54, v55, Ud, Ud, Ud, Ud, Ud, Ud]) rfl (fun _ => rfl) (fun u hu hF => ?_) (fun v55 => ?_)
  · clear hF
    refine doesG_un rfl ?_
    refine (does_move (u := (.func (.func f_f) s_f c_f)) (ev rfl)).mono ?_; rintro _ _ ⟨rfl, rfl⟩
    exact ⟨rfl, Ext.refl _⟩
  refine RW_d (fun v56 => [(.agg #[(Fl r1), (Fl r3), (Fl r5)]), (.agg #[(Fl r7), (Fl r9), (Fl r11)]), (.func (.func f_f) s_f c_f), (Pt b14 0), (Pt b21 0), Ud, (Pt b29 0), v43, v44, v45, v46, v47, v48, v49, v50, v51, v52, v53, v54, v55, v56, Ud, Ud, Ud, Ud, Ud]) rfl (fun _ => rfl) (fun u hu hF => ?_) (fun v56 => ?_)
  · clear hF
    refine doesG_un rfl ?_
    refine (does_fieldAddr (ev rfl) fa31_2).mono ?_; rintro _ _ ⟨rfl, rfl⟩
    exact ⟨rfl, Ext.refl _⟩
  refine RW_d (fun v57 => [(.agg #[(Fl r1), (Fl r3), (Fl r5)]), (.agg #[(Fl r7), (Fl r9), (Fl r11)]), (.func (.func f_f) s_f c_f), (Pt b14 0), (Pt b21 0), Ud, (Pt b29 0), v43, v44, v45, v46, v47, v48, v49, v50, v51, v52, v53, v54, v55, v56, v57, Ud, Ud, Ud, Ud]) rfl (fun _ => rfl) (fun u hu hF => ?_) (fun v57 => ?_)
  · have h20_ : v56 = (Pt b14 2) := hF.1
    clear hF
    obtain rfl := h20_
    refine doesG_un rfl ?_
    refine (does_load (u := (Fl r5)) (ev rfl) Try.isAgg25 (Cells.at (Blk.cells ((((hB16.ext E24).ext E32).ext E40).ext hu)) 2 rfl)).mono ?_; rintro _ _ ⟨rfl, rfl⟩
    exact ⟨rfl, Ext.refl _⟩
  refine RW_d (fun v58 => [(.agg #[(Fl r1), (Fl r3), (Fl r5)]), (.agg #[(Fl r7), (Fl r9), (Fl r11)]), (.func (.func f_f) s_f c_f), (Pt b14 0), (Pt b21 0), Ud, (Pt b29 0), v43, v44, v45, v46, v47, v48, v49, v50, v51, v52, v53, v54, v55, v56, v57, v58, Ud, Ud, Ud]) rfl (fun _ => rfl) (fun u hu hF => ?_) (fun v58 => ?_)
  · clear hF
    refine doesG_un rfl ?_
    refine (does_fieldAddr (ev rfl) fa31_2).mono ?_; rintro _ _ ⟨rfl, rfl⟩
    exact ⟨rfl, Ext.refl _⟩
  refine RW_d (fun v59 => [(.agg #[(Fl r1), (Fl r3), (Fl r5)]), (.agg #[(Fl r7), (Fl r9), (Fl r11)]), (.func (.func f_f) s_f c_f), (Pt b14 0), (Pt b21 0), Ud, (Pt b29 0), v43, v44, v45, v46, v47, v48, v49, v50, v51, v52, v53, v54, v55, v56, v57, v58, v59, Ud, Ud]) rfl (fun _ => rfl) (fun u hu hF => ?_) (fun v59 => ?_)
  · have h22_ : v58 = (Pt b21 2) := hF.1
    clear hF
    obtain rfl := h22_
    refine doesG_un rfl ?_
    refine (does_load (u := (Fl r11)) (ev rfl) Try.isAgg25 (Cells.at (Blk.cells (((hB23.ext E32).ext E40).ext hu)) 2 rfl)).mono ?_; rintro _ _ ⟨rfl, rfl⟩
    exact ⟨rfl, Ext.refl _⟩
  refine RW_d (fun v60 => [(.agg #[(Fl r1), (Fl r3), (Fl r5)]), (.agg #[(Fl r7), (Fl r9), (Fl r11)]), (.func (.func f_f) s_f c_f), (Pt b14 0), (Pt b21 0), Ud, (Pt b29 0), v43, v44, v45, v46, v47, v48, v49, v50, v51, v52, v53, v54, v55, v56, v57, v58, v59, v60, Ud]) rfl (fun _ => rfl) (fun u hu hF => ?_) (fun v60 => ?_)
  · have h21_ : v57 = (Fl r5) := hF.1
    have h23_ : v59 = (Fl r11) := hF.2.1
    have h19_ : v55 = (.func (.func f_f) s_f c_f) := hF.2.2.1
    clear hF
    obtain rfl := h21_
    obtain rfl := h23_
    obtain rfl := h19_
    refine doesG_un rfl ?_
    refine (does_callf (args := #[(Fl r5), (Fl r11)]) (ev rfl) hcal_f (evs rfl) (hg_f r5 r11 _ (Ext.gr (Ext.gr X37 E40) hu))).mono ?_; rintro v u' ⟨hx, ⟨rn1, hv, k0⟩⟩
    exact ⟨⟨rn1, hv, (by simp only [k0])⟩, hx⟩
  refine RW_d (fun v61 => [(.agg #[(Fl r1), (Fl r3), (Fl r5)]), (.agg #[(Fl r7), (Fl r9), (Fl r11)]), (.func (.func f_f) s_f c_f), (Pt b14 0), (Pt b21 0), Ud, (Pt b29 0), v43, v44, v45, v46, v47, v48, v49, v50, v51, v52, v53, v54, v55, v56, v57, v58, v59, v60, v61]) rfl (fun _ => rfl) (fun u hu hF => ?_) (fun v61 => ?_)
  · have h12_ : ∃ r_1 : Nat, v48 = (Fl r_1) ∧ cf .f32 r_1 = pr_f (cf .f32 r1) (cf .f32 r7) := hF.1
    have h18_ : ∃ r_1 : Nat, v54 = (Fl r_1) ∧ cf .f32 r_1 = pr_f (cf .f32 r3) (cf .f32 r9) := hF.2.1
    have h24_ : ∃ r_1 : Nat, v60 = (Fl r_1) ∧ cf .f32 r_1 = pr_f (cf .f32 r5) (cf .f32 r11) := hF.2.2.1
    clear hF
    obtain ⟨r12_1, rfl, h12_2⟩ := h12_
    obtain ⟨r18_1, rfl, h18_2⟩ := h18_
    obtain ⟨r24_1, rfl, h24_2⟩ := h24_
    refine doesG_un rfl ?_
    refine (does_build (parts' := [(0, (Fl r12_1)), (1, (Fl r18_1)), (2, (Fl r24_1))]) (cells := #[(Fl r12_1), (Fl r18_1), (Fl r24_1)]) (evp rfl) (by kernel_rfl)).mono ?_; rintro _ _ ⟨rfl, rfl⟩
    exact ⟨⟨r12_1, r18_1, r24_1, rfl, (by simp only [h12_2, h18_2, h24_2]), (by simp only [h12_2, h18_2, h24_2]), (by simp only [h12_2, h18_2, h24_2])⟩, Ext.refl _⟩
  refine RW_fin ?_; intro w62 E63 hP64
  obtain ⟨⟨⟨⟨⟨⟨⟨⟨⟨⟨⟨⟨⟨⟨⟨⟨⟨⟨⟨-, -⟩, -⟩, -⟩, -⟩, -⟩, -⟩, -⟩, -⟩, -⟩, -⟩, -⟩, -⟩, -⟩, -⟩, -⟩, -⟩, -⟩, -⟩, q65⟩ := hP64
  have X66 := Ext.gr X42 E63
  have q65 : ∃ r_1 : Nat, ∃ r_2 : Nat, ∃ r_3 : Nat, v61 = (.agg #[(Fl r_1), (Fl r_2), (Fl r_3)]) ∧ cf .f32 r_1 = pr_f (cf .f32 r1) (cf .f32 r7) ∧ cf .f32 r_2 = pr_f (cf .f32 r3) (cf .f32 r9) ∧ cf .f32 r_3 = pr_f (cf .f32 r5) (cf .f32 r11) := q65
  obtain ⟨r67, r69, r71, rfl, h68, h70, h72⟩ := q65
  show wpList _ _ _ _ (fr [(.agg #[(Fl r1), (Fl r3), (Fl r5)]), (.agg #[(Fl r7), (Fl r9), (Fl r11)]), (.func (.func f_f) s_f c_f), (Pt b14 0), (Pt b21 0), Ud, (Pt b29 0), v43, v44, v45, v46, v47, v48, v49, v50, v51, v52, v53, v54, v55, v56, v57, v58, v59, v60, (.agg #[(Fl r67), (Fl r69), (Fl r71)])]) _
  refine seqn rfl rfl (does_store (n := 3) (cs := [(Fl 0), (Fl 0), (Fl 0)]) (u := (.agg #[(Fl r67), (Fl r69), (Fl r71)])) (ev rfl) (ev rfl) Try.sizeOf31 rfl ((hB31.ext E40).ext E63) (Nat.le_of_ble_eq_true rfl) rfl) ?_; rintro _ w75 ⟨rfl, W73, hB74⟩
  change Blk _ _ [(Fl r67), (Fl r69), (Fl r71)] at hB74
  have X76 := Below.wr X66 W73 g36
  refine wpList_nil (hK38 _ _ ?_)
  refine wp_ret ?_
  refine ret_val (v := (.agg #[(Fl r67), (Fl r69), (Fl r71)])) (res_C rfl (slot rfl) (run_loadAgg (cs := [(Fl r67), (Fl r69), (Fl r71)]) Try.isAgg31 Try.sizeOf31 (Blk.cells hB74) rfl)) X76 ?_
  have x77 : cf .f32 r67 = (v2 pr_f A_a A_b).x := by first | rfl | (simp only [v2, h2, h4, h6, h8, h10, h12, h68, h70, h72]; done) | (simp [v2, h2, h4, h6, h8, h10, h12, h68, h70, h72]; done)
  have x78 : cf .f32 r69 = (v2 pr_f A_a A_b).y := by first | rfl | (simp only [v2, h2, h4, h6, h8, h10, h12, h68, h70, h72]; done) | (simp [v2, h2, h4, h6, h8, h10, h12, h68, h70, h72]; done)
  have x79 : cf .f32 r71 = (v2 pr_f A_a A_b).z := by first | rfl | (simp only [v2, h2, h4, h6, h8, h10, h12, h68, h70, h72]; done) | (simp [v2, h2, h4, h6, h8, h10, h12, h68, h70, h72]; done)
  exact ⟨[(Fl r67), (Fl r69), (Fl r71)], rfl, ⟨r67, r69, r71, rfl, x77, x78, x79⟩⟩

/- impl.lesser -/
theorem c_impl_lesser (x : Nat) (y : Nat) (w : World) : Gives Try.prog 85 #[(Fl x), (Fl y)] w (fun v w' => ∃ r_1 : Nat, v = (Fl r_1) ∧ cf .f32 r_1 = fminL (cf .f32 x) (cf .f32 y)) := by
  refine enter [(Fl x), (Fl y), Ud, Ud, Ud, Ud, Ud, Ud, Ud, Ud] Try.func85 rfl Try.ntmps85 rfl ?_
  refine wp_seq_k fun K1 hK1 => ?_
  refine wp_region_lit ?_
  refine q_is (l' := [(Fl x), (Fl y), Ud, Ud, (Fl 0), Ud, Ud, Ud, Ud, Ud]) rfl rfl (does_assign (u := (Fl 0)) (ev rfl)) rfl ?_
  refine wpList_nil (hK1 _ _ ?_)
  refine wp_seq_k fun K2 hK2 => ?_
  refine wp_seq_k fun K3 hK3 => ?_
  refine wp_region_lit ?_
  refine q_is (l' := [(Fl x), (Fl y), Ud, Ud, (Fl 0), (Fl y), Ud, Ud, Ud, Ud]) rfl rfl (does_move (u := (Fl y)) (ev rfl)) rfl ?_
  refine q_is (l' := [(Fl x), (Fl y), Ud, Ud, (Fl 0), (Fl y), (Fl x), Ud, Ud, Ud]) rfl rfl (does_move (u := (Fl x)) (ev rfl)) rfl ?_
  refine q_is (l' := [(Fl x), (Fl y), Ud, Ud, (Fl 0), (Fl y), (Fl x), (Bo (fcmp .lss (ford .f32 (cf .f32 y) (cf .f32 x)))), Ud, Ud]) rfl rfl (does_fcmp (.inr (.inr (.inl rfl))) (ev rfl) (ev rfl)) rfl ?_
  refine wpList_nil (hK3 _ _ ?_)
  refine wp_cond_split (t := fcmp .lss (ford .f32 (cf .f32 y) (cf .f32 x))) (ev rfl) (fun c4 => ?_) (fun c4 => ?_)
  · have c4' := c4
    refine wp_seq_k fun K5 hK5 => ?_
    refine wp_region_lit ?_
    refine q_is (l' := [(Fl x), (Fl y), Ud, Ud, (Fl 0), (Fl y), (Fl x), (Bo (fcmp .lss (ford .f32 (cf .f32 y) (cf .f32 x)))), (Fl y), Ud]) rfl rfl (does_move (u := (Fl y)) (ev rfl)) rfl ?_
    refine q_is (l' := [(Fl x), (Fl y), Ud, Ud, (Fl y), (Fl y), (Fl x), (Bo (fcmp .lss (ford .f32 (cf .f32 y) (cf .f32 x)))), (Fl y), Ud]) rfl rfl (does_assign (u := (Fl y)) (ev rfl)) rfl ?_
    refine wpList_nil (hK5 _ _ ?_)
    refine wp_ret ?_
    dsimp only [Exit.then, Exit.inBlock]
    refine ret_val (v := (Fl y)) (res_T rfl (slot rfl)) (Ext.refl w) ?_
    have x6 : cf .f32 y = fminL (cf .f32 x) (cf .f32 y) := by first | rfl | (simp only [fminL, c4]; done) | (simp [fminL, c4]; done) | (revert c4; simp +contextual [fminL]; done) | (rcases c4' with hh | hh <;> simp only [hh, fminL, c4]; done)
    exact ⟨y, rfl, x6⟩
  have c4' := c4
  refine wp_skip (hK2 _ _ ?_)
  refine wp_seq_k fun K7 hK7 => ?_
  refine wp_region_lit ?_
  refine q_is (l' := [(Fl x), (Fl y), Ud, Ud, (Fl 0), (Fl y), (Fl x), (Bo (fcmp .lss (ford .f32 (cf .f32 y) (cf .f32 x)))), Ud, (Fl x)]) rfl rfl (does_move (u := (Fl x)) (ev rfl)) rfl ?_
  refine q_is (l' := [(Fl x), (Fl y), Ud, Ud, (Fl x), (Fl y), (Fl x), (Bo (fcmp .lss (ford .f32 (cf .f32 y) (cf .f32 x)))), Ud, (Fl x)]) rfl rfl (does_assign (u := (Fl x)) (ev rfl)) rfl ?_
  refine wpList_nil (hK7 _ _ ?_)
  refine wp_ret ?_
  refine ret_val (v := (Fl x)) (res_T rfl (slot rfl)) (Ext.refl w) ?_
  have x8 : cf .f32 x = fminL (cf .f32 x) (cf .f32 y) := by first | rfl | (simp only [fminL, c4]; done) | (simp [fminL, c4]; done) | (revert c4; simp +contextual [fminL]; done) | (rcases c4' with hh | hh <;> simp only [hh, fminL, c4]; done)
  exact ⟨x, rfl, x8⟩

/- impl.CutBoxes -/
theorem c_impl_CutBoxes (a : List Value) (A_a : Bx) (b : List Value) (A_b : Bx) (w : World) (hv_a : RBx w A_a a) (hv_b : RBx w A_b b) : Gives Try.prog 43 #[(.agg a.toArray), (.agg b.toArray)] w (fun v w' => ∃ cs_1 : List Value, v = (.tuple #[(.agg cs_1.toArray), (Bo (cutOk A_a A_b))]) ∧ RBx w (gvB (cutOk A_a A_b) (cutB A_a A_b)) cs_1) := by
  obtain ⟨r1, r3, r5, r7, r9, r11, rfl, h2, h4, h6, h8, h10, h12⟩ := hv_a
  obtain ⟨r13, r15, r17, r19, r21, r23, rfl, h14, h16, h18, h20, h22, h24⟩ := hv_b
  refine enter [(.agg #[(Fl r1), (Fl r3), (Fl r5), (Fl r7), (Fl r9), (Fl r11)]), (.agg #[(Fl r13), (Fl r15), (Fl r17), (Fl r19), (Fl r21), (Fl r23)]), Ud, Ud, Ud, Ud, Ud, Ud, Ud, Ud, Ud, Ud, Ud, Ud, Ud, Ud, Ud, Ud, Ud, Ud, Ud, Ud, Ud, Ud, Ud, Ud, Ud, Ud, Ud] Try.func43 rfl Try.ntmps43 rfl ?_
  refine wp_seq_k fun K25 hK25 => ?_
  refine wp_region_lit ?_
  refine seqd rfl rfl (does_box (u := (.agg #[(Fl r1), (Fl r3), (Fl r5), (Fl r7), (Fl r9), (Fl r11)])) (ev rfl)) ?_; rintro _ w30 ⟨b26, rfl, hb27, hB28, E29⟩
  have g31 : w.heap.size ≤ b26 := Nat.le_trans (Below.size (Ext.refl w)) hb27
  change Blk _ _ [(Fl r1), (Fl r3), (Fl r5), (Fl r7), (Fl r9), (Fl r11)] at hB28
  have X32 := Ext.gr (Ext.refl w) E29
  show wpList _ _ _ _ (fr [(.agg #[(Fl r1), (Fl r3), (Fl r5), (Fl r7), (Fl r9), (Fl r11)]), (.agg #[(Fl r13), (Fl r15), (Fl r17), (Fl r19), (Fl r21), (Fl r23)]), (Pt b26 0), Ud, Ud, Ud, Ud, Ud, Ud, Ud, Ud, Ud, Ud, Ud, Ud, Ud, Ud, Ud, Ud, Ud, Ud, Ud, Ud, Ud, Ud, Ud, Ud, Ud, Ud]) _
  refine seqd rfl rfl (does_box (u := (.agg #[(Fl r13), (Fl r15), (Fl r17), (Fl r19), (Fl r21), (Fl r23)])) (ev rfl)) ?_; rintro _ w37 ⟨b33, rfl, hb34, hB35, E36⟩
  have n38 : b26 < b33 := Nat.lt_of_lt_of_le (Blk.lt hB28) hb34
  have g39 : w.heap.size ≤ b33 := Nat.le_trans (Below.size X32) hb34
  change Blk _ _ [(Fl r13), (Fl r15), (Fl r17), (Fl r19), (Fl r21), (Fl r23)] at hB35
  have X40 := Ext.gr X32 E36
  show wpList _ _ _ _ (fr [(.agg #[(Fl r1), (Fl r3), (Fl r5), (Fl r7), (Fl r9), (Fl r11)]), (.agg #[(Fl r13), (Fl r15), (Fl r17), (Fl r19), (Fl r21), (Fl r23)]), (Pt b26 0), (Pt b33 0), Ud, Ud, Ud, Ud, Ud, Ud, Ud, Ud, Ud, Ud, Ud, Ud, Ud, Ud, Ud, Ud, Ud, Ud, Ud, Ud, Ud, Ud, Ud, Ud, Ud]) _
  refine seqd rfl rfl (does_alloc z33) ?_; rintro _ w45 ⟨b41, rfl, hb42, hB43, E44⟩
  have n46 : b26 < b41 := Nat.lt_of_lt_of_le (Blk.lt (hB28.ext E36)) hb42
  have n47 : b33 < b41 := Nat.lt_of_lt_of_le (Blk.lt hB35) hb42
  have g48 : w.heap.size ≤ b41 := Nat.le_trans (Below.size X40) hb42
  change Blk _ _ [(Fl 0), (Fl 0), (Fl 0), (Fl 0), (Fl 0), (Fl 0)] at hB43
  have X49 := Ext.gr X40 E44
  show wpList _ _ _ _ (fr [(.agg #[(Fl r1), (Fl r3), (Fl r5), (Fl r7), (Fl r9), (Fl r11)]), (.agg #[(Fl r13), (Fl r15), (Fl r17), (Fl r19), (Fl r21), (Fl r23)]), (Pt b26 0), (Pt b33 0), (Pt b41 0), Ud, Ud, Ud, Ud, Ud, Ud, Ud, Ud, Ud, Ud, Ud, Ud, Ud, Ud, Ud, Ud, Ud, Ud, Ud, Ud, Ud, Ud, Ud, Ud]) _
  refine q_is (l' := [(.agg #[(Fl r1), (Fl r3), (Fl r5), (Fl r7), (Fl r9), (Fl r11)]), (.agg #[(Fl r13), (Fl r15), (Fl r17), (Fl r19), (Fl r21), (Fl r23)]), (Pt b26 0), (Pt b33 0), (Pt b41 0), (Bo false), Ud, Ud, Ud, Ud, Ud, Ud, Ud, Ud, Ud, Ud, Ud, Ud, Ud, Ud, Ud, Ud, Ud, Ud, Ud, Ud, Ud, Ud, Ud]) rfl rfl (does_assign (u := (Bo false)) (ev rfl)) rfl ?_
  refine wpList_nil (hK25 _ _ ?_)
  refine wp_seq_k fun K50 hK50 => ?_
  refine wp_seq_k fun K51 hK51 => ?_
  obtain ⟨β1, hβ1⟩ : ∃ b : Bool, b = ((!(isBox A_a)) || (!(isBox A_b))) := ⟨_, rfl⟩
  refine region_text (
    [Fact.pure [] (fun v => v = (.agg #[(Fl r1), (Fl r3), (Fl r5), (Fl r7), (Fl r9), (Fl r11)])),
    Fact.pure [6] (fun v => v = (Bo (isBox A_a))),
    Fact.pure [7] (fun v => v = (Bo (!(isBox A_a)))),
    Fact.pure [8] (fun v => v = (Bo (!(isBox A_a)))),
    Fact.pure [9] (fun v => (!(isBox A_a)) = false → v = (.agg #[(Fl r13), (Fl r15), (Fl r17), (Fl r19), (Fl r21), (Fl r23)])),
    Fact.pure [10, 9] (fun v => (!(isBox A_a)) = false → v = (Bo (isBox A_b))),
    Fact.pure [11, 9] (fun v => (!(isBox A_a)) = false → v = (Bo (!(isBox A_b)))),
    Fact.pure [9, 12] (fun v => v = (Bo β1))]) (by simp [Fact.pure, Fact.mem]) ?_
  refine RW_d (fun v52 => [(.agg #[(Fl r1), (Fl r3), (Fl r5), (Fl r7), (Fl r9), (Fl r11)]), (.agg #[(Fl r13), (Fl r15), (Fl r17), (Fl r19), (Fl r21), (Fl r23)]), (Pt b26 0), (Pt b33 0), (Pt b41 0), (Bo false), v52, Ud, Ud, Ud, Ud, Ud, Ud, Ud, Ud, Ud, Ud, Ud, Ud, Ud, Ud, Ud, Ud, Ud, Ud, Ud, Ud, Ud, Ud]) rfl (fun _ => rfl) (fun u hu hF => ?_) (fun v52 => ?_)
  · clear hF
    refine doesG_un rfl ?_
    refine (does_loadAgg (cs := [(Fl r1), (Fl r3), (Fl r5), (Fl r7), (Fl r9), (Fl r11)]) (ev rfl) Try.isAgg33 Try.sizeOf33 (Blk.cells (((hB28.ext E36).ext E44).ext hu)) rfl).mono ?_; rintro _ _ ⟨rfl, rfl⟩
    exact ⟨rfl, Ext.refl _⟩
  refine RW_d (fun v53 => [(.agg #[(Fl r1), (Fl r3), (Fl r5), (Fl r7), (Fl r9), (Fl r11)]), (.agg #[(Fl r13), (Fl r15), (Fl r17), (Fl r19), (Fl r21), (Fl r23)]), (Pt b26 0), (Pt b33 0), (Pt b41 0), (Bo false), v52, v53, Ud, Ud, Ud, Ud, Ud, Ud, Ud, Ud, Ud, Ud, Ud, Ud, Ud, Ud, Ud, Ud, Ud, Ud, Ud, Ud, Ud]) rfl (fun _ => rfl) (fun u hu hF => ?_) (fun v53 => ?_)
  · have h6_ : v52 = (.agg #[(Fl r1), (Fl r3), (Fl r5), (Fl r7), (Fl r9), (Fl r11)]) := hF.1
    clear hF
    obtain rfl := h6_
    refine doesG_un rfl ?_
    refine (does_call (args := #[(.agg #[(Fl r1), (Fl r3), (Fl r5), (Fl r7), (Fl r9), (Fl r11)])]) cal19 (evs rfl) (c_impl_ValidBox [(Fl r1), (Fl r3), (Fl r5), (Fl r7), (Fl r9), (Fl r11)] A_a _ ⟨r1, r3, r5, r7, r9, r11, rfl, h2, h4, h6, h8, h10, h12⟩)).mono ?_; rintro v u' ⟨hx, hv⟩
    exact ⟨hv, hx⟩
  refine RW_d (fun v54 => [(.agg #[(Fl r1), (Fl r3), (Fl r5), (Fl r7), (Fl r9), (Fl r11)]), (.agg #[(Fl r13), (Fl r15), (Fl r17), (Fl r19), (Fl r21), (Fl r23)]), (Pt b26 0), (Pt b33 0), (Pt b41 0), (Bo false), v52, v53, v54, Ud, Ud, Ud, Ud, Ud, Ud, Ud, Ud, Ud, Ud, Ud, Ud, Ud, Ud, Ud, Ud, Ud, Ud, Ud, Ud]) rfl (fun _ => rfl) (fun u hu hF => ?_) (fun v54 => ?_)
  · have h7_ : v53 = (Bo (isBox A_a)) := hF.1
    clear hF
    obtain rfl := h7_
    refine doesG_un rfl ?_
    refine (does_not (ev rfl)).mono ?_; rintro _ _ ⟨rfl, rfl⟩
    exact ⟨rfl, Ext.refl _⟩
  refine RW_d (fun v55 => [(.agg #[(Fl r1), (Fl r3), (Fl r5), (Fl r7), (Fl r9), (Fl r11)]), (.agg #[(Fl r13), (Fl r15), (Fl r17), (Fl r19), (Fl r21), (Fl r23)]), (Pt b26 0), (Pt b33 0), (Pt b41 0), (Bo false), v52, v53, v54, v55, Ud, Ud, Ud, Ud, Ud, Ud, Ud, Ud, Ud, Ud, Ud, Ud, Ud, Ud, Ud, Ud, Ud, Ud, Ud]) rfl (fun _ => rfl) (fun u hu hF => ?_) (fun v55 => ?_)
  · have h8_ : v54 = (Bo (!(isBox A_a))) := hF.1
    clear hF
    obtain rfl := h8_
    refine doesG_un rfl ?_
    refine (does_move (u := (Bo (!(isBox A_a)))) (ev rfl)).mono ?_; rintro _ _ ⟨rfl, rfl⟩
    exact ⟨rfl, Ext.refl _⟩
  refine RW_d (fun v56 => [(.agg #[(Fl r1), (Fl r3), (Fl r5), (Fl r7), (Fl r9), (Fl r11)]), (.agg #[(Fl r13), (Fl r15), (Fl r17), (Fl r19), (Fl r21), (Fl r23)]), (Pt b26 0), (Pt b33 0), (Pt b41 0), (Bo false), v52, v53, v54, v55, v56, Ud, Ud, Ud, Ud, Ud, Ud, Ud, Ud, Ud, Ud, Ud, Ud, Ud, Ud, Ud, Ud, Ud, Ud]) rfl (fun _ => rfl) (fun u hu hF => ?_) (fun v56 => ?_)
  · have h9_ : v55 = (Bo (!(isBox A_a))) := hF.1
    clear hF
    obtain rfl := h9_
    refine doesG_g (b := (!(isBox A_a))) rfl (yld rfl rfl) (fun hg => ?_) (fun hg => ⟨fun h => absurd h hg, Ext.refl _⟩)
    refine (does_loadAgg (cs := [(Fl r13), (Fl r15), (Fl r17), (Fl r19), (Fl r21), (Fl r23)]) (ev rfl) Try.isAgg33 Try.sizeOf33 (Blk.cells ((hB35.ext E44).ext hu)) rfl).mono ?_; rintro _ _ ⟨rfl, rfl⟩
    exact ⟨fun _ => rfl, Ext.refl _⟩
  refine RW_d (fun v57 => [(.agg #[(Fl r1), (Fl r3), (Fl r5), (Fl r7), (Fl r9), (Fl r11)]), (.agg #[(Fl r13), (Fl r15), (Fl r17), (Fl r19), (Fl r21), (Fl r23)]), (Pt b26 0), (Pt b33 0), (Pt b41 0), (Bo false), v52, v53, v54, v55, v56, v57, Ud, Ud, Ud, Ud, Ud, Ud, Ud, Ud, Ud, Ud, Ud, Ud, Ud, Ud, Ud, Ud, Ud]) rfl (fun _ => rfl) (fun u hu hF => ?_) (fun v57 => ?_)
  · have h10_ : (!(isBox A_a)) = false → v56 = (.agg #[(Fl r13), (Fl r15), (Fl r17), (Fl r19), (Fl r21), (Fl r23)]) := hF.1
    have h9_ : v55 = (Bo (!(isBox A_a))) := hF.2.1
    clear hF
    obtain rfl := h9_
    refine doesG_g (b := (!(isBox A_a))) rfl (yld rfl rfl) (fun hg => ?_) (fun hg => ⟨fun h => absurd h hg, Ext.refl _⟩)
    obtain rfl := h10_ hg
    refine (does_call (args := #[(.agg #[(Fl r13), (Fl r15), (Fl r17), (Fl r19), (Fl r21), (Fl r23)])]) cal19 (evs rfl) (c_impl_ValidBox [(Fl r13), (Fl r15), (Fl r17), (Fl r19), (Fl r21), (Fl r23)] A_b _ ⟨r13, r15, r17, r19, r21, r23, rfl, h14, h16, h18, h20, h22, h24⟩)).mono ?_; rintro v u' ⟨hx, hv⟩
    exact ⟨fun _ => hv, hx⟩
  refine RW_d (fun v58 => [(.agg #[(Fl r1), (Fl r3), (Fl r5), (Fl r7), (Fl r9), (Fl r11)]), (.agg #[(Fl r13), (Fl r15), (Fl r17), (Fl r19), (Fl r21), (Fl r23)]), (Pt b26 0), (Pt b33 0), (Pt b41 0), (Bo false), v52, v53, v54, v55, v56, v57, v58, Ud, Ud, Ud, Ud, Ud, Ud, Ud, Ud, Ud, Ud, Ud, Ud, Ud, Ud, Ud, Ud]) rfl (fun _ => rfl) (fun u hu hF => ?_) (fun v58 => ?_)
  · have h11_ : (!(isBox A_a)) = false → v57 = (Bo (isBox A_b)) := hF.1
    have h9_ : v55 = (Bo (!(isBox A_a))) := hF.2.1
    clear hF
    obtain rfl := h9_
    refine doesG_g (b := (!(isBox A_a))) rfl (yld rfl rfl) (fun hg => ?_) (fun hg => ⟨fun h => absurd h hg, Ext.refl _⟩)
    obtain rfl := h11_ hg
    refine (does_not (ev rfl)).mono ?_; rintro _ _ ⟨rfl, rfl⟩
    exact ⟨fun _ => rfl, Ext.refl _⟩
  refine RW_d (fun v59 => [(.agg #[(Fl r1), (Fl r3), (Fl r5), (Fl r7), (Fl r9), (Fl r11)]), (.agg #[(Fl r13), (Fl r15), (Fl r17), (Fl r19), (Fl r21), (Fl r23)]), (Pt b26 0), (Pt b33 0), (Pt b41 0), (Bo false), v52, v53, v54, v55, v56, v57, v58, v59, Ud, Ud, Ud, Ud, Ud, Ud, Ud, Ud, Ud, Ud, Ud, Ud, Ud, Ud, Ud]) rfl (fun _ => rfl) (fun u hu hF => ?_) (fun v59 => ?_)
  · have h9_ : v55 = (Bo (!(isBox A_a))) := hF.1
    have h12_ : (!(isBox A_a)) = false → v58 = (Bo (!(isBox A_b))) := hF.2.1
    clear hF
    obtain rfl := h9_
    refine doesG_un rfl ((does_pick (b := (!(isBox A_a))) (ev rfl) (ev rfl) (ev rfl)).mono ?_); rintro _ _ ⟨rfl, rfl⟩; refine ⟨?_, Ext.refl _⟩; rw [hβ1]; skip
    cases hbb : (!(isBox A_a)) <;> simp [hbb] at h12_ ⊢
    all_goals (first | rfl | (subst h12_; rfl) | simp_all)
  refine RW_fin ?_; intro w60 E61 hP62
  obtain ⟨⟨⟨⟨⟨⟨⟨⟨-, -⟩, -⟩, -⟩, -⟩, -⟩, -⟩, -⟩, q63⟩ := hP62
  have X64 := Ext.gr X49 E61
  have q63 : v59 = (Bo β1) := q63
  obtain rfl := q63
  show wpList _ _ _ _ (fr [(.agg #[(Fl r1), (Fl r3), (Fl r5), (Fl r7), (Fl r9), (Fl r11)]), (.agg #[(Fl r13), (Fl r15), (Fl r17), (Fl r19), (Fl r21), (Fl r23)]), (Pt b26 0), (Pt b33 0), (Pt b41 0), (Bo false), v52, v53, v54, v55, v56, v57, v58, (Bo β1), Ud, Ud, Ud, Ud, Ud, Ud, Ud, Ud, Ud, Ud, Ud, Ud, Ud, Ud, Ud]) _
  refine wpList_nil (hK51 _ _ ?_)
  refine wp_cond_split (t := β1) (ev rfl) (fun c65 => ?_) (fun c65 => ?_)
  · have c65' := c65
    (try simp only [hβ1] at c65')
    (try simp only [icmp, Bool.and_eq_true, Bool.or_eq_true, Bool.and_eq_false_iff, Bool.or_eq_false_iff, Bool.not_eq_true', Bool.not_eq_false', decide_eq_true_eq, decide_eq_false_iff_not, beq_iff_eq, bne_iff_ne, beq_eq_false_iff_ne, bne_eq_false_iff_eq] at c65')
    refine wp_seq_k fun K66 hK66 => ?_
    refine wp_region_lit ?_
    refine q_is (l' := [(.agg #[(Fl r1), (Fl r3), (Fl r5), (Fl r7), (Fl r9), (Fl r11)]), (.agg #[(Fl r13), (Fl r15), (Fl r17), (Fl r19), (Fl r21), (Fl r23)]), (Pt b26 0), (Pt b33 0), (Pt b41 0), (Bo false), v52, v53, v54, v55, v56, v57, v58, (Bo β1), (.agg #[(Fl 0), (Fl 0), (Fl 0), (Fl 0), (Fl 0), (Fl 0)]), Ud, Ud, Ud, Ud, Ud, Ud, Ud, Ud, Ud, Ud, Ud, Ud, Ud, Ud]) rfl rfl (does_build (parts' := []) (cells := #[(Fl 0), (Fl 0), (Fl 0), (Fl 0), (Fl 0), (Fl 0)]) (evp rfl) (by kernel_rfl)) rfl ?_
    refine seqn rfl rfl (does_store (n := 6) (cs := [(Fl 0), (Fl 0), (Fl 0), (Fl 0), (Fl 0), (Fl 0)]) (u := (.agg #[(Fl 0), (Fl 0), (Fl 0), (Fl 0), (Fl 0), (Fl 0)])) (ev rfl) (ev rfl) Try.sizeOf33 rfl (hB43.ext E61) (Nat.le_of_ble_eq_true rfl) rfl) ?_; rintro _ w69 ⟨rfl, W67, hB68⟩
    change Blk _ _ [(Fl 0), (Fl 0), (Fl 0), (Fl 0), (Fl 0), (Fl 0)] at hB68
    have X70 := Below.wr X64 W67 g48
    refine q_is (l' := [(.agg #[(Fl r1), (Fl r3), (Fl r5), (Fl r7), (Fl r9), (Fl r11)]), (.agg #[(Fl r13), (Fl r15), (Fl r17), (Fl r19), (Fl r21), (Fl r23)]), (Pt b26 0), (Pt b33 0), (Pt b41 0), (Bo false), v52, v53, v54, v55, v56, v57, v58, (Bo β1), (.agg #[(Fl 0), (Fl 0), (Fl 0), (Fl 0), (Fl 0), (Fl 0)]), Ud, Ud, Ud, Ud, Ud, Ud, Ud, Ud, Ud, Ud, Ud, Ud, Ud, Ud]) rfl rfl (does_assign (u := (Bo false)) (ev rfl)) rfl ?_
    refine wpList_nil (hK66 _ _ ?_)
    refine wp_ret ?_
    dsimp only [Exit.then, Exit.inBlock]
    refine ret_val (v := (.tuple #[(.agg #[(Fl 0), (Fl 0), (Fl 0), (Fl 0), (Fl 0), (Fl 0)]), (Bo false)])) (res_CT rfl (slot rfl) (run_loadAgg (cs := [(Fl 0), (Fl 0), (Fl 0), (Fl 0), (Fl 0), (Fl 0)]) Try.isAgg33 Try.sizeOf33 (Blk.cells hB68) rfl) (slot rfl)) X70 ?_
    try simp only [h2, h4, h6, h8, h10, h12, h14, h16, h18, h20, h22, h24, hβ1] at c65
    have x71 : (cutOk A_a A_b) = false := by first | rfl | (simp only [cutOk, cutB, v2, vmax, vmin, gvB_t, gvB_f, zB, zV, Bool.true_and, Bool.false_and, Bool.and_true, Bool.and_false, Bool.not_eq_true', Bool.not_eq_false', h2, h4, h6, h8, h10, h12, h14, h16, h18, h20, h22, h24, hβ1, c65]; done) | (simp [cutOk, cutB, v2, vmax, vmin, gvB_t, gvB_f, zB, zV, Bool.true_and, Bool.false_and, Bool.and_true, Bool.and_false, Bool.not_eq_true', Bool.not_eq_false', h2, h4, h6, h8, h10, h12, h14, h16, h18, h20, h22, h24, hβ1, c65]; done) | (revert c65; simp +contextual [cutOk, cutB, v2, vmax, vmin, gvB_t, gvB_f, zB, zV, Bool.true_and, Bool.false_and, Bool.and_true, Bool.and_false, Bool.not_eq_true', Bool.not_eq_false', h2, h4, h6, h8, h10, h12, h14, h16, h18, h20, h22, h24, hβ1]; done) | (rcases c65' with hh | hh <;> simp only [hh, cutOk, cutB, v2, vmax, vmin, gvB_t, gvB_f, zB, zV, Bool.true_and, Bool.false_and, Bool.and_true, Bool.and_false, Bool.not_eq_true', Bool.not_eq_false', h2, h4, h6, h8, h10, h12, h14, h16, h18, h20, h22, h24, hβ1, c65]; done)
    have x72 : cf .f32 0 = (gvB (cutOk A_a A_b) (cutB A_a A_b)).lo.x := by first | rfl | (simp only [cutOk, cutB, v2, vmax, vmin, gvB_t, gvB_f, zB, zV, Bool.true_and, Bool.false_and, Bool.and_true, Bool.and_false, Bool.not_eq_true', Bool.not_eq_false', h2, h4, h6, h8, h10, h12, h14, h16, h18, h20, h22, h24, hβ1, c65]; done) | (simp [cutOk, cutB, v2, vmax, vmin, gvB_t, gvB_f, zB, zV, Bool.true_and, Bool.false_and, Bool.and_true, Bool.and_false, Bool.not_eq_true', Bool.not_eq_false', h2, h4, h6, h8, h10, h12, h14, h16, h18, h20, h22, h24, hβ1, c65]; done) | (revert c65; simp +contextual [cutOk, cutB, v2, vmax, vmin, gvB_t, gvB_f, zB, zV, Bool.true_and, Bool.false_and, Bool.and_true, Bool.and_false, Bool.not_eq_true', Bool.not_eq_false', h2, h4, h6, h8, h10, h12, h14, h16, h18, h20, h22, h24, hβ1]; done) | (rcases c65' with hh | hh <;> simp only [hh, cutOk, cutB, v2, vmax, vmin, gvB_t, gvB_f, zB, zV, Bool.true_and, Bool.false_and, Bool.and_true, Bool.and_false, Bool.not_eq_true', Bool.not_eq_false', h2, h4, h6, h8, h10, h12, h14, h16, h18, h20, h22, h24, hβ1, c65]; done)
    have x73 : cf .f32 0 = (gvB (cutOk A_a A_b) (cutB A_a A_b)).lo.y := by first | rfl | (simp only [cutOk, cutB, v2, vmax, vmin, gvB_t, gvB_f, zB, zV, Bool.true_and, Bool.false_and, Bool.and_true, Bool.and_false, Bool.not_eq_true', Bool.not_eq_false', h2, h4, h6, h8, h10, h12, h14, h16, h18, h20, h22, h24, hβ1, c65]; done) | (simp [cutOk, cutB, v2, vmax, vmin, gvB_t, gvB_f, zB, zV, Bool.true_and, Bool.false_and, Bool.and_true, Bool.and_false, Bool.not_eq_true', Bool.not_eq_false', h2, h4, h6, h8, h10, h12, h14, h16, h18, h20, h22, h24, hβ1, c65]; done) | (revert c65; simp +contextual [cutOk, cutB, v2, vmax, vmin, gvB_t, gvB_f, zB, zV, Bool.true_and, Bool.false_and, Bool.and_true, Bool.and_false, Bool.not_eq_true', Bool.not_eq_false', h2, h4, h6, h8, h10, h12, h14, h16, h18, h20, h22, h24, hβ1]; done) | (rcases c65' with hh | hh <;> simp only [hh, cutOk, cutB, v2, vmax, vmin, gvB_t, gvB_f, zB, zV, Bool.true_and, Bool.false_and, Bool.and_true, Bool.and_false, Bool.not_eq_true', Bool.not_eq_false', h2, h4, h6, h8, h10, h12, h14, h16, h18, h20, h22, h24, hβ1, c65]; done)
    have x74 : cf .f32 0 = (gvB (cutOk A_a A_b) (cutB A_a A_b)).lo.z := by first | rfl | (simp only [cutOk, cutB, v2, vmax, vmin, gvB_t, gvB_f, zB, zV, Bool.true_and, Bool.false_and, Bool.and_true, Bool.and_false, Bool.not_eq_true', Bool.not_eq_false', h2, h4, h6, h8, h10, h12, h14, h16, h18, h20, h22, h24, hβ1, c65]; done) | (simp [cutOk, cutB, v2, vmax, vmin, gvB_t, gvB_f, zB, zV, Bool.true_and, Bool.false_and, Bool.and_true, Bool.and_false, Bool.not_eq_true', Bool.not_eq_false', h2, h4, h6, h8, h10, h12, h14, h16, h18, h20, h22, h24, hβ1, c65]; done) | (revert c65; simp +contextual [cutOk, cutB, v2, vmax, vmin, gvB_t, gvB_f, zB, zV, Bool.true_and, Bool.false_and, Bool.and_true, Bool.and_false, Bool.not_eq_true', Bool.not_eq_false', h2, h4, h6, h8, h10, h12, h14, h16, h18, h20, h22, h24, hβ1]; done) | (rcases c65' with hh | hh <;> simp only [hh, cutOk, cutB, v2, vmax, vmin, gvB_t, gvB_f, zB, zV, Bool.true_and, Bool.false_and, Bool.and_true, Bool.and_false, Bool.not_eq_true', Bool.not_eq_false', h2, h4, h6, h8, h10, h12, h14, h16, h18, h20, h22, h24, hβ1, c65]; done)
    have x75 : cf .f32 0 = (gvB (cutOk A_a A_b) (cutB A_a A_b)).hi.x := by first | rfl | (simp only [cutOk, cutB, v2, vmax, vmin, gvB_t, gvB_f, zB, zV, Bool.true_and, Bool.false_and, Bool.and_true, Bool.and_false, Bool.not_eq_true', Bool.not_eq_false', h2, h4, h6, h8, h10, h12, h14, h16, h18, h20, h22, h24, hβ1, c65]; done) | (simp [cutOk, cutB, v2, vmax, vmin, gvB_t, gvB_f, zB, zV, Bool.true_and, Bool.false_and, Bool.and_true, Bool.and_false, Bool.not_eq_true', Bool.not_eq_false', h2, h4, h6, h8, h10, h12, h14, h16, h18, h20, h22, h24, hβ1, c65]; done) | (revert c65; simp +contextual [cutOk, cutB, v2, vmax, vmin, gvB_t, gvB_f, zB, zV, Bool.true_and, Bool.false_and, Bool.and_true, Bool.and_false, Bool.not_eq_true', Bool.not_eq_false', h2, h4, h6, h8, h10, h12, h14, h16, h18, h20, h22, h24, hβ1]; done) | (rcases c65' with hh | hh <;> simp only [hh, cutOk, cutB, v2, vmax, vmin, gvB_t, gvB_f, zB, zV, Bool.true_and, Bool.false_and, Bool.and_true, Bool.and_false, Bool.not_eq_true', Bool.not_eq_false', h2, h4, h6, h8, h10, h12, h14, h16, h18, h20, h22, h24, hβ1, c65]; done)
    have x76 : cf .f32 0 = (gvB (cutOk A_a A_b) (cutB A_a A_b)).hi.y := by first | rfl | (simp only [cutOk, cutB, v2, vmax, vmin, gvB_t, gvB_f, zB, zV, Bool.true_and, Bool.false_and, Bool.and_true, Bool.and_false, Bool.not_eq_true', Bool.not_eq_false', h2, h4, h6, h8, h10, h12, h14, h16, h18, h20, h22, h24, hβ1, c65]; done) | (simp [cutOk, cutB, v2, vmax, vmin, gvB_t, gvB_f, zB, zV, Bool.true_and, Bool.false_and, Bool.and_true, Bool.and_false, Bool.not_eq_true', Bool.not_eq_false', h2, h4, h6, h8, h10, h12, h14, h16, h18, h20, h22, h24, hβ1, c65]; done) | (revert c65; simp +contextual [cutOk, cutB, v2, vmax, vmin, gvB_t, gvB_f, zB, zV, Bool.true_and, Bool.false_and, Bool.and_true, Bool.and_false, Bool.not_eq_true', Bool.not_eq_false', h2, h4, h6, h8, h10, h12, h14, h16, h18, h20, h22, h24, hβ1]; done) | (rcases c65' with hh | hh <;> simp only [hh, cutOk, cutB, v2, vmax, vmin, gvB_t, gvB_f, zB, zV, Bool.true_and, Bool.false_and, Bool.and_true, Bool.and_false, Bool.not_eq_true', Bool.not_eq_false', h2, h4, h6, h8, h10, h12, h14, h16, h18, h20, h22, h24, hβ1, c65]; done)
    have x77 : cf .f32 0 = (gvB (cutOk A_a A_b) (cutB A_a A_b)).hi.z := by first | rfl | (simp only [cutOk, cutB, v2, vmax, vmin, gvB_t, gvB_f, zB, zV, Bool.true_and, Bool.false_and, Bool.and_true, Bool.and_false, Bool.not_eq_true', Bool.not_eq_false', h2, h4, h6, h8, h10, h12, h14, h16, h18, h20, h22, h24, hβ1, c65]; done) | (simp [cutOk, cutB, v2, vmax, vmin, gvB_t, gvB_f, zB, zV, Bool.true_and, Bool.false_and, Bool.and_true, Bool.and_false, Bool.not_eq_true', Bool.not_eq_false', h2, h4, h6, h8, h10, h12, h14, h16, h18, h20, h22, h24, hβ1, c65]; done) | (revert c65; simp +contextual [cutOk, cutB, v2, vmax, vmin, gvB_t, gvB_f, zB, zV, Bool.true_and, Bool.false_and, Bool.and_true, Bool.and_false, Bool.not_eq_true', Bool.not_eq_false', h2, h4, h6, h8, h10, h12, h14, h16, h18, h20, h22, h24, hβ1]; done) | (rcases c65' with hh | hh <;> simp only [hh, cutOk, cutB, v2, vmax, vmin, gvB_t, gvB_f, zB, zV, Bool.true_and, Bool.false_and, Bool.and_true, Bool.and_false, Bool.not_eq_true', Bool.not_eq_false', h2, h4, h6, h8, h10, h12, h14, h16, h18, h20, h22, h24, hβ1, c65]; done)
    exact ⟨[(Fl 0), (Fl 0), (Fl 0), (Fl 0), (Fl 0), (Fl 0)], (by first | rfl | rw [x71]), ⟨0, 0, 0, 0, 0, 0, rfl, x72, x73, x74, x75, x76, x77⟩⟩
  have c65' := c65
  (try simp only [hβ1] at c65')
  (try simp only [icmp, Bool.and_eq_true, Bool.or_eq_true, Bool.and_eq_false_iff, Bool.or_eq_false_iff, Bool.not_eq_true', Bool.not_eq_false', decide_eq_true_eq, decide_eq_false_iff_not, beq_iff_eq, bne_iff_ne, beq_eq_false_iff_ne, bne_eq_false_iff_eq] at c65')
  refine wp_skip (hK50 _ _ ?_)
  refine wp_seq_k fun K78 hK78 => ?_
  obtain ⟨β2, hβ2⟩ : ∃ b : Bool, b = (isBox (Bx.mk (v2 (fun x y => fmaxG x y) A_a.lo A_b.lo) (v2 (fun x y => fminL x y) A_a.hi A_b.hi))) := ⟨_, rfl⟩
  refine region_draw (
    [Fact.pure [] (fun v => v = (Pt b26 0)),
    Fact.pure [15] (fun v => v = (.agg #[(Fl r1), (Fl r3), (Fl r5)])),
    Fact.pure [] (fun v => v = (Pt b33 0)),
    Fact.pure [17] (fun v => v = (.agg #[(Fl r13), (Fl r15), (Fl r17)])),
    Fact.pure [16, 18] (fun v => ∃ cs_1 : List Value, v = (.agg cs_1.toArray) ∧ RV3 w (v2 (fun x y => fmaxG x y) A_a.lo A_b.lo) cs_1),
    Fact.pure [] (fun v => v = (Pt b26 3)),
    Fact.pure [20] (fun v => v = (.agg #[(Fl r7), (Fl r9), (Fl r11)])),
    Fact.pure [] (fun v => v = (Pt b33 3)),
    Fact.pure [22] (fun v => v = (.agg #[(Fl r19), (Fl r21), (Fl r23)])),
    Fact.pure [21, 23] (fun v => ∃ cs_1 : List Value, v = (.agg cs_1.toArray) ∧ RV3 w (v2 (fun x y => fminL x y) A_a.hi A_b.hi) cs_1),
    Fact.pure [19, 24] (fun v => ∃ r_1 : Nat, ∃ r_2 : Nat, ∃ r_3 : Nat, ∃ r_4 : Nat, ∃ r_5 : Nat, ∃ r_6 : Nat, v = (.agg #[(Fl r_1), (Fl r_2), (Fl r_3), (Fl r_4), (Fl r_5), (Fl r_6)]) ∧ cf .f32 r_1 = (v2 (fun x y => fmaxG x y) A_a.lo A_b.lo).x ∧ cf .f32 r_2 = (v2 (fun x y => fmaxG x y) A_a.lo A_b.lo).y ∧ cf .f32 r_3 = (v2 (fun x y => fmaxG x y) A_a.lo A_b.lo).z ∧ cf .f32 r_4 = (v2 (fun x y => fminL x y) A_a.hi A_b.hi).x ∧ cf .f32 r_5 = (v2 (fun x y => fminL x y) A_a.hi A_b.hi).y ∧ cf .f32 r_6 = (v2 (fun x y => fminL x y) A_a.hi A_b.hi).z),
    Fact.pure [25] (fun v => ∃ cs_1 : List Value, v = (.tuple #[(.agg cs_1.toArray), (Bo (isBox (Bx.mk (v2 (fun x y => fmaxG x y) A_a.lo A_b.lo) (v2 (fun x y => fminL x y) A_a.hi A_b.hi))))]) ∧ RBx w (gvB (isBox (Bx.mk (v2 (fun x y => fmaxG x y) A_a.lo A_b.lo) (v2 (fun x y => fminL x y) A_a.hi A_b.hi))) (Bx.mk (v2 (fun x y => fmaxG x y) A_a.lo A_b.lo) (v2 (fun x y => fminL x y) A_a.hi A_b.hi))) cs_1),
    Fact.pure [26] (fun v => ∃ r_1 : Nat, ∃ r_2 : Nat, ∃ r_3 : Nat, ∃ r_4 : Nat, ∃ r_5 : Nat, ∃ r_6 : Nat, v = (.agg #[(Fl r_1), (Fl r_2), (Fl r_3), (Fl r_4), (Fl r_5), (Fl r_6)]) ∧ cf .f32 r_1 = (gvB (isBox (Bx.mk (v2 (fun x y => fmaxG x y) A_a.lo A_b.lo) (v2 (fun x y => fminL x y) A_a.hi A_b.hi))) (Bx.mk (v2 (fun x y => fmaxG x y) A_a.lo A_b.lo) (v2 (fun x y => fminL x y) A_a.hi A_b.hi))).lo.x ∧ cf .f32 r_2 = (gvB (isBox (Bx.mk (v2 (fun x y => fmaxG x y) A_a.lo A_b.lo) (v2 (fun x y => fminL x y) A_a.hi A_b.hi))) (Bx.mk (v2 (fun x y => fmaxG x y) A_a.lo A_b.lo) (v2 (fun x y => fminL x y) A_a.hi A_b.hi))).lo.y ∧ cf .f32 r_3 = (gvB (isBox (Bx.mk (v2 (fun x y => fmaxG x y) A_a.lo A_b.lo) (v2 (fun x y => fminL x y) A_a.hi A_b.hi))) (Bx.mk (v2 (fun x y => fmaxG x y) A_a.lo A_b.lo) (v2 (fun x y => fminL x y) A_a.hi A_b.hi))).lo.z ∧ cf .f32 r_4 = (gvB (isBox (Bx.mk (v2 (fun x y => fmaxG x y) A_a.lo A_b.lo) (v2 (fun x y => fminL x y) A_a.hi A_b.hi))) (Bx.mk (v2 (fun x y => fmaxG x y) A_a.lo A_b.lo) (v2 (fun x y => fminL x y) A_a.hi A_b.hi))).hi.x ∧ cf .f32 r_5 = (gvB (isBox (Bx.mk (v2 (fun x y => fmaxG x y) A_a.lo A_b.lo) (v2 (fun x y => fminL x y) A_a.hi A_b.hi))) (Bx.mk (v2 (fun x y => fmaxG x y) A_a.lo A_b.lo) (v2 (fun x y => fminL x y) A_a.hi A_b.hi))).hi.y ∧ cf .f32 r_6 = (gvB (isBox (Bx.mk (v2 (fun x y => fmaxG x y) A_a.lo A_b.lo) (v2 (fun x y => fminL x y) A_a.hi A_b.hi))) (Bx.mk (v2 (fun x y => fmaxG x y) A_a.lo A_b.lo) (v2 (fun x y => fminL x y) A_a.hi A_b.hi))).hi.z),
    Fact.pure [26] (fun v => v = (Bo β2))]) mixed (by kernel_rfl) (by intro _ _ d _ _ h; cases d <;> exact h) ?_
  obtain ⟨w79, hw81⟩ : ∃ w', w' = World.drew w60 := ⟨_, rfl⟩; rw [← hw81]; have E80 : Ext w60 w79 := by rw [hw81]; exact Ext.draw _
  clear hw81
  have X82 := Ext.gr X64 E80
  refine RW_d (fun v83 => [(.agg #[(Fl r1), (Fl r3), (Fl r5), (Fl r7), (Fl r9), (Fl r11)]), (.agg #[(Fl r13), (Fl r15), (Fl r17), (Fl r19), (Fl r21), (Fl r23)]), (Pt b26 0), (Pt b33 0), (Pt b41 0), (Bo false), v52, v53, v54, v55, v56, v57, v58, (Bo β1), Ud, v83, Ud, Ud, Ud, Ud, Ud, Ud, Ud, Ud, Ud, Ud, Ud, Ud, Ud]) rfl (fun _ => rfl) (fun u hu hF => ?_) (fun v83 => ?_)
  · clear hF
    refine doesG_un rfl ?_
    refine (does_fieldAddr (ev rfl) fa33_0).mono ?_; rintro _ _ ⟨rfl, rfl⟩
    exact ⟨rfl, Ext.refl _⟩
  refine RW_d (fun v84 => [(.agg #[(Fl r1), (Fl r3), (Fl r5), (Fl r7), (Fl r9), (Fl r11)]), (.agg #[(Fl r13), (Fl r15), (Fl r17), (Fl r19), (Fl r21), (Fl r23)]), (Pt b26 0), (Pt b33 0), (Pt b41 0), (Bo false), v52, v53, v54, v55, v56, v57, v58, (Bo β1), Ud, v83, v84, Ud, Ud, Ud, Ud, Ud, Ud, Ud, Ud, Ud, Ud, Ud, Ud]) rfl (fun _ => rfl) (fun u hu hF => ?_) (fun v84 => ?_)
  · have h15_ : v83 = (Pt b26 0) := hF.1
    clear hF
    obtain rfl := h15_
    refine doesG_un rfl ?_
    refine (does_loadAgg (cs := [(Fl r1), (Fl r3), (Fl r5)]) (ev rfl) Try.isAgg31 Try.sizeOf31 (Cells.sub (Blk.cells (((((hB28.ext E36).ext E44).ext E61).ext E80).ext hu)) 0 3) rfl).mono ?_; rintro _ _ ⟨rfl, rfl⟩
    exact ⟨rfl, Ext.refl _⟩
  refine RW_d (fun v85 => [(.agg #[(Fl r1), (Fl r3), (Fl r5), (Fl r7), (Fl r9), (Fl r11)]), (.agg #[(Fl r13), (Fl r15), (Fl r17), (Fl r19), (Fl r21), (Fl r23)]), (Pt b26 0), (Pt b33 0), (Pt b41 0), (Bo false), v52, v53, v54, v55, v56, v57, v58, (Bo β1), Ud, v83, v84, v85, Ud, Ud, Ud, Ud, Ud, Ud, Ud, Ud, Ud, Ud, Ud]) rfl (fun _ => rfl) (fun u hu hF => ?_) (fun v85 => ?_)
  · clear hF
    refine doesG_un rfl ?_
    refine (does_fieldAddr (ev rfl) fa33_0).mono ?_; rintro _ _ ⟨rfl, rfl⟩
    exact ⟨rfl, Ext.refl _⟩
  refine RW_d (fun v86 => [(.agg #[(Fl r1), (Fl r3), (Fl r5), (Fl r7), (Fl r9), (Fl r11)]), (.agg #[(Fl r13), (Fl r15), (Fl r17), (Fl r19), (Fl r21), (Fl r23)]), (Pt b26 0), (Pt b33 0), (Pt b41 0), (Bo false), v52, v53, v54, v55, v56, v57, v58, (Bo β1), Ud, v83, v84, v85, v86, Ud, Ud, Ud, Ud, Ud, Ud, Ud, Ud, Ud, Ud]) rfl (fun _ => rfl) (fun u hu hF => ?_) (fun v86 => ?_)
  · have h17_ : v85 = (Pt b33 0) := hF.1
    clear hF
    obtain rfl := h17_
    refine doesG_un rfl ?_
    refine (does_loadAgg (cs := [(Fl r13), (Fl r15), (Fl r17)]) (ev rfl) Try.isAgg31 Try.sizeOf31 (Cells.sub (Blk.cells ((((hB35.ext E44).ext E61).ext E80).ext hu)) 0 3) rfl).mono ?_; rintro _ _ ⟨rfl, rfl⟩
    exact ⟨rfl, Ext.refl _⟩
  refine RW_d (fun v87 => [(.agg #[(Fl r1), (Fl r3), (Fl r5), (Fl r7), (Fl r9), (Fl r11)]), (.agg #[(Fl r13), (Fl r15), (Fl r17), (Fl r19), (Fl r21), (Fl r23)]), (Pt b26 0), (Pt b33 0), (Pt b41 0), (Bo false), v52, v53, v54, v55, v56, v57, v58, (Bo β1), Ud, v83, v84, v85, v86, v87, Ud, Ud, Ud, Ud, Ud, Ud, Ud, Ud, Ud]) rfl (fun _ => rfl) (fun u hu hF => ?_) (fun v87 => ?_)
  · have h16_ : v84 = (.agg #[(Fl r1), (Fl r3), (Fl r5)]) := hF.1
    have h18_ : v86 = (.agg #[(Fl r13), (Fl r15), (Fl r17)]) := hF.2.1
    clear hF
    obtain rfl := h16_
    obtain rfl := h18_
    refine doesG_un rfl ?_
    refine (does_call (args := #[(.agg #[(Fl r1), (Fl r3), (Fl r5)]), (.agg #[(Fl r13), (Fl r15), (Fl r17)]), (.func (.func 55) #[] #[])]) cal84 (evs rfl) (c_impl_each [(Fl r1), (Fl r3), (Fl r5)] A_a.lo [(Fl r13), (Fl r15), (Fl r17)] A_b.lo (.func (.func 55) #[] #[]) (fun x y => fmaxG x y) _ ⟨r1, r3, r5, rfl, h2, h4, h6⟩ ⟨r13, r15, r17, rfl, h14, h16, h18⟩ ⟨55, #[], #[], rfl, cal55, fun r t u hu' => by simpa using (c_impl_greater r t u)⟩)).mono ?_; rintro v u' ⟨hx, ⟨csn1, hv, k0⟩⟩
    exact ⟨⟨csn1, hv, k0⟩, hx⟩
  refine RW_d (fun v88 => [(.agg #[(Fl r1), (Fl r3), (Fl r5), (Fl r7), (Fl r9), (Fl r11)]), (.agg #[(Fl r13), (Fl r15), (Fl r17), (Fl r19), (Fl r21), (Fl r23)]), (Pt b26 0), (Pt b33 0), (Pt b41 0), (Bo false), v52, v53, v54, v55, v56, v57, v58, (Bo β1), Ud, v83, v84, v85, v86, v87, v88, Ud, Ud, Ud, Ud, Ud, Ud, Ud, Ud]) rfl (fun _ => rfl) (fun u hu hF => ?_) (fun v88 => ?_)
  · clear hF
    refine doesG_un rfl ?_
    refine (does_fieldAddr (ev rfl) fa33_1).mono ?_; rintro _ _ ⟨rfl, rfl⟩
    exact ⟨rfl, Ext.refl _⟩
  refine RW_d (fun v89 => [(.agg #[(Fl r1), (Fl r3), (Fl r5), (Fl r7), (Fl r9), (Fl r11)]), (.agg #[(Fl r13), (Fl r15), (Fl r17), (Fl r19), (Fl r21), (Fl r23)]), (Pt b26 0), (Pt b33 0), (Pt b41 0), (Bo false), v52, v53, v54, v55, v56, v57, v58, (Bo β1), Ud, v83, v84, v85, v86, v87, v88, v89, Ud, Ud, Ud, Ud, Ud, Ud, Ud]) rfl (fun _ => rfl) (fun u hu hF => ?_) (fun v89 => ?_)
  · have h20_ : v88 = (Pt b26 3) := hF.1
    clear hF
    obtain rfl := h20_
    refine doesG_un rfl ?_
    refine (does_loadAgg (cs := [(Fl r7), (Fl r9), (Fl r11)]) (ev rfl) Try.isAgg31 Try.sizeOf31 (Cells.sub (Blk.cells (((((hB28.ext E36).ext E44).ext E61).ext E80).ext hu)) 3 3) rfl).mono ?_; rintro _ _ ⟨rfl, rfl⟩
    exact ⟨rfl, Ext.refl _⟩
  refine RW_d (fun v90 => [(.agg #[(Fl r1), (Fl r3), (Fl r5), (Fl r7), (Fl r9), (Fl r11)]), (.agg #[(Fl r13), (Fl r15), (Fl r17), (Fl r19), (Fl r21), (Fl r23)]), (Pt b26 0), (Pt b33 0), (Pt b41 0), (Bo false), v52, v53, v54, v55, v56, v57, v58, (Bo β1), Ud, v83, v84, v85, v86, v87, v88, v89, v90, Ud, Ud, Ud, Ud, Ud, Ud]) rfl (fun _ => rfl) (fun u hu hF => ?_) (fun v90 => ?_)
  · clear hF
    refine doesG_un rfl ?_
    refine (does_fieldAddr (ev rfl) fa33_1).mono ?_; rintro _ _ ⟨rfl, rfl⟩
    exact ⟨rfl, Ext.refl _⟩
  refine RW_d (fun v91 => [(.agg #[(Fl r1), (Fl r3), (Fl r5), (Fl r7), (Fl r9), (Fl r11)]), (.agg #[(Fl r13), (Fl r15), (Fl r17), (Fl r19), (Fl r21), (Fl r23)]), (Pt b26 0), (Pt b33 0), (Pt b41 0), (Bo false), v52, v53, v54, v55, v56, v57, v58, (Bo β1), Ud, v83, v84, v85, v86, v87, v88, v89, v90, v91, Ud, Ud, Ud, Ud, Ud]) rfl (fun _ => rfl) (fun u hu hF => ?_) (fun v91 => ?_)
  · have h22_ : v90 = (Pt b33 3) := hF.1
    clear hF
    obtain rfl := h22_
    refine doesG_un rfl ?_
    refine (does_loadAgg (cs := [(Fl r19), (Fl r21), (Fl r23)]) (ev rfl) Try.isAgg31 Try.sizeOf31 (Cells.sub (Blk.cells ((((hB35.ext E44).ext E61).ext E80).ext hu)) 3 3) rfl).mono ?_; rintro _ _ ⟨rfl, rfl⟩
    exact ⟨rfl, Ext.refl _⟩
  refine RW_d (fun v92 => [(.agg #[(Fl r1), (Fl r3), (Fl r5), (Fl r7), (Fl r9), (Fl r11)]), (.agg #[(Fl r13), (Fl r15), (Fl r17), (Fl r19), (Fl r21), (Fl r23)]), (Pt b26 0), (Pt b33 0), (Pt b41 0), (Bo false), v52, v53, v54, v55, v56, v57, v58, (Bo β1), Ud, v83, v84, v85, v86, v87, v88, v89, v90, v91, v92, Ud, Ud, Ud, Ud]) rfl (fun _ => rfl) (fun u hu hF => ?_) (fun v92 => ?_)
  · have h21_ : v89 = (.agg #[(Fl r7), (Fl r9), (Fl r11)]) := hF.1
    have h23_ : v91 = (.agg #[(Fl r19), (Fl r21), (Fl r23)]) := hF.2.1
    clear hF
    obtain rfl := h21_
    obtain rfl := h23_
    refine doesG_un rfl ?_
    refine (does_call (args := #[(.agg #[(Fl r7), (Fl r9), (Fl r11)]), (.agg #[(Fl r19), (Fl r21), (Fl r23)]), (.func (.func 85) #[] #[])]) cal84 (evs rfl) (c_impl_each [(Fl r7), (Fl r9), (Fl r11)] A_a.hi [(Fl r19), (Fl r21), (Fl r23)] A_b.hi (.func (.func 85) #[] #[]) (fun x y => fminL x y) _ ⟨r7, r9, r11, rfl, h8, h10, h12⟩ ⟨r19, r21, r23, rfl, h20, h22, h24⟩ ⟨85, #[], #[], rfl, cal85, fun r t u hu' => by simpa using (c_impl_lesser r t u)⟩)).mono ?_; rintro v u' ⟨hx, ⟨csn1, hv, k0⟩⟩
    exact ⟨⟨csn1, hv, k0⟩, hx⟩
  refine RW_d (fun v93 => [(.agg #[(Fl r1), (Fl r3), (Fl r5), (Fl r7), (Fl r9), (Fl r11)]), (.agg #[(Fl r13), (Fl r15), (Fl r17), (Fl r19), (Fl r21), (Fl r23)]), (Pt b26 0), (Pt b33 0), (Pt b41 0), (Bo false), v52, v53, v54, v55, v56, v57, v58, (Bo β1), Ud, v83, v84, v85, v86, v87, v88, v89, v90, v91, v92, v93, Ud, Ud, Ud]) rfl (fun _ => rfl) (fun u hu hF => ?_) (fun v93 => ?_)
  · have h19_ : ∃ cs_1 : List Value, v87 = (.agg cs_1.toArray) ∧ RV3 w (v2 (fun x y => fmaxG x y) A_a.lo A_b.lo) cs_1 := hF.1
    have h24_ : ∃ cs_1 : List Value, v92 = (.agg cs_1.toArray) ∧ RV3 w (v2 (fun x y => fminL x y) A_a.hi A_b.hi) cs_1 := hF.2.1
    clear hF
    obtain ⟨_, rfl, ⟨r19_1, r19_3, r19_5, rfl, h19_2, h19_4, h19_6⟩⟩ := h19_
    obtain ⟨_, rfl, ⟨r24_1, r24_3, r24_5, rfl, h24_2, h24_4, h24_6⟩⟩ := h24_
    refine doesG_un rfl ?_
    refine (does_build (parts' := [(0, (.agg #[(Fl r19_1), (Fl r19_3), (Fl r19_5)])), (1, (.agg #[(Fl r24_1), (Fl r24_3), (Fl r24_5)]))]) (cells := #[(Fl r19_1), (Fl r19_3), (Fl r19_5), (Fl r24_1), (Fl r24_3), (Fl r24_5)]) (evp rfl) (by kernel_rfl)).mono ?_; rintro _ _ ⟨rfl, rfl⟩
    exact ⟨⟨r19_1, r19_3, r19_5, r24_1, r24_3, r24_5, rfl, (by simp only [h19_2, h19_4, h19_6, h24_2, h24_4, h24_6]), (by simp only [h19_2, h19_4, h19_6, h24_2, h24_4, h24_6]), (by simp only [h19_2, h19_4, h19_6, h24_2, h24_4, h24_6]), (by simp only [h19_2, h19_4, h19_6, h24_2, h24_4, h24_6]), (by simp only [h19_2, h19_4, h19_6, h24_2, h24_4, h24_6]), (by simp only [h19_2, h19_4, h19_6, h24_2, h24_4, h24_6])⟩, Ext.refl _⟩
  refine RW_d (fun v94 => [(.agg #[(Fl r1), (Fl r3), (Fl r5), (Fl r7), (Fl r9), (Fl r11)]), (.agg #[(Fl r13), (Fl r15), (Fl r17), (Fl r19), (Fl r21), (Fl r23)]), (Pt b26 0), (Pt b33 0), (Pt b41 0), (Bo false), v52, v53, v54, v55, v56, v57, v58, (Bo β1), Ud, v83, v84, v85, v86, v87, v88, v89, v90, v91, v92, v93, v94, Ud, Ud]) rfl (fun _ => rfl) (fun u hu hF => ?_) (fun v94 => ?_)
  · have h25_ : ∃ r_1 : Nat, ∃ r_2 : Nat, ∃ r_3 : Nat, ∃ r_4 : Nat, ∃ r_5 : Nat, ∃ r_6 : Nat, v93 = (.agg #[(Fl r_1), (Fl r_2), (Fl r_3), (Fl r_4), (Fl r_5), (Fl r_6)]) ∧ cf .f32 r_1 = (v2 (fun x y => fmaxG x y) A_a.lo A_b.lo).x ∧ cf .f32 r_2 = (v2 (fun x y => fmaxG x y) A_a.lo A_b.lo).y ∧ cf .f32 r_3 = (v2 (fun x y => fmaxG x y) A_a.lo A_b.lo).z ∧ cf .f32 r_4 = (v2 (fun x y => fminL x y) A_a.hi A_b.hi).x ∧ cf .f32 r_5 = (v2 (fun x y => fminL x y) A_a.hi A_b.hi).y ∧ cf .f32 r_6 = (v2 (fun x y => fminL x y) A_a.hi A_b.hi).z := hF.1
    clear hF
    obtain ⟨r25_1, r25_3, r25_5, r25_7, r25_9, r25_11, rfl, h25_2, h25_4, h25_6, h25_8, h25_10, h25_12⟩ := h25_
    refine doesG_un rfl ?_
    refine (does_call (args := #[(.agg #[(Fl r25_1), (Fl r25_3), (Fl r25_5), (Fl r25_7), (Fl r25_9), (Fl r25_11)])]) cal80 (evs rfl) (c_impl_toldBox [(Fl r25_1), (Fl r25_3), (Fl r25_5), (Fl r25_7), (Fl r25_9), (Fl r25_11)] (Bx.mk (v2 (fun x y => fmaxG x y) A_a.lo A_b.lo) (v2 (fun x y => fminL x y) A_a.hi A_b.hi)) _ ⟨r25_1, r25_3, r25_5, r25_7, r25_9, r25_11, rfl, (by assumption), (by assumption), (by assumption), (by assumption), (by assumption), (by assumption)⟩)).mono ?_; rintro v u' ⟨hx, ⟨csn1, hv, k0⟩⟩
    exact ⟨⟨csn1, hv.trans (by simp only [h25_2, h25_4, h25_6, h25_8, h25_10, h25_12]), (by first | exact k0 | simpa only [h25_2, h25_4, h25_6, h25_8, h25_10, h25_12] using RBx.any (w := w) k0)⟩, hx⟩
  refine RW_d (fun v95 => [(.agg #[(Fl r1), (Fl r3), (Fl r5), (Fl r7), (Fl r9), (Fl r11)]), (.agg #[(Fl r13), (Fl r15), (Fl r17), (Fl r19), (Fl r21), (Fl r23)]), (Pt b26 0), (Pt b33 0), (Pt b41 0), (Bo false), v52, v53, v54, v55, v56, v57, v58, (Bo β1), Ud, v83, v84, v85, v86, v87, v88, v89, v90, v91, v92, v93, v94, v95, Ud]) rfl (fun _ => rfl) (fun u hu hF => ?_) (fun v95 => ?_)
  · have h26_ : ∃ cs_1 : List Value, v94 = (.tuple #[(.agg cs_1.toArray), (Bo (isBox (Bx.mk (v2 (fun x y => fmaxG x y) A_a.lo A_b.lo) (v2 (fun x y => fminL x y) A_a.hi A_b.hi))))]) ∧ RBx w (gvB (isBox (Bx.mk (v2 (fun x y => fmaxG x y) A_a.lo A_b.lo) (v2 (fun x y => fminL x y) A_a.hi A_b.hi))) (Bx.mk (v2 (fun x y => fmaxG x y) A_a.lo A_b.lo) (v2 (fun x y => fminL x y) A_a.hi A_b.hi))) cs_1 := hF.1
    clear hF
    obtain ⟨_, rfl, ⟨r26_1, r26_3, r26_5, r26_7, r26_9, r26_11, rfl, h26_2, h26_4, h26_6, h26_8, h26_10, h26_12⟩⟩ := h26_
    refine doesG_un rfl ?_
    refine (does_extract (vs := #[(.agg #[(Fl r26_1), (Fl r26_3), (Fl r26_5), (Fl r26_7), (Fl r26_9), (Fl r26_11)]), (Bo (isBox (Bx.mk (v2 (fun x y => fmaxG x y) A_a.lo A_b.lo) (v2 (fun x y => fminL x y) A_a.hi A_b.hi))))]) (u := (.agg #[(Fl r26_1), (Fl r26_3), (Fl r26_5), (Fl r26_7), (Fl r26_9), (Fl r26_11)])) (ev rfl) rfl).mono ?_; rintro _ _ ⟨rfl, rfl⟩
    exact ⟨⟨r26_1, r26_3, r26_5, r26_7, r26_9, r26_11, rfl, (by simp only [h26_2, h26_4, h26_6, h26_8, h26_10, h26_12]), (by simp only [h26_2, h26_4, h26_6, h26_8, h26_10, h26_12]), (by simp only [h26_2, h26_4, h26_6, h26_8, h26_10, h26_12]), (by simp only [h26_2, h26_4, h26_6, h26_8, h26_10, h26_12]), (by simp only [h26_2, h26_4, h26_6, h26_8, h26_10, h26_12]), (by simp only [h26_2, h26_4, h26_6, h26_8, h26_10, h26_12])⟩, Ext.refl _⟩
  refine RW_d (fun v96 => [(.agg #[(Fl r1), (Fl r3), (Fl r5), (Fl r7), (Fl r9), (Fl r11)]), (.agg #[(Fl r13), (Fl r15), (Fl r17), (Fl r19), (Fl r21), (Fl r23)]), (Pt b26 0), (Pt b33 0), (Pt b41 0), (Bo false), v52, v53, v54, v55, v56, v57, v58, (Bo β1), Ud, v83, v84, v85, v86, v87, v88, v89, v90, v91, v92, v93, v94, v95, v96]) rfl (fun _ => rfl) (fun u hu hF => ?_) (fun v96 => ?_)
  · have h26_ : ∃ cs_1 : List Value, v94 = (.tuple #[(.agg cs_1.toArray), (Bo (isBox (Bx.mk (v2 (fun x y => fmaxG x y) A_a.lo A_b.lo) (v2 (fun x y => fminL x y) A_a.hi A_b.hi))))]) ∧ RBx w (gvB (isBox (Bx.mk (v2 (fun x y => fmaxG x y) A_a.lo A_b.lo) (v2 (fun x y => fminL x y) A_a.hi A_b.hi))) (Bx.mk (v2 (fun x y => fmaxG x y) A_a.lo A_b.lo) (v2 (fun x y => fminL x y) A_a.hi A_b.hi))) cs_1 := hF.1
    clear hF
    obtain ⟨_, rfl, ⟨r26_1, r26_3, r26_5, r26_7, r26_9, r26_11, rfl, h26_2, h26_4, h26_6, h26_8, h26_10, h26_12⟩⟩ := h26_
    refine doesG_un rfl ?_
    refine (does_extract (vs := #[(.agg #[(Fl r26_1), (Fl r26_3), (Fl r26_5), (Fl r26_7), (Fl r26_9), (Fl r26_11)]), (Bo (isBox (Bx.mk (v2 (fun x y => fmaxG x y) A_a.lo A_b.lo) (v2 (fun x y => fminL x y) A_a.hi A_b.hi))))]) (u := (Bo (isBox (Bx.mk (v2 (fun x y => fmaxG x y) A_a.lo A_b.lo) (v2 (fun x y => fminL x y) A_a.hi A_b.hi))))) (ev rfl) rfl).mono ?_; rintro _ _ ⟨rfl, rfl⟩
    exact ⟨(by first | rfl | (show _ = _; simp only [hβ2, h26_2, h26_4, h26_6, h26_8, h26_10, h26_12])), Ext.refl _⟩
  refine RW_fin ?_; intro w97 E98 hP99
  obtain ⟨⟨⟨⟨⟨⟨⟨⟨⟨⟨⟨⟨⟨⟨-, -⟩, -⟩, -⟩, -⟩, -⟩, -⟩, -⟩, -⟩, -⟩, -⟩, -⟩, -⟩, q100⟩, q101⟩ := hP99
  have X102 := Ext.gr X82 E98
  have q100 : ∃ r_1 : Nat, ∃ r_2 : Nat, ∃ r_3 : Nat, ∃ r_4 : Nat, ∃ r_5 : Nat, ∃ r_6 : Nat, v95 = (.agg #[(Fl r_1), (Fl r_2), (Fl r_3), (Fl r_4), (Fl r_5), (Fl r_6)]) ∧ cf .f32 r_1 = (gvB (isBox (Bx.mk (v2 (fun x y => fmaxG x y) A_a.lo A_b.lo) (v2 (fun x y => fminL x y) A_a.hi A_b.hi))) (Bx.mk (v2 (fun x y => fmaxG x y) A_a.lo A_b.lo) (v2 (fun x y => fminL x y) A_a.hi A_b.hi))).lo.x ∧ cf .f32 r_2 = (gvB (isBox (Bx.mk (v2 (fun x y => fmaxG x y) A_a.lo A_b.lo) (v2 (fun x y => fminL x y) A_a.hi A_b.hi))) (Bx.mk (v2 (fun x y => fmaxG x y) A_a.lo A_b.lo) (v2 (fun x y => fminL x y) A_a.hi A_b.hi))).lo.y ∧ cf .f32 r_3 = (gvB (isBox (Bx.mk (v2 (fun x y => fmaxG x y) A_a.lo A_b.lo) (v2 (fun x y => fminL x y) A_a.hi A_b.hi))) (Bx.mk (v2 (fun x y => fmaxG x y) A_a.lo A_b.lo) (v2 (fun x y => fminL x y) A_a.hi A_b.hi))).lo.z ∧ cf .f32 r_4 = (gvB (isBox (Bx.mk (v2 (fun x y => fmaxG x y) A_a.lo A_b.lo) (v2 (fun x y => fminL x y) A_a.hi A_b.hi))) (Bx.mk (v2 (fun x y => fmaxG x y) A_a.lo A_b.lo) (v2 (fun x y => fminL x y) A_a.hi A_b.hi))).hi.x ∧ cf .f32 r_5 = (gvB (isBox (Bx.mk (v2 (fun x y => fmaxG x y) A_a.lo A_b.lo) (v2 (fun x y => fminL x y) A_a.hi A_b.hi))) (Bx.mk (v2 (fun x y => fmaxG x y) A_a.lo A_b.lo) (v2 (fun x y => fminL x y) A_a.hi A_b.hi))).hi.y ∧ cf .f32 r_6 = (gvB (isBox (Bx.mk (v2 (fun x y => fmaxG x y) A_a.lo A_b.lo) (v2 (fun x y => fminL x y) A_a.hi A_b.hi))) (Bx.mk (v2 (fun x y => fmaxG x y) A_a.lo A_b.lo) (v2 (fun x y => fminL x y) A_a.hi A_b.hi))).hi.z := q100
  obtain ⟨r103, r105, r107, r109, r111, r113, rfl, h104, h106, h108, h110, h112, h114⟩ := q100
  have q101 : v96 = (Bo β2) := q101
  obtain rfl := q101
  show wpList _ _ _ _ (fr [(.agg #[(Fl r1), (Fl r3), (Fl r5), (Fl r7), (Fl r9), (Fl r11)]), (.agg #[(Fl r13), (Fl r15), (Fl r17), (Fl r19), (Fl r21), (Fl r23)]), (Pt b26 0), (Pt b33 0), (Pt b41 0), (Bo false), v52, v53, v54, v55, v56, v57, v58, (Bo β1), Ud, v83, v84, v85, v86, v87, v88, v89, v90, v91, v92, v93, v94, (.agg #[(Fl r103), (Fl r105), (Fl r107), (Fl r109), (Fl r111), (Fl r113)]), (Bo β2)]) _
  refine seqn rfl rfl (does_store (n := 6) (cs := [(Fl 0), (Fl 0), (Fl 0), (Fl 0), (Fl 0), (Fl 0)]) (u := (.agg #[(Fl r103), (Fl r105), (Fl r107), (Fl r109), (Fl r111), (Fl r113)])) (ev rfl) (ev rfl) Try.sizeOf33 rfl (((hB43.ext E61).ext E80).ext E98) (Nat.le_of_ble_eq_true rfl) rfl) ?_; rintro _ w117 ⟨rfl, W115, hB116⟩
  change Blk _ _ [(Fl r103), (Fl r105), (Fl r107), (Fl r109), (Fl r111), (Fl r113)] at hB116
  have X118 := Below.wr X102 W115 g48
  refine q_is (l' := [(.agg #[(Fl r1), (Fl r3), (Fl r5), (Fl r7), (Fl r9), (Fl r11)]), (.agg #[(Fl r13), (Fl r15), (Fl r17), (Fl r19), (Fl r21), (Fl r23)]), (Pt b26 0), (Pt b33 0), (Pt b41 0), (Bo β2), v52, v53, v54, v55, v56, v57, v58, (Bo β1), Ud, v83, v84, v85, v86, v87, v88, v89, v90, v91, v92, v93, v94, (.agg #[(Fl r103), (Fl r105), (Fl r107), (Fl r109), (Fl r111), (Fl r113)]), (Bo β2)]) rfl rfl (does_assign (u := (Bo β2)) (ev rfl)) rfl ?_
  refine wpList_nil (hK78 _ _ ?_)
  refine wp_ret ?_
  refine ret_val (v := (.tuple #[(.agg #[(Fl r103), (Fl r105), (Fl r107), (Fl r109), (Fl r111), (Fl r113)]), (Bo β2)])) (res_CT rfl (slot rfl) (run_loadAgg (cs := [(Fl r103), (Fl r105), (Fl r107), (Fl r109), (Fl r111), (Fl r113)]) Try.isAgg33 Try.sizeOf33 (Blk.cells hB116) rfl) (slot rfl)) X118 ?_
  try simp only [h2, h4, h6, h8, h10, h12, h14, h16, h18, h20, h22, h24, hβ1, hβ2, h104, h106, h108, h110, h112, h114] at c65
  have x119 : (cutOk A_a A_b) = β2 := by first | rfl | (simp only [cutOk, cutB, v2, vmax, vmin, gvB_t, gvB_f, zB, zV, Bool.true_and, Bool.false_and, Bool.and_true, Bool.and_false, Bool.not_eq_true', Bool.not_eq_false', h2, h4, h6, h8, h10, h12, h14, h16, h18, h20, h22, h24, hβ1, hβ2, h104, h106, h108, h110, h112, h114, c65]; done) | (simp [cutOk, cutB, v2, vmax, vmin, gvB_t, gvB_f, zB, zV, Bool.true_and, Bool.false_and, Bool.and_true, Bool.and_false, Bool.not_eq_true', Bool.not_eq_false', h2, h4, h6, h8, h10, h12, h14, h16, h18, h20, h22, h24, hβ1, hβ2, h104, h106, h108, h110, h112, h114, c65]; done) | (revert c65; simp +contextual [cutOk, cutB, v2, vmax, vmin, gvB_t, gvB_f, zB, zV, Bool.true_and, Bool.false_and, Bool.and_true, Bool.and_false, Bool.not_eq_true', Bool.not_eq_false', h2, h4, h6, h8, h10, h12, h14, h16, h18, h20, h22, h24, hβ1, hβ2, h104, h106, h108, h110, h112, h114]; done) | (rcases c65' with hh | hh <;> simp only [hh, cutOk, cutB, v2, vmax, vmin, gvB_t, gvB_f, zB, zV, Bool.true_and, Bool.false_and, Bool.and_true, Bool.and_false, Bool.not_eq_true', Bool.not_eq_false', h2, h4, h6, h8, h10, h12, h14, h16, h18, h20, h22, h24, hβ1, hβ2, h104, h106, h108, h110, h112, h114, c65]; done)
  have x120 : cf .f32 r103 = (gvB (cutOk A_a A_b) (cutB A_a A_b)).lo.x := by first | rfl | (simp only [cutOk, cutB, v2, vmax, vmin, gvB_t, gvB_f, zB, zV, Bool.true_and, Bool.false_and, Bool.and_true, Bool.and_false, Bool.not_eq_true', Bool.not_eq_false', h2, h4, h6, h8, h10, h12, h14, h16, h18, h20, h22, h24, hβ1, hβ2, h104, h106, h108, h110, h112, h114, c65]; done) | (simp [cutOk, cutB, v2, vmax, vmin, gvB_t, gvB_f, zB, zV, Bool.true_and, Bool.false_and, Bool.and_true, Bool.and_false, Bool.not_eq_true', Bool.not_eq_false', h2, h4, h6, h8, h10, h12, h14, h16, h18, h20, h22, h24, hβ1, hβ2, h104, h106, h108, h110, h112, h114, c65]; done) | (revert c65; simp +contextual [cutOk, cutB, v2, vmax, vmin, gvB_t, gvB_f, zB, zV, Bool.true_and, Bool.false_and, Bool.and_true, Bool.and_false, Bool.not_eq_true', Bool.not_eq_false', h2, h4, h6, h8, h10, h12, h14, h16, h18, h20, h22, h24, hβ1, hβ2, h104, h106, h108, h110, h112, h114]; done) | (rcases c65' with hh | hh <;> simp only [hh, cutOk, cutB, v2, vmax, vmin, gvB_t, gvB_f, zB, zV, Bool.true_and, Bool.false_and, Bool.and_true, Bool.and_false, Bool.not_eq_true', Bool.not_eq_false', h2, h4, h6, h8, h10, h12, h14, h16, h18, h20, h22, h24, hβ1, hβ2, h104, h106, h108, h110, h112, h114, c65]; done)
  have x121 : cf .f32 r105 = (gvB (cutOk A_a A_b) (cutB A_a A_b)).lo.y := by first | rfl | (simp only [cutOk, cutB, v2, vmax, vmin, gvB_t, gvB_f, zB, zV, Bool.true_and, Bool.false_and, Bool.and_true, Bool.and_false, Bool.not_eq_true', Bool.not_eq_false', h2, h4, h6, h8, h10, h12, h14, h16, h18, h20, h22, h24, hβ1, hβ2, h104, h106, h108, h110, h112, h114, c65]; done) | (simp [cutOk, cutB, v2, vmax, vmin, gvB_t, gvB_f, zB, zV, Bool.true_and, Bool.false_and, Bool.and_true, Bool.and_false, Bool.not_eq_true', Bool.not_eq_false', h2, h4, h6, h8, h10, h12, h14, h16, h18, h20, h22, h24, hβ1, hβ2, h104, h106, h108, h110, h112, h114, c65]; done) | (revert c65; simp +contextual [cutOk, cutB, v2, vmax, vmin, gvB_t, gvB_f, zB, zV, Bool.true_and, Bool.false_and, Bool.and_true, Bool.and_false, Bool.not_eq_true', Bool.not_eq_false', h2, h4, h6, h8, h10, h12, h14, h16, h18, h20, h22, h24, hβ1, hβ2, h104, h106, h108, h110, h112, h114]; done) | (rcases c65' with hh | hh <;> simp only [hh, cutOk, cutB, v2, vmax, vmin, gvB_t, gvB_f, zB, zV, Bool.true_and, Bool.false_and, Bool.and_true, Bool.and_false, Bool.not_eq_true', Bool.not_eq_false', h2, h4, h6, h8, h10, h12, h14, h16, h18, h20, h22, h24, hβ1, hβ2, h104, h106, h108, h110, h112, h114, c65]; done)
  have x122 : cf .f32 r107 = (gvB (cutOk A_a A_b) (cutB A_a A_b)).lo.z := by first | rfl | (simp only [cutOk, cutB, v2, vmax, vmin, gvB_t, gvB_f, zB, zV, Bool.true_and, Bool.false_and, Bool.and_true, Bool.and_false, Bool.not_eq_true', Bool.not_eq_false', h2, h4, h6, h8, h10, h12, h14, h16, h18, h20, h22, h24, hβ1, hβ2, h104, h106, h108, h110, h112, h114, c65]; done) | (simp [cutOk, cutB, v2, vmax, vmin, gvB_t, gvB_f, zB, zV, Bool.true_and, Bool.false_and, Bool.and_true, Bool.and_false, Bool.not_eq_true', Bool.not_eq_false', h2, h4, h6, h8, h10, h12, h14, h16, h18, h20, h22, h24, hβ1, hβ2, h104, h106, h108, h110, h112, h114, c65]; done) | (revert c65; simp +contextual [cutOk, cutB, v2, vmax, vmin, gvB_t, gvB_f, zB, zV, Bool.true_and, Bool.false_and, Bool.and_true, Bool.and_false, Bool.not_eq_true', Bool.not_eq_false', h2, h4, h6, h8, h10, h12, h14, h16, h18, h20, h22, h24, hβ1, hβ2, h104, h106, h108, h110, h112, h114]; done) | (rcases c65' with hh | hh <;> simp only [hh, cutOk, cutB, v2, vmax, vmin, gvB_t, gvB_f, zB, zV, Bool.true_and, Bool.false_and, Bool.and_true, Bool.and_false, Bool.not_eq_true', Bool.not_eq_false', h2, h4, h6, h8, h10, h12, h14, h16, h18, h20, h22, h24, hβ1, hβ2, h104, h106, h108, h110, h112, h114, c65]; done)
  have x123 : cf .f32 r109 = (gvB (cutOk A_a A_b) (cutB A_a A_b)).hi.x := by first | rfl | (simp only [cutOk, cutB, v2, vmax, vmin, gvB_t, gvB_f, zB, zV, Bool.true_and, Bool.false_and, Bool.and_true, Bool.and_false, Bool.not_eq_true', Bool.not_eq_false', h2, h4, h6, h8, h10, h12, h14, h16, h18, h20, h22, h24, hβ1, hβ2, h104, h106, h108, h110, h112, h114, c65]; done) | (simp [cutOk, cutB, v2, vmax, vmin, gvB_t, gvB_f, zB, zV, Bool.true_and, Bool.false_and, Bool.and_true, Bool.and_false, Bool.not_eq_true', Bool.not_eq_false', h2, h4, h6, h8, h10, h12, h14, h16, h18, h20, h22, h24, hβ1, hβ2, h104, h106, h108, h110, h112, h114, c65]; done) | (revert c65; simp +contextual [cutOk, cutB, v2, vmax, vmin, gvB_t, gvB_f, zB, zV, Bool.true_and, Bool.false_and, Bool.and_true, Bool.and_false, Bool.not_eq_true', Bool.not_eq_false', h2, h4, h6, h8, h10, h12, h14, h16, h18, h20, h22, h24, hβ1, hβ2, h104, h106, h108, h110, h112, h114]; done) | (rcases c65' with hh | hh <;> simp only [hh, cutOk, cutB, v2, vmax, vmin, gvB_t, gvB_f, zB, zV, Bool.true_and, Bool.false_and, Bool.and_true, Bool.and_false, Bool.not_eq_true', Bool.not_eq_false', h2, h4, h6, h8, h10, h12, h14, h16, h18, h20, h22, h24, hβ1, hβ2, h104, h106, h108, h110, h112, h114, c65]; done)
  have x124 : cf .f32 r111 = (gvB (cutOk A_a A_b) (cutB A_a A_b)).hi.y := by first | rfl | (simp only [cutOk, cutB, v2, vmax, vmin, gvB_t, gvB_f, zB, zV, Bool.true_and, Bool.false_and, Bool.and_true, Bool.and_false, Bool.not_eq_true', Bool.not_eq_false', h2, h4, h6, h8, h10, h12, h14, h16, h18, h20, h22, h24, hβ1, hβ2, h104, h106, h108, h110, h112, h114, c65]; done) | (simp [cutOk, cutB, v2, vmax, vmin, gvB_t, gvB_f, zB, zV, Bool.true_and, Bool.false_and, Bool.and_true, Bool.and_false, Bool.not_eq_true', Bool.not_eq_false', h2, h4, h6, h8, h10, h12, h14, h16, h18, h20, h22, h24, hβ1, hβ2, h104, h106, h108, h110, h112, h114, c65]; done) | (revert c65; simp +contextual [cutOk, cutB, v2, vmax, vmin, gvB_t, gvB_f, zB, zV, Bool.true_and, Bool.false_and, Bool.and_true, Bool.and_false, Bool.not_eq_true', Bool.not_eq_false', h2, h4, h6, h8, h10, h12, h14, h16, h18, h20, h22, h24, hβ1, hβ2, h104, h106, h108, h110, h112, h114]; done) | (rcases c65' with hh | hh <;> simp only [hh, cutOk, cutB, v2, vmax, vmin, gvB_t, gvB_f, zB, zV, Bool.true_and, Bool.false_and, Bool.and_true, Bool.and_false, Bool.not_eq_true', Bool.not_eq_false', h2, h4, h6, h8, h10, h12, h14, h16, h18, h20, h22, h24, hβ1, hβ2, h104, h106, h108, h110, h112, h114, c65]; done)
  have x125 : cf .f32 r113 = (gvB (cutOk A_a A_b) (cutB A_a A_b)).hi.z := by first | rfl | (simp only [cutOk, cutB, v2, vmax, vmin, gvB_t, gvB_f, zB, zV, Bool.true_and, Bool.false_and, Bool.and_true, Bool.and_false, Bool.not_eq_true', Bool.not_eq_false', h2, h4, h6, h8, h10, h12, h14, h16, h18, h20, h22, h24, hβ1, hβ2, h104, h106, h108, h110, h112, h114, c65]; done) | (simp [cutOk, cutB, v2, vmax, vmin, gvB_t, gvB_f, zB, zV, Bool.true_and, Bool.false_and, Bool.and_true, Bool.and_false, Bool.not_eq_true', Bool.not_eq_false', h2, h4, h6, h8, h10, h12, h14, h16, h18, h20, h22, h24, hβ1, hβ2, h104, h106, h108, h110, h112, h114, c65]; done) | (revert c65; simp +contextual [cutOk, cutB, v2, vmax, vmin, gvB_t, gvB_f, zB, zV, Bool.true_and, Bool.false_and, Bool.and_true, Bool.and_false, Bool.not_eq_true', Bool.not_eq_false', h2, h4, h6, h8, h10, h12, h14, h16, h18, h20, h22, h24, hβ1, hβ2, h104, h106, h108, h110, h112, h114]; done) | (rcases c65' with hh | hh <;> simp only [hh, cutOk, cutB, v2, vmax, vmin, gvB_t, gvB_f, zB, zV, Bool.true_and, Bool.false_and, Bool.and_true, Bool.and_false, Bool.not_eq_true', Bool.not_eq_false', h2, h4, h6, h8, h10, h12, h14, h16, h18, h20, h22, h24, hβ1, hβ2, h104, h106, h108, h110, h112, h114, c65]; done)
  exact ⟨[(Fl r103), (Fl r105), (Fl r107), (Fl r109), (Fl r111), (Fl r113)], (by first | rfl | rw [x119]), ⟨r103, r105, r107, r109, r111, r113, rfl, x120, x121, x122, x123, x124, x125⟩⟩

/- laws.FnExactCutBoxes -/
theorem c_laws_FnExactCutBoxes (a : List Value) (A_a : Bx) (b : List Value) (A_b : Bx) (w : World) (hv_a : RBx w A_a a) (hv_b : RBx w A_b b) : Gives Try.prog 12 #[(.agg a.toArray), (.agg b.toArray)] w (fun v w' => v = (Bo true)) := by
  obtain ⟨r1, r3, r5, r7, r9, r11, rfl, h2, h4, h6, h8, h10, h12⟩ := hv_a
  obtain ⟨r13, r15, r17, r19, r21, r23, rfl, h14, h16, h18, h20, h22, h24⟩ := hv_b
  refine enter [(.agg #[(Fl r1), (Fl r3), (Fl r5), (Fl r7), (Fl r9), (Fl r11)]), (.agg #[(Fl r13), (Fl r15), (Fl r17), (Fl r19), (Fl r21), (Fl r23)]), Ud, Ud, Ud, Ud, Ud, Ud, Ud, Ud, Ud, Ud, Ud, Ud, Ud, Ud, Ud, Ud, Ud, Ud, Ud, Ud, Ud, Ud, Ud, Ud, Ud, Ud, Ud, Ud, Ud, Ud, Ud, Ud] Try.func12 rfl Try.ntmps12 rfl ?_
  refine wp_seq_k fun K25 hK25 => ?_
  refine wp_region_lit ?_
  refine seqd rfl rfl (does_box (u := (.agg #[(Fl r1), (Fl r3), (Fl r5), (Fl r7), (Fl r9), (Fl r11)])) (ev rfl)) ?_; rintro _ w30 ⟨b26, rfl, hb27, hB28, E29⟩
  have g31 : w.heap.size ≤ b26 := Nat.le_trans (Below.size (Ext.refl w)) hb27
  change Blk _ _ [(Fl r1), (Fl r3), (Fl r5), (Fl r7), (Fl r9), (Fl r11)] at hB28
  have X32 := Ext.gr (Ext.refl w) E29
  show wpList _ _ _ _ (fr [(.agg #[(Fl r1), (Fl r3), (Fl r5), (Fl r7), (Fl r9), (Fl r11)]), (.agg #[(Fl r13), (Fl r15), (Fl r17), (Fl r19), (Fl r21), (Fl r23)]), (Pt b26 0), Ud, Ud, Ud, Ud, Ud, Ud, Ud, Ud, Ud, Ud, Ud, Ud, Ud, Ud, Ud, Ud, Ud, Ud, Ud, Ud, Ud, Ud, Ud, Ud, Ud, Ud, Ud, Ud, Ud, Ud, Ud]) _
  refine seqd rfl rfl (does_box (u := (.agg #[(Fl r13), (Fl r15), (Fl r17), (Fl r19), (Fl r21), (Fl r23)])) (ev rfl)) ?_; rintro _ w37 ⟨b33, rfl, hb34, hB35, E36⟩
  have n38 : b26 < b33 := Nat.lt_of_lt_of_le (Blk.lt hB28) hb34
  have g39 : w.heap.size ≤ b33 := Nat.le_trans (Below.size X32) hb34
  change Blk _ _ [(Fl r13), (Fl r15), (Fl r17), (Fl r19), (Fl r21), (Fl r23)] at hB35
  have X40 := Ext.gr X32 E36
  show wpList _ _ _ _ (fr [(.agg #[(Fl r1), (Fl r3), (Fl r5), (Fl r7), (Fl r9), (Fl r11)]), (.agg #[(Fl r13), (Fl r15), (Fl r17), (Fl r19), (Fl r21), (Fl r23)]), (Pt b26 0), (Pt b33 0), Ud, Ud, Ud, Ud, Ud, Ud, Ud, Ud, Ud, Ud, Ud, Ud, Ud, Ud, Ud, Ud, Ud, Ud, Ud, Ud, Ud, Ud, Ud, Ud, Ud, Ud, Ud, Ud, Ud, Ud]) _
  refine q_is (l' := [(.agg #[(Fl r1), (Fl r3), (Fl r5), (Fl r7), (Fl r9), (Fl r11)]), (.agg #[(Fl r13), (Fl r15), (Fl r17), (Fl r19), (Fl r21), (Fl r23)]), (Pt b26 0), (Pt b33 0), (Bo false), Ud, Ud, Ud, Ud, Ud, Ud, Ud, Ud, Ud, Ud, Ud, Ud, Ud, Ud, Ud, Ud, Ud, Ud, Ud, Ud, Ud, Ud, Ud, Ud, Ud, Ud, Ud, Ud, Ud]) rfl rfl (does_assign (u := (Bo false)) (ev rfl)) rfl ?_
  refine wpList_nil (hK25 _ _ ?_)
  refine wp_seq_k fun K41 hK41 => ?_
  refine region_draw (
    [Fact.pure [] (fun v => v = (.agg #[(Fl r1), (Fl r3), (Fl r5), (Fl r7), (Fl r9), (Fl r11)])),
    Fact.pure [10] (fun v => ∃ cs_1 : List Value, v = (.agg cs_1.toArray) ∧ RBx w A_a cs_1),
    Fact.pure [] (fun v => v = (.agg #[(Fl r13), (Fl r15), (Fl r17), (Fl r19), (Fl r21), (Fl r23)])),
    Fact.pure [12] (fun v => ∃ cs_1 : List Value, v = (.agg cs_1.toArray) ∧ RBx w A_b cs_1),
    Fact.pure [11, 13] (fun v => ∃ cs_1 : List Value, v = (.tuple #[(.agg cs_1.toArray), (Bo (cutOk A_a A_b))]) ∧ RBx w (gvB (cutOk A_a A_b) (cutB A_a A_b)) cs_1),
    Fact.pure [14] (fun v => ∃ cs_1 : List Value, v = (.tuple #[(.agg cs_1.toArray), (Bo (cutOk A_a A_b))]) ∧ RBx w (gvB (cutOk A_a A_b) (cutB A_a A_b)) cs_1),
    Fact.pure [9] (fun v => ∃ cs_1 : List Value, v = (.agg cs_1.toArray) ∧ RBx w (gvB (cutOk A_a A_b) (cutB A_a A_b)) cs_1),
    Fact.flt [9] (fun v => v = (Bo (cutOk A_a A_b))),
    Fact.mem [] (fun v w' => ∃ b : Nat, v = .pointer (some ⟨b, 0, none⟩) ∧ w37.heap.size ≤ b ∧ Blk w' b [(Fl 0), (Fl 0), (Fl 0), (Fl 0), (Fl 0), (Fl 0)]) (by rintro v w1 w2 hx ⟨b, rfl, hb, hB⟩; exact ⟨b, rfl, hb, (hB.ext hx)⟩)]) mixed (by kernel_rfl) (by intro _ _ d _ _ h; cases d <;> exact h) ?_
  obtain ⟨w42, hw44⟩ : ∃ w', w' = World.drew w37 := ⟨_, rfl⟩; rw [← hw44]; have E43 : Ext w37 w42 := by rw [hw44]; exact Ext.draw _
  clear hw44
  have X45 := Ext.gr X40 E43
  refine RW_d (fun v46 => [(.agg #[(Fl r1), (Fl r3), (Fl r5), (Fl r7), (Fl r9), (Fl r11)]), (.agg #[(Fl r13), (Fl r15), (Fl r17), (Fl r19), (Fl r21), (Fl r23)]), (Pt b26 0), (Pt b33 0), (Bo false), Ud, Ud, Ud, Ud, Ud, v46, Ud, Ud, Ud, Ud, Ud, Ud, Ud, Ud, Ud, Ud, Ud, Ud, Ud, Ud, Ud, Ud, Ud, Ud, Ud, Ud, Ud, Ud, Ud]) rfl (fun _ => rfl) (fun u hu hF => ?_) (fun v46 => ?_)
  · clear hF
    refine doesG_un rfl ?_
    refine (does_loadAgg (cs := [(Fl r1), (Fl r3), (Fl r5), (Fl r7), (Fl r9), (Fl r11)]) (ev rfl) Try.isAgg29 Try.sizeOf29 (Blk.cells (((hB28.ext E36).ext E43).ext hu)) rfl).mono ?_; rintro _ _ ⟨rfl, rfl⟩
    exact ⟨rfl, Ext.refl _⟩
  refine RW_d (fun v47 => [(.agg #[(Fl r1), (Fl r3), (Fl r5), (Fl r7), (Fl r9), (Fl r11)]), (.agg #[(Fl r13), (Fl r15), (Fl r17), (Fl r19), (Fl r21), (Fl r23)]), (Pt b26 0), (Pt b33 0), (Bo false), Ud, Ud, Ud, Ud, Ud, v46, v47, Ud, Ud, Ud, Ud, Ud, Ud, Ud, Ud, Ud, Ud, Ud, Ud, Ud, Ud, Ud, Ud, Ud, Ud, Ud, Ud, Ud, Ud]) rfl (fun _ => rfl) (fun u hu hF => ?_) (fun v47 => ?_)
  · have h10_ : v46 = (.agg #[(Fl r1), (Fl r3), (Fl r5), (Fl r7), (Fl r9), (Fl r11)]) := hF.1
    clear hF
    obtain rfl := h10_
    refine doesG_un rfl ?_
    refine (does_call (args := #[(.agg #[(Fl r1), (Fl r3), (Fl r5), (Fl r7), (Fl r9), (Fl r11)])]) cal18 (evs rfl) (c_laws_toBox [(Fl r1), (Fl r3), (Fl r5), (Fl r7), (Fl r9), (Fl r11)] A_a _ ⟨r1, r3, r5, r7, r9, r11, rfl, h2, h4, h6, h8, h10, h12⟩)).mono ?_; rintro v u' ⟨hx, ⟨csn1, hv, k0⟩⟩
    exact ⟨⟨csn1, hv, k0⟩, hx⟩
  refine RW_d (fun v48 => [(.agg #[(Fl r1), (Fl r3), (Fl r5), (Fl r7), (Fl r9), (Fl r11)]), (.agg #[(Fl r13), (Fl r15), (Fl r17), (Fl r19), (Fl r21), (Fl r23)]), (Pt b26 0), (Pt b33 0), (Bo false), Ud, Ud, Ud, Ud, Ud, v46, v47, v48, Ud, Ud, Ud, Ud, Ud, Ud, Ud, Ud, Ud, Ud, Ud, Ud, Ud, Ud, Ud, Ud, Ud, Ud, Ud, Ud, Ud]) rfl (fun _ => rfl) (fun u hu hF => ?_) (fun v48 => ?_)
  · clear hF
    refine doesG_un rfl ?_
    refine (does_loadAgg (cs := [(Fl r13), (Fl r15), (Fl r17), (Fl r19), (Fl r21), (Fl r23)]) (ev rfl) Try.isAgg29 Try.sizeOf29 (Blk.cells ((hB35.ext E43).ext hu)) rfl).mono ?_; rintro _ _ ⟨rfl, rfl⟩
    exact ⟨rfl, Ext.refl _⟩
  refine RW_d (fun v49 => [(.agg #[(Fl r1), (Fl r3), (Fl r5), (Fl r7), (Fl r9), (Fl r11)]), (.agg #[(Fl r13), (Fl r15), (Fl r17), (Fl r19), (Fl r21), (Fl r23)]), (Pt b26 0), (Pt b33 0), (Bo false), Ud, Ud, Ud, Ud, Ud, v46, v47, v48, v49, Ud, Ud, Ud, Ud, Ud, Ud, Ud, Ud, Ud, Ud, Ud, Ud, Ud, Ud, Ud, Ud, Ud, Ud, Ud, Ud]) rfl (fun _ => rfl) (fun u hu hF => ?_) (fun v49 => ?_)
  · have h12_ : v48 = (.agg #[(Fl r13), (Fl r15), (Fl r17), (Fl r19), (Fl r21), (Fl r23)]) := hF.1
    clear hF
    obtain rfl := h12_
    refine doesG_un rfl ?_
    refine (does_call (args := #[(.agg #[(Fl r13), (Fl r15), (Fl r17), (Fl r19), (Fl r21), (Fl r23)])]) cal18 (evs rfl) (c_laws_toBox [(Fl r13), (Fl r15), (Fl r17), (Fl r19), (Fl r21), (Fl r23)] A_b _ ⟨r13, r15, r17, r19, r21, r23, rfl, h14, h16, h18, h20, h22, h24⟩)).mono ?_; rintro v u' ⟨hx, ⟨csn1, hv, k0⟩⟩
    exact ⟨⟨csn1, hv, k0⟩, hx⟩
  refine RW_d (fun v50 => [(.agg #[(Fl r1), (Fl r3), (Fl r5), (Fl r7), (Fl r9), (Fl r11)]), (.agg #[(Fl r13), (Fl r15), (Fl r17), (Fl r19), (Fl r21), (Fl r23)]), (Pt b26 0), (Pt b33 0), (Bo false), Ud, Ud, Ud, Ud, Ud, v46, v47, v48, v49, v50, Ud, Ud, Ud, Ud, Ud, Ud, Ud, Ud, Ud, Ud, Ud, Ud, Ud, Ud, Ud, Ud, Ud, Ud, Ud]) rfl (fun _ => rfl) (fun u hu hF => ?_) (fun v50 => ?_)
  · have h11_ : ∃ cs_1 : List Value, v47 = (.agg cs_1.toArray) ∧ RBx w A_a cs_1 := hF.1
    have h13_ : ∃ cs_1 : List Value, v49 = (.agg cs_1.toArray) ∧ RBx w A_b cs_1 := hF.2.1
    clear hF
    obtain ⟨_, rfl, ⟨r11_1, r11_3, r11_5, r11_7, r11_9, r11_11, rfl, h11_2, h11_4, h11_6, h11_8, h11_10, h11_12⟩⟩ := h11_
    obtain ⟨_, rfl, ⟨r13_1, r13_3, r13_5, r13_7, r13_9, r13_11, rfl, h13_2, h13_4, h13_6, h13_8, h13_10, h13_12⟩⟩ := h13_
    refine doesG_un rfl ?_
    refine (does_call (args := #[(.agg #[(Fl r11_1), (Fl r11_3), (Fl r11_5), (Fl r11_7), (Fl r11_9), (Fl r11_11)]), (.agg #[(Fl r13_1), (Fl r13_3), (Fl r13_5), (Fl r13_7), (Fl r13_9), (Fl r13_11)])]) cal42 (evs rfl) (c_spec_CutBoxes [(Fl r11_1), (Fl r11_3), (Fl r11_5), (Fl r11_7), (Fl r11_9), (Fl r11_11)] A_a [(Fl r13_1), (Fl r13_3), (Fl r13_5), (Fl r13_7), (Fl r13_9), (Fl r13_11)] A_b _ ⟨r11_1, r11_3, r11_5, r11_7, r11_9, r11_11, rfl, (by assumption), (by assumption), (by assumption), (by assumption), (by assumption), (by assumption)⟩ ⟨r13_1, r13_3, r13_5, r13_7, r13_9, r13_11, rfl, (by assumption), (by assumption), (by assumption), (by assumption), (by assumption), (by assumption)⟩)).mono ?_; rintro v u' ⟨hx, ⟨csn1, hv, k0⟩⟩
    exact ⟨⟨csn1, hv.trans (by simp only [h11_2, h11_4, h11_6, h11_8, h11_10, h11_12, h13_2, h13_4, h13_6, h13_8, h13_10, h13_12]), (by first | exact k0 | simpa only [h11_2, h11_4, h11_6, h11_8, h11_10, h11_12, h13_2, h13_4, h13_6, h13_8, h13_10, h13_12] using RBx.any (w := w) k0)⟩, hx⟩
  refine RW_d (fun v51 => [(.agg #[(Fl r1), (Fl r3), (Fl r5), (Fl r7), (Fl r9), (Fl r11)]), (.agg #[(Fl r13), (Fl r15), (Fl r17), (Fl r19), (Fl r21), (Fl r23)]), (Pt b26 0), (Pt b33 0), (Bo false), Ud, Ud, Ud, Ud, v51, v46, v47, v48, v49, v50, Ud, Ud, Ud, Ud, Ud, Ud, Ud, Ud, Ud, Ud, Ud, Ud, Ud, Ud, Ud, Ud, Ud, Ud, Ud]) rfl (fun _ => rfl) (fun u hu hF => ?_) (fun v51 => ?_)
  · have h14_ : ∃ cs_1 : List Value, v50 = (.tuple #[(.agg cs_1.toArray), (Bo (cutOk A_a A_b))]) ∧ RBx w (gvB (cutOk A_a A_b) (cutB A_a A_b)) cs_1 := hF.1
    clear hF
    obtain ⟨_, rfl, ⟨r14_1, r14_3, r14_5, r14_7, r14_9, r14_11, rfl, h14_2, h14_4, h14_6, h14_8, h14_10, h14_12⟩⟩ := h14_
    refine doesG_un rfl ?_
    refine (does_move (u := (.tuple #[(.agg #[(Fl r14_1), (Fl r14_3), (Fl r14_5), (Fl r14_7), (Fl r14_9), (Fl r14_11)]), (Bo (cutOk A_a A_b))])) (ev rfl)).mono ?_; rintro _ _ ⟨rfl, rfl⟩
    exact ⟨⟨[(Fl r14_1), (Fl r14_3), (Fl r14_5), (Fl r14_7), (Fl r14_9), (Fl r14_11)], rfl, ⟨r14_1, r14_3, r14_5, r14_7, r14_9, r14_11, rfl, (by first | assumption | rfl), (by first | assumption | rfl), (by first | assumption | rfl), (by first | assumption | rfl), (by first | assumption | rfl), (by first | assumption | rfl)⟩⟩, Ext.refl _⟩
  refine RW_d (fun v52 => [(.agg #[(Fl r1), (Fl r3), (Fl r5), (Fl r7), (Fl r9), (Fl r11)]), (.agg #[(Fl r13), (Fl r15), (Fl r17), (Fl r19), (Fl r21), (Fl r23)]), (Pt b26 0), (Pt b33 0), (Bo false), Ud, Ud, Ud, Ud, v51, v46, v47, v48, v49, v50, v52, Ud, Ud, Ud, Ud, Ud, Ud, Ud, Ud, Ud, Ud, Ud, Ud, Ud, Ud, Ud, Ud, Ud, Ud]) rfl (fun _ => rfl) (fun u hu hF => ?_) (fun v52 => ?_)
  · have h9_ : ∃ cs_1 : List Value, v51 = (.tuple #[(.agg cs_1.toArray), (Bo (cutOk A_a A_b))]) ∧ RBx w (gvB (cutOk A_a A_b) (cutB A_a A_b)) cs_1 := hF.1
    clear hF
    obtain ⟨_, rfl, ⟨r9_1, r9_3, r9_5, r9_7, r9_9, r9_11, rfl, h9_2, h9_4, h9_6, h9_8, h9_10, h9_12⟩⟩ := h9_
    refine doesG_un rfl ?_
    refine (does_extract (vs := #[(.agg #[(Fl r9_1), (Fl r9_3), (Fl r9_5), (Fl r9_7), (Fl r9_9), (Fl r9_11)]), (Bo (cutOk A_a A_b))]) (u := (.agg #[(Fl r9_1), (Fl r9_3), (Fl r9_5), (Fl r9_7), (Fl r9_9), (Fl r9_11)])) (ev rfl) rfl).mono ?_; rintro _ _ ⟨rfl, rfl⟩
    exact ⟨⟨[(Fl r9_1), (Fl r9_3), (Fl r9_5), (Fl r9_7), (Fl r9_9), (Fl r9_11)], rfl, ⟨r9_1, r9_3, r9_5, r9_7, r9_9, r9_11, rfl, (by first | assumption | rfl), (by first | assumption | rfl), (by first | assumption | rfl), (by first | assumption | rfl), (by first | assumption | rfl), (by first | assumption | rfl)⟩⟩, Ext.refl _⟩
  refine RW_d (fun v53 => [(.agg #[(Fl r1), (Fl r3), (Fl r5), (Fl r7), (Fl r9), (Fl r11)]), (.agg #[(Fl r13), (Fl r15), (Fl r17), (Fl r19), (Fl r21), (Fl r23)]), (Pt b26 0), (Pt b33 0), (Bo false), Ud, Ud, Ud, Ud, v51, v46, v47, v48, v49, v50, v52, v53, Ud, Ud, Ud, Ud, Ud, Ud, Ud, Ud, Ud, Ud, Ud, Ud, Ud, Ud, Ud, Ud, Ud]) rfl (fun _ => rfl) (fun u hu hF => ?_) (fun v53 => ?_)
  · have h9_ : ∃ cs_1 : List Value, v51 = (.tuple #[(.agg cs_1.toArray), (Bo (cutOk A_a A_b))]) ∧ RBx w (gvB (cutOk A_a A_b) (cutB A_a A_b)) cs_1 := hF.1
    clear hF
    obtain ⟨_, rfl, ⟨r9_1, r9_3, r9_5, r9_7, r9_9, r9_11, rfl, h9_2, h9_4, h9_6, h9_8, h9_10, h9_12⟩⟩ := h9_
    exact ⟨_, yields_is rfl (run_extract (ev rfl) rfl), (by first | rfl | (show _ = _; simp only [h9_2, h9_4, h9_6, h9_8, h9_10, h9_12]))⟩
  refine RW_d (fun v54 => [(.agg #[(Fl r1), (Fl r3), (Fl r5), (Fl r7), (Fl r9), (Fl r11)]), (.agg #[(Fl r13), (Fl r15), (Fl r17), (Fl r19), (Fl r21), (Fl r23)]), (Pt b26 0), (Pt b33 0), (Bo false), v54, Ud, Ud, Ud, v51, v46, v47, v48, v49, v50, v52, v53, Ud, Ud, Ud, Ud, Ud, Ud, Ud, Ud, Ud, Ud, Ud, Ud, Ud, Ud, Ud, Ud, Ud]) rfl (fun _ => rfl) (fun u hu hF => ?_) (fun v54 => ?_)
  · clear hF
    refine doesG_un rfl ?_
    refine (does_alloc z33).mono ?_; rintro _ _ ⟨b, rfl, hb, hB, hx⟩
    exact ⟨⟨b, rfl, Nat.le_trans (Nat.le_trans (Below.size E43) (Below.size hu)) hb, hB⟩, hx⟩
  refine RW_fin ?_; intro w55 E56 hP57
  obtain ⟨⟨⟨⟨⟨⟨⟨⟨⟨-, -⟩, -⟩, -⟩, -⟩, -⟩, -⟩, q58⟩, q59⟩, q60⟩ := hP57
  have X61 := Ext.gr X45 E56
  have q58 : ∃ cs_1 : List Value, v52 = (.agg cs_1.toArray) ∧ RBx w (gvB (cutOk A_a A_b) (cutB A_a A_b)) cs_1 := q58
  obtain ⟨_, rfl, ⟨r62, r64, r66, r68, r70, r72, rfl, h63, h65, h67, h69, h71, h73⟩⟩ := q58
  have q59 : v53 = (Bo (cutOk A_a A_b)) := q59
  obtain rfl := q59
  have q60 : ∃ b : Nat, v54 = .pointer (some ⟨b, 0, none⟩) ∧ w37.heap.size ≤ b ∧ Blk w55 b [(Fl 0), (Fl 0), (Fl 0), (Fl 0), (Fl 0), (Fl 0)] := q60
  obtain ⟨b74, rfl, hb75, hB76⟩ := q60
  have n77 : b26 < b74 := Nat.lt_of_lt_of_le (Blk.lt (hB28.ext E36)) hb75
  have n78 : b33 < b74 := Nat.lt_of_lt_of_le (Blk.lt hB35) hb75
  have g79 : w.heap.size ≤ b74 := Nat.le_trans (Below.size X40) hb75
  show wpList _ _ _ _ (fr [(.agg #[(Fl r1), (Fl r3), (Fl r5), (Fl r7), (Fl r9), (Fl r11)]), (.agg #[(Fl r13), (Fl r15), (Fl r17), (Fl r19), (Fl r21), (Fl r23)]), (Pt b26 0), (Pt b33 0), (Bo false), (Pt b74 0), Ud, Ud, Ud, v51, v46, v47, v48, v49, v50, (.agg #[(Fl r62), (Fl r64), (Fl r66), (Fl r68), (Fl r70), (Fl r72)]), (Bo (cutOk A_a A_b)), Ud, Ud, Ud, Ud, Ud, Ud, Ud, Ud, Ud, Ud, Ud, Ud, Ud, Ud, Ud, Ud, Ud]) _
  refine seqn rfl rfl (does_store (n := 6) (cs := [(Fl 0), (Fl 0), (Fl 0), (Fl 0), (Fl 0), (Fl 0)]) (u := (.agg #[(Fl r62), (Fl r64), (Fl r66), (Fl r68), (Fl r70), (Fl r72)])) (ev rfl) (ev rfl) Try.sizeOf33 rfl hB76 (Nat.le_of_ble_eq_true rfl) rfl) ?_; rintro _ w82 ⟨rfl, W80, hB81⟩
  change Blk _ _ [(Fl r62), (Fl r64), (Fl r66), (Fl r68), (Fl r70), (Fl r72)] at hB81
  have X83 := Below.wr X61 W80 g79
  refine q_is (l' := [(.agg #[(Fl r1), (Fl r3), (Fl r5), (Fl r7), (Fl r9), (Fl r11)]), (.agg #[(Fl r13), (Fl r15), (Fl r17), (Fl r19), (Fl r21), (Fl r23)]), (Pt b26 0), (Pt b33 0), (Bo false), (Pt b74 0), (Bo (cutOk A_a A_b)), Ud, Ud, v51, v46, v47, v48, v49, v50, (.agg #[(Fl r62), (Fl r64), (Fl r66), (Fl r68), (Fl r70), (Fl r72)]), (Bo (cutOk A_a A_b)), Ud, Ud, Ud, Ud, Ud, Ud, Ud, Ud, Ud, Ud, Ud, Ud, Ud, Ud, Ud, Ud, Ud]) rfl rfl (does_assign (u := (Bo (cutOk A_a A_b))) (ev rfl)) rfl ?_
  refine wpList_nil (hK41 _ _ ?_)
  refine wp_seq_k fun K84 hK84 => ?_
  refine region_draw (
    [Fact.pure [] (fun v => v = (.agg #[(Fl r1), (Fl r3), (Fl r5), (Fl r7), (Fl r9), (Fl r11)])),
    Fact.pure [18] (fun v => ∃ cs_1 : List Value, v = (.agg cs_1.toArray) ∧ RBx w A_a cs_1),
    Fact.pure [] (fun v => v = (.agg #[(Fl r13), (Fl r15), (Fl r17), (Fl r19), (Fl r21), (Fl r23)])),
    Fact.pure [20] (fun v => ∃ cs_1 : List Value, v = (.agg cs_1.toArray) ∧ RBx w A_b cs_1),
    Fact.pure [19, 21] (fun v => ∃ cs_1 : List Value, v = (.tuple #[(.agg cs_1.toArray), (Bo (cutOk A_a A_b))]) ∧ RBx w (gvB (cutOk A_a A_b) (cutB A_a A_b)) cs_1),
    Fact.pure [22] (fun v => ∃ cs_1 : List Value, v = (.tuple #[(.agg cs_1.toArray), (Bo (cutOk A_a A_b))]) ∧ RBx w (gvB (cutOk A_a A_b) (cutB A_a A_b)) cs_1),
    Fact.pure [17] (fun v => ∃ cs_1 : List Value, v = (.agg cs_1.toArray) ∧ RBx w (gvB (cutOk A_a A_b) (cutB A_a A_b)) cs_1),
    Fact.flt [17] (fun v => v = (Bo (cutOk A_a A_b))),
    Fact.mem [] (fun v w' => ∃ b : Nat, v = .pointer (some ⟨b, 0, none⟩) ∧ w82.heap.size ≤ b ∧ Blk w' b [(Fl 0), (Fl 0), (Fl 0), (Fl 0), (Fl 0), (Fl 0)]) (by rintro v w1 w2 hx ⟨b, rfl, hb, hB⟩; exact ⟨b, rfl, hb, (hB.ext hx)⟩)]) mixed (by kernel_rfl) (by intro _ _ d _ _ h; cases d <;> exact h) ?_
  obtain ⟨w85, hw87⟩ : ∃ w', w' = World.drew w82 := ⟨_, rfl⟩; rw [← hw87]; have E86 : Ext w82 w85 := by rw [hw87]; exact Ext.draw _
  clear hw87
  have X88 := Ext.gr X83 E86
  refine RW_d (fun v89 => [(.agg #[(Fl r1), (Fl r3), (Fl r5), (Fl r7), (Fl r9), (Fl r11)]), (.agg #[(Fl r13), (Fl r15), (Fl r17), (Fl r19), (Fl r21), (Fl r23)]), (Pt b26 0), (Pt b33 0), (Bo false), (Pt b74 0), (Bo (cutOk A_a A_b)), Ud, Ud, v51, v46, v47, v48, v49, v50, (.agg #[(Fl r62), (Fl r64), (Fl r66), (Fl r68), (Fl r70), (Fl r72)]), (Bo (cutOk A_a A_b)), Ud, v89, Ud, Ud, Ud, Ud, Ud, Ud, Ud, Ud, Ud, Ud, Ud, Ud, Ud, Ud, Ud]) rfl (fun _ => rfl) (fun u hu hF => ?_) (fun v89 => ?_)
  · clear hF
    refine doesG_un rfl ?_
    refine (does_loadAgg (cs := [(Fl r1), (Fl r3), (Fl r5), (Fl r7), (Fl r9), (Fl r11)]) (ev rfl) Try.isAgg29 Try.sizeOf29 (Blk.cells ((((((hB28.ext E36).ext E43).ext E56).wr W80 (Nat.ne_of_lt n77)).ext E86).ext hu)) rfl).mono ?_; rintro _ _ ⟨rfl, rfl⟩
    exact ⟨rfl, Ext.refl _⟩
  refine RW_d (fun v90 => [(.agg #[(Fl r1), (Fl r3), (Fl r5), (Fl r7), (Fl r9), (Fl r11)]), (.agg #[(Fl r13), (Fl r15), (Fl r17), (Fl r19), (Fl r21), (Fl r23)]), (Pt b26 0), (Pt b33 0), (Bo false), (Pt b74 0), (Bo (cutOk A_a A_b)), Ud, Ud, v51, v46, v47, v48, v49, v50, (.agg #[(Fl r62), (Fl r64), (Fl r66), (Fl r68), (Fl r70), (Fl r72)]), (Bo (cutOk A_a A_b)), Ud, v89, v90, Ud, Ud, Ud, Ud, Ud, Ud, Ud, Ud, Ud, Ud, Ud, Ud, Ud, Ud]) rfl (fun _ => rfl) (fun u hu hF => ?_) (fun v90 => ?_)
  · have h18_ : v89 = (.agg #[(Fl r1), (Fl r3), (Fl r5), (Fl r7), (Fl r9), (Fl r11)]) := hF.1
    clear hF
    obtain rfl := h18_
    refine doesG_un rfl ?_
    refine (does_call (args := #[(.agg #[(Fl r1), (Fl r3), (Fl r5), (Fl r7), (Fl r9), (Fl r11)])]) cal18 (evs rfl) (c_laws_toBox [(Fl r1), (Fl r3), (Fl r5), (Fl r7), (Fl r9), (Fl r11)] A_a _ ⟨r1, r3, r5, r7, r9, r11, rfl, h2, h4, h6, h8, h10, h12⟩)).mono ?_; rintro v u' ⟨hx, ⟨csn1, hv, k0⟩⟩
    exact ⟨⟨csn1, hv, k0⟩, hx⟩
  refine RW_d (fun v91 => [(.agg #[(Fl r1), (Fl r3), (Fl r5), (Fl r7), (Fl r9), (Fl r11)]), (.agg #[(Fl r13), (Fl r15), (Fl r17), (Fl r19), (Fl r21), (Fl r23)]), (Pt b26 0), (Pt b33 0), (Bo false), (Pt b74 0), (Bo (cutOk A_a A_b)), Ud, Ud, v51, v46, v47, v48, v49, v50, (.agg #[(Fl r62), (Fl r64), (Fl r66), (Fl r68), (Fl r70), (Fl r72)]), (Bo (cutOk A_a A_b)), Ud, v89, v90, v91, Ud, Ud, Ud, Ud, Ud, Ud, Ud, Ud, Ud, Ud, Ud, Ud, Ud]) rfl (fun _ => rfl) (fun u hu hF => ?_) (fun v91 => ?_)
  · clear hF
    refine doesG_un rfl ?_
    refine (does_loadAgg (cs := [(Fl r13), (Fl r15), (Fl r17), (Fl r19), (Fl r21), (Fl r23)]) (ev rfl) Try.isAgg29 Try.sizeOf29 (Blk.cells (((((hB35.ext E43).ext E56).wr W80 (Nat.ne_of_lt n78)).ext E86).ext hu)) rfl).mono ?_; rintro _ _ ⟨rfl, rfl⟩
    exact ⟨rfl, Ext.refl _⟩
  refine RW_d (fun v92 => [(.agg #[(Fl r1), (Fl r3), (Fl r5), (Fl r7), (Fl r9), (Fl r11)]), (.agg #[(Fl r13), (Fl r15), (Fl r17), (Fl r19), (Fl r21), (Fl r23)]), (Pt b26 0), (Pt b33 0), (Bo false), (Pt b74 0), (Bo (cutOk A_a A_b)), Ud, Ud, v51, v46, v47, v48, v49, v50, (.agg #[(Fl r62), (Fl r64), (Fl r66), (Fl r68), (Fl r70), (Fl r72)]), (Bo (cutOk A_a A_b)), Ud, v89, v90, v91, v92, Ud, Ud, Ud, Ud, Ud, Ud, Ud, Ud, Ud, Ud, Ud, Ud]) rfl (fun _ => rfl) (fun u hu hF => ?_) (fun v92 => ?_)
  · have h20_ : v91 = (.agg #[(Fl r13), (Fl r15), (Fl r17), (Fl r19), (Fl r21), (Fl r23)]) := hF.1
    clear hF
    obtain rfl := h20_
    refine doesG_un rfl ?_
    refine (does_call (args := #[(.agg #[(Fl r13), (Fl r15), (Fl r17), (Fl r19), (Fl r21), (Fl r23)])]) cal18 (evs rfl) (c_laws_toBox [(Fl r13), (Fl r15), (Fl r17), (Fl r19), (Fl r21), (Fl r23)] A_b _ ⟨r13, r15, r17, r19, r21, r23, rfl, h14, h16, h18, h20, h22, h24⟩)).mono ?_; rintro v u' ⟨hx, ⟨csn1, hv, k0⟩⟩
    exact ⟨⟨csn1, hv, k0⟩, hx⟩
  refine RW_d (fun v93 => [(.agg #[(Fl r1), (Fl r3), (Fl r5), (Fl r7), (Fl r9), (Fl r11)]), (.agg #[(Fl r13), (Fl r15), (Fl r17), (Fl r19), (Fl r21), (Fl r23)]), (Pt b26 0), (Pt b33 0), (Bo false), (Pt b74 0), (Bo (cutOk A_a A_b)), Ud, Ud, v51, v46, v47, v48, v49, v50, (.agg #[(Fl r62), (Fl r64), (Fl r66), (Fl r68), (Fl r70), (Fl r72)]), (Bo (cutOk A_a A_b)), Ud, v89, v90, v91, v92, v93, Ud, Ud, Ud, Ud, Ud, Ud, Ud, Ud, Ud, Ud, Ud]) rfl (fun _ => rfl) (fun u hu hF => ?_) (fun v93 => ?_)
  · have h19_ : ∃ cs_1 : List Value, v90 = (.agg cs_1.toArray) ∧ RBx w A_a cs_1 := hF.1
    have h21_ : ∃ cs_1 : List Value, v92 = (.agg cs_1.toArray) ∧ RBx w A_b cs_1 := hF.2.1
    clear hF
    obtain ⟨_, rfl, ⟨r19_1, r19_3, r19_5, r19_7, r19_9, r19_11, rfl, h19_2, h19_4, h19_6, h19_8, h19_10, h19_12⟩⟩ := h19_
    obtain ⟨_, rfl, ⟨r21_1, r21_3, r21_5, r21_7, r21_9, r21_11, rfl, h21_2, h21_4, h21_6, h21_8, h21_10, h21_12⟩⟩ := h21_
    refine doesG_un rfl ?_
    refine (does_call (args := #[(.agg #[(Fl r19_1), (Fl r19_3), (Fl r19_5), (Fl r19_7), (Fl r19_9), (Fl r19_11)]), (.agg #[(Fl r21_1), (Fl r21_3), (Fl r21_5), (Fl r21_7), (Fl r21_9), (Fl r21_11)])]) cal43 (evs rfl) (c_impl_CutBoxes [(Fl r19_1), (Fl r19_3), (Fl r19_5), (Fl r19_7), (Fl r19_9), (Fl r19_11)] A_a [(Fl r21_1), (Fl r21_3), (Fl r21_5), (Fl r21_7), (Fl r21_9), (Fl r21_11)] A_b _ ⟨r19_1, r19_3, r19_5, r19_7, r19_9, r19_11, rfl, (by assumption), (by assumption), (by assumption), (by assumption), (by assumption), (by assumption)⟩ ⟨r21_1, r21_3, r21_5, r21_7, r21_9, r21_11, rfl, (by assumption), (by assumption), (by assumption), (by assumption), (by assumption), (by assumption)⟩)).mono ?_; rintro v u' ⟨hx, ⟨csn1, hv, k0⟩⟩
    exact ⟨⟨csn1, hv.trans (by simp only [h19_2, h19_4, h19_6, h19_8, h19_10, h19_12, h21_2, h21_4, h21_6, h21_8, h21_10, h21_12]), (by first | exact k0 | simpa only [h19_2, h19_4, h19_6, h19_8, h19_10, h19_12, h21_2, h21_4, h21_6, h21_8, h21_10, h21_12] using RBx.any (w := w) k0)⟩, hx⟩
  refine RW_d (fun v94 => [(.agg #[(Fl r1), (Fl r3), (Fl r5), (Fl r7), (Fl r9), (Fl r11)]), (.agg #[(Fl r13), (Fl r15), (Fl r17), (Fl r19), (Fl r21), (Fl r23)]), (Pt b26 0), (Pt b33 0), (Bo false), (Pt b74 0), (Bo (cutOk A_a A_b)), Ud, Ud, v51, v46, v47, v48, v49, v50, (.agg #[(Fl r62), (Fl r64), (Fl r66), (Fl r68), (Fl r70), (Fl r72)]), (Bo (cutOk A_a A_b)), v94, v89, v90, v91, v92, v93, Ud, Ud, Ud, Ud, Ud, Ud, Ud, Ud, Ud, Ud, Ud]) rfl (fun _ => rfl) (fun u hu hF => ?_) (fun v94 => ?_)
  · have h22_ : ∃ cs_1 : List Value, v93 = (.tuple #[(.agg cs_1.toArray), (Bo (cutOk A_a A_b))]) ∧ RBx w (gvB (cutOk A_a A_b) (cutB A_a A_b)) cs_1 := hF.1
    clear hF
    obtain ⟨_, rfl, ⟨r22_1, r22_3, r22_5, r22_7, r22_9, r22_11, rfl, h22_2, h22_4, h22_6, h22_8, h22_10, h22_12⟩⟩ := h22_
    refine doesG_un rfl ?_
    refine (does_move (u := (.tuple #[(.agg #[(Fl r22_1), (Fl r22_3), (Fl r22_5), (Fl r22_7), (Fl r22_9), (Fl r22_11)]), (Bo (cutOk A_a A_b))])) (ev rfl)).mono ?_; rintro _ _ ⟨rfl, rfl⟩
    exact ⟨⟨[(Fl r22_1), (Fl r22_3), (Fl r22_5), (Fl r22_7), (Fl r22_9), (Fl r22_11)], rfl, ⟨r22_1, r22_3, r22_5, r22_7, r22_9, r22_11, rfl, (by first | assumption | rfl), (by first | assumption | rfl), (by first | assumption | rfl), (by first | assumption | rfl), (by first | assumption | rfl), (by first | assumption | rfl)⟩⟩, Ext.refl _⟩
  refine RW_d (fun v95 => [(.agg #[(Fl r1), (Fl r3), (Fl r5), (Fl r7), (Fl r9), (Fl r11)]), (.agg #[(Fl r13), (Fl r15), (Fl r17), (Fl r19), (Fl r21), (Fl r23)]), (Pt b26 0), (Pt b33 0), (Bo false), (Pt b74 0), (Bo (cutOk A_a A_b)), Ud, Ud, v51, v46, v47, v48, v49, v50, (.agg #[(Fl r62), (Fl r64), (Fl r66), (Fl r68), (Fl r70), (Fl r72)]), (Bo (cutOk A_a A_b)), v94, v89, v90, v91, v92, v93, v95, Ud, Ud, Ud, Ud, Ud, Ud, Ud, Ud, Ud, Ud]) rfl (fun _ => rfl) (fun u hu hF => ?_) (fun v95 => ?_)
  · have h17_ : ∃ cs_1 : List Value, v94 = (.tuple #[(.agg cs_1.toArray), (Bo (cutOk A_a A_b))]) ∧ RBx w (gvB (cutOk A_a A_b) (cutB A_a A_b)) cs_1 := hF.1
    clear hF
    obtain ⟨_, rfl, ⟨r17_1, r17_3, r17_5, r17_7, r17_9, r17_11, rfl, h17_2, h17_4, h17_6, h17_8, h17_10, h17_12⟩⟩ := h17_
    refine doesG_un rfl ?_
    refine (does_extract (vs := #[(.agg #[(Fl r17_1), (Fl r17_3), (Fl r17_5), (Fl r17_7), (Fl r17_9), (Fl r17_11)]), (Bo (cutOk A_a A_b))]) (u := (.agg #[(Fl r17_1), (Fl r17_3), (Fl r17_5), (Fl r17_7), (Fl r17_9), (Fl r17_11)])) (ev rfl) rfl).mono ?_; rintro _ _ ⟨rfl, rfl⟩
    exact ⟨⟨[(Fl r17_1), (Fl r17_3), (Fl r17_5), (Fl r17_7), (Fl r17_9), (Fl r17_11)], rfl, ⟨r17_1, r17_3, r17_5, r17_7, r17_9, r17_11, rfl, (by first | assumption | rfl), (by first | assumption | rfl), (by first | assumption | rfl), (by first | assumption | rfl), (by first | assumption | rfl), (by first | assumption | rfl)⟩⟩, Ext.refl _⟩
  refine RW_d (fun v96 => [(.agg #[(Fl r1), (Fl r3), (Fl r5), (Fl r7), (Fl r9), (Fl r11)]), (.agg #[(Fl r13), (Fl r15), (Fl r17), (Fl r19), (Fl r21), (Fl r23)]), (Pt b26 0), (Pt b33 0), (Bo false), (Pt b74 0), (Bo (cutOk A_a A_b)), Ud, Ud, v51, v46, v47, v48, v49, v50, (.agg #[(Fl r62), (Fl r64), (Fl r66), (Fl r68), (Fl r70), (Fl r72)]), (Bo (cutOk A_a A_b)), v94, v89, v90, v91, v92, v93, v95, v96, Ud, Ud, Ud, Ud, Ud, Ud, Ud, Ud, Ud]) rfl (fun _ => rfl) (fun u hu hF => ?_) (fun v96 => ?_)
  · have h17_ : ∃ cs_1 : List Value, v94 = (.tuple #[(.agg cs_1.toArray), (Bo (cutOk A_a A_b))]) ∧ RBx w (gvB (cutOk A_a A_b) (cutB A_a A_b)) cs_1 := hF.1
    clear hF
    obtain ⟨_, rfl, ⟨r17_1, r17_3, r17_5, r17_7, r17_9, r17_11, rfl, h17_2, h17_4, h17_6, h17_8, h17_10, h17_12⟩⟩ := h17_
    exact ⟨_, yields_is rfl (run_extract (ev rfl) rfl), (by first | rfl | (show _ = _; simp only [h17_2, h17_4, h17_6, h17_8, h17_10, h17_12]))⟩
  refine RW_d (fun v97 => [(.agg #[(Fl r1), (Fl r3), (Fl r5), (Fl r7), (Fl r9), (Fl r11)]), (.agg #[(Fl r13), (Fl r15), (Fl r17), (Fl r19), (Fl r21), (Fl r23)]), (Pt b26 0), (Pt b33 0), (Bo false), (Pt b74 0), (Bo (cutOk A_a A_b)), v97, Ud, v51, v46, v47, v48, v49, v50, (.agg #[(Fl r62), (Fl r64), (Fl r66), (Fl r68), (Fl r70), (Fl r72)]), (Bo (cutOk A_a A_b)), v94, v89, v90, v91, v92, v93, v95, v96, Ud, Ud, Ud, Ud, Ud, Ud, Ud, Ud, Ud]) rfl (fun _ => rfl) (fun u hu hF => ?_) (fun v97 => ?_)
  · clear hF
    refine doesG_un rfl ?_
    refine (does_alloc z33).mono ?_; rintro _ _ ⟨b, rfl, hb, hB, hx⟩
    exact ⟨⟨b, rfl, Nat.le_trans (Nat.le_trans (Below.size E86) (Below.size hu)) hb, hB⟩, hx⟩
  refine RW_fin ?_; intro w98 E99 hP100
  obtain ⟨⟨⟨⟨⟨⟨⟨⟨⟨-, -⟩, -⟩, -⟩, -⟩, -⟩, -⟩, q101⟩, q102⟩, q103⟩ := hP100
  have X104 := Ext.gr X88 E99
  have q101 : ∃ cs_1 : List Value, v95 = (.agg cs_1.toArray) ∧ RBx w (gvB (cutOk A_a A_b) (cutB A_a A_b)) cs_1 := q101
  obtain ⟨_, rfl, ⟨r105, r107, r109, r111, r113, r115, rfl, h106, h108, h110, h112, h114, h116⟩⟩ := q101
  have q102 : v96 = (Bo (cutOk A_a A_b)) := q102
  obtain rfl := q102
  have q103 : ∃ b : Nat, v97 = .pointer (some ⟨b, 0, none⟩) ∧ w82.heap.size ≤ b ∧ Blk w98 b [(Fl 0), (Fl 0), (Fl 0), (Fl 0), (Fl 0), (Fl 0)] := q103
  obtain ⟨b117, rfl, hb118, hB119⟩ := q103
  have n120 : b26 < b117 := Nat.lt_of_lt_of_le (Blk.lt ((((hB28.ext E36).ext E43).ext E56).wr W80 (Nat.ne_of_lt n77))) hb118
  have n121 : b33 < b117 := Nat.lt_of_lt_of_le (Blk.lt (((hB35.ext E43).ext E56).wr W80 (Nat.ne_of_lt n78))) hb118
  have n122 : b74 < b117 := Nat.lt_of_lt_of_le (Blk.lt hB81) hb118
  have g123 : w.heap.size ≤ b117 := Nat.le_trans (Below.size X83) hb118
  show wpList _ _ _ _ (fr [(.agg #[(Fl r1), (Fl r3), (Fl r5), (Fl r7), (Fl r9), (Fl r11)]), (.agg #[(Fl r13), (Fl r15), (Fl r17), (Fl r19), (Fl r21), (Fl r23)]), (Pt b26 0), (Pt b33 0), (Bo false), (Pt b74 0), (Bo (cutOk A_a A_b)), (Pt b117 0), Ud, v51, v46, v47, v48, v49, v50, (.agg #[(Fl r62), (Fl r64), (Fl r66), (Fl r68), (Fl r70), (Fl r72)]), (Bo (cutOk A_a A_b)), v94, v89, v90, v91, v92, v93, (.agg #[(Fl r105), (Fl r107), (Fl r109), (Fl r111), (Fl r113), (Fl r115)]), (Bo (cutOk A_a A_b)), Ud, Ud, Ud, Ud, Ud, Ud, Ud, Ud, Ud]) _
  refine seqn rfl rfl (does_store (n := 6) (cs := [(Fl 0), (Fl 0), (Fl 0), (Fl 0), (Fl 0), (Fl 0)]) (u := (.agg #[(Fl r105), (Fl r107), (Fl r109), (Fl r111), (Fl r113), (Fl r115)])) (ev rfl) (ev rfl) Try.sizeOf33 rfl hB119 (Nat.le_of_ble_eq_true rfl) rfl) ?_; rintro _ w126 ⟨rfl, W124, hB125⟩
  change Blk _ _ [(Fl r105), (Fl r107), (Fl r109), (Fl r111), (Fl r113), (Fl r115)] at hB125
  have X127 := Below.wr X104 W124 g123
  refine q_is (l' := [(.agg #[(Fl r1), (Fl r3), (Fl r5), (Fl r7), (Fl r9), (Fl r11)]), (.agg #[(Fl r13), (Fl r15), (Fl r17), (Fl r19), (Fl r21), (Fl r23)]), (Pt b26 0), (Pt b33 0), (Bo false), (Pt b74 0), (Bo (cutOk A_a A_b)), (Pt b117 0), (Bo (cutOk A_a A_b)), v51, v46, v47, v48, v49, v50, (.agg #[(Fl r62), (Fl r64), (Fl r66), (Fl r68), (Fl r70), (Fl r72)]), (Bo (cutOk A_a A_b)), v94, v89, v90, v91, v92, v93, (.agg #[(Fl r105), (Fl r107), (Fl r109), (Fl r111), (Fl r113), (Fl r115)]), (Bo (cutOk A_a A_b)), Ud, Ud, Ud, Ud, Ud, Ud, Ud, Ud, Ud]) rfl rfl (does_assign (u := (Bo (cutOk A_a A_b))) (ev rfl)) rfl ?_
  refine wpList_nil (hK84 _ _ ?_)
  refine wp_seq_k fun K128 hK128 => ?_
  refine wp_seq_k fun K129 hK129 => ?_
  obtain ⟨β1, hβ1⟩ : ∃ b : Bool, b = (sameB (gvB (cutOk A_a A_b) (cutB A_a A_b)) (gvB (cutOk A_a A_b) (cutB A_a A_b))) := ⟨_, rfl⟩
  obtain ⟨β2, hβ2⟩ : ∃ b : Bool, b = ((cutOk A_a A_b) != (cutOk A_a A_b)) := ⟨_, rfl⟩
  refine region_text (
    [Fact.pure [] (fun v => v = (.agg #[(Fl r105), (Fl r107), (Fl r109), (Fl r111), (Fl r113), (Fl r115)])),
    Fact.pure [] (fun v => v = (.agg #[(Fl r62), (Fl r64), (Fl r66), (Fl r68), (Fl r70), (Fl r72)])),
    Fact.pure [25, 26] (fun v => v = (Bo β1)),
    Fact.pure [27] (fun v => v = (Bo (!β1))),
    Fact.pure [28] (fun v => v = (Bo (!β1))),
    Fact.pure [29] (fun v => (!β1) = false → v = (Bo (cutOk A_a A_b))),
    Fact.pure [29] (fun v => (!β1) = false → v = (Bo (cutOk A_a A_b))),
    Fact.pure [30, 31, 29] (fun v => (!β1) = false → v = (Bo β2)),
    Fact.pure [29, 32] (fun v => v = (Bo ((!β1) || β2)))]) (by simp [Fact.pure, Fact.mem]) ?_
  refine RW_d (fun v130 => [(.agg #[(Fl r1), (Fl r3), (Fl r5), (Fl r7), (Fl r9), (Fl r11)]), (.agg #[(Fl r13), (Fl r15), (Fl r17), (Fl r19), (Fl r21), (Fl r23)]), (Pt b26 0), (Pt b33 0), (Bo false), (Pt b74 0), (Bo (cutOk A_a A_b)), (Pt b117 0), (Bo (cutOk A_a A_b)), v51, v46, v47, v48, v49, v50, (.agg #[(Fl r62), (Fl r64), (Fl r66), (Fl r68), (Fl r70), (Fl r72)]), (Bo (cutOk A_a A_b)), v94, v89, v90, v91, v92, v93, (.agg #[(Fl r105), (Fl r107), (Fl r109), (Fl r111), (Fl r113), (Fl r115)]), (Bo (cutOk A_a A_b)), v130, Ud, Ud, Ud, Ud, Ud, Ud, Ud, Ud]) rfl (fun _ => rfl) (fun u hu hF => ?_) (fun v130 => ?_)
  · clear hF
    refine doesG_un rfl ?_
    refine (does_loadAgg (cs := [(Fl r105), (Fl r107), (Fl r109), (Fl r111), (Fl r113), (Fl r115)]) (ev rfl) Try.isAgg33 Try.sizeOf33 (Blk.cells (hB125.ext hu)) rfl).mono ?_; rintro _ _ ⟨rfl, rfl⟩
    exact ⟨rfl, Ext.refl _⟩
  refine RW_d (fun v131 => [(.agg #[(Fl r1), (Fl r3), (Fl r5), (Fl r7), (Fl r9), (Fl r11)]), (.agg #[(Fl r13), (Fl r15), (Fl r17), (Fl r19), (Fl r21), (Fl r23)]), (Pt b26 0), (Pt b33 0), (Bo false), (Pt b74 0), (Bo (cutOk A_a A_b)), (Pt b117 0), (Bo (cutOk A_a A_b)), v51, v46, v47, v48, v49, v50, (.agg #[(Fl r62), (Fl r64), (Fl r66), (Fl r68), (Fl r70), (Fl r72)]), (Bo (cutOk A_a A_b)), v94, v89, v90, v91, v92, v93, (.agg #[(Fl r105), (Fl r107), (Fl r109), (Fl r111), (Fl r113), (Fl r115)]), (Bo (cutOk A_a A_b)), v130, v131, Ud, Ud, Ud, Ud, Ud, Ud, Ud]) rfl (fun _ => rfl) (fun u hu hF => ?_) (fun v131 => ?_)
  · clear hF
    refine doesG_un rfl ?_
    refine (does_loadAgg (cs := [(Fl r62), (Fl r64), (Fl r66), (Fl r68), (Fl r70), (Fl r72)]) (ev rfl) Try.isAgg33 Try.sizeOf33 (Blk.cells ((((hB81.ext E86).ext E99).wr W124 (Nat.ne_of_lt n122)).ext hu)) rfl).mono ?_; rintro _ _ ⟨rfl, rfl⟩
    exact ⟨rfl, Ext.refl _⟩
  refine RW_d (fun v132 => [(.agg #[(Fl r1), (Fl r3), (Fl r5), (Fl r7), (Fl r9), (Fl r11)]), (.agg #[(Fl r13), (Fl r15), (Fl r17), (Fl r19), (Fl r21), (Fl r23)]), (Pt b26 0), (Pt b33 0), (Bo false), (Pt b74 0), (Bo (cutOk A_a A_b)), (Pt b117 0), (Bo (cutOk A_a A_b)), v51, v46, v47, v48, v49, v50, (.agg #[(Fl r62), (Fl r64), (Fl r66), (Fl r68), (Fl r70), (Fl r72)]), (Bo (cutOk A_a A_b)), v94, v89, v90, v91, v92, v93, (.agg #[(Fl r105), (Fl r107), (Fl r109), (Fl r111), (Fl r113), (Fl r115)]), (Bo (cutOk A_a A_b)), v130, v131, v132, Ud, Ud, Ud, Ud, Ud, Ud]) rfl (fun _ => rfl) (fun u hu hF => ?_) (fun v132 => ?_)
  · have h25_ : v130 = (.agg #[(Fl r105), (Fl r107), (Fl r109), (Fl r111), (Fl r113), (Fl r115)]) := hF.1
    have h26_ : v131 = (.agg #[(Fl r62), (Fl r64), (Fl r66), (Fl r68), (Fl r70), (Fl r72)]) := hF.2.1
    clear hF
    obtain rfl := h25_
    obtain rfl := h26_
    refine doesG_un rfl ?_
    refine (does_call (args := #[(.agg #[(Fl r105), (Fl r107), (Fl r109), (Fl r111), (Fl r113), (Fl r115)]), (.agg #[(Fl r62), (Fl r64), (Fl r66), (Fl r68), (Fl r70), (Fl r72)])]) cal41 (evs rfl) (c_laws_eqBox [(Fl r105), (Fl r107), (Fl r109), (Fl r111), (Fl r113), (Fl r115)] (gvB (cutOk A_a A_b) (cutB A_a A_b)) [(Fl r62), (Fl r64), (Fl r66), (Fl r68), (Fl r70), (Fl r72)] (gvB (cutOk A_a A_b) (cutB A_a A_b)) _ ⟨r105, r107, r109, r111, r113, r115, rfl, h106, h108, h110, h112, h114, h116⟩ ⟨r62, r64, r66, r68, r70, r72, rfl, h63, h65, h67, h69, h71, h73⟩)).mono ?_; rintro v u' ⟨hx, hv⟩
    exact ⟨hv.trans (by simp only [hβ1]), hx⟩
  refine RW_d (fun v133 => [(.agg #[(Fl r1), (Fl r3), (Fl r5), (Fl r7), (Fl r9), (Fl r11)]), (.agg #[(Fl r13), (Fl r15), (Fl r17), (Fl r19), (Fl r21), (Fl r23)]), (Pt b26 0), (Pt b33 0), (Bo false), (Pt b74 0), (Bo (cutOk A_a A_b)), (Pt b117 0), (Bo (cutOk A_a A_b)), v51, v46, v47, v48, v49, v50, (.agg #[(Fl r62), (Fl r64), (Fl r66), (Fl r68), (Fl r70), (Fl r72)]), (Bo (cutOk A_a A_b)), v94, v89, v90, v91, v92, v93, (.agg #[(Fl r105), (Fl r107), (Fl r109), (Fl r111), (Fl r113), (Fl r115)]), (Bo (cutOk A_a A_b)), v130, v131, v132, v133, Ud, Ud, Ud, Ud, Ud]) rfl (fun _ => rfl) (fun u hu hF => ?_) (fun v133 => ?_)
  · have h27_ : v132 = (Bo β1) := hF.1
    clear hF
    obtain rfl := h27_
    refine doesG_un rfl ?_
    refine (does_not (ev rfl)).mono ?_; rintro _ _ ⟨rfl, rfl⟩
    exact ⟨rfl, Ext.refl _⟩
  refine RW_d (fun v134 => [(.agg #[(Fl r1), (Fl r3), (Fl r5), (Fl r7), (Fl r9), (Fl r11)]), (.agg #[(Fl r13), (Fl r15), (Fl r17), (Fl r19), (Fl r21), (Fl r23)]), (Pt b26 0), (Pt b33 0), (Bo false), (Pt b74 0), (Bo (cutOk A_a A_b)), (Pt b117 0), (Bo (cutOk A_a A_b)), v51, v46, v47, v48, v49, v50, (.agg #[(Fl r62), (Fl r64), (Fl r66), (Fl r68), (Fl r70), (Fl r72)]), (Bo (cutOk A_a A_b)), v94, v89, v90, v91, v92, v93, (.agg #[(Fl r105), (Fl r107), (Fl r109), (Fl r111), (Fl r113), (Fl r115)]), (Bo (cutOk A_a A_b)), v130, v131, v132, v133, v134, Ud, Ud, Ud, Ud]) rfl (fun _ => rfl) (fun u hu hF => ?_) (fun v134 => ?_)
  · have h28_ : v133 = (Bo (!β1)) := hF.1
    clear hF
    obtain rfl := h28_
    refine doesG_un rfl ?_
    refine (does_move (u := (Bo (!β1))) (ev rfl)).mono ?_; rintro _ _ ⟨rfl, rfl⟩
    exact ⟨rfl, Ext.refl _⟩
  refine RW_d (fun v135 => [(.agg #[(Fl r1), (Fl r3), (Fl r5), (Fl r7), (Fl r9), (Fl r11)]), (.agg #[(Fl r13), (Fl r15), (Fl r17), (Fl r19), (Fl r21), (Fl r23)]), (Pt b26 0), (Pt b33 0), (Bo false), (Pt b74 0), (Bo (cutOk A_a A_b)), (Pt b117 0), (Bo (cutOk A_a A_b)), v51, v46, v47, v48, v49, v50, (.agg #[(Fl r62), (Fl r64), (Fl r66), (Fl r68), (Fl r70), (Fl r72)]), (Bo (cutOk A_a A_b)), v94, v89, v90, v91, v92, v93, (.agg #[(Fl r105), (Fl r107), (Fl r109), (Fl r111), (Fl r113), (Fl r115)]), (Bo (cutOk A_a A_b)), v130, v131, v132, v133, v134, v135, Ud, Ud, Ud]) rfl (fun _ => rfl) (fun u hu hF => ?_) (fun v135 => ?_)
  · have h29_ : v134 = (Bo (!β1)) := hF.1
    clear hF
    obtain rfl := h29_
    refine doesG_g (b := (!β1)) rfl (yld rfl rfl) (fun hg => ?_) (fun hg => ⟨fun h => absurd h hg, Ext.refl _⟩)
    refine (does_move (u := (Bo (cutOk A_a A_b))) (ev rfl)).mono ?_; rintro _ _ ⟨rfl, rfl⟩
    exact ⟨fun _ => rfl, Ext.refl _⟩
  refine RW_d (fun v136 => [(.agg #[(Fl r1), (Fl r3), (Fl r5), (Fl r7), (Fl r9), (Fl r11)]), (.agg #[(Fl r13), (Fl r15), (Fl r17), (Fl r19), (Fl r21), (Fl r23)]), (Pt b26 0), (Pt b33 0), (Bo false), (Pt b74 0), (Bo (cutOk A_a A_b)), (Pt b117 0), (Bo (cutOk A_a A_b)), v51, v46, v47, v48, v49, v50, (.agg #[(Fl r62), (Fl r64), (Fl r66), (Fl r68), (Fl r70), (Fl r72)]), (Bo (cutOk A_a A_b)), v94, v89, v90, v91, v92, v93, (.agg #[(Fl r105), (Fl r107), (Fl r109), (Fl r111), (Fl r113), (Fl r115)]), (Bo (cutOk A_a A_b)), v130, v131, v132, v133, v134, v135, v136, Ud, Ud]) rfl (fun _ => rfl) (fun u hu hF => ?_) (fun v136 => ?_)
  · have h29_ : v134 = (Bo (!β1)) := hF.1
    clear hF
    obtain rfl := h29_
    refine doesG_g (b := (!β1)) rfl (yld rfl rfl) (fun hg => ?_) (fun hg => ⟨fun h => absurd h hg, Ext.refl _⟩)
    refine (does_move (u := (Bo (cutOk A_a A_b))) (ev rfl)).mono ?_; rintro _ _ ⟨rfl, rfl⟩
    exact ⟨fun _ => rfl, Ext.refl _⟩
  refine RW_d (fun v137 => [(.agg #[(Fl r1), (Fl r3), (Fl r5), (Fl r7), (Fl r9), (Fl r11)]), (.agg #[(Fl r13), (Fl r15), (Fl r17), (Fl r19), (Fl r21), (Fl r23)]), (Pt b26 0), (Pt b33 0), (Bo false), (Pt b74 0), (Bo (cutOk A_a A_b)), (Pt b117 0), (Bo (cutOk A_a A_b)), v51, v46, v47, v48, v49, v50, (.agg #[(Fl r62), (Fl r64), (Fl r66), (Fl r68), (Fl r70), (Fl r72)]), (Bo (cutOk A_a A_b)), v94, v89, v90, v91, v92, v93, (.agg #[(Fl r105), (Fl r107), (Fl r109), (Fl r111), (Fl r113), (Fl r115)]), (Bo (cutOk A_a A_b)), v130, v131, v132, v133, v134, v135, v136, v137, Ud]) rfl (fun _ => rfl) (fun u hu hF => ?_) (fun v137 => ?_)
  · have h30_ : (!β1) = false → v135 = (Bo (cutOk A_a A_b)) := hF.1
    have h31_ : (!β1) = false → v136 = (Bo (cutOk A_a A_b)) := hF.2.1
    have h29_ : v134 = (Bo (!β1)) := hF.2.2.1
    clear hF
    obtain rfl := h29_
    refine doesG_g (b := (!β1)) rfl (yld rfl rfl) (fun hg => ?_) (fun hg => ⟨fun h => absurd h hg, Ext.refl _⟩)
    obtain rfl := h30_ hg
    obtain rfl := h31_ hg
    refine (does_bne (p := (cutOk A_a A_b)) (q := (cutOk A_a A_b)) Try.underlying4 (ev rfl) (ev rfl)).mono ?_; rintro _ _ ⟨rfl, rfl⟩
    exact ⟨fun _ => (by first | rfl | (show _ = _; simp only [hβ2])), Ext.refl _⟩
  refine RW_d (fun v138 => [(.agg #[(Fl r1), (Fl r3), (Fl r5), (Fl r7), (Fl r9), (Fl r11)]), (.agg #[(Fl r13), (Fl r15), (Fl r17), (Fl r19), (Fl r21), (Fl r23)]), (Pt b26 0), (Pt b33 0), (Bo false), (Pt b74 0), (Bo (cutOk A_a A_b)), (Pt b117 0), (Bo (cutOk A_a A_b)), v51, v46, v47, v48, v49, v50, (.agg #[(Fl r62), (Fl r64), (Fl r66), (Fl r68), (Fl r70), (Fl r72)]), (Bo (cutOk A_a A_b)), v94, v89, v90, v91, v92, v93, (.agg #[(Fl r105), (Fl r107), (Fl r109), (Fl r111), (Fl r113), (Fl r115)]), (Bo (cutOk A_a A_b)), v130, v131, v132, v133, v134, v135, v136, v137, v138]) rfl (fun _ => rfl) (fun u hu hF => ?_) (fun v138 => ?_)
  · have h29_ : v134 = (Bo (!β1)) := hF.1
    have h32_ : (!β1) = false → v137 = (Bo β2) := hF.2.1
    clear hF
    obtain rfl := h29_
    refine doesG_un rfl ((does_pick (b := (!β1)) (ev rfl) (ev rfl) (ev rfl)).mono ?_); rintro _ _ ⟨rfl, rfl⟩; refine ⟨?_, Ext.refl _⟩; skip
    cases hbb : (!β1) <;> simp [hbb] at h32_ ⊢
    all_goals (first | rfl | (subst h32_; rfl) | simp_all)
  refine RW_fin ?_; intro w139 E140 hP141
  obtain ⟨⟨⟨⟨⟨⟨⟨⟨⟨-, -⟩, -⟩, -⟩, -⟩, -⟩, -⟩, -⟩, -⟩, q142⟩ := hP141
  have X143 := Ext.gr X127 E140
  have q142 : v138 = (Bo ((!β1) || β2)) := q142
  obtain rfl := q142
  show wpList _ _ _ _ (fr [(.agg #[(Fl r1), (Fl r3), (Fl r5), (Fl r7), (Fl r9), (Fl r11)]), (.agg #[(Fl r13), (Fl r15), (Fl r17), (Fl r19), (Fl r21), (Fl r23)]), (Pt b26 0), (Pt b33 0), (Bo false), (Pt b74 0), (Bo (cutOk A_a A_b)), (Pt b117 0), (Bo (cutOk A_a A_b)), v51, v46, v47, v48, v49, v50, (.agg #[(Fl r62), (Fl r64), (Fl r66), (Fl r68), (Fl r70), (Fl r72)]), (Bo (cutOk A_a A_b)), v94, v89, v90, v91, v92, v93, (.agg #[(Fl r105), (Fl r107), (Fl r109), (Fl r111), (Fl r113), (Fl r115)]), (Bo (cutOk A_a A_b)), v130, v131, v132, v133, v134, v135, v136, v137, (Bo ((!β1) || β2))]) _
  refine wpList_nil (hK129 _ _ ?_)
  refine wp_cond_split (t := (!β1) || β2) (ev rfl) (fun c144 => ?_) (fun c144 => ?_)
  · have c144' := c144
    (try simp only [hβ1, hβ2] at c144')
    (try simp only [icmp, Bool.and_eq_true, Bool.or_eq_true, Bool.and_eq_false_iff, Bool.or_eq_false_iff, Bool.not_eq_true', Bool.not_eq_false', decide_eq_true_eq, decide_eq_false_iff_not, beq_iff_eq, bne_iff_ne, beq_eq_false_iff_ne, bne_eq_false_iff_eq] at c144')
    refine wp_seq_k fun K145 hK145 => ?_
    refine wp_region_lit ?_
    refine q_is (l' := [(.agg #[(Fl r1), (Fl r3), (Fl r5), (Fl r7), (Fl r9), (Fl r11)]), (.agg #[(Fl r13), (Fl r15), (Fl r17), (Fl r19), (Fl r21), (Fl r23)]), (Pt b26 0), (Pt b33 0), (Bo false), (Pt b74 0), (Bo (cutOk A_a A_b)), (Pt b117 0), (Bo (cutOk A_a A_b)), v51, v46, v47, v48, v49, v50, (.agg #[(Fl r62), (Fl r64), (Fl r66), (Fl r68), (Fl r70), (Fl r72)]), (Bo (cutOk A_a A_b)), v94, v89, v90, v91, v92, v93, (.agg #[(Fl r105), (Fl r107), (Fl r109), (Fl r111), (Fl r113), (Fl r115)]), (Bo (cutOk A_a A_b)), v130, v131, v132, v133, v134, v135, v136, v137, (Bo ((!β1) || β2))]) rfl rfl (does_assign (u := (Bo false)) (ev rfl)) rfl ?_
    refine wpList_nil (hK145 _ _ ?_)
    refine wp_ret ?_
    dsimp only [Exit.then, Exit.inBlock]
    refine ret_val (v := (Bo false)) (res_T rfl (slot rfl)) X143 ?_
    try simp only [h2, h4, h6, h8, h10, h12, h14, h16, h18, h20, h22, h24, h63, h65, h67, h69, h71, h73, h106, h108, h110, h112, h114, h116, hβ1, hβ2] at c144
    have x146 : true = false := by first | rfl | (simp only [sameF_self, sameV_self, sameB_self, sameR_self, bne_self_eq_false, h2, h4, h6, h8, h10, h12, h14, h16, h18, h20, h22, h24, h63, h65, h67, h69, h71, h73, h106, h108, h110, h112, h114, h116, hβ1, hβ2, c144]; done) | (simp [sameF_self, sameV_self, sameB_self, sameR_self, bne_self_eq_false, h2, h4, h6, h8, h10, h12, h14, h16, h18, h20, h22, h24, h63, h65, h67, h69, h71, h73, h106, h108, h110, h112, h114, h116, hβ1, hβ2, c144]; done) | (revert c144; simp +contextual [sameF_self, sameV_self, sameB_self, sameR_self, bne_self_eq_false, h2, h4, h6, h8, h10, h12, h14, h16, h18, h20, h22, h24, h63, h65, h67, h69, h71, h73, h106, h108, h110, h112, h114, h116, hβ1, hβ2]; done) | (rcases c144' with hh | hh <;> simp only [hh, sameF_self, sameV_self, sameB_self, sameR_self, bne_self_eq_false, h2, h4, h6, h8, h10, h12, h14, h16, h18, h20, h22, h24, h63, h65, h67, h69, h71, h73, h106, h108, h110, h112, h114, h116, hβ1, hβ2, c144]; done)
    exact (by first | rfl | rw [x146])
  have c144' := c144
  (try simp only [hβ1, hβ2] at c144')
  (try simp only [icmp, Bool.and_eq_true, Bool.or_eq_true, Bool.and_eq_false_iff, Bool.or_eq_false_iff, Bool.not_eq_true', Bool.not_eq_false', decide_eq_true_eq, decide_eq_false_iff_not, beq_iff_eq, bne_iff_ne, beq_eq_false_iff_ne, bne_eq_false_iff_eq] at c144')
  refine wp_skip (hK128 _ _ ?_)
  refine wp_seq_k fun K147 hK147 => ?_
  refine wp_region_lit ?_
  refine q_is (l' := [(.agg #[(Fl r1), (Fl r3), (Fl r5), (Fl r7), (Fl r9), (Fl r11)]), (.agg #[(Fl r13), (Fl r15), (Fl r17), (Fl r19), (Fl r21), (Fl r23)]), (Pt b26 0), (Pt b33 0), (Bo true), (Pt b74 0), (Bo (cutOk A_a A_b)), (Pt b117 0), (Bo (cutOk A_a A_b)), v51, v46, v47, v48, v49, v50, (.agg #[(Fl r62), (Fl r64), (Fl r66), (Fl r68), (Fl r70), (Fl r72)]), (Bo (cutOk A_a A_b)), v94, v89, v90, v91, v92, v93, (.agg #[(Fl r105), (Fl r107), (Fl r109), (Fl r111), (Fl r113), (Fl r115)]), (Bo (cutOk A_a A_b)), v130, v131, v132, v133, v134, v135, v136, v137, (Bo ((!β1) || β2))]) rfl rfl (does_assign (u := (Bo true)) (ev rfl)) rfl ?_
  refine wpList_nil (hK147 _ _ ?_)
  refine wp_ret ?_
  refine ret_val (v := (Bo true)) (res_T rfl (slot rfl)) X143 ?_
  try simp only [h2, h4, h6, h8, h10, h12, h14, h16, h18, h20, h22, h24, h63, h65, h67, h69, h71, h73, h106, h108, h110, h112, h114, h116, hβ1, hβ2] at c144
  exact rfl

end Go.Proofs.Ythmejogjmjjmgaa
