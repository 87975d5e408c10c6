/- contracts of functions, each walked once -/
import Derived.Test.YthffielpjjggeaaC
namespace Go.Proofs.Ythffielpjjggeaa
open Go Go.RowKit
set_option maxRecDepth 100000
set_option maxHeartbeats 3200000
set_option linter.unusedVariables false
set_option linter.unusedSimpArgs false

/- spec.l04Split -/
theorem c_spec_l04Split (b : List Value) (A_b : Bx) (w : World) (hv_b : RBx w A_b b) : Gives Try.prog 9 #[(.agg b.toArray)] w (fun v w' => ∃ cs_1 : List Value, ∃ cs_2 : List Value, v = (.tuple #[(.agg cs_1.toArray), (.agg cs_2.toArray)]) ∧ RBx w (oneB A_b) cs_1 ∧ RBx w (twoB A_b) cs_2) := by
  obtain ⟨r1, r3, r5, r7, r9, r11, rfl, h2, h4, h6, h8, h10, h12⟩ := hv_b
  refine enter [(.agg #[(Fl r1), (Fl r3), (Fl r5), (Fl r7), (Fl r9), (Fl r11)]), Ud, Ud, Ud, Ud, Ud, Ud, Ud, Ud, Ud, Ud, Ud, Ud, Ud, Ud, Ud, Ud, Ud, Ud, Ud, Ud, Ud, Ud, Ud, Ud, Ud, Ud, Ud, Ud, Ud, Ud, Ud, Ud, Ud, Ud, Ud, Ud, Ud, Ud, Ud, Ud, Ud, Ud, Ud, Ud, Ud, Ud, Ud, Ud, Ud, Ud, Ud, Ud, Ud, Ud, Ud, Ud, Ud, Ud, Ud, Ud, Ud, Ud, Ud, Ud] Try.func9 rfl Try.ntmps9 rfl ?_
  refine wp_seq_k fun K13 hK13 => ?_
  refine wp_region_lit ?_
  refine seqd rfl rfl (does_box (u := (.agg #[(Fl r1), (Fl r3), (Fl r5), (Fl r7), (Fl r9), (Fl r11)])) (ev rfl)) ?_; rintro _ w18 ⟨b14, rfl, hb15, hB16, E17⟩
  have g19 : w.heap.size ≤ b14 := Nat.le_trans (Below.size (Ext.refl w)) hb15
  change Blk _ _ [(Fl r1), (Fl r3), (Fl r5), (Fl r7), (Fl r9), (Fl r11)] at hB16
  have X20 := Ext.gr (Ext.refl w) E17
  show wpList _ _ _ _ (fr [_, _, _, _, _, _, _, _, _, _, _, _, _, _, _, _, _, _, _, _, _, _, _, _, _, _, _, _, _, _, _, _, _, _, _, _, _, _, _, _, _, _, _, _, _, _, _, _, _, _, _, _, _, _, _, _, _, _, _, _, _, _, _, _, _]) _
  refine seqd rfl rfl (does_alloc z29) ?_; rintro _ w25 ⟨b21, rfl, hb22, hB23, E24⟩
  have n26 : b14 < b21 := Nat.lt_of_lt_of_le (Blk.lt hB16) hb22
  have g27 : w.heap.size ≤ b21 := Nat.le_trans (Below.size X20) hb22
  change Blk _ _ [(Fl 0), (Fl 0), (Fl 0), (Fl 0), (Fl 0), (Fl 0)] at hB23
  have X28 := Ext.gr X20 E24
  show wpList _ _ _ _ (fr [_, _, _, _, _, _, _, _, _, _, _, _, _, _, _, _, _, _, _, _, _, _, _, _, _, _, _, _, _, _, _, _, _, _, _, _, _, _, _, _, _, _, _, _, _, _, _, _, _, _, _, _, _, _, _, _, _, _, _, _, _, _, _, _, _]) _
  refine seqd rfl rfl (does_alloc z29) ?_; rintro _ w33 ⟨b29, rfl, hb30, hB31, E32⟩
  have n34 : b14 < b29 := Nat.lt_of_lt_of_le (Blk.lt (hB16.ext E24)) hb30
  have n35 : b21 < b29 := Nat.lt_of_lt_of_le (Blk.lt hB23) hb30
  have g36 : w.heap.size ≤ b29 := Nat.le_trans (Below.size X28) hb30
  change Blk _ _ [(Fl 0), (Fl 0), (Fl 0), (Fl 0), (Fl 0), (Fl 0)] at hB31
  have X37 := Ext.gr X28 E32
  show wpList _ _ _ _ (fr [_, _, _, _, _, _, _, _, _, _, _, _, _, _, _, _, _, _, _, _, _, _, _, _, _, _, _, _, _, _, _, _, _, _, _, _, _, _, _, _, _, _, _, _, _, _, _, _, _, _, _, _, _, _, _, _, _, _, _, _, _, _, _, _, _]) _
  refine wpList_nil (hK13 _ _ ?_)
  refine wp_seq_k fun K38 hK38 => ?_
  refine wp_region_lit ?_
  refine q_is rfl rfl (does_assign (u := (Iv 0)) (ev rfl)) (by dsimp only [List.set]; try rfl) ?_
  refine wpList_nil (hK38 _ _ ?_)
  refine wp_seq_k fun K39 hK39 => ?_
  refine wp_seq_k fun K40 hK40 => ?_
  refine wp_region_lit ?_
  refine q_is rfl rfl (does_assign (u := (Iv 1)) (ev rfl)) (by dsimp only [List.set]; try rfl) ?_
  refine wpList_nil (hK40 _ _ ?_)
  refine wp_block ?_
  refine loop_unroll 3 ?_
  refine un_step ?_
  refine wp_seq_k fun K41 hK41 => ?_
  refine wp_seq_k fun K42 hK42 => ?_
  refine wp_region_lit ?_
  refine q_is rfl rfl (does_move (u := (Iv 1)) (ev rfl)) (by dsimp only [List.set]; try rfl) ?_
  refine q_is rfl rfl (does_icmp (p := 1) (q := 3) (.inr (.inr (.inl rfl))) (ev rfl) (ev rfl)) (by dsimp only [List.set]; try rfl) ?_
  refine wpList_nil (hK42 _ _ ?_)
  refine wp_cond_true (ev rfl) ?_
  refine wp_skip (hK41 _ _ ?_)
  refine wp_seq_k fun K43 hK43 => ?_
  refine wp_block ?_
  refine wp_seq_k fun K44 hK44 => ?_
  obtain ⟨β1, hβ1⟩ : ∃ b : Bool, b = (fcmp .gtr (ford .f32 (fop .sub .f32 (pickV A_b.hi 1) (pickV A_b.lo 1)) (fop .sub .f32 (pickV A_b.hi 0) (pickV A_b.lo 0)))) := ⟨_, rfl⟩
  refine region_draw (
    [Fact.pure [] (fun v => v = (Pt b14 3)),
    Fact.pure [14] (fun v => v = (.agg #[(Fl r7), (Fl r9), (Fl r11)])),
    Fact.pure [] (fun v => v = (Iv 1)),
    Fact.pure [15, 16] (fun v => ∃ r_1 : Nat, v = (Fl r_1) ∧ cf .f32 r_1 = pickV A_b.hi 1),
    Fact.pure [] (fun v => v = (Pt b14 0)),
    Fact.pure [18] (fun v => v = (.agg #[(Fl r1), (Fl r3), (Fl r5)])),
    Fact.pure [] (fun v => v = (Iv 1)),
    Fact.pure [19, 20] (fun v => ∃ r_1 : Nat, v = (Fl r_1) ∧ cf .f32 r_1 = pickV A_b.lo 1),
    Fact.pure [17, 21] (fun v => ∃ r_1 : Nat, v = (Fl r_1) ∧ cf .f32 r_1 = fop .sub .f32 (pickV A_b.hi 1) (pickV A_b.lo 1)),
    Fact.pure [] (fun v => v = (Pt b14 3)),
    Fact.pure [23] (fun v => v = (.agg #[(Fl r7), (Fl r9), (Fl r11)])),
    Fact.pure [] (fun v => v = (Iv 0)),
    Fact.pure [24, 25] (fun v => ∃ r_1 : Nat, v = (Fl r_1) ∧ cf .f32 r_1 = pickV A_b.hi 0),
    Fact.pure [] (fun v => v = (Pt b14 0)),
    Fact.pure [27] (fun v => v = (.agg #[(Fl r1), (Fl r3), (Fl r5)])),
    Fact.pure [] (fun v => v = (Iv 0)),
    Fact.pure [28, 29] (fun v => ∃ r_1 : Nat, v = (Fl r_1) ∧ cf .f32 r_1 = pickV A_b.lo 0),
    Fact.pure [26, 30] (fun v => ∃ r_1 : Nat, v = (Fl r_1) ∧ cf .f32 r_1 = fop .sub .f32 (pickV A_b.hi 0) (pickV A_b.lo 0)),
    Fact.pure [22, 31] (fun v => v = (Bo β1))]) mixed (by kernel_rfl) (by intro _ _ d _ _ h; cases d <;> exact h) ?_
  obtain ⟨w45, hw47⟩ : ∃ w', w' = World.drew w33 := ⟨_, rfl⟩; rw [← hw47]; have E46 : Ext w33 w45 := by rw [hw47]; exact Ext.draw _
  clear hw47
  have X48 := Ext.gr X37 E46
  refine RW_d _ rfl (fun v => by dsimp only [List.set]; try rfl) (fun u hu hF => ?_) (fun v49 => ?_)
  · clear hF
    refine doesG_un rfl ?_
    refine (does_fieldAddr (ev rfl) fa29_1).mono ?_; rintro _ _ ⟨rfl, rfl⟩
    exact ⟨rfl, Ext.refl _⟩
  refine RW_d _ rfl (fun v => by dsimp only [List.set]; try rfl) (fun u hu hF => ?_) (fun v50 => ?_)
  · have h14_ : v49 = (Pt b14 3) := hF.1
    clear hF
    refine doesG_un rfl ?_
    obtain rfl := h14_
    refine (does_loadAgg (cs := [(Fl r7), (Fl r9), (Fl r11)]) (ev rfl) Try.isAgg27 Try.sizeOf27 (Cells.sub (Blk.cells ((((hB16.ext E24).ext E32).ext E46).ext hu)) 3 3) rfl).mono ?_; rintro _ _ ⟨rfl, rfl⟩
    exact ⟨rfl, Ext.refl _⟩
  refine RW_d _ rfl (fun v => by dsimp only [List.set]; try rfl) (fun u hu hF => ?_) (fun v51 => ?_)
  · clear hF
    refine doesG_un rfl ?_
    refine (does_move (u := (Iv 1)) (ev rfl)).mono ?_; rintro _ _ ⟨rfl, rfl⟩
    exact ⟨rfl, Ext.refl _⟩
  refine RW_d _ rfl (fun v => by dsimp only [List.set]; try rfl) (fun u hu hF => ?_) (fun v52 => ?_)
  · have h15_ : v50 = (.agg #[(Fl r7), (Fl r9), (Fl r11)]) := hF.1
    have h16_ : v51 = (Iv 1) := hF.2.1
    clear hF
    refine doesG_un rfl ?_
    obtain rfl := h15_
    obtain rfl := h16_
    refine (does_call (args := #[(.agg #[(Fl r7), (Fl r9), (Fl r11)]), (Iv 1)]) cal16 (evs rfl) (c_spec_l02Pick [(Fl r7), (Fl r9), (Fl r11)] A_b.hi 1 _ ⟨r7, r9, r11, rfl, h8, h10, h12⟩)).mono ?_; rintro v u' ⟨hx, ⟨rn1, hv, k0⟩⟩
    exact ⟨⟨rn1, hv, (by simp only [k0])⟩, hx⟩
  refine RW_d _ rfl (fun v => by dsimp only [List.set]; try rfl) (fun u hu hF => ?_) (fun v53 => ?_)
  · clear hF
    refine doesG_un rfl ?_
    refine (does_fieldAddr (ev rfl) fa29_0).mono ?_; rintro _ _ ⟨rfl, rfl⟩
    exact ⟨rfl, Ext.refl _⟩
  refine RW_d _ rfl (fun v => by dsimp only [List.set]; try rfl) (fun u hu hF => ?_) (fun v54 => ?_)
  · have h18_ : v53 = (Pt b14 0) := hF.1
    clear hF
    refine doesG_un rfl ?_
    obtain rfl := h18_
    refine (does_loadAgg (cs := [(Fl r1), (Fl r3), (Fl r5)]) (ev rfl) Try.isAgg27 Try.sizeOf27 (Cells.sub (Blk.cells ((((hB16.ext E24).ext E32).ext E46).ext hu)) 0 3) rfl).mono ?_; rintro _ _ ⟨rfl, rfl⟩
    exact ⟨rfl, Ext.refl _⟩
  refine RW_d _ rfl (fun v => by dsimp only [List.set]; try rfl) (fun u hu hF => ?_) (fun v55 => ?_)
  · clear hF
    refine doesG_un rfl ?_
    refine (does_move (u := (Iv 1)) (ev rfl)).mono ?_; rintro _ _ ⟨rfl, rfl⟩
    exact ⟨rfl, Ext.refl _⟩
  refine RW_d _ rfl (fun v => by dsimp only [List.set]; try rfl) (fun u hu hF => ?_) (fun v56 => ?_)
  · have h19_ : v54 = (.agg #[(Fl r1), (Fl r3), (Fl r5)]) := hF.1
    have h20_ : v55 = (Iv 1) := hF.2.1
    clear hF
    refine doesG_un rfl ?_
    obtain rfl := h19_
    obtain rfl := h20_
    refine (does_call (args := #[(.agg #[(Fl r1), (Fl r3), (Fl r5)]), (Iv 1)]) cal16 (evs rfl) (c_spec_l02Pick [(Fl r1), (Fl r3), (Fl r5)] A_b.lo 1 _ ⟨r1, r3, r5, rfl, h2, h4, h6⟩)).mono ?_; rintro v u' ⟨hx, ⟨rn1, hv, k0⟩⟩
    exact ⟨⟨rn1, hv, (by simp only [k0])⟩, hx⟩
  refine RW_d _ rfl (fun v => by dsimp only [List.set]; try rfl) (fun u hu hF => ?_) (fun v57 => ?_)
  · have h17_ : ∃ r_1 : Nat, v52 = (Fl r_1) ∧ cf .f32 r_1 = pickV A_b.hi 1 := hF.1
    have h21_ : ∃ r_1 : Nat, v56 = (Fl r_1) ∧ cf .f32 r_1 = pickV A_b.lo 1 := hF.2.1
    clear hF
    refine doesG_un rfl ?_
    obtain ⟨r17_1, rfl, h17_2⟩ := h17_
    obtain ⟨r21_1, rfl, h21_2⟩ := h21_
    refine (does_float (.inr (.inl rfl)) (ev rfl) (ev rfl)).mono ?_; rintro _ _ ⟨r, rfl, hr, hx⟩
    exact ⟨⟨r, rfl, (by simp only [hr, h17_2, h21_2])⟩, hx⟩
  refine RW_d _ rfl (fun v => by dsimp only [List.set]; try rfl) (fun u hu hF => ?_) (fun v58 => ?_)
  · clear hF
    refine doesG_un rfl ?_
    refine (does_fieldAddr (ev rfl) fa29_1).mono ?_; rintro _ _ ⟨rfl, rfl⟩
    exact ⟨rfl, Ext.refl _⟩
  refine RW_d _ rfl (fun v => by dsimp only [List.set]; try rfl) (fun u hu hF => ?_) (fun v59 => ?_)
  · have h23_ : v58 = (Pt b14 3) := hF.1
    clear hF
    refine doesG_un rfl ?_
    obtain rfl := h23_
    refine (does_loadAgg (cs := [(Fl r7), (Fl r9), (Fl r11)]) (ev rfl) Try.isAgg27 Try.sizeOf27 (Cells.sub (Blk.cells ((((hB16.ext E24).ext E32).ext E46).ext hu)) 3 3) rfl).mono ?_; rintro _ _ ⟨rfl, rfl⟩
    exact ⟨rfl, Ext.refl _⟩
  refine RW_d _ rfl (fun v => by dsimp only [List.set]; try rfl) (fun u hu hF => ?_) (fun v60 => ?_)
  · clear hF
    refine doesG_un rfl ?_
    refine (does_move (u := (Iv 0)) (ev rfl)).mono ?_; rintro _ _ ⟨rfl, rfl⟩
    exact ⟨rfl, Ext.refl _⟩
  refine RW_d _ rfl (fun v => by dsimp only [List.set]; try rfl) (fun u hu hF => ?_) (fun v61 => ?_)
  · have h24_ : v59 = (.agg #[(Fl r7), (Fl r9), (Fl r11)]) := hF.1
    have h25_ : v60 = (Iv 0) := hF.2.1
    clear hF
    refine doesG_un rfl ?_
    obtain rfl := h24_
    obtain rfl := h25_
    refine (does_call (args := #[(.agg #[(Fl r7), (Fl r9), (Fl r11)]), (Iv 0)]) cal16 (evs rfl) (c_spec_l02Pick [(Fl r7), (Fl r9), (Fl r11)] A_b.hi 0 _ ⟨r7, r9, r11, rfl, h8, h10, h12⟩)).mono ?_; rintro v u' ⟨hx, ⟨rn1, hv, k0⟩⟩
    exact ⟨⟨rn1, hv, (by simp only [k0])⟩, hx⟩
  refine RW_d _ rfl (fun v => by dsimp only [List.set]; try rfl) (fun u hu hF => ?_) (fun v62 => ?_)
  · clear hF
    refine doesG_un rfl ?_
    refine (does_fieldAddr (ev rfl) fa29_0).mono ?_; rintro _ _ ⟨rfl, rfl⟩
    exact ⟨rfl, Ext.refl _⟩
  refine RW_d _ rfl (fun v => by dsimp only [List.set]; try rfl) (fun u hu hF => ?_) (fun v63 => ?_)
  · have h27_ : v62 = (Pt b14 0) := hF.1
    clear hF
    refine doesG_un rfl ?_
    obtain rfl := h27_
    refine (does_loadAgg (cs := [(Fl r1), (Fl r3), (Fl r5)]) (ev rfl) Try.isAgg27 Try.sizeOf27 (Cells.sub (Blk.cells ((((hB16.ext E24).ext E32).ext E46).ext hu)) 0 3) rfl).mono ?_; rintro _ _ ⟨rfl, rfl⟩
    exact ⟨rfl, Ext.refl _⟩
  refine RW_d _ rfl (fun v => by dsimp only [List.set]; try rfl) (fun u hu hF => ?_) (fun v64 => ?_)
  · clear hF
    refine doesG_un rfl ?_
    refine (does_move (u := (Iv 0)) (ev rfl)).mono ?_; rintro _ _ ⟨rfl, rfl⟩
    exact ⟨rfl, Ext.refl _⟩
  refine RW_d _ rfl (fun v => by dsimp only [List.set]; try rfl) (fun u hu hF => ?_) (fun v65 => ?_)
  · have h28_ : v63 = (.agg #[(Fl r1), (Fl r3), (Fl r5)]) := hF.1
    have h29_ : v64 = (Iv 0) := hF.2.1
    clear hF
    refine doesG_un rfl ?_
    obtain rfl := h28_
    obtain rfl := h29_
    refine (does_call (args := #[(.agg #[(Fl r1), (Fl r3), (Fl r5)]), (Iv 0)]) cal16 (evs rfl) (c_spec_l02Pick [(Fl r1), (Fl r3), (Fl r5)] A_b.lo 0 _ ⟨r1, r3, r5, rfl, h2, h4, h6⟩)).mono ?_; rintro v u' ⟨hx, ⟨rn1, hv, k0⟩⟩
    exact ⟨⟨rn1, hv, (by simp only [k0])⟩, hx⟩
  refine RW_d _ rfl (fun v => by dsimp only [List.set]; try rfl) (fun u hu hF => ?_) (fun v66 => ?_)
  · have h26_ : ∃ r_1 : Nat, v61 = (Fl r_1) ∧ cf .f32 r_1 = pickV A_b.hi 0 := hF.1
    have h30_ : ∃ r_1 : Nat, v65 = (Fl r_1) ∧ cf .f32 r_1 = pickV A_b.lo 0 := hF.2.1
    clear hF
    refine doesG_un rfl ?_
    obtain ⟨r26_1, rfl, h26_2⟩ := h26_
    obtain ⟨r30_1, rfl, h30_2⟩ := h30_
    refine (does_float (.inr (.inl rfl)) (ev rfl) (ev rfl)).mono ?_; rintro _ _ ⟨r, rfl, hr, hx⟩
    exact ⟨⟨r, rfl, (by simp only [hr, h26_2, h30_2])⟩, hx⟩
  refine RW_d _ rfl (fun v => by dsimp only [List.set]; try rfl) (fun u hu hF => ?_) (fun v67 => ?_)
  · have h22_ : ∃ r_1 : Nat, v57 = (Fl r_1) ∧ cf .f32 r_1 = fop .sub .f32 (pickV A_b.hi 1) (pickV A_b.lo 1) := hF.1
    have h31_ : ∃ r_1 : Nat, v66 = (Fl r_1) ∧ cf .f32 r_1 = fop .sub .f32 (pickV A_b.hi 0) (pickV A_b.lo 0) := hF.2.1
    clear hF
    refine doesG_un rfl ?_
    obtain ⟨r22_1, rfl, h22_2⟩ := h22_
    obtain ⟨r31_1, rfl, h31_2⟩ := h31_
    refine (does_fcmp (.inr (.inr (.inr (.inr (.inl rfl))))) (ev rfl) (ev rfl)).mono ?_; rintro _ _ ⟨rfl, rfl⟩
    exact ⟨(by first | rfl | (show _ = _; simp only [hβ1, h22_2, h31_2]; done) | (show _ = _; simp only [hβ1, h22_2, h31_2]; rfl)), Ext.refl _⟩
  refine RW_fin ?_; intro w68 E69 hP70
  obtain ⟨⟨⟨⟨⟨⟨⟨⟨⟨⟨⟨⟨⟨⟨⟨⟨⟨⟨⟨-, -⟩, -⟩, -⟩, -⟩, -⟩, -⟩, -⟩, -⟩, -⟩, -⟩, -⟩, -⟩, -⟩, -⟩, -⟩, -⟩, -⟩, -⟩, q71⟩ := hP70
  have X72 := Ext.gr X48 E69
  have q71 : v67 = (Bo β1) := q71
  obtain rfl := q71
  show wpList _ _ _ _ (fr [_, _, _, _, _, _, _, _, _, _, _, _, _, _, _, _, _, _, _, _, _, _, _, _, _, _, _, _, _, _, _, _, _, _, _, _, _, _, _, _, _, _, _, _, _, _, _, _, _, _, _, _, _, _, _, _, _, _, _, _, _, _, _, _, _]) _
  refine wpList_nil (hK44 _ _ ?_)
  refine wp_cond_split (t := β1) (ev rfl) (fun c73 => ?_) (fun c73 => ?_)
  · have c73' := c73
    (try simp only [hβ1] at c73')
    (try simp only [icmp, Bool.and_eq_true, Bool.or_eq_true, Bool.and_eq_false_iff, Bool.or_eq_false_iff, Bool.not_eq_true', Bool.not_eq_false', decide_eq_true_eq, decide_eq_false_iff_not, beq_iff_eq, bne_iff_ne, beq_eq_false_iff_ne, bne_eq_false_iff_eq] at c73')
    simp only [h2, h4, h6, h8, h10, h12, hβ1, pickV_0, pickV_1, pickV_2, setV_0, setV_1, setV_2] at c73
    refine wp_region_lit ?_
    refine q_is rfl rfl (does_move (u := (Iv 1)) (ev rfl)) (by dsimp only [List.set]; try rfl) ?_
    refine q_is rfl rfl (does_assign (u := (Iv 1)) (ev rfl)) (by dsimp only [List.set]; try rfl) ?_
    refine wpList_nil (hK43 _ _ ?_)
    refine wp_region_lit ?_
    refine q_is rfl rfl (does_move (u := (Iv 1)) (ev rfl)) (by dsimp only [List.set]; try rfl) ?_
    refine q_is rfl rfl (does_iarith (p := 1) (q := 1) (r := (2)) (ev rfl) (ev rfl) (.inl ⟨rfl, rfl⟩)) (by dsimp only [List.set]; try rfl) ?_
    refine q_is rfl rfl (does_assign (u := (Iv 2)) (ev rfl)) (by dsimp only [List.set]; try rfl) ?_
    refine wpList_nil ?_
    refine un_step ?_
    refine wp_seq_k fun K74 hK74 => ?_
    refine wp_seq_k fun K75 hK75 => ?_
    refine wp_region_lit ?_
    refine q_is rfl rfl (does_move (u := (Iv 2)) (ev rfl)) (by dsimp only [List.set]; try rfl) ?_
    refine q_is rfl rfl (does_icmp (p := 2) (q := 3) (.inr (.inr (.inl rfl))) (ev rfl) (ev rfl)) (by dsimp only [List.set]; try rfl) ?_
    refine wpList_nil (hK75 _ _ ?_)
    refine wp_cond_true (ev rfl) ?_
    refine wp_skip (hK74 _ _ ?_)
    refine wp_seq_k fun K76 hK76 => ?_
    refine wp_block ?_
    refine wp_seq_k fun K77 hK77 => ?_
    obtain ⟨β2, hβ2⟩ : ∃ b : Bool, b = (fcmp .gtr (ford .f32 (fop .sub .f32 (pickV A_b.hi 2) (pickV A_b.lo 2)) (fop .sub .f32 (pickV A_b.hi 1) (pickV A_b.lo 1)))) := ⟨_, rfl⟩
    refine region_draw (
      [Fact.pure [] (fun v => v = (Pt b14 3)),
    Fact.pure [14] (fun v => v = (.agg #[(Fl r7), (Fl r9), (Fl r11)])),
    Fact.pure [] (fun v => v = (Iv 2)),
    Fact.pure [15, 16] (fun v => ∃ r_1 : Nat, v = (Fl r_1) ∧ cf .f32 r_1 = pickV A_b.hi 2),
    Fact.pure [] (fun v => v = (Pt b14 0)),
    Fact.pure [18] (fun v => v = (.agg #[(Fl r1), (Fl r3), (Fl r5)])),
    Fact.pure [] (fun v => v = (Iv 2)),
    Fact.pure [19, 20] (fun v => ∃ r_1 : Nat, v = (Fl r_1) ∧ cf .f32 r_1 = pickV A_b.lo 2),
    Fact.pure [17, 21] (fun v => ∃ r_1 : Nat, v = (Fl r_1) ∧ cf .f32 r_1 = fop .sub .f32 (pickV A_b.hi 2) (pickV A_b.lo 2)),
    Fact.pure [] (fun v => v = (Pt b14 3)),
    Fact.pure [23] (fun v => v = (.agg #[(Fl r7), (Fl r9), (Fl r11)])),
    Fact.pure [] (fun v => v = (Iv 1)),
    Fact.pure [24, 25] (fun v => ∃ r_1 : Nat, v = (Fl r_1) ∧ cf .f32 r_1 = pickV A_b.hi 1),
    Fact.pure [] (fun v => v = (Pt b14 0)),
    Fact.pure [27] (fun v => v = (.agg #[(Fl r1), (Fl r3), (Fl r5)])),
    Fact.pure [] (fun v => v = (Iv 1)),
    Fact.pure [28, 29] (fun v => ∃ r_1 : Nat, v = (Fl r_1) ∧ cf .f32 r_1 = pickV A_b.lo 1),
    Fact.pure [26, 30] (fun v => ∃ r_1 : Nat, v = (Fl r_1) ∧ cf .f32 r_1 = fop .sub .f32 (pickV A_b.hi 1) (pickV A_b.lo 1)),
    Fact.pure [22, 31] (fun v => v = (Bo β2))]) mixed (by kernel_rfl) (by intro _ _ d _ _ h; cases d <;> exact h) ?_
    obtain ⟨w78, hw80⟩ : ∃ w', w' = World.drew w68 := ⟨_, rfl⟩; rw [← hw80]; have E79 : Ext w68 w78 := by rw [hw80]; exact Ext.draw _
    clear hw80
    have X81 := Ext.gr X72 E79
    refine RW_d _ rfl (fun v => by dsimp only [List.set]; try rfl) (fun u hu hF => ?_) (fun v82 => ?_)
    · clear hF
      refine doesG_un rfl ?_
      refine (does_fieldAddr (ev rfl) fa29_1).mono ?_; rintro _ _ ⟨rfl, rfl⟩
      exact ⟨rfl, Ext.refl _⟩
    refine RW_d _ rfl (fun v => by dsimp only [List.set]; try rfl) (fun u hu hF => ?_) (fun v83 => ?_)
    · have h14_ : v82 = (Pt b14 3) := hF.1
      clear hF
      refine doesG_un rfl ?_
      obtain rfl := h14_
      refine (does_loadAgg (cs := [(Fl r7), (Fl r9), (Fl r11)]) (ev rfl) Try.isAgg27 Try.sizeOf27 (Cells.sub (Blk.cells ((((((hB16.ext E24).ext E32).ext E46).ext E69).ext E79).ext hu)) 3 3) rfl).mono ?_; rintro _ _ ⟨rfl, rfl⟩
      exact ⟨rfl, Ext.refl _⟩
    refine RW_d _ rfl (fun v => by dsimp only [List.set]; try rfl) (fun u hu hF => ?_) (fun v84 => ?_)
    · clear hF
      refine doesG_un rfl ?_
      refine (does_move (u := (Iv 2)) (ev rfl)).mono ?_; rintro _ _ ⟨rfl, rfl⟩
      exact ⟨rfl, Ext.refl _⟩
    refine RW_d _ rfl (fun v => by dsimp only [List.set]; try rfl) (fun u hu hF => ?_) (fun v85 => ?_)
    · have h15_ : v83 = (.agg #[(Fl r7), (Fl r9), (Fl r11)]) := hF.1
      have h16_ : v84 = (Iv 2) := hF.2.1
      clear hF
      refine doesG_un rfl ?_
      obtain rfl := h15_
      obtain rfl := h16_
      refine (does_call (args := #[(.agg #[(Fl r7), (Fl r9), (Fl r11)]), (Iv 2)]) cal16 (evs rfl) (c_spec_l02Pick [(Fl r7), (Fl r9), (Fl r11)] A_b.hi 2 _ ⟨r7, r9, r11, rfl, h8, h10, h12⟩)).mono ?_; rintro v u' ⟨hx, ⟨rn1, hv, k0⟩⟩
      exact ⟨⟨rn1, hv, (by simp only [k0])⟩, hx⟩
    refine RW_d _ rfl (fun v => by dsimp only [List.set]; try rfl) (fun u hu hF => ?_) (fun v86 => ?_)
    · clear hF
      refine doesG_un rfl ?_
      refine (does_fieldAddr (ev rfl) fa29_0).mono ?_; rintro _ _ ⟨rfl, rfl⟩
      exact ⟨rfl, Ext.refl _⟩
    refine RW_d _ rfl (fun v => by dsimp only [List.set]; try rfl) (fun u hu hF => ?_) (fun v87 => ?_)
    · have h18_ : v86 = (Pt b14 0) := hF.1
      clear hF
      refine doesG_un rfl ?_
      obtain rfl := h18_
      refine (does_loadAgg (cs := [(Fl r1), (Fl r3), (Fl r5)]) (ev rfl) Try.isAgg27 Try.sizeOf27 (Cells.sub (Blk.cells ((((((hB16.ext E24).ext E32).ext E46).ext E69).ext E79).ext hu)) 0 3) rfl).mono ?_; rintro _ _ ⟨rfl, rfl⟩
      exact ⟨rfl, Ext.refl _⟩
    refine RW_d _ rfl (fun v => by dsimp only [List.set]; try rfl) (fun u hu hF => ?_) (fun v88 => ?_)
    · clear hF
      refine doesG_un rfl ?_
      refine (does_move (u := (Iv 2)) (ev rfl)).mono ?_; rintro _ _ ⟨rfl, rfl⟩
      exact ⟨rfl, Ext.refl _⟩
    refine RW_d _ rfl (fun v => by dsimp only [List.set]; try rfl) (fun u hu hF => ?_) (fun v89 => ?_)
    · have h19_ : v87 = (.agg #[(Fl r1), (Fl r3), (Fl r5)]) := hF.1
      have h20_ : v88 = (Iv 2) := hF.2.1
      clear hF
      refine doesG_un rfl ?_
      obtain rfl := h19_
      obtain rfl := h20_
      refine (does_call (args := #[(.agg #[(Fl r1), (Fl r3), (Fl r5)]), (Iv 2)]) cal16 (evs rfl) (c_spec_l02Pick [(Fl r1), (Fl r3), (Fl r5)] A_b.lo 2 _ ⟨r1, r3, r5, rfl, h2, h4, h6⟩)).mono ?_; rintro v u' ⟨hx, ⟨rn1, hv, k0⟩⟩
      exact ⟨⟨rn1, hv, (by simp only [k0])⟩, hx⟩
    refine RW_d _ rfl (fun v => by dsimp only [List.set]; try rfl) (fun u hu hF => ?_) (fun v90 => ?_)
    · have h17_ : ∃ r_1 : Nat, v85 = (Fl r_1) ∧ cf .f32 r_1 = pickV A_b.hi 2 := hF.1
      have h21_ : ∃ r_1 : Nat, v89 = (Fl r_1) ∧ cf .f32 r_1 = pickV A_b.lo 2 := hF.2.1
      clear hF
      refine doesG_un rfl ?_
      obtain ⟨r17_1, rfl, h17_2⟩ := h17_
      obtain ⟨r21_1, rfl, h21_2⟩ := h21_
      refine (does_float (.inr (.inl rfl)) (ev rfl) (ev rfl)).mono ?_; rintro _ _ ⟨r, rfl, hr, hx⟩
      exact ⟨⟨r, rfl, (by simp only [hr, h17_2, h21_2])⟩, hx⟩
    refine RW_d _ rfl (fun v => by dsimp only [List.set]; try rfl) (fun u hu hF => ?_) (fun v91 => ?_)
    · clear hF
      refine doesG_un rfl ?_
      refine (does_fieldAddr (ev rfl) fa29_1).mono ?_; rintro _ _ ⟨rfl, rfl⟩
      exact ⟨rfl, Ext.refl _⟩
    refine RW_d _ rfl (fun v => by dsimp only [List.set]; try rfl) (fun u hu hF => ?_) (fun v92 => ?_)
    · have h23_ : v91 = (Pt b14 3) := hF.1
      clear hF
      refine doesG_un rfl ?_
      obtain rfl := h23_
      refine (does_loadAgg (cs := [(Fl r7), (Fl r9), (Fl r11)]) (ev rfl) Try.isAgg27 Try.sizeOf27 (Cells.sub (Blk.cells ((((((hB16.ext E24).ext E32).ext E46).ext E69).ext E79).ext hu)) 3 3) rfl).mono ?_; rintro _ _ ⟨rfl, rfl⟩
      exact ⟨rfl, Ext.refl _⟩
    refine RW_d _ rfl (fun v => by dsimp only [List.set]; try rfl) (fun u hu hF => ?_) (fun v93 => ?_)
    · clear hF
      refine doesG_un rfl ?_
      refine (does_move (u := (Iv 1)) (ev rfl)).mono ?_; rintro _ _ ⟨rfl, rfl⟩
      exact ⟨rfl, Ext.refl _⟩
    refine RW_d _ rfl (fun v => by dsimp only [List.set]; try rfl) (fun u hu hF => ?_) (fun v94 => ?_)
    · have h24_ : v92 = (.agg #[(Fl r7), (Fl r9), (Fl r11)]) := hF.1
      have h25_ : v93 = (Iv 1) := hF.2.1
      clear hF
      refine doesG_un rfl ?_
      obtain rfl := h24_
      obtain rfl := h25_
      refine (does_call (args := #[(.agg #[(Fl r7), (Fl r9), (Fl r11)]), (Iv 1)]) cal16 (evs rfl) (c_spec_l02Pick [(Fl r7), (Fl r9), (Fl r11)] A_b.hi 1 _ ⟨r7, r9, r11, rfl, h8, h10, h12⟩)).mono ?_; rintro v u' ⟨hx, ⟨rn1, hv, k0⟩⟩
      exact ⟨⟨rn1, hv, (by simp only [k0])⟩, hx⟩
    refine RW_d _ rfl (fun v => by dsimp only [List.set]; try rfl) (fun u hu hF => ?_) (fun v95 => ?_)
    · clear hF
      refine doesG_un rfl ?_
      refine (does_fieldAddr (ev rfl) fa29_0).mono ?_; rintro _ _ ⟨rfl, rfl⟩
      exact ⟨rfl, Ext.refl _⟩
    refine RW_d _ rfl (fun v => by dsimp only [List.set]; try rfl) (fun u hu hF => ?_) (fun v96 => ?_)
    · have h27_ : v95 = (Pt b14 0) := hF.1
      clear hF
      refine doesG_un rfl ?_
      obtain rfl := h27_
      refine (does_loadAgg (cs := [(Fl r1), (Fl r3), (Fl r5)]) (ev rfl) Try.isAgg27 Try.sizeOf27 (Cells.sub (Blk.cells ((((((hB16.ext E24).ext E32).ext E46).ext E69).ext E79).ext hu)) 0 3) rfl).mono ?_; rintro _ _ ⟨rfl, rfl⟩
      exact ⟨rfl, Ext.refl _⟩
    refine RW_d _ rfl (fun v => by dsimp only [List.set]; try rfl) (fun u hu hF => ?_) (fun v97 => ?_)
    · clear hF
      refine doesG_un rfl ?_
      refine (does_move (u := (Iv 1)) (ev rfl)).mono ?_; rintro _ _ ⟨rfl, rfl⟩
      exact ⟨rfl, Ext.refl _⟩
    refine RW_d _ rfl (fun v => by dsimp only [List.set]; try rfl) (fun u hu hF => ?_) (fun v98 => ?_)
    · have h28_ : v96 = (.agg #[(Fl r1), (Fl r3), (Fl r5)]) := hF.1
      have h29_ : v97 = (Iv 1) := hF.2.1
      clear hF
      refine doesG_un rfl ?_
      obtain rfl := h28_
      obtain rfl := h29_
      refine (does_call (args := #[(.agg #[(Fl r1), (Fl r3), (Fl r5)]), (Iv 1)]) cal16 (evs rfl) (c_spec_l02Pick [(Fl r1), (Fl r3), (Fl r5)] A_b.lo 1 _ ⟨r1, r3, r5, rfl, h2, h4, h6⟩)).mono ?_; rintro v u' ⟨hx, ⟨rn1, hv, k0⟩⟩
      exact ⟨⟨rn1, hv, (by simp only [k0])⟩, hx⟩
    refine RW_d _ rfl (fun v => by dsimp only [List.set]; try rfl) (fun u hu hF => ?_) (fun v99 => ?_)
    · have h26_ : ∃ r_1 : Nat, v94 = (Fl r_1) ∧ cf .f32 r_1 = pickV A_b.hi 1 := hF.1
      have h30_ : ∃ r_1 : Nat, v98 = (Fl r_1) ∧ cf .f32 r_1 = pickV A_b.lo 1 := hF.2.1
      clear hF
      refine doesG_un rfl ?_
      obtain ⟨r26_1, rfl, h26_2⟩ := h26_
      obtain ⟨r30_1, rfl, h30_2⟩ := h30_
      refine (does_float (.inr (.inl rfl)) (ev rfl) (ev rfl)).mono ?_; rintro _ _ ⟨r, rfl, hr, hx⟩
      exact ⟨⟨r, rfl, (by simp only [hr, h26_2, h30_2])⟩, hx⟩
    refine RW_d _ rfl (fun v => by dsimp only [List.set]; try rfl) (fun u hu hF => ?_) (fun v100 => ?_)
    · have h22_ : ∃ r_1 : Nat, v90 = (Fl r_1) ∧ cf .f32 r_1 = fop .sub .f32 (pickV A_b.hi 2) (pickV A_b.lo 2) := hF.1
      have h31_ : ∃ r_1 : Nat, v99 = (Fl r_1) ∧ cf .f32 r_1 = fop .sub .f32 (pickV A_b.hi 1) (pickV A_b.lo 1) := hF.2.1
      clear hF
      refine doesG_un rfl ?_
      obtain ⟨r22_1, rfl, h22_2⟩ := h22_
      obtain ⟨r31_1, rfl, h31_2⟩ := h31_
      refine (does_fcmp (.inr (.inr (.inr (.inr (.inl rfl))))) (ev rfl) (ev rfl)).mono ?_; rintro _ _ ⟨rfl, rfl⟩
      exact ⟨(by first | rfl | (show _ = _; simp only [hβ2, h22_2, h31_2]; done) | (show _ = _; simp only [hβ2, h22_2, h31_2]; rfl)), Ext.refl _⟩
    refine RW_fin ?_; intro w101 E102 hP103
    obtain ⟨⟨⟨⟨⟨⟨⟨⟨⟨⟨⟨⟨⟨⟨⟨⟨⟨⟨⟨-, -⟩, -⟩, -⟩, -⟩, -⟩, -⟩, -⟩, -⟩, -⟩, -⟩, -⟩, -⟩, -⟩, -⟩, -⟩, -⟩, -⟩, -⟩, q104⟩ := hP103
    have X105 := Ext.gr X81 E102
    have q104 : v100 = (Bo β2) := q104
    obtain rfl := q104
    show wpList _ _ _ _ (fr [_, _, _, _, _, _, _, _, _, _, _, _, _, _, _, _, _, _, _, _, _, _, _, _, _, _, _, _, _, _, _, _, _, _, _, _, _, _, _, _, _, _, _, _, _, _, _, _, _, _, _, _, _, _, _, _, _, _, _, _, _, _, _, _, _]) _
    refine wpList_nil (hK77 _ _ ?_)
    refine wp_cond_split (t := β2) (ev rfl) (fun c106 => ?_) (fun c106 => ?_)
    · have c106' := c106
      (try simp only [hβ1, hβ2] at c106')
      (try simp only [icmp, Bool.and_eq_true, Bool.or_eq_true, Bool.and_eq_false_iff, Bool.or_eq_false_iff, Bool.not_eq_true', Bool.not_eq_false', decide_eq_true_eq, decide_eq_false_iff_not, beq_iff_eq, bne_iff_ne, beq_eq_false_iff_ne, bne_eq_false_iff_eq] at c106')
      simp only [h2, h4, h6, h8, h10, h12, hβ1, hβ2, pickV_0, pickV_1, pickV_2, setV_0, setV_1, setV_2] at c106
      refine wp_region_lit ?_
      refine q_is rfl rfl (does_move (u := (Iv 2)) (ev rfl)) (by dsimp only [List.set]; try rfl) ?_
      refine q_is rfl rfl (does_assign (u := (Iv 2)) (ev rfl)) (by dsimp only [List.set]; try rfl) ?_
      refine wpList_nil (hK76 _ _ ?_)
      refine wp_region_lit ?_
      refine q_is rfl rfl (does_move (u := (Iv 2)) (ev rfl)) (by dsimp only [List.set]; try rfl) ?_
      refine q_is rfl rfl (does_iarith (p := 2) (q := 1) (r := (3)) (ev rfl) (ev rfl) (.inl ⟨rfl, rfl⟩)) (by dsimp only [List.set]; try rfl) ?_
      refine q_is rfl rfl (does_assign (u := (Iv 3)) (ev rfl)) (by dsimp only [List.set]; try rfl) ?_
      refine wpList_nil ?_
      refine un_step ?_
      refine wp_seq_k fun K107 hK107 => ?_
      refine wp_seq_k fun K108 hK108 => ?_
      refine wp_region_lit ?_
      refine q_is rfl rfl (does_move (u := (Iv 3)) (ev rfl)) (by dsimp only [List.set]; try rfl) ?_
      refine q_is rfl rfl (does_icmp (p := 3) (q := 3) (.inr (.inr (.inl rfl))) (ev rfl) (ev rfl)) (by dsimp only [List.set]; try rfl) ?_
      refine wpList_nil (hK108 _ _ ?_)
      refine wp_cond_false (ev rfl) ?_
      refine wp_exit ?_
      refine hK39 _ _ ?_
      refine wp_seq_k fun K109 hK109 => ?_
      refine wp_region_lit ?_
      refine q_is rfl rfl (does_fieldAddr (ev rfl) fa29_0) (by dsimp only [List.set]; try rfl) ?_
      refine q_is rfl rfl (does_loadAgg (cs := [(Fl r1), (Fl r3), (Fl r5)]) (ev rfl) Try.isAgg27 Try.sizeOf27 (Cells.sub (Blk.cells ((((((hB16.ext E24).ext E32).ext E46).ext E69).ext E79).ext E102)) 0 3) rfl) (by dsimp only [List.set]; try rfl) ?_
      refine q_is rfl rfl (does_move (u := (Iv 2)) (ev rfl)) (by dsimp only [List.set]; try rfl) ?_
      refine seqd rfl rfl (does_call (args := #[(.agg #[(Fl r1), (Fl r3), (Fl r5)]), (Iv 2)]) cal16 (evs rfl) (c_spec_l02Pick [(Fl r1), (Fl r3), (Fl r5)] A_b.lo 2 _ ⟨r1, r3, r5, rfl, h2, h4, h6⟩)) ?_; rintro _ w111 ⟨E110, ⟨r112, rfl, h113⟩⟩
      have X114 := Ext.gr X105 E110
      show wpList _ _ _ _ (fr [_, _, _, _, _, _, _, _, _, _, _, _, _, _, _, _, _, _, _, _, _, _, _, _, _, _, _, _, _, _, _, _, _, _, _, _, _, _, _, _, _, _, _, _, _, _, _, _, _, _, _, _, _, _, _, _, _, _, _, _, _, _, _, _, _]) _
      refine q_is rfl rfl (does_assign (u := (Fl r112)) (ev rfl)) (by dsimp only [List.set]; try rfl) ?_
      refine wpList_nil (hK109 _ _ ?_)
      refine wp_seq_k fun K115 hK115 => ?_
      refine wp_region_lit ?_
      refine q_is rfl rfl (does_move (u := (Fl r112)) (ev rfl)) (by dsimp only [List.set]; try rfl) ?_
      refine q_is rfl rfl (does_fieldAddr (ev rfl) fa29_1) (by dsimp only [List.set]; try rfl) ?_
      refine q_is rfl rfl (does_loadAgg (cs := [(Fl r7), (Fl r9), (Fl r11)]) (ev rfl) Try.isAgg27 Try.sizeOf27 (Cells.sub (Blk.cells (((((((hB16.ext E24).ext E32).ext E46).ext E69).ext E79).ext E102).ext E110)) 3 3) rfl) (by dsimp only [List.set]; try rfl) ?_
      refine q_is rfl rfl (does_move (u := (Iv 2)) (ev rfl)) (by dsimp only [List.set]; try rfl) ?_
      refine seqd rfl rfl (does_call (args := #[(.agg #[(Fl r7), (Fl r9), (Fl r11)]), (Iv 2)]) cal16 (evs rfl) (c_spec_l02Pick [(Fl r7), (Fl r9), (Fl r11)] A_b.hi 2 _ ⟨r7, r9, r11, rfl, h8, h10, h12⟩)) ?_; rintro _ w117 ⟨E116, ⟨r118, rfl, h119⟩⟩
      have X120 := Ext.gr X114 E116
      show wpList _ _ _ _ (fr [_, _, _, _, _, _, _, _, _, _, _, _, _, _, _, _, _, _, _, _, _, _, _, _, _, _, _, _, _, _, _, _, _, _, _, _, _, _, _, _, _, _, _, _, _, _, _, _, _, _, _, _, _, _, _, _, _, _, _, _, _, _, _, _, _]) _
      refine q_is rfl rfl (does_move (u := (Fl r112)) (ev rfl)) (by dsimp only [List.set]; try rfl) ?_
      refine seqd rfl rfl (does_float (.inr (.inl rfl)) (ev rfl) (ev rfl)) ?_; rintro _ w124 ⟨r121, rfl, h122, E123⟩
      have X125 := Ext.gr X120 E123
      show wpList _ _ _ _ (fr [_, _, _, _, _, _, _, _, _, _, _, _, _, _, _, _, _, _, _, _, _, _, _, _, _, _, _, _, _, _, _, _, _, _, _, _, _, _, _, _, _, _, _, _, _, _, _, _, _, _, _, _, _, _, _, _, _, _, _, _, _, _, _, _, _]) _
      refine seqd rfl rfl (does_float (.inr (.inr (.inl rfl))) (ev rfl) (ev rfl)) ?_; rintro _ w129 ⟨r126, rfl, h127, E128⟩
      have X130 := Ext.gr X125 E128
      show wpList _ _ _ _ (fr [_, _, _, _, _, _, _, _, _, _, _, _, _, _, _, _, _, _, _, _, _, _, _, _, _, _, _, _, _, _, _, _, _, _, _, _, _, _, _, _, _, _, _, _, _, _, _, _, _, _, _, _, _, _, _, _, _, _, _, _, _, _, _, _, _]) _
      refine seqd rfl rfl (does_float (.inl rfl) (ev rfl) (ev rfl)) ?_; rintro _ w134 ⟨r131, rfl, h132, E133⟩
      have X135 := Ext.gr X130 E133
      show wpList _ _ _ _ (fr [_, _, _, _, _, _, _, _, _, _, _, _, _, _, _, _, _, _, _, _, _, _, _, _, _, _, _, _, _, _, _, _, _, _, _, _, _, _, _, _, _, _, _, _, _, _, _, _, _, _, _, _, _, _, _, _, _, _, _, _, _, _, _, _, _]) _
      refine q_is rfl rfl (does_assign (u := (Fl r131)) (ev rfl)) (by dsimp only [List.set]; try rfl) ?_
      refine wpList_nil (hK115 _ _ ?_)
      refine wp_seq_k fun K136 hK136 => ?_
      refine region_draw (
        [Fact.pure [] (fun v => v = (Pt b14 0)),
    Fact.pure [47] (fun v => v = (.agg #[(Fl r1), (Fl r3), (Fl r5)])),
    Fact.pure [] (fun v => v = (Pt b14 3)),
    Fact.pure [49] (fun v => v = (.agg #[(Fl r7), (Fl r9), (Fl r11)])),
    Fact.pure [] (fun v => v = (Iv 2)),
    Fact.pure [] (fun v => v = (Fl r131)),
    Fact.pure [50, 51, 52] (fun v => ∃ cs_1 : List Value, v = (.agg cs_1.toArray) ∧ RV3 w (setV A_b.hi 2 (cf .f32 r131)) cs_1),
    Fact.pure [48, 53] (fun v => ∃ r_1 : Nat, ∃ r_2 : Nat, ∃ r_3 : Nat, v = (.agg #[(Fl r1), (Fl r3), (Fl r5), (Fl r_1), (Fl r_2), (Fl r_3)]) ∧ cf .f32 r_1 = (setV A_b.hi 2 (cf .f32 r131)).x ∧ cf .f32 r_2 = (setV A_b.hi 2 (cf .f32 r131)).y ∧ cf .f32 r_3 = (setV A_b.hi 2 (cf .f32 r131)).z),
    Fact.mem [] (fun v w' => ∃ b : Nat, v = .pointer (some ⟨b, 0, none⟩) ∧ w134.heap.size ≤ b ∧ Blk w' b [(Fl 0), (Fl 0), (Fl 0), (Fl 0), (Fl 0), (Fl 0)]) (by rintro v w1 w2 hx ⟨b, rfl, hb, hB⟩; exact ⟨b, rfl, hb, (hB.ext hx)⟩)]) mixed (by kernel_rfl) (by intro _ _ d _ _ h; cases d <;> exact h) ?_
      obtain ⟨w137, hw139⟩ : ∃ w', w' = World.drew w134 := ⟨_, rfl⟩; rw [← hw139]; have E138 : Ext w134 w137 := by rw [hw139]; exact Ext.draw _
      clear hw139
      have X140 := Ext.gr X135 E138
      refine RW_d _ rfl (fun v => by dsimp only [List.set]; try rfl) (fun u hu hF => ?_) (fun v141 => ?_)
      · clear hF
        refine doesG_un rfl ?_
        refine (does_fieldAddr (ev rfl) fa29_0).mono ?_; rintro _ _ ⟨rfl, rfl⟩
        exact ⟨rfl, Ext.refl _⟩
      refine RW_d _ rfl (fun v => by dsimp only [List.set]; try rfl) (fun u hu hF => ?_) (fun v142 => ?_)
      · have h47_ : v141 = (Pt b14 0) := hF.1
        clear hF
        refine doesG_un rfl ?_
        obtain rfl := h47_
        refine (does_loadAgg (cs := [(Fl r1), (Fl r3), (Fl r5)]) (ev rfl) Try.isAgg27 Try.sizeOf27 (Cells.sub (Blk.cells (((((((((((((hB16.ext E24).ext E32).ext E46).ext E69).ext E79).ext E102).ext E110).ext E116).ext E123).ext E128).ext E133).ext E138).ext hu)) 0 3) rfl).mono ?_; rintro _ _ ⟨rfl, rfl⟩
        exact ⟨rfl, Ext.refl _⟩
      refine RW_d _ rfl (fun v => by dsimp only [List.set]; try rfl) (fun u hu hF => ?_) (fun v143 => ?_)
      · clear hF
        refine doesG_un rfl ?_
        refine (does_fieldAddr (ev rfl) fa29_1).mono ?_; rintro _ _ ⟨rfl, rfl⟩
        exact ⟨rfl, Ext.refl _⟩
      refine RW_d _ rfl (fun v => by dsimp only [List.set]; try rfl) (fun u hu hF => ?_) (fun v144 => ?_)
      · have h49_ : v143 = (Pt b14 3) := hF.1
        clear hF
        refine doesG_un rfl ?_
        obtain rfl := h49_
        refine (does_loadAgg (cs := [(Fl r7), (Fl r9), (Fl r11)]) (ev rfl) Try.isAgg27 Try.sizeOf27 (Cells.sub (Blk.cells (((((((((((((hB16.ext E24).ext E32).ext E46).ext E69).ext E79).ext E102).ext E110).ext E116).ext E123).ext E128).ext E133).ext E138).ext hu)) 3 3) rfl).mono ?_; rintro _ _ ⟨rfl, rfl⟩
        exact ⟨rfl, Ext.refl _⟩
      refine RW_d _ rfl (fun v => by dsimp only [List.set]; try rfl) (fun u hu hF => ?_) (fun v145 => ?_)
      · clear hF
        refine doesG_un rfl ?_
        refine (does_move (u := (Iv 2)) (ev rfl)).mono ?_; rintro _ _ ⟨rfl, rfl⟩
        exact ⟨rfl, Ext.refl _⟩
      refine RW_d _ rfl (fun v => by dsimp only [List.set]; try rfl) (fun u hu hF => ?_) (fun v146 => ?_)
      · clear hF
        refine doesG_un rfl ?_
        refine (does_move (u := (Fl r131)) (ev rfl)).mono ?_; rintro _ _ ⟨rfl, rfl⟩
        exact ⟨rfl, Ext.refl _⟩
      refine RW_d _ rfl (fun v => by dsimp only [List.set]; try rfl) (fun u hu hF => ?_) (fun v147 => ?_)
      · have h50_ : v144 = (.agg #[(Fl r7), (Fl r9), (Fl r11)]) := hF.1
        have h51_ : v145 = (Iv 2) := hF.2.1
        have h52_ : v146 = (Fl r131) := hF.2.2.1
        clear hF
        refine doesG_un rfl ?_
        obtain rfl := h50_
        obtain rfl := h51_
        obtain rfl := h52_
        refine (does_call (args := #[(.agg #[(Fl r7), (Fl r9), (Fl r11)]), (Iv 2), (Fl r131)]) cal17 (evs rfl) (c_spec_l02Set [(Fl r7), (Fl r9), (Fl r11)] A_b.hi 2 r131 _ ⟨r7, r9, r11, rfl, h8, h10, h12⟩)).mono ?_; rintro v u' ⟨hx, ⟨csn1, hv, k0⟩⟩
        exact ⟨⟨csn1, hv, k0⟩, hx⟩
      refine RW_d _ rfl (fun v => by dsimp only [List.set]; try rfl) (fun u hu hF => ?_) (fun v148 => ?_)
      · have h48_ : v142 = (.agg #[(Fl r1), (Fl r3), (Fl r5)]) := hF.1
        have h53_ : ∃ cs_1 : List Value, v147 = (.agg cs_1.toArray) ∧ RV3 w (setV A_b.hi 2 (cf .f32 r131)) cs_1 := hF.2.1
        clear hF
        refine doesG_un rfl ?_
        obtain rfl := h48_
        obtain ⟨_, rfl, ⟨r53_1, r53_3, r53_5, rfl, h53_2, h53_4, h53_6⟩⟩ := h53_
        refine (does_build (parts' := [(0, (.agg #[(Fl r1), (Fl r3), (Fl r5)])), (1, (.agg #[(Fl r53_1), (Fl r53_3), (Fl r53_5)]))]) (cells := #[(Fl r1), (Fl r3), (Fl r5), (Fl r53_1), (Fl r53_3), (Fl r53_5)]) (evp rfl) (by kernel_rfl)).mono ?_; rintro _ _ ⟨rfl, rfl⟩
        exact ⟨⟨r53_1, r53_3, r53_5, rfl, (by simp only [h53_2, h53_4, h53_6]), (by simp only [h53_2, h53_4, h53_6]), (by simp only [h53_2, h53_4, h53_6])⟩, Ext.refl _⟩
      refine RW_d _ rfl (fun v => by dsimp only [List.set]; try rfl) (fun u hu hF => ?_) (fun v149 => ?_)
      · clear hF
        refine doesG_un rfl ?_
        refine (does_alloc z29).mono ?_; rintro _ _ ⟨b, rfl, hb, hB, hx⟩
        exact ⟨⟨b, rfl, Nat.le_trans (Nat.le_trans (Below.size E138) (Below.size hu)) hb, hB⟩, hx⟩
      refine RW_fin ?_; intro w150 E151 hP152
      obtain ⟨⟨⟨⟨⟨⟨⟨⟨⟨-, -⟩, -⟩, -⟩, -⟩, -⟩, -⟩, -⟩, q153⟩, q154⟩ := hP152
      have X155 := Ext.gr X140 E151
      have q153 : ∃ r_1 : Nat, ∃ r_2 : Nat, ∃ r_3 : Nat, v148 = (.agg #[(Fl r1), (Fl r3), (Fl r5), (Fl r_1), (Fl r_2), (Fl r_3)]) ∧ cf .f32 r_1 = (setV A_b.hi 2 (cf .f32 r131)).x ∧ cf .f32 r_2 = (setV A_b.hi 2 (cf .f32 r131)).y ∧ cf .f32 r_3 = (setV A_b.hi 2 (cf .f32 r131)).z := q153
      obtain ⟨r156, r158, r160, rfl, h157, h159, h161⟩ := q153
      have q154 : ∃ b : Nat, v149 = .pointer (some ⟨b, 0, none⟩) ∧ w134.heap.size ≤ b ∧ Blk w150 b [(Fl 0), (Fl 0), (Fl 0), (Fl 0), (Fl 0), (Fl 0)] := q154
      obtain ⟨b162, rfl, hb163, hB164⟩ := q154
      have n165 : b14 < b162 := Nat.lt_of_lt_of_le (Blk.lt (((((((((((hB16.ext E24).ext E32).ext E46).ext E69).ext E79).ext E102).ext E110).ext E116).ext E123).ext E128).ext E133)) hb163
      have n166 : b21 < b162 := Nat.lt_of_lt_of_le (Blk.lt ((((((((((hB23.ext E32).ext E46).ext E69).ext E79).ext E102).ext E110).ext E116).ext E123).ext E128).ext E133)) hb163
      have n167 : b29 < b162 := Nat.lt_of_lt_of_le (Blk.lt (((((((((hB31.ext E46).ext E69).ext E79).ext E102).ext E110).ext E116).ext E123).ext E128).ext E133)) hb163
      have g168 : w.heap.size ≤ b162 := Nat.le_trans (Below.size X135) hb163
      show wpList _ _ _ _ (fr [_, _, _, _, _, _, _, _, _, _, _, _, _, _, _, _, _, _, _, _, _, _, _, _, _, _, _, _, _, _, _, _, _, _, _, _, _, _, _, _, _, _, _, _, _, _, _, _, _, _, _, _, _, _, _, _, _, _, _, _, _, _, _, _, _]) _
      refine seqn rfl rfl (does_store (n := 6) (cs := [(Fl 0), (Fl 0), (Fl 0), (Fl 0), (Fl 0), (Fl 0)]) (u := (.agg #[(Fl r1), (Fl r3), (Fl r5), (Fl r156), (Fl r158), (Fl r160)])) (ev rfl) (ev rfl) Try.sizeOf29 rfl hB164 (Nat.le_of_ble_eq_true rfl) rfl) ?_; rintro _ w171 ⟨rfl, W169, hB170⟩
      change Blk _ _ [(Fl r1), (Fl r3), (Fl r5), (Fl r156), (Fl r158), (Fl r160)] at hB170
      have X172 := Below.wr X155 W169 g168
      refine wpList_nil (hK136 _ _ ?_)
      refine wp_seq_k fun K173 hK173 => ?_
      refine region_draw (
        [Fact.pure [] (fun v => v = (Pt b14 0)),
    Fact.pure [55] (fun v => v = (.agg #[(Fl r1), (Fl r3), (Fl r5)])),
    Fact.pure [] (fun v => v = (Iv 2)),
    Fact.pure [] (fun v => v = (Fl r131)),
    Fact.pure [56, 57, 58] (fun v => ∃ cs_1 : List Value, v = (.agg cs_1.toArray) ∧ RV3 w (setV A_b.lo 2 (cf .f32 r131)) cs_1),
    Fact.pure [] (fun v => v = (Pt b14 3)),
    Fact.pure [60] (fun v => v = (.agg #[(Fl r7), (Fl r9), (Fl r11)])),
    Fact.pure [59, 61] (fun v => ∃ r_1 : Nat, ∃ r_2 : Nat, ∃ r_3 : Nat, v = (.agg #[(Fl r_1), (Fl r_2), (Fl r_3), (Fl r7), (Fl r9), (Fl r11)]) ∧ cf .f32 r_1 = (setV A_b.lo 2 (cf .f32 r131)).x ∧ cf .f32 r_2 = (setV A_b.lo 2 (cf .f32 r131)).y ∧ cf .f32 r_3 = (setV A_b.lo 2 (cf .f32 r131)).z),
    Fact.mem [] (fun v w' => ∃ b : Nat, v = .pointer (some ⟨b, 0, none⟩) ∧ w171.heap.size ≤ b ∧ Blk w' b [(Fl 0), (Fl 0), (Fl 0), (Fl 0), (Fl 0), (Fl 0)]) (by rintro v w1 w2 hx ⟨b, rfl, hb, hB⟩; exact ⟨b, rfl, hb, (hB.ext hx)⟩)]) mixed (by kernel_rfl) (by intro _ _ d _ _ h; cases d <;> exact h) ?_
      obtain ⟨w174, hw176⟩ : ∃ w', w' = World.drew w171 := ⟨_, rfl⟩; rw [← hw176]; have E175 : Ext w171 w174 := by rw [hw176]; exact Ext.draw _
      clear hw176
      have X177 := Ext.gr X172 E175
      refine RW_d _ rfl (fun v => by dsimp only [List.set]; try rfl) (fun u hu hF => ?_) (fun v178 => ?_)
      · clear hF
        refine doesG_un rfl ?_
        refine (does_fieldAddr (ev rfl) fa29_0).mono ?_; rintro _ _ ⟨rfl, rfl⟩
        exact ⟨rfl, Ext.refl _⟩
      refine RW_d _ rfl (fun v => by dsimp only [List.set]; try rfl) (fun u hu hF => ?_) (fun v179 => ?_)
      · have h55_ : v178 = (Pt b14 0) := hF.1
        clear hF
        refine doesG_un rfl ?_
        obtain rfl := h55_
        refine (does_loadAgg (cs := [(Fl r1), (Fl r3), (Fl r5)]) (ev rfl) Try.isAgg27 Try.sizeOf27 (Cells.sub (Blk.cells ((((((((((((((((hB16.ext E24).ext E32).ext E46).ext E69).ext E79).ext E102).ext E110).ext E116).ext E123).ext E128).ext E133).ext E138).ext E151).wr W169 (Nat.ne_of_lt n165)).ext E175).ext hu)) 0 3) rfl).mono ?_; rintro _ _ ⟨rfl, rfl⟩
        exact ⟨rfl, Ext.refl _⟩
      refine RW_d _ rfl (fun v => by dsimp only [List.set]; try rfl) (fun u hu hF => ?_) (fun v180 => ?_)
      · clear hF
        refine doesG_un rfl ?_
        refine (does_move (u := (Iv 2)) (ev rfl)).mono ?_; rintro _ _ ⟨rfl, rfl⟩
        exact ⟨rfl, Ext.refl _⟩
      refine RW_d _ rfl (fun v => by dsimp only [List.set]; try rfl) (fun u hu hF => ?_) (fun v181 => ?_)
      · clear hF
        refine doesG_un rfl ?_
        refine (does_move (u := (Fl r131)) (ev rfl)).mono ?_; rintro _ _ ⟨rfl, rfl⟩
        exact ⟨rfl, Ext.refl _⟩
      refine RW_d _ rfl (fun v => by dsimp only [List.set]; try rfl) (fun u hu hF => ?_) (fun v182 => ?_)
      · have h56_ : v179 = (.agg #[(Fl r1), (Fl r3), (Fl r5)]) := hF.1
        have h57_ : v180 = (Iv 2) := hF.2.1
        have h58_ : v181 = (Fl r131) := hF.2.2.1
        clear hF
        refine doesG_un rfl ?_
        obtain rfl := h56_
        obtain rfl := h57_
        obtain rfl := h58_
        refine (does_call (args := #[(.agg #[(Fl r1), (Fl r3), (Fl r5)]), (Iv 2), (Fl r131)]) cal17 (evs rfl) (c_spec_l02Set [(Fl r1), (Fl r3), (Fl r5)] A_b.lo 2 r131 _ ⟨r1, r3, r5, rfl, h2, h4, h6⟩)).mono ?_; rintro v u' ⟨hx, ⟨csn1, hv, k0⟩⟩
        exact ⟨⟨csn1, hv, k0⟩, hx⟩
      refine RW_d _ rfl (fun v => by dsimp only [List.set]; try rfl) (fun u hu hF => ?_) (fun v183 => ?_)
      · clear hF
        refine doesG_un rfl ?_
        refine (does_fieldAddr (ev rfl) fa29_1).mono ?_; rintro _ _ ⟨rfl, rfl⟩
        exact ⟨rfl, Ext.refl _⟩
      refine RW_d _ rfl (fun v => by dsimp only [List.set]; try rfl) (fun u hu hF => ?_) (fun v184 => ?_)
      · have h60_ : v183 = (Pt b14 3) := hF.1
        clear hF
        refine doesG_un rfl ?_
        obtain rfl := h60_
        refine (does_loadAgg (cs := [(Fl r7), (Fl r9), (Fl r11)]) (ev rfl) Try.isAgg27 Try.sizeOf27 (Cells.sub (Blk.cells ((((((((((((((((hB16.ext E24).ext E32).ext E46).ext E69).ext E79).ext E102).ext E110).ext E116).ext E123).ext E128).ext E133).ext E138).ext E151).wr W169 (Nat.ne_of_lt n165)).ext E175).ext hu)) 3 3) rfl).mono ?_; rintro _ _ ⟨rfl, rfl⟩
        exact ⟨rfl, Ext.refl _⟩
      refine RW_d _ rfl (fun v => by dsimp only [List.set]; try rfl) (fun u hu hF => ?_) (fun v185 => ?_)
      · have h59_ : ∃ cs_1 : List Value, v182 = (.agg cs_1.toArray) ∧ RV3 w (setV A_b.lo 2 (cf .f32 r131)) cs_1 := hF.1
        have h61_ : v184 = (.agg #[(Fl r7), (Fl r9), (Fl r11)]) := hF.2.1
        clear hF
        refine doesG_un rfl ?_
        obtain ⟨_, rfl, ⟨r59_1, r59_3, r59_5, rfl, h59_2, h59_4, h59_6⟩⟩ := h59_
        obtain rfl := h61_
        refine (does_build (parts' := [(0, (.agg #[(Fl r59_1), (Fl r59_3), (Fl r59_5)])), (1, (.agg #[(Fl r7), (Fl r9), (Fl r11)]))]) (cells := #[(Fl r59_1), (Fl r59_3), (Fl r59_5), (Fl r7), (Fl r9), (Fl r11)]) (evp rfl) (by kernel_rfl)).mono ?_; rintro _ _ ⟨rfl, rfl⟩
        exact ⟨⟨r59_1, r59_3, r59_5, rfl, (by simp only [h59_2, h59_4, h59_6]), (by simp only [h59_2, h59_4, h59_6]), (by simp only [h59_2, h59_4, h59_6])⟩, Ext.refl _⟩
      refine RW_d _ rfl (fun v => by dsimp only [List.set]; try rfl) (fun u hu hF => ?_) (fun v186 => ?_)
      · clear hF
        refine doesG_un rfl ?_
        refine (does_alloc z29).mono ?_; rintro _ _ ⟨b, rfl, hb, hB, hx⟩
        exact ⟨⟨b, rfl, Nat.le_trans (Nat.le_trans (Below.size E175) (Below.size hu)) hb, hB⟩, hx⟩
      refine RW_fin ?_; intro w187 E188 hP189
      obtain ⟨⟨⟨⟨⟨⟨⟨⟨⟨-, -⟩, -⟩, -⟩, -⟩, -⟩, -⟩, -⟩, q190⟩, q191⟩ := hP189
      have X192 := Ext.gr X177 E188
      have q190 : ∃ r_1 : Nat, ∃ r_2 : Nat, ∃ r_3 : Nat, v185 = (.agg #[(Fl r_1), (Fl r_2), (Fl r_3), (Fl r7), (Fl r9), (Fl r11)]) ∧ cf .f32 r_1 = (setV A_b.lo 2 (cf .f32 r131)).x ∧ cf .f32 r_2 = (setV A_b.lo 2 (cf .f32 r131)).y ∧ cf .f32 r_3 = (setV A_b.lo 2 (cf .f32 r131)).z := q190
      obtain ⟨r193, r195, r197, rfl, h194, h196, h198⟩ := q190
      have q191 : ∃ b : Nat, v186 = .pointer (some ⟨b, 0, none⟩) ∧ w171.heap.size ≤ b ∧ Blk w187 b [(Fl 0), (Fl 0), (Fl 0), (Fl 0), (Fl 0), (Fl 0)] := q191
      obtain ⟨b199, rfl, hb200, hB201⟩ := q191
      have n202 : b14 < b199 := Nat.lt_of_lt_of_le (Blk.lt ((((((((((((((hB16.ext E24).ext E32).ext E46).ext E69).ext E79).ext E102).ext E110).ext E116).ext E123).ext E128).ext E133).ext E138).ext E151).wr W169 (Nat.ne_of_lt n165))) hb200
      have n203 : b21 < b199 := Nat.lt_of_lt_of_le (Blk.lt (((((((((((((hB23.ext E32).ext E46).ext E69).ext E79).ext E102).ext E110).ext E116).ext E123).ext E128).ext E133).ext E138).ext E151).wr W169 (Nat.ne_of_lt n166))) hb200
      have n204 : b29 < b199 := Nat.lt_of_lt_of_le (Blk.lt ((((((((((((hB31.ext E46).ext E69).ext E79).ext E102).ext E110).ext E116).ext E123).ext E128).ext E133).ext E138).ext E151).wr W169 (Nat.ne_of_lt n167))) hb200
      have n205 : b162 < b199 := Nat.lt_of_lt_of_le (Blk.lt hB170) hb200
      have g206 : w.heap.size ≤ b199 := Nat.le_trans (Below.size X172) hb200
      show wpList _ _ _ _ (fr [_, _, _, _, _, _, _, _, _, _, _, _, _, _, _, _, _, _, _, _, _, _, _, _, _, _, _, _, _, _, _, _, _, _, _, _, _, _, _, _, _, _, _, _, _, _, _, _, _, _, _, _, _, _, _, _, _, _, _, _, _, _, _, _, _]) _
      refine seqn rfl rfl (does_store (n := 6) (cs := [(Fl 0), (Fl 0), (Fl 0), (Fl 0), (Fl 0), (Fl 0)]) (u := (.agg #[(Fl r193), (Fl r195), (Fl r197), (Fl r7), (Fl r9), (Fl r11)])) (ev rfl) (ev rfl) Try.sizeOf29 rfl hB201 (Nat.le_of_ble_eq_true rfl) rfl) ?_; rintro _ w209 ⟨rfl, W207, hB208⟩
      change Blk _ _ [(Fl r193), (Fl r195), (Fl r197), (Fl r7), (Fl r9), (Fl r11)] at hB208
      have X210 := Below.wr X192 W207 g206
      refine wpList_nil (hK173 _ _ ?_)
      refine wp_seq_k fun K211 hK211 => ?_
      have n215 : b21 < w209.heap.size := Blk.lt ((((((((((((((((hB23.ext E32).ext E46).ext E69).ext E79).ext E102).ext E110).ext E116).ext E123).ext E128).ext E133).ext E138).ext E151).wr W169 (Nat.ne_of_lt n166)).ext E175).ext E188).wr W207 (Nat.ne_of_lt n203))
      refine region_any2 [b21] [0, 0, 1, 7] [0] (
        [FactW.pure [] [] [0] true (fun v => v = (.agg #[(Fl r1), (Fl r3), (Fl r5), (Fl r156), (Fl r158), (Fl r160)])),
          FactW.pure [] [0] [0] true (fun v => v = (.agg #[(Fl r193), (Fl r195), (Fl r197), (Fl r7), (Fl r9), (Fl r11)])),
          FactW.mem [0] [] [0] [] true (fun v w' => v = undef ∧ Blk w' b21 [(Fl r1), (Fl r3), (Fl r5), (Fl r156), (Fl r158), (Fl r160)]) (by rintro v w1 w2 hx ⟨rfl, h⟩; exact ⟨rfl, h.ext (KpL.toExt hx)⟩)]) mixed (by kernel_rfl) ?_
      obtain ⟨w212, hw214⟩ : ∃ w', w' = World.drew w209 := ⟨_, rfl⟩; rw [← hw214]; have E213 : Ext w209 w212 := by rw [hw214]; exact Ext.draw _
      clear hw214
      have X216 := Ext.gr X210 E213
      refine RW2_d _ rfl (fun v => by dsimp only [List.set]; try rfl) (fun u hu hF => ?_) (fun v217 => ?_)
      · replace hu : KpL [] _ _ := hu
        clear hF
        refine doesG_un rfl ?_
        refine (does_loadAgg (cs := [(Fl r1), (Fl r3), (Fl r5), (Fl r156), (Fl r158), (Fl r160)]) (ev rfl) Try.isAgg29 Try.sizeOf29 (Blk.cells (((((hB170.ext E175).ext E188).wr W207 (Nat.ne_of_lt n205)).ext E213).ext (KpL.toExt hu))) rfl).mono ?_; rintro _ _ ⟨rfl, rfl⟩
        exact ⟨rfl, KpL.refl _ _⟩
      refine RW2_d _ rfl (fun v => by dsimp only [List.set]; try rfl) (fun u hu hF => ?_) (fun v218 => ?_)
      · replace hu : KpL [b21] _ _ := hu
        clear hF
        refine doesG_un rfl ?_
        refine (does_loadAgg (cs := [(Fl r193), (Fl r195), (Fl r197), (Fl r7), (Fl r9), (Fl r11)]) (ev rfl) Try.isAgg29 Try.sizeOf29 (Blk.cells ((hB208.ext E213).kl hu (ninS (Nat.ne_of_gt n203) nin0))) rfl).mono ?_; rintro _ _ ⟨rfl, rfl⟩
        exact ⟨rfl, KpL.refl _ _⟩
      refine RW2_n rfl (fun u hu hF => ?_) (fun v219 => ?_)
      · replace hu : KpL [] _ _ := hu
        have h63_ : v217 = (.agg #[(Fl r1), (Fl r3), (Fl r5), (Fl r156), (Fl r158), (Fl r160)]) := hF.1
        clear hF
        refine doesG_un rfl ?_
        obtain rfl := h63_
        refine (does_store (n := 6) (cs := [(Fl 0), (Fl 0), (Fl 0), (Fl 0), (Fl 0), (Fl 0)]) (u := (.agg #[(Fl r1), (Fl r3), (Fl r5), (Fl r156), (Fl r158), (Fl r160)])) (ev rfl) (ev rfl) Try.sizeOf29 rfl ((((((((((((((((((hB23.ext E32).ext E46).ext E69).ext E79).ext E102).ext E110).ext E116).ext E123).ext E128).ext E133).ext E138).ext E151).wr W169 (Nat.ne_of_lt n166)).ext E175).ext E188).wr W207 (Nat.ne_of_lt n203)).ext E213).ext (KpL.toExt hu)) (Nat.le_of_ble_eq_true rfl) rfl).mono ?_; rintro _ _ ⟨rfl, hW, hB⟩
        exact ⟨⟨rfl, hB⟩, KpL.of_wr hW⟩
      refine RW2_fin ?_; intro w220 E221 hP222; replace E221 : KpL [b21] _ _ := E221
      obtain ⟨⟨⟨-, -⟩, q223⟩, q224⟩ := hP222
      have X225 := Below.kl X216 E221 (allS g27 all0) (Nat.le_refl _)
      obtain ⟨_, hB226⟩ := q224 rfl
      change Blk _ _ [(Fl r1), (Fl r3), (Fl r5), (Fl r156), (Fl r158), (Fl r160)] at hB226
      have q223 : v218 = (.agg #[(Fl r193), (Fl r195), (Fl r197), (Fl r7), (Fl r9), (Fl r11)]) := q223 rfl
      obtain rfl := q223
      show wpList _ _ _ _ (fr [_, _, _, _, _, _, _, _, _, _, _, _, _, _, _, _, _, _, _, _, _, _, _, _, _, _, _, _, _, _, _, _, _, _, _, _, _, _, _, _, _, _, _, _, _, _, _, _, _, _, _, _, _, _, _, _, _, _, _, _, _, _, _, _, _]) _
      refine seqn rfl rfl (does_store (n := 6) (cs := [(Fl 0), (Fl 0), (Fl 0), (Fl 0), (Fl 0), (Fl 0)]) (u := (.agg #[(Fl r193), (Fl r195), (Fl r197), (Fl r7), (Fl r9), (Fl r11)])) (ev rfl) (ev rfl) Try.sizeOf29 rfl (((((((((((((((((hB31.ext E46).ext E69).ext E79).ext E102).ext E110).ext E116).ext E123).ext E128).ext E133).ext E138).ext E151).wr W169 (Nat.ne_of_lt n167)).ext E175).ext E188).wr W207 (Nat.ne_of_lt n204)).ext E213).kl E221 (ninS (Nat.ne_of_gt n35) nin0)) (Nat.le_of_ble_eq_true rfl) rfl) ?_; rintro _ w229 ⟨rfl, W227, hB228⟩
      change Blk _ _ [(Fl r193), (Fl r195), (Fl r197), (Fl r7), (Fl r9), (Fl r11)] at hB228
      have X230 := Below.wr X225 W227 g36
      refine wpList_nil (hK211 _ _ ?_)
      refine wp_ret ?_
      refine ret_val (v := (.tuple #[(.agg #[(Fl r1), (Fl r3), (Fl r5), (Fl r156), (Fl r158), (Fl r160)]), (.agg #[(Fl r193), (Fl r195), (Fl r197), (Fl r7), (Fl r9), (Fl r11)])])) (res_CC rfl (slot rfl) (run_loadAgg (cs := [(Fl r1), (Fl r3), (Fl r5), (Fl r156), (Fl r158), (Fl r160)]) Try.isAgg29 Try.sizeOf29 (Blk.cells (hB226.wr W227 (Nat.ne_of_lt n35))) rfl) (slot rfl) (run_loadAgg (cs := [(Fl r193), (Fl r195), (Fl r197), (Fl r7), (Fl r9), (Fl r11)]) Try.isAgg29 Try.sizeOf29 (Blk.cells hB228) rfl)) X230 ?_
      try simp only [h2, h4, h6, h8, h10, h12, hβ1, hβ2, h113, h119, h122, h127, h132, h157, h159, h161, h194, h196, h198] at c73 c106
      have x231 : cf .f32 r1 = (oneB A_b).lo.x := by (first | (have hax : axB A_b = 0 := by (simp only [axB, gtF, dimB, h2, h4, h6, h8, h10, h12, hβ1, hβ2, h113, h119, h122, h127, h132, h157, h159, h161, h194, h196, h198, c73, c106, pickV_0, pickV_1, pickV_2, setV_0, setV_1, setV_2, if_true, if_false, Bool.false_eq_true, ↓reduceIte]; done)); (simp only [oneB, twoB, midB, dimB, hax, half_two, pickV_0, pickV_1, pickV_2, setV_0, setV_1, setV_2, h2, h4, h6, h8, h10, h12, hβ1, hβ2, h113, h119, h122, h127, h132, h157, h159, h161, h194, h196, h198, c73, c106] <;> rfl) | (have hax : axB A_b = 1 := by (simp only [axB, gtF, dimB, h2, h4, h6, h8, h10, h12, hβ1, hβ2, h113, h119, h122, h127, h132, h157, h159, h161, h194, h196, h198, c73, c106, pickV_0, pickV_1, pickV_2, setV_0, setV_1, setV_2, if_true, if_false, Bool.false_eq_true, ↓reduceIte]; done)); (simp only [oneB, twoB, midB, dimB, hax, half_two, pickV_0, pickV_1, pickV_2, setV_0, setV_1, setV_2, h2, h4, h6, h8, h10, h12, hβ1, hβ2, h113, h119, h122, h127, h132, h157, h159, h161, h194, h196, h198, c73, c106] <;> rfl) | (have hax : axB A_b = 2 := by (simp only [axB, gtF, dimB, h2, h4, h6, h8, h10, h12, hβ1, hβ2, h113, h119, h122, h127, h132, h157, h159, h161, h194, h196, h198, c73, c106, pickV_0, pickV_1, pickV_2, setV_0, setV_1, setV_2, if_true, if_false, Bool.false_eq_true, ↓reduceIte]; done)); (simp only [oneB, twoB, midB, dimB, hax, half_two, pickV_0, pickV_1, pickV_2, setV_0, setV_1, setV_2, h2, h4, h6, h8, h10, h12, hβ1, hβ2, h113, h119, h122, h127, h132, h157, h159, h161, h194, h196, h198, c73, c106] <;> rfl))
      have x232 : cf .f32 r3 = (oneB A_b).lo.y := by (first | (have hax : axB A_b = 0 := by (simp only [axB, gtF, dimB, h2, h4, h6, h8, h10, h12, hβ1, hβ2, h113, h119, h122, h127, h132, h157, h159, h161, h194, h196, h198, c73, c106, pickV_0, pickV_1, pickV_2, setV_0, setV_1, setV_2, if_true, if_false, Bool.false_eq_true, ↓reduceIte]; done)); (simp only [oneB, twoB, midB, dimB, hax, half_two, pickV_0, pickV_1, pickV_2, setV_0, setV_1, setV_2, h2, h4, h6, h8, h10, h12, hβ1, hβ2, h113, h119, h122, h127, h132, h157, h159, h161, h194, h196, h198, c73, c106] <;> rfl) | (have hax : axB A_b = 1 := by (simp only [axB, gtF, dimB, h2, h4, h6, h8, h10, h12, hβ1, hβ2, h113, h119, h122, h127, h132, h157, h159, h161, h194, h196, h198, c73, c106, pickV_0, pickV_1, pickV_2, setV_0, setV_1, setV_2, if_true, if_false, Bool.false_eq_true, ↓reduceIte]; done)); (simp only [oneB, twoB, midB, dimB, hax, half_two, pickV_0, pickV_1, pickV_2, setV_0, setV_1, setV_2, h2, h4, h6, h8, h10, h12, hβ1, hβ2, h113, h119, h122, h127, h132, h157, h159, h161, h194, h196, h198, c73, c106] <;> rfl) | (have hax : axB A_b = 2 := by (simp only [axB, gtF, dimB, h2, h4, h6, h8, h10, h12, hβ1, hβ2, h113, h119, h122, h127, h132, h157, h159, h161, h194, h196, h198, c73, c106, pickV_0, pickV_1, pickV_2, setV_0, setV_1, setV_2, if_true, if_false, Bool.false_eq_true, ↓reduceIte]; done)); (simp only [oneB, twoB, midB, dimB, hax, half_two, pickV_0, pickV_1, pickV_2, setV_0, setV_1, setV_2, h2, h4, h6, h8, h10, h12, hβ1, hβ2, h113, h119, h122, h127, h132, h157, h159, h161, h194, h196, h198, c73, c106] <;> rfl))
      have x233 : cf .f32 r5 = (oneB A_b).lo.z := by (first | (have hax : axB A_b = 0 := by (simp only [axB, gtF, dimB, h2, h4, h6, h8, h10, h12, hβ1, hβ2, h113, h119, h122, h127, h132, h157, h159, h161, h194, h196, h198, c73, c106, pickV_0, pickV_1, pickV_2, setV_0, setV_1, setV_2, if_true, if_false, Bool.false_eq_true, ↓reduceIte]; done)); (simp only [oneB, twoB, midB, dimB, hax, half_two, pickV_0, pickV_1, pickV_2, setV_0, setV_1, setV_2, h2, h4, h6, h8, h10, h12, hβ1, hβ2, h113, h119, h122, h127, h132, h157, h159, h161, h194, h196, h198, c73, c106] <;> rfl) | (have hax : axB A_b = 1 := by (simp only [axB, gtF, dimB, h2, h4, h6, h8, h10, h12, hβ1, hβ2, h113, h119, h122, h127, h132, h157, h159, h161, h194, h196, h198, c73, c106, pickV_0, pickV_1, pickV_2, setV_0, setV_1, setV_2, if_true, if_false, Bool.false_eq_true, ↓reduceIte]; done)); (simp only [oneB, twoB, midB, dimB, hax, half_two, pickV_0, pickV_1, pickV_2, setV_0, setV_1, setV_2, h2, h4, h6, h8, h10, h12, hβ1, hβ2, h113, h119, h122, h127, h132, h157, h159, h161, h194, h196, h198, c73, c106] <;> rfl) | (have hax : axB A_b = 2 := by (simp only [axB, gtF, dimB, h2, h4, h6, h8, h10, h12, hβ1, hβ2, h113, h119, h122, h127, h132, h157, h159, h161, h194, h196, h198, c73, c106, pickV_0, pickV_1, pickV_2, setV_0, setV_1, setV_2, if_true, if_false, Bool.false_eq_true, ↓reduceIte]; done)); (simp only [oneB, twoB, midB, dimB, hax, half_two, pickV_0, pickV_1, pickV_2, setV_0, setV_1, setV_2, h2, h4, h6, h8, h10, h12, hβ1, hβ2, h113, h119, h122, h127, h132, h157, h159, h161, h194, h196, h198, c73, c106] <;> rfl))
      have x234 : cf .f32 r156 = (oneB A_b).hi.x := by (first | (have hax : axB A_b = 0 := by (simp only [axB, gtF, dimB, h2, h4, h6, h8, h10, h12, hβ1, hβ2, h113, h119, h122, h127, h132, h157, h159, h161, h194, h196, h198, c73, c106, pickV_0, pickV_1, pickV_2, setV_0, setV_1, setV_2, if_true, if_false, Bool.false_eq_true, ↓reduceIte]; done)); (simp only [oneB, twoB, midB, dimB, hax, half_two, pickV_0, pickV_1, pickV_2, setV_0, setV_1, setV_2, h2, h4, h6, h8, h10, h12, hβ1, hβ2, h113, h119, h122, h127, h132, h157, h159, h161, h194, h196, h198, c73, c106] <;> rfl) | (have hax : axB A_b = 1 := by (simp only [axB, gtF, dimB, h2, h4, h6, h8, h10, h12, hβ1, hβ2, h113, h119, h122, h127, h132, h157, h159, h161, h194, h196, h198, c73, c106, pickV_0, pickV_1, pickV_2, setV_0, setV_1, setV_2, if_true, if_false, Bool.false_eq_true, ↓reduceIte]; done)); (simp only [oneB, twoB, midB, dimB, hax, half_two, pickV_0, pickV_1, pickV_2, setV_0, setV_1, setV_2, h2, h4, h6, h8, h10, h12, hβ1, hβ2, h113, h119, h122, h127, h132, h157, h159, h161, h194, h196, h198, c73, c106] <;> rfl) | (have hax : axB A_b = 2 := by (simp only [axB, gtF, dimB, h2, h4, h6, h8, h10, h12, hβ1, hβ2, h113, h119, h122, h127, h132, h157, h159, h161, h194, h196, h198, c73, c106, pickV_0, pickV_1, pickV_2, setV_0, setV_1, setV_2, if_true, if_false, Bool.false_eq_true, ↓reduceIte]; done)); (simp only [oneB, twoB, midB, dimB, hax, half_two, pickV_0, pickV_1, pickV_2, setV_0, setV_1, setV_2, h2, h4, h6, h8, h10, h12, hβ1, hβ2, h113, h119, h122, h127, h132, h157, h159, h161, h194, h196, h198, c73, c106] <;> rfl))
      have x235 : cf .f32 r158 = (oneB A_b).hi.y := by (first | (have hax : axB A_b = 0 := by (simp only [axB, gtF, dimB, h2, h4, h6, h8, h10, h12, hβ1, hβ2, h113, h119, h122, h127, h132, h157, h159, h161, h194, h196, h198, c73, c106, pickV_0, pickV_1, pickV_2, setV_0, setV_1, setV_2, if_true, if_false, Bool.false_eq_true, ↓reduceIte]; done)); (simp only [oneB, twoB, midB, dimB, hax, half_two, pickV_0, pickV_1, pickV_2, setV_0, setV_1, setV_2, h2, h4, h6, h8, h10, h12, hβ1, hβ2, h113, h119, h122, h127, h132, h157, h159, h161, h194, h196, h198, c73, c106] <;> rfl) | (have hax : axB A_b = 1 := by (simp only [axB, gtF, dimB, h2, h4, h6, h8, h10, h12, hβ1, hβ2, h113, h119, h122, h127, h132, h157, h159, h161, h194, h196, h198, c73, c106, pickV_0, pickV_1, pickV_2, setV_0, setV_1, setV_2, if_true, if_false, Bool.false_eq_true, ↓reduceIte]; done)); (simp only [oneB, twoB, midB, dimB, hax, half_two, pickV_0, pickV_1, pickV_2, setV_0, setV_1, setV_2, h2, h4, h6, h8, h10, h12, hβ1, hβ2, h113, h119, h122, h127, h132, h157, h159, h161, h194, h196, h198, c73, c106] <;> rfl) | (have hax : axB A_b = 2 := by (simp only [axB, gtF, dimB, h2, h4, h6, h8, h10, h12, hβ1, hβ2, h113, h119, h122, h127, h132, h157, h159, h161, h194, h196, h198, c73, c106, pickV_0, pickV_1, pickV_2, setV_0, setV_1, setV_2, if_true, if_false, Bool.false_eq_true, ↓reduceIte]; done)); (simp only [oneB, twoB, midB, dimB, hax, half_two, pickV_0, pickV_1, pickV_2, setV_0, setV_1, setV_2, h2, h4, h6, h8, h10, h12, hβ1, hβ2, h113, h119, h122, h127, h132, h157, h159, h161, h194, h196, h198, c73, c106] <;> rfl))
      have x236 : cf .f32 r160 = (oneB A_b).hi.z := by (first | (have hax : axB A_b = 0 := by (simp only [axB, gtF, dimB, h2, h4, h6, h8, h10, h12, hβ1, hβ2, h113, h119, h122, h127, h132, h157, h159, h161, h194, h196, h198, c73, c106, pickV_0, pickV_1, pickV_2, setV_0, setV_1, setV_2, if_true, if_false, Bool.false_eq_true, ↓reduceIte]; done)); (simp only [oneB, twoB, midB, dimB, hax, half_two, pickV_0, pickV_1, pickV_2, setV_0, setV_1, setV_2, h2, h4, h6, h8, h10, h12, hβ1, hβ2, h113, h119, h122, h127, h132, h157, h159, h161, h194, h196, h198, c73, c106] <;> rfl) | (have hax : axB A_b = 1 := by (simp only [axB, gtF, dimB, h2, h4, h6, h8, h10, h12, hβ1, hβ2, h113, h119, h122, h127, h132, h157, h159, h161, h194, h196, h198, c73, c106, pickV_0, pickV_1, pickV_2, setV_0, setV_1, setV_2, if_true, if_false, Bool.false_eq_true, ↓reduceIte]; done)); (simp only [oneB, twoB, midB, dimB, hax, half_two, pickV_0, pickV_1, pickV_2, setV_0, setV_1, setV_2, h2, h4, h6, h8, h10, h12, hβ1, hβ2, h113, h119, h122, h127, h132, h157, h159, h161, h194, h196, h198, c73, c106] <;> rfl) | (have hax : axB A_b = 2 := by (simp only [axB, gtF, dimB, h2, h4, h6, h8, h10, h12, hβ1, hβ2, h113, h119, h122, h127, h132, h157, h159, h161, h194, h196, h198, c73, c106, pickV_0, pickV_1, pickV_2, setV_0, setV_1, setV_2, if_true, if_false, Bool.false_eq_true, ↓reduceIte]; done)); (simp only [oneB, twoB, midB, dimB, hax, half_two, pickV_0, pickV_1, pickV_2, setV_0, setV_1, setV_2, h2, h4, h6, h8, h10, h12, hβ1, hβ2, h113, h119, h122, h127, h132, h157, h159, h161, h194, h196, h198, c73, c106] <;> rfl))
      have x237 : cf .f32 r193 = (twoB A_b).lo.x := by (first | (have hax : axB A_b = 0 := by (simp only [axB, gtF, dimB, h2, h4, h6, h8, h10, h12, hβ1, hβ2, h113, h119, h122, h127, h132, h157, h159, h161, h194, h196, h198, c73, c106, pickV_0, pickV_1, pickV_2, setV_0, setV_1, setV_2, if_true, if_false, Bool.false_eq_true, ↓reduceIte]; done)); (simp only [oneB, twoB, midB, dimB, hax, half_two, pickV_0, pickV_1, pickV_2, setV_0, setV_1, setV_2, h2, h4, h6, h8, h10, h12, hβ1, hβ2, h113, h119, h122, h127, h132, h157, h159, h161, h194, h196, h198, c73, c106] <;> rfl) | (have hax : axB A_b = 1 := by (simp only [axB, gtF, dimB, h2, h4, h6, h8, h10, h12, hβ1, hβ2, h113, h119, h122, h127, h132, h157, h159, h161, h194, h196, h198, c73, c106, pickV_0, pickV_1, pickV_2, setV_0, setV_1, setV_2, if_true, if_false, Bool.false_eq_true, ↓reduceIte]; done)); (simp only [oneB, twoB, midB, dimB, hax, half_two, pickV_0, pickV_1, pickV_2, setV_0, setV_1, setV_2, h2, h4, h6, h8, h10, h12, hβ1, hβ2, h113, h119, h122, h127, h132, h157, h159, h161, h194, h196, h198, c73, c106] <;> rfl) | (have hax : axB A_b = 2 := by (simp only [axB, gtF, dimB, h2, h4, h6, h8, h10, h12, hβ1, hβ2, h113, h119, h122, h127, h132, h157, h159, h161, h194, h196, h198, c73, c106, pickV_0, pickV_1, pickV_2, setV_0, setV_1, setV_2, if_true, if_false, Bool.false_eq_true, ↓reduceIte]; done)); (simp only [oneB, twoB, midB, dimB, hax, half_two, pickV_0, pickV_1, pickV_2, setV_0, setV_1, setV_2, h2, h4, h6, h8, h10, h12, hβ1, hβ2, h113, h119, h122, h127, h132, h157, h159, h161, h194, h196, h198, c73, c106] <;> rfl))
      have x238 : cf .f32 r195 = (twoB A_b).lo.y := by (first | (have hax : axB A_b = 0 := by (simp only [axB, gtF, dimB, h2, h4, h6, h8, h10, h12, hβ1, hβ2, h113, h119, h122, h127, h132, h157, h159, h161, h194, h196, h198, c73, c106, pickV_0, pickV_1, pickV_2, setV_0, setV_1, setV_2, if_true, if_false, Bool.false_eq_true, ↓reduceIte]; done)); (simp only [oneB, twoB, midB, dimB, hax, half_two, pickV_0, pickV_1, pickV_2, setV_0, setV_1, setV_2, h2, h4, h6, h8, h10, h12, hβ1, hβ2, h113, h119, h122, h127, h132, h157, h159, h161, h194, h196, h198, c73, c106] <;> rfl) | (have hax : axB A_b = 1 := by (simp only [axB, gtF, dimB, h2, h4, h6, h8, h10, h12, hβ1, hβ2, h113, h119, h122, h127, h132, h157, h159, h161, h194, h196, h198, c73, c106, pickV_0, pickV_1, pickV_2, setV_0, setV_1, setV_2, if_true, if_false, Bool.false_eq_true, ↓reduceIte]; done)); (simp only [oneB, twoB, midB, dimB, hax, half_two, pickV_0, pickV_1, pickV_2, setV_0, setV_1, setV_2, h2, h4, h6, h8, h10, h12, hβ1, hβ2, h113, h119, h122, h127, h132, h157, h159, h161, h194, h196, h198, c73, c106] <;> rfl) | (have hax : axB A_b = 2 := by (simp only [axB, gtF, dimB, h2, h4, h6, h8, h10, h12, hβ1, hβ2, h113, h119, h122, h127, h132, h157, h159, h161, h194, h196, h198, c73, c106, pickV_0, pickV_1, pickV_2, setV_0, setV_1, setV_2, if_true, if_false, Bool.false_eq_true, ↓reduceIte]; done)); (simp only [oneB, twoB, midB, dimB, hax, half_two, pickV_0, pickV_1, pickV_2, setV_0, setV_1, setV_2, h2, h4, h6, h8, h10, h12, hβ1, hβ2, h113, h119, h122, h127, h132, h157, h159, h161, h194, h196, h198, c73, c106] <;> rfl))
      have x239 : cf .f32 r197 = (twoB A_b).lo.z := by (first | (have hax : axB A_b = 0 := by (simp only [axB, gtF, dimB, h2, h4, h6, h8, h10, h12, hβ1, hβ2, h113, h119, h122, h127, h132, h157, h159, h161, h194, h196, h198, c73, c106, pickV_0, pickV_1, pickV_2, setV_0, setV_1, setV_2, if_true, if_false, Bool.false_eq_true, ↓reduceIte]; done)); (simp only [oneB, twoB, midB, dimB, hax, half_two, pickV_0, pickV_1, pickV_2, setV_0, setV_1, setV_2, h2, h4, h6, h8, h10, h12, hβ1, hβ2, h113, h119, h122, h127, h132, h157, h159, h161, h194, h196, h198, c73, c106] <;> rfl) | (have hax : axB A_b = 1 := by (simp only [axB, gtF, dimB, h2, h4, h6, h8, h10, h12, hβ1, hβ2, h113, h119, h122, h127, h132, h157, h159, h161, h194, h196, h198, c73, c106, pickV_0, pickV_1, pickV_2, setV_0, setV_1, setV_2, if_true, if_false, Bool.false_eq_true, ↓reduceIte]; done)); (simp only [oneB, twoB, midB, dimB, hax, half_two, pickV_0, pickV_1, pickV_2, setV_0, setV_1, setV_2, h2, h4, h6, h8, h10, h12, hβ1, hβ2, h113, h119, h122, h127, h132, h157, h159, h161, h194, h196, h198, c73, c106] <;> rfl) | (have hax : axB A_b = 2 := by (simp only [axB, gtF, dimB, h2, h4, h6, h8, h10, h12, hβ1, hβ2, h113, h119, h122, h127, h132, h157, h159, h161, h194, h196, h198, c73, c106, pickV_0, pickV_1, pickV_2, setV_0, setV_1, setV_2, if_true, if_false, Bool.false_eq_true, ↓reduceIte]; done)); (simp only [oneB, twoB, midB, dimB, hax, half_two, pickV_0, pickV_1, pickV_2, setV_0, setV_1, setV_2, h2, h4, h6, h8, h10, h12, hβ1, hβ2, h113, h119, h122, h127, h132, h157, h159, h161, h194, h196, h198, c73, c106] <;> rfl))
      have x240 : cf .f32 r7 = (twoB A_b).hi.x := by (first | (have hax : axB A_b = 0 := by (simp only [axB, gtF, dimB, h2, h4, h6, h8, h10, h12, hβ1, hβ2, h113, h119, h122, h127, h132, h157, h159, h161, h194, h196, h198, c73, c106, pickV_0, pickV_1, pickV_2, setV_0, setV_1, setV_2, if_true, if_false, Bool.false_eq_true, ↓reduceIte]; done)); (simp only [oneB, twoB, midB, dimB, hax, half_two, pickV_0, pickV_1, pickV_2, setV_0, setV_1, setV_2, h2, h4, h6, h8, h10, h12, hβ1, hβ2, h113, h119, h122, h127, h132, h157, h159, h161, h194, h196, h198, c73, c106] <;> rfl) | (have hax : axB A_b = 1 := by (simp only [axB, gtF, dimB, h2, h4, h6, h8, h10, h12, hβ1, hβ2, h113, h119, h122, h127, h132, h157, h159, h161, h194, h196, h198, c73, c106, pickV_0, pickV_1, pickV_2, setV_0, setV_1, setV_2, if_true, if_false, Bool.false_eq_true, ↓reduceIte]; done)); (simp only [oneB, twoB, midB, dimB, hax, half_two, pickV_0, pickV_1, pickV_2, setV_0, setV_1, setV_2, h2, h4, h6, h8, h10, h12, hβ1, hβ2, h113, h119, h122, h127, h132, h157, h159, h161, h194, h196, h198, c73, c106] <;> rfl) | (have hax : axB A_b = 2 := by (simp only [axB, gtF, dimB, h2, h4, h6, h8, h10, h12, hβ1, hβ2, h113, h119, h122, h127, h132, h157, h159, h161, h194, h196, h198, c73, c106, pickV_0, pickV_1, pickV_2, setV_0, setV_1, setV_2, if_true, if_false, Bool.false_eq_true, ↓reduceIte]; done)); (simp only [oneB, twoB, midB, dimB, hax, half_two, pickV_0, pickV_1, pickV_2, setV_0, setV_1, setV_2, h2, h4, h6, h8, h10, h12, hβ1, hβ2, h113, h119, h122, h127, h132, h157, h159, h161, h194, h196, h198, c73, c106] <;> rfl))
      have x241 : cf .f32 r9 = (twoB A_b).hi.y := by (first | (have hax : axB A_b = 0 := by (simp only [axB, gtF, dimB, h2, h4, h6, h8, h10, h12, hβ1, hβ2, h113, h119, h122, h127, h132, h157, h159, h161, h194, h196, h198, c73, c106, pickV_0, pickV_1, pickV_2, setV_0, setV_1, setV_2, if_true, if_false, Bool.false_eq_true, ↓reduceIte]; done)); (simp only [oneB, twoB, midB, dimB, hax, half_two, pickV_0, pickV_1, pickV_2, setV_0, setV_1, setV_2, h2, h4, h6, h8, h10, h12, hβ1, hβ2, h113, h119, h122, h127, h132, h157, h159, h161, h194, h196, h198, c73, c106] <;> rfl) | (have hax : axB A_b = 1 := by (simp only [axB, gtF, dimB, h2, h4, h6, h8, h10, h12, hβ1, hβ2, h113, h119, h122, h127, h132, h157, h159, h161, h194, h196, h198, c73, c106, pickV_0, pickV_1, pickV_2, setV_0, setV_1, setV_2, if_true, if_false, Bool.false_eq_true, ↓reduceIte]; done)); (simp only [oneB, twoB, midB, dimB, hax, half_two, pickV_0, pickV_1, pickV_2, setV_0, setV_1, setV_2, h2, h4, h6, h8, h10, h12, hβ1, hβ2, h113, h119, h122, h127, h132, h157, h159, h161, h194, h196, h198, c73, c106] <;> rfl) | (have hax : axB A_b = 2 := by (simp only [axB, gtF, dimB, h2, h4, h6, h8, h10, h12, hβ1, hβ2, h113, h119, h122, h127, h132, h157, h159, h161, h194, h196, h198, c73, c106, pickV_0, pickV_1, pickV_2, setV_0, setV_1, setV_2, if_true, if_false, Bool.false_eq_true, ↓reduceIte]; done)); (simp only [oneB, twoB, midB, dimB, hax, half_two, pickV_0, pickV_1, pickV_2, setV_0, setV_1, setV_2, h2, h4, h6, h8, h10, h12, hβ1, hβ2, h113, h119, h122, h127, h132, h157, h159, h161, h194, h196, h198, c73, c106] <;> rfl))
      have x242 : cf .f32 r11 = (twoB A_b).hi.z := by (first | (have hax : axB A_b = 0 := by (simp only [axB, gtF, dimB, h2, h4, h6, h8, h10, h12, hβ1, hβ2, h113, h119, h122, h127, h132, h157, h159, h161, h194, h196, h198, c73, c106, pickV_0, pickV_1, pickV_2, setV_0, setV_1, setV_2, if_true, if_false, Bool.false_eq_true, ↓reduceIte]; done)); (simp only [oneB, twoB, midB, dimB, hax, half_two, pickV_0, pickV_1, pickV_2, setV_0, setV_1, setV_2, h2, h4, h6, h8, h10, h12, hβ1, hβ2, h113, h119, h122, h127, h132, h157, h159, h161, h194, h196, h198, c73, c106] <;> rfl) | (have hax : axB A_b = 1 := by (simp only [axB, gtF, dimB, h2, h4, h6, h8, h10, h12, hβ1, hβ2, h113, h119, h122, h127, h132, h157, h159, h161, h194, h196, h198, c73, c106, pickV_0, pickV_1, pickV_2, setV_0, setV_1, setV_2, if_true, if_false, Bool.false_eq_true, ↓reduceIte]; done)); (simp only [oneB, twoB, midB, dimB, hax, half_two, pickV_0, pickV_1, pickV_2, setV_0, setV_1, setV_2, h2, h4, h6, h8, h10, h12, hβ1, hβ2, h113, h119, h122, h127, h132, h157, h159, h161, h194, h196, h198, c73, c106] <;> rfl) | (have hax : axB A_b = 2 := by (simp only [axB, gtF, dimB, h2, h4, h6, h8, h10, h12, hβ1, hβ2, h113, h119, h122, h127, h132, h157, h159, h161, h194, h196, h198, c73, c106, pickV_0, pickV_1, pickV_2, setV_0, setV_1, setV_2, if_true, if_false, Bool.false_eq_true, ↓reduceIte]; done)); (simp only [oneB, twoB, midB, dimB, hax, half_two, pickV_0, pickV_1, pickV_2, setV_0, setV_1, setV_2, h2, h4, h6, h8, h10, h12, hβ1, hβ2, h113, h119, h122, h127, h132, h157, h159, h161, h194, h196, h198, c73, c106] <;> rfl))
      exact ⟨[(Fl r1), (Fl r3), (Fl r5), (Fl r156), (Fl r158), (Fl r160)], [(Fl r193), (Fl r195), (Fl r197), (Fl r7), (Fl r9), (Fl r11)], rfl, ⟨r1, r3, r5, r156, r158, r160, rfl, x231, x232, x233, x234, x235, x236⟩, ⟨r193, r195, r197, r7, r9, r11, rfl, x237, x238, x239, x240, x241, x242⟩⟩
    have c106' := c106
    (try simp only [hβ1, hβ2] at c106')
    (try simp only [icmp, Bool.and_eq_true, Bool.or_eq_true, Bool.and_eq_false_iff, Bool.or_eq_false_iff, Bool.not_eq_true', Bool.not_eq_false', decide_eq_true_eq, decide_eq_false_iff_not, beq_iff_eq, bne_iff_ne, beq_eq_false_iff_ne, bne_eq_false_iff_eq] at c106')
    simp only [h2, h4, h6, h8, h10, h12, hβ1, hβ2, pickV_0, pickV_1, pickV_2, setV_0, setV_1, setV_2] at c106
    refine wp_skip (hK76 _ _ ?_)
    refine wp_region_lit ?_
    refine q_is rfl rfl (does_move (u := (Iv 2)) (ev rfl)) (by dsimp only [List.set]; try rfl) ?_
    refine q_is rfl rfl (does_iarith (p := 2) (q := 1) (r := (3)) (ev rfl) (ev rfl) (.inl ⟨rfl, rfl⟩)) (by dsimp only [List.set]; try rfl) ?_
    refine q_is rfl rfl (does_assign (u := (Iv 3)) (ev rfl)) (by dsimp only [List.set]; try rfl) ?_
    refine wpList_nil ?_
    refine un_step ?_
    refine wp_seq_k fun K243 hK243 => ?_
    refine wp_seq_k fun K244 hK244 => ?_
    refine wp_region_lit ?_
    refine q_is rfl rfl (does_move (u := (Iv 3)) (ev rfl)) (by dsimp only [List.set]; try rfl) ?_
    refine q_is rfl rfl (does_icmp (p := 3) (q := 3) (.inr (.inr (.inl rfl))) (ev rfl) (ev rfl)) (by dsimp only [List.set]; try rfl) ?_
    refine wpList_nil (hK244 _ _ ?_)
    refine wp_cond_false (ev rfl) ?_
    refine wp_exit ?_
    refine hK39 _ _ ?_
    refine wp_seq_k fun K245 hK245 => ?_
    refine wp_region_lit ?_
    refine q_is rfl rfl (does_fieldAddr (ev rfl) fa29_0) (by dsimp only [List.set]; try rfl) ?_
    refine q_is rfl rfl (does_loadAgg (cs := [(Fl r1), (Fl r3), (Fl r5)]) (ev rfl) Try.isAgg27 Try.sizeOf27 (Cells.sub (Blk.cells ((((((hB16.ext E24).ext E32).ext E46).ext E69).ext E79).ext E102)) 0 3) rfl) (by dsimp only [List.set]; try rfl) ?_
    refine q_is rfl rfl (does_move (u := (Iv 1)) (ev rfl)) (by dsimp only [List.set]; try rfl) ?_
    refine seqd rfl rfl (does_call (args := #[(.agg #[(Fl r1), (Fl r3), (Fl r5)]), (Iv 1)]) cal16 (evs rfl) (c_spec_l02Pick [(Fl r1), (Fl r3), (Fl r5)] A_b.lo 1 _ ⟨r1, r3, r5, rfl, h2, h4, h6⟩)) ?_; rintro _ w247 ⟨E246, ⟨r248, rfl, h249⟩⟩
    have X250 := Ext.gr X105 E246
    show wpList _ _ _ _ (fr [_, _, _, _, _, _, _, _, _, _, _, _, _, _, _, _, _, _, _, _, _, _, _, _, _, _, _, _, _, _, _, _, _, _, _, _, _, _, _, _, _, _, _, _, _, _, _, _, _, _, _, _, _, _, _, _, _, _, _, _, _, _, _, _, _]) _
    refine q_is rfl rfl (does_assign (u := (Fl r248)) (ev rfl)) (by dsimp only [List.set]; try rfl) ?_
    refine wpList_nil (hK245 _ _ ?_)
    refine wp_seq_k fun K251 hK251 => ?_
    refine wp_region_lit ?_
    refine q_is rfl rfl (does_move (u := (Fl r248)) (ev rfl)) (by dsimp only [List.set]; try rfl) ?_
    refine q_is rfl rfl (does_fieldAddr (ev rfl) fa29_1) (by dsimp only [List.set]; try rfl) ?_
    refine q_is rfl rfl (does_loadAgg (cs := [(Fl r7), (Fl r9), (Fl r11)]) (ev rfl) Try.isAgg27 Try.sizeOf27 (Cells.sub (Blk.cells (((((((hB16.ext E24).ext E32).ext E46).ext E69).ext E79).ext E102).ext E246)) 3 3) rfl) (by dsimp only [List.set]; try rfl) ?_
    refine q_is rfl rfl (does_move (u := (Iv 1)) (ev rfl)) (by dsimp only [List.set]; try rfl) ?_
    refine seqd rfl rfl (does_call (args := #[(.agg #[(Fl r7), (Fl r9), (Fl r11)]), (Iv 1)]) cal16 (evs rfl) (c_spec_l02Pick [(Fl r7), (Fl r9), (Fl r11)] A_b.hi 1 _ ⟨r7, r9, r11, rfl, h8, h10, h12⟩)) ?_; rintro _ w253 ⟨E252, ⟨r254, rfl, h255⟩⟩
    have X256 := Ext.gr X250 E252
    show wpList _ _ _ _ (fr [_, _, _, _, _, _, _, _, _, _, _, _, _, _, _, _, _, _, _, _, _, _, _, _, _, _, _, _, _, _, _, _, _, _, _, _, _, _, _, _, _, _, _, _, _, _, _, _, _, _, _, _, _, _, _, _, _, _, _, _, _, _, _, _, _]) _
    refine q_is rfl rfl (does_move (u := (Fl r248)) (ev rfl)) (by dsimp only [List.set]; try rfl) ?_
    refine seqd rfl rfl (does_float (.inr (.inl rfl)) (ev rfl) (ev rfl)) ?_; rintro _ w260 ⟨r257, rfl, h258, E259⟩
    have X261 := Ext.gr X256 E259
    show wpList _ _ _ _ (fr [_, _, _, _, _, _, _, _, _, _, _, _, _, _, _, _, _, _, _, _, _, _, _, _, _, _, _, _, _, _, _, _, _, _, _, _, _, _, _, _, _, _, _, _, _, _, _, _, _, _, _, _, _, _, _, _, _, _, _, _, _, _, _, _, _]) _
    refine seqd rfl rfl (does_float (.inr (.inr (.inl rfl))) (ev rfl) (ev rfl)) ?_; rintro _ w265 ⟨r262, rfl, h263, E264⟩
    have X266 := Ext.gr X261 E264
    show wpList _ _ _ _ (fr [_, _, _, _, _, _, _, _, _, _, _, _, _, _, _, _, _, _, _, _, _, _, _, _, _, _, _, _, _, _, _, _, _, _, _, _, _, _, _, _, _, _, _, _, _, _, _, _, _, _, _, _, _, _, _, _, _, _, _, _, _, _, _, _, _]) _
    refine seqd rfl rfl (does_float (.inl rfl) (ev rfl) (ev rfl)) ?_; rintro _ w270 ⟨r267, rfl, h268, E269⟩
    have X271 := Ext.gr X266 E269
    show wpList _ _ _ _ (fr [_, _, _, _, _, _, _, _, _, _, _, _, _, _, _, _, _, _, _, _, _, _, _, _, _, _, _, _, _, _, _, _, _, _, _, _, _, _, _, _, _, _, _, _, _, _, _, _, _, _, _, _, _, _, _, _, _, _, _, _, _, _, _, _, _]) _
    refine q_is rfl rfl (does_assign (u := (Fl r267)) (ev rfl)) (by dsimp only [List.set]; try rfl) ?_
    refine wpList_nil (hK251 _ _ ?_)
    refine wp_seq_k fun K272 hK272 => ?_
    refine region_draw (
      [Fact.pure [] (fun v => v = (Pt b14 0)),
    Fact.pure [47] (fun v => v = (.agg #[(Fl r1), (Fl r3), (Fl r5)])),
    Fact.pure [] (fun v => v = (Pt b14 3)),
    Fact.pure [49] (fun v => v = (.agg #[(Fl r7), (Fl r9), (Fl r11)])),
    Fact.pure [] (fun v => v = (Iv 1)),
    Fact.pure [] (fun v => v = (Fl r267)),
    Fact.pure [50, 51, 52] (fun v => ∃ cs_1 : List Value, v = (.agg cs_1.toArray) ∧ RV3 w (setV A_b.hi 1 (cf .f32 r267)) cs_1),
    Fact.pure [48, 53] (fun v => ∃ r_1 : Nat, ∃ r_2 : Nat, ∃ r_3 : Nat, v = (.agg #[(Fl r1), (Fl r3), (Fl r5), (Fl r_1), (Fl r_2), (Fl r_3)]) ∧ cf .f32 r_1 = (setV A_b.hi 1 (cf .f32 r267)).x ∧ cf .f32 r_2 = (setV A_b.hi 1 (cf .f32 r267)).y ∧ cf .f32 r_3 = (setV A_b.hi 1 (cf .f32 r267)).z),
    Fact.mem [] (fun v w' => ∃ b : Nat, v = .pointer (some ⟨b, 0, none⟩) ∧ w270.heap.size ≤ b ∧ Blk w' b [(Fl 0), (Fl 0), (Fl 0), (Fl 0), (Fl 0), (Fl 0)]) (by rintro v w1 w2 hx ⟨b, rfl, hb, hB⟩; exact ⟨b, rfl, hb, (hB.ext hx)⟩)]) mixed (by kernel_rfl) (by intro _ _ d _ _ h; cases d <;> exact h) ?_
    obtain ⟨w273, hw275⟩ : ∃ w', w' = World.drew w270 := ⟨_, rfl⟩; rw [← hw275]; have E274 : Ext w270 w273 := by rw [hw275]; exact Ext.draw _
    clear hw275
    have X276 := Ext.gr X271 E274
    refine RW_d _ rfl (fun v => by dsimp only [List.set]; try rfl) (fun u hu hF => ?_) (fun v277 => ?_)
    · clear hF
      refine doesG_un rfl ?_
      refine (does_fieldAddr (ev rfl) fa29_0).mono ?_; rintro _ _ ⟨rfl, rfl⟩
      exact ⟨rfl, Ext.refl _⟩
    refine RW_d _ rfl (fun v => by dsimp only [List.set]; try rfl) (fun u hu hF => ?_) (fun v278 => ?_)
    · have h47_ : v277 = (Pt b14 0) := hF.1
      clear hF
      refine doesG_un rfl ?_
      obtain rfl := h47_
      refine (does_loadAgg (cs := [(Fl r1), (Fl r3), (Fl r5)]) (ev rfl) Try.isAgg27 Try.sizeOf27 (Cells.sub (Blk.cells (((((((((((((hB16.ext E24).ext E32).ext E46).ext E69).ext E79).ext E102).ext E246).ext E252).ext E259).ext E264).ext E269).ext E274).ext hu)) 0 3) rfl).mono ?_; rintro _ _ ⟨rfl, rfl⟩
      exact ⟨rfl, Ext.refl _⟩
    refine RW_d _ rfl (fun v => by dsimp only [List.set]; try rfl) (fun u hu hF => ?_) (fun v279 => ?_)
    · clear hF
      refine doesG_un rfl ?_
      refine (does_fieldAddr (ev rfl) fa29_1).mono ?_; rintro _ _ ⟨rfl, rfl⟩
      exact ⟨rfl, Ext.refl _⟩
    refine RW_d _ rfl (fun v => by dsimp only [List.set]; try rfl) (fun u hu hF => ?_) (fun v280 => ?_)
    · have h49_ : v279 = (Pt b14 3) := hF.1
      clear hF
      refine doesG_un rfl ?_
      obtain rfl := h49_
      refine (does_loadAgg (cs := [(Fl r7), (Fl r9), (Fl r11)]) (ev rfl) Try.isAgg27 Try.sizeOf27 (Cells.sub (Blk.cells (((((((((((((hB16.ext E24).ext E32).ext E46).ext E69).ext E79).ext E102).ext E246).ext E252).ext E259).ext E264).ext E269).ext E274).ext hu)) 3 3) rfl).mono ?_; rintro _ _ ⟨rfl, rfl⟩
      exact ⟨rfl, Ext.refl _⟩
    refine RW_d _ rfl (fun v => by dsimp only [List.set]; try rfl) (fun u hu hF => ?_) (fun v281 => ?_)
    · clear hF
      refine doesG_un rfl ?_
      refine (does_move (u := (Iv 1)) (ev rfl)).mono ?_; rintro _ _ ⟨rfl, rfl⟩
      exact ⟨rfl, Ext.refl _⟩
    refine RW_d _ rfl (fun v => by dsimp only [List.set]; try rfl) (fun u hu hF => ?_) (fun v282 => ?_)
    · clear hF
      refine doesG_un rfl ?_
      refine (does_move (u := (Fl r267)) (ev rfl)).mono ?_; rintro _ _ ⟨rfl, rfl⟩
      exact ⟨rfl, Ext.refl _⟩
    refine RW_d _ rfl (fun v => by dsimp only [List.set]; try rfl) (fun u hu hF => ?_) (fun v283 => ?_)
    · have h50_ : v280 = (.agg #[(Fl r7), (Fl r9), (Fl r11)]) := hF.1
      have h51_ : v281 = (Iv 1) := hF.2.1
      have h52_ : v282 = (Fl r267) := hF.2.2.1
      clear hF
      refine doesG_un rfl ?_
      obtain rfl := h50_
      obtain rfl := h51_
      obtain rfl := h52_
      refine (does_call (args := #[(.agg #[(Fl r7), (Fl r9), (Fl r11)]), (Iv 1), (Fl r267)]) cal17 (evs rfl) (c_spec_l02Set [(Fl r7), (Fl r9), (Fl r11)] A_b.hi 1 r267 _ ⟨r7, r9, r11, rfl, h8, h10, h12⟩)).mono ?_; rintro v u' ⟨hx, ⟨csn1, hv, k0⟩⟩
      exact ⟨⟨csn1, hv, k0⟩, hx⟩
    refine RW_d _ rfl (fun v => by dsimp only [List.set]; try rfl) (fun u hu hF => ?_) (fun v284 => ?_)
    · have h48_ : v278 = (.agg #[(Fl r1), (Fl r3), (Fl r5)]) := hF.1
      have h53_ : ∃ cs_1 : List Value, v283 = (.agg cs_1.toArray) ∧ RV3 w (setV A_b.hi 1 (cf .f32 r267)) cs_1 := hF.2.1
      clear hF
      refine doesG_un rfl ?_
      obtain rfl := h48_
      obtain ⟨_, rfl, ⟨r53_1, r53_3, r53_5, rfl, h53_2, h53_4, h53_6⟩⟩ := h53_
      refine (does_build (parts' := [(0, (.agg #[(Fl r1), (Fl r3), (Fl r5)])), (1, (.agg #[(Fl r53_1), (Fl r53_3), (Fl r53_5)]))]) (cells := #[(Fl r1), (Fl r3), (Fl r5), (Fl r53_1), (Fl r53_3), (Fl r53_5)]) (evp rfl) (by kernel_rfl)).mono ?_; rintro _ _ ⟨rfl, rfl⟩
      exact ⟨⟨r53_1, r53_3, r53_5, rfl, (by simp only [h53_2, h53_4, h53_6]), (by simp only [h53_2, h53_4, h53_6]), (by simp only [h53_2, h53_4, h53_6])⟩, Ext.refl _⟩
    refine RW_d _ rfl (fun v => by dsimp only [List.set]; try rfl) (fun u hu hF => ?_) (fun v285 => ?_)
    · clear hF
      refine doesG_un rfl ?_
      refine (does_alloc z29).mono ?_; rintro _ _ ⟨b, rfl, hb, hB, hx⟩
      exact ⟨⟨b, rfl, Nat.le_trans (Nat.le_trans (Below.size E274) (Below.size hu)) hb, hB⟩, hx⟩
    refine RW_fin ?_; intro w286 E287 hP288
    obtain ⟨⟨⟨⟨⟨⟨⟨⟨⟨-, -⟩, -⟩, -⟩, -⟩, -⟩, -⟩, -⟩, q289⟩, q290⟩ := hP288
    have X291 := Ext.gr X276 E287
    have q289 : ∃ r_1 : Nat, ∃ r_2 : Nat, ∃ r_3 : Nat, v284 = (.agg #[(Fl r1), (Fl r3), (Fl r5), (Fl r_1), (Fl r_2), (Fl r_3)]) ∧ cf .f32 r_1 = (setV A_b.hi 1 (cf .f32 r267)).x ∧ cf .f32 r_2 = (setV A_b.hi 1 (cf .f32 r267)).y ∧ cf .f32 r_3 = (setV A_b.hi 1 (cf .f32 r267)).z := q289
    obtain ⟨r292, r294, r296, rfl, h293, h295, h297⟩ := q289
    have q290 : ∃ b : Nat, v285 = .pointer (some ⟨b, 0, none⟩) ∧ w270.heap.size ≤ b ∧ Blk w286 b [(Fl 0), (Fl 0), (Fl 0), (Fl 0), (Fl 0), (Fl 0)] := q290
    obtain ⟨b298, rfl, hb299, hB300⟩ := q290
    have n301 : b14 < b298 := Nat.lt_of_lt_of_le (Blk.lt (((((((((((hB16.ext E24).ext E32).ext E46).ext E69).ext E79).ext E102).ext E246).ext E252).ext E259).ext E264).ext E269)) hb299
    have n302 : b21 < b298 := Nat.lt_of_lt_of_le (Blk.lt ((((((((((hB23.ext E32).ext E46).ext E69).ext E79).ext E102).ext E246).ext E252).ext E259).ext E264).ext E269)) hb299
    have n303 : b29 < b298 := Nat.lt_of_lt_of_le (Blk.lt (((((((((hB31.ext E46).ext E69).ext E79).ext E102).ext E246).ext E252).ext E259).ext E264).ext E269)) hb299
    have g304 : w.heap.size ≤ b298 := Nat.le_trans (Below.size X271) hb299
    show wpList _ _ _ _ (fr [_, _, _, _, _, _, _, _, _, _, _, _, _, _, _, _, _, _, _, _, _, _, _, _, _, _, _, _, _, _, _, _, _, _, _, _, _, _, _, _, _, _, _, _, _, _, _, _, _, _, _, _, _, _, _, _, _, _, _, _, _, _, _, _, _]) _
    refine seqn rfl rfl (does_store (n := 6) (cs := [(Fl 0), (Fl 0), (Fl 0), (Fl 0), (Fl 0), (Fl 0)]) (u := (.agg #[(Fl r1), (Fl r3), (Fl r5), (Fl r292), (Fl r294), (Fl r296)])) (ev rfl) (ev rfl) Try.sizeOf29 rfl hB300 (Nat.le_of_ble_eq_true rfl) rfl) ?_; rintro _ w307 ⟨rfl, W305, hB306⟩
    change Blk _ _ [(Fl r1), (Fl r3), (Fl r5), (Fl r292), (Fl r294), (Fl r296)] at hB306
    have X308 := Below.wr X291 W305 g304
    refine wpList_nil (hK272 _ _ ?_)
    refine wp_seq_k fun K309 hK309 => ?_
    refine region_draw (
      [Fact.pure [] (fun v => v = (Pt b14 0)),
    Fact.pure [55] (fun v => v = (.agg #[(Fl r1), (Fl r3), (Fl r5)])),
    Fact.pure [] (fun v => v = (Iv 1)),
    Fact.pure [] (fun v => v = (Fl r267)),
    Fact.pure [56, 57, 58] (fun v => ∃ cs_1 : List Value, v = (.agg cs_1.toArray) ∧ RV3 w (setV A_b.lo 1 (cf .f32 r267)) cs_1),
    Fact.pure [] (fun v => v = (Pt b14 3)),
    Fact.pure [60] (fun v => v = (.agg #[(Fl r7), (Fl r9), (Fl r11)])),
    Fact.pure [59, 61] (fun v => ∃ r_1 : Nat, ∃ r_2 : Nat, ∃ r_3 : Nat, v = (.agg #[(Fl r_1), (Fl r_2), (Fl r_3), (Fl r7), (Fl r9), (Fl r11)]) ∧ cf .f32 r_1 = (setV A_b.lo 1 (cf .f32 r267)).x ∧ cf .f32 r_2 = (setV A_b.lo 1 (cf .f32 r267)).y ∧ cf .f32 r_3 = (setV A_b.lo 1 (cf .f32 r267)).z),
    Fact.mem [] (fun v w' => ∃ b : Nat, v = .pointer (some ⟨b, 0, none⟩) ∧ w307.heap.size ≤ b ∧ Blk w' b [(Fl 0), (Fl 0), (Fl 0), (Fl 0), (Fl 0), (Fl 0)]) (by rintro v w1 w2 hx ⟨b, rfl, hb, hB⟩; exact ⟨b, rfl, hb, (hB.ext hx)⟩)]) mixed (by kernel_rfl) (by intro _ _ d _ _ h; cases d <;> exact h) ?_
    obtain ⟨w310, hw312⟩ : ∃ w', w' = World.drew w307 := ⟨_, rfl⟩; rw [← hw312]; have E311 : Ext w307 w310 := by rw [hw312]; exact Ext.draw _
    clear hw312
    have X313 := Ext.gr X308 E311
    refine RW_d _ rfl (fun v => by dsimp only [List.set]; try rfl) (fun u hu hF => ?_) (fun v314 => ?_)
    · clear hF
      refine doesG_un rfl ?_
      refine (does_fieldAddr (ev rfl) fa29_0).mono ?_; rintro _ _ ⟨rfl, rfl⟩
      exact ⟨rfl, Ext.refl _⟩
    refine RW_d _ rfl (fun v => by dsimp only [List.set]; try rfl) (fun u hu hF => ?_) (fun v315 => ?_)
    · have h55_ : v314 = (Pt b14 0) := hF.1
      clear hF
      refine doesG_un rfl ?_
      obtain rfl := h55_
      refine (does_loadAgg (cs := [(Fl r1), (Fl r3), (Fl r5)]) (ev rfl) Try.isAgg27 Try.sizeOf27 (Cells.sub (Blk.cells ((((((((((((((((hB16.ext E24).ext E32).ext E46).ext E69).ext E79).ext E102).ext E246).ext E252).ext E259).ext E264).ext E269).ext E274).ext E287).wr W305 (Nat.ne_of_lt n301)).ext E311).ext hu)) 0 3) rfl).mono ?_; rintro _ _ ⟨rfl, rfl⟩
      exact ⟨rfl, Ext.refl _⟩
    refine RW_d _ rfl (fun v => by dsimp only [List.set]; try rfl) (fun u hu hF => ?_) (fun v316 => ?_)
    · clear hF
      refine doesG_un rfl ?_
      refine (does_move (u := (Iv 1)) (ev rfl)).mono ?_; rintro _ _ ⟨rfl, rfl⟩
      exact ⟨rfl, Ext.refl _⟩
    refine RW_d _ rfl (fun v => by dsimp only [List.set]; try rfl) (fun u hu hF => ?_) (fun v317 => ?_)
    · clear hF
      refine doesG_un rfl ?_
      refine (does_move (u := (Fl r267)) (ev rfl)).mono ?_; rintro _ _ ⟨rfl, rfl⟩
      exact ⟨rfl, Ext.refl _⟩
    refine RW_d _ rfl (fun v => by dsimp only [List.set]; try rfl) (fun u hu hF => ?_) (fun v318 => ?_)
    · have h56_ : v315 = (.agg #[(Fl r1), (Fl r3), (Fl r5)]) := hF.1
      have h57_ : v316 = (Iv 1) := hF.2.1
      have h58_ : v317 = (Fl r267) := hF.2.2.1
      clear hF
      refine doesG_un rfl ?_
      obtain rfl := h56_
      obtain rfl := h57_
      obtain rfl := h58_
      refine (does_call (args := #[(.agg #[(Fl r1), (Fl r3), (Fl r5)]), (Iv 1), (Fl r267)]) cal17 (evs rfl) (c_spec_l02Set [(Fl r1), (Fl r3), (Fl r5)] A_b.lo 1 r267 _ ⟨r1, r3, r5, rfl, h2, h4, h6⟩)).mono ?_; rintro v u' ⟨hx, ⟨csn1, hv, k0⟩⟩
      exact ⟨⟨csn1, hv, k0⟩, hx⟩
    refine RW_d _ rfl (fun v => by dsimp only [List.set]; try rfl) (fun u hu hF => ?_) (fun v319 => ?_)
    · clear hF
      refine doesG_un rfl ?_
      refine (does_fieldAddr (ev rfl) fa29_1).mono ?_; rintro _ _ ⟨rfl, rfl⟩
      exact ⟨rfl, Ext.refl _⟩
    refine RW_d _ rfl (fun v => by dsimp only [List.set]; try rfl) (fun u hu hF => ?_) (fun v320 => ?_)
    · have h60_ : v319 = (Pt b14 3) := hF.1
      clear hF
      refine doesG_un rfl ?_
      obtain rfl := h60_
      refine (does_loadAgg (cs := [(Fl r7), (Fl r9), (Fl r11)]) (ev rfl) Try.isAgg27 Try.sizeOf27 (Cells.sub (Blk.cells ((((((((((((((((hB16.ext E24).ext E32).ext E46).ext E69).ext E79).ext E102).ext E246).ext E252).ext E259).ext E264).ext E269).ext E274).ext E287).wr W305 (Nat.ne_of_lt n301)).ext E311).ext hu)) 3 3) rfl).mono ?_; rintro _ _ ⟨rfl, rfl⟩
      exact ⟨rfl, Ext.refl _⟩
    refine RW_d _ rfl (fun v => by dsimp only [List.set]; try rfl) (fun u hu hF => ?_) (fun v321 => ?_)
    · have h59_ : ∃ cs_1 : List Value, v318 = (.agg cs_1.toArray) ∧ RV3 w (setV A_b.lo 1 (cf .f32 r267)) cs_1 := hF.1
      have h61_ : v320 = (.agg #[(Fl r7), (Fl r9), (Fl r11)]) := hF.2.1
      clear hF
      refine doesG_un rfl ?_
      obtain ⟨_, rfl, ⟨r59_1, r59_3, r59_5, rfl, h59_2, h59_4, h59_6⟩⟩ := h59_
      obtain rfl := h61_
      refine (does_build (parts' := [(0, (.agg #[(Fl r59_1), (Fl r59_3), (Fl r59_5)])), (1, (.agg #[(Fl r7), (Fl r9), (Fl r11)]))]) (cells := #[(Fl r59_1), (Fl r59_3), (Fl r59_5), (Fl r7), (Fl r9), (Fl r11)]) (evp rfl) (by kernel_rfl)).mono ?_; rintro _ _ ⟨rfl, rfl⟩
      exact ⟨⟨r59_1, r59_3, r59_5, rfl, (by simp only [h59_2, h59_4, h59_6]), (by simp only [h59_2, h59_4, h59_6]), (by simp only [h59_2, h59_4, h59_6])⟩, Ext.refl _⟩
    refine RW_d _ rfl (fun v => by dsimp only [List.set]; try rfl) (fun u hu hF => ?_) (fun v322 => ?_)
    · clear hF
      refine doesG_un rfl ?_
      refine (does_alloc z29).mono ?_; rintro _ _ ⟨b, rfl, hb, hB, hx⟩
      exact ⟨⟨b, rfl, Nat.le_trans (Nat.le_trans (Below.size E311) (Below.size hu)) hb, hB⟩, hx⟩
    refine RW_fin ?_; intro w323 E324 hP325
    obtain ⟨⟨⟨⟨⟨⟨⟨⟨⟨-, -⟩, -⟩, -⟩, -⟩, -⟩, -⟩, -⟩, q326⟩, q327⟩ := hP325
    have X328 := Ext.gr X313 E324
    have q326 : ∃ r_1 : Nat, ∃ r_2 : Nat, ∃ r_3 : Nat, v321 = (.agg #[(Fl r_1), (Fl r_2), (Fl r_3), (Fl r7), (Fl r9), (Fl r11)]) ∧ cf .f32 r_1 = (setV A_b.lo 1 (cf .f32 r267)).x ∧ cf .f32 r_2 = (setV A_b.lo 1 (cf .f32 r267)).y ∧ cf .f32 r_3 = (setV A_b.lo 1 (cf .f32 r267)).z := q326
    obtain ⟨r329, r331, r333, rfl, h330, h332, h334⟩ := q326
    have q327 : ∃ b : Nat, v322 = .pointer (some ⟨b, 0, none⟩) ∧ w307.heap.size ≤ b ∧ Blk w323 b [(Fl 0), (Fl 0), (Fl 0), (Fl 0), (Fl 0), (Fl 0)] := q327
    obtain ⟨b335, rfl, hb336, hB337⟩ := q327
    have n338 : b14 < b335 := Nat.lt_of_lt_of_le (Blk.lt ((((((((((((((hB16.ext E24).ext E32).ext E46).ext E69).ext E79).ext E102).ext E246).ext E252).ext E259).ext E264).ext E269).ext E274).ext E287).wr W305 (Nat.ne_of_lt n301))) hb336
    have n339 : b21 < b335 := Nat.lt_of_lt_of_le (Blk.lt (((((((((((((hB23.ext E32).ext E46).ext E69).ext E79).ext E102).ext E246).ext E252).ext E259).ext E264).ext E269).ext E274).ext E287).wr W305 (Nat.ne_of_lt n302))) hb336
    have n340 : b29 < b335 := Nat.lt_of_lt_of_le (Blk.lt ((((((((((((hB31.ext E46).ext E69).ext E79).ext E102).ext E246).ext E252).ext E259).ext E264).ext E269).ext E274).ext E287).wr W305 (Nat.ne_of_lt n303))) hb336
    have n341 : b298 < b335 := Nat.lt_of_lt_of_le (Blk.lt hB306) hb336
    have g342 : w.heap.size ≤ b335 := Nat.le_trans (Below.size X308) hb336
    show wpList _ _ _ _ (fr [_, _, _, _, _, _, _, _, _, _, _, _, _, _, _, _, _, _, _, _, _, _, _, _, _, _, _, _, _, _, _, _, _, _, _, _, _, _, _, _, _, _, _, _, _, _, _, _, _, _, _, _, _, _, _, _, _, _, _, _, _, _, _, _, _]) _
    refine seqn rfl rfl (does_store (n := 6) (cs := [(Fl 0), (Fl 0), (Fl 0), (Fl 0), (Fl 0), (Fl 0)]) (u := (.agg #[(Fl r329), (Fl r331), (Fl r333), (Fl r7), (Fl r9), (Fl r11)])) (ev rfl) (ev rfl) Try.sizeOf29 rfl hB337 (Nat.le_of_ble_eq_true rfl) rfl) ?_; rintro _ w345 ⟨rfl, W343, hB344⟩
    change Blk _ _ [(Fl r329), (Fl r331), (Fl r333), (Fl r7), (Fl r9), (Fl r11)] at hB344
    have X346 := Below.wr X328 W343 g342
    refine wpList_nil (hK309 _ _ ?_)
    refine wp_seq_k fun K347 hK347 => ?_
    have n351 : b21 < w345.heap.size := Blk.lt ((((((((((((((((hB23.ext E32).ext E46).ext E69).ext E79).ext E102).ext E246).ext E252).ext E259).ext E264).ext E269).ext E274).ext E287).wr W305 (Nat.ne_of_lt n302)).ext E311).ext E324).wr W343 (Nat.ne_of_lt n339))
    refine region_any2 [b21] [0, 0, 1, 7] [0] (
      [FactW.pure [] [] [0] true (fun v => v = (.agg #[(Fl r1), (Fl r3), (Fl r5), (Fl r292), (Fl r294), (Fl r296)])),
        FactW.pure [] [0] [0] true (fun v => v = (.agg #[(Fl r329), (Fl r331), (Fl r333), (Fl r7), (Fl r9), (Fl r11)])),
        FactW.mem [0] [] [0] [] true (fun v w' => v = undef ∧ Blk w' b21 [(Fl r1), (Fl r3), (Fl r5), (Fl r292), (Fl r294), (Fl r296)]) (by rintro v w1 w2 hx ⟨rfl, h⟩; exact ⟨rfl, h.ext (KpL.toExt hx)⟩)]) mixed (by kernel_rfl) ?_
    obtain ⟨w348, hw350⟩ : ∃ w', w' = World.drew w345 := ⟨_, rfl⟩; rw [← hw350]; have E349 : Ext w345 w348 := by rw [hw350]; exact Ext.draw _
    clear hw350
    have X352 := Ext.gr X346 E349
    refine RW2_d _ rfl (fun v => by dsimp only [List.set]; try rfl) (fun u hu hF => ?_) (fun v353 => ?_)
    · replace hu : KpL [] _ _ := hu
      clear hF
      refine doesG_un rfl ?_
      refine (does_loadAgg (cs := [(Fl r1), (Fl r3), (Fl r5), (Fl r292), (Fl r294), (Fl r296)]) (ev rfl) Try.isAgg29 Try.sizeOf29 (Blk.cells (((((hB306.ext E311).ext E324).wr W343 (Nat.ne_of_lt n341)).ext E349).ext (KpL.toExt hu))) rfl).mono ?_; rintro _ _ ⟨rfl, rfl⟩
      exact ⟨rfl, KpL.refl _ _⟩
    refine RW2_d _ rfl (fun v => by dsimp only [List.set]; try rfl) (fun u hu hF => ?_) (fun v354 => ?_)
    · replace hu : KpL [b21] _ _ := hu
      clear hF
      refine doesG_un rfl ?_
      refine (does_loadAgg (cs := [(Fl r329), (Fl r331), (Fl r333), (Fl r7), (Fl r9), (Fl r11)]) (ev rfl) Try.isAgg29 Try.sizeOf29 (Blk.cells ((hB344.ext E349).kl hu (ninS (Nat.ne_of_gt n339) nin0))) rfl).mono ?_; rintro _ _ ⟨rfl, rfl⟩
      exact ⟨rfl, KpL.refl _ _⟩
    refine RW2_n rfl (fun u hu hF => ?_) (fun v355 => ?_)
    · replace hu : KpL [] _ _ := hu
      have h63_ : v353 = (.agg #[(Fl r1), (Fl r3), (Fl r5), (Fl r292), (Fl r294), (Fl r296)]) := hF.1
      clear hF
      refine doesG_un rfl ?_
      obtain rfl := h63_
      refine (does_store (n := 6) (cs := [(Fl 0), (Fl 0), (Fl 0), (Fl 0), (Fl 0), (Fl 0)]) (u := (.agg #[(Fl r1), (Fl r3), (Fl r5), (Fl r292), (Fl r294), (Fl r296)])) (ev rfl) (ev rfl) Try.sizeOf29 rfl ((((((((((((((((((hB23.ext E32).ext E46).ext E69).ext E79).ext E102).ext E246).ext E252).ext E259).ext E264).ext E269).ext E274).ext E287).wr W305 (Nat.ne_of_lt n302)).ext E311).ext E324).wr W343 (Nat.ne_of_lt n339)).ext E349).ext (KpL.toExt hu)) (Nat.le_of_ble_eq_true rfl) rfl).mono ?_; rintro _ _ ⟨rfl, hW, hB⟩
      exact ⟨⟨rfl, hB⟩, KpL.of_wr hW⟩
    refine RW2_fin ?_; intro w356 E357 hP358; replace E357 : KpL [b21] _ _ := E357
    obtain ⟨⟨⟨-, -⟩, q359⟩, q360⟩ := hP358
    have X361 := Below.kl X352 E357 (allS g27 all0) (Nat.le_refl _)
    obtain ⟨_, hB362⟩ := q360 rfl
    change Blk _ _ [(Fl r1), (Fl r3), (Fl r5), (Fl r292), (Fl r294), (Fl r296)] at hB362
    have q359 : v354 = (.agg #[(Fl r329), (Fl r331), (Fl r333), (Fl r7), (Fl r9), (Fl r11)]) := q359 rfl
    obtain rfl := q359
    show wpList _ _ _ _ (fr [_, _, _, _, _, _, _, _, _, _, _, _, _, _, _, _, _, _, _, _, _, _, _, _, _, _, _, _, _, _, _, _, _, _, _, _, _, _, _, _, _, _, _, _, _, _, _, _, _, _, _, _, _, _, _, _, _, _, _, _, _, _, _, _, _]) _
    refine seqn rfl rfl (does_store (n := 6) (cs := [(Fl 0), (Fl 0), (Fl 0), (Fl 0), (Fl 0), (Fl 0)]) (u := (.agg #[(Fl r329), (Fl r331), (Fl r333), (Fl r7), (Fl r9), (Fl r11)])) (ev rfl) (ev rfl) Try.sizeOf29 rfl (((((((((((((((((hB31.ext E46).ext E69).ext E79).ext E102).ext E246).ext E252).ext E259).ext E264).ext E269).ext E274).ext E287).wr W305 (Nat.ne_of_lt n303)).ext E311).ext E324).wr W343 (Nat.ne_of_lt n340)).ext E349).kl E357 (ninS (Nat.ne_of_gt n35) nin0)) (Nat.le_of_ble_eq_true rfl) rfl) ?_; rintro _ w365 ⟨rfl, W363, hB364⟩
    change Blk _ _ [(Fl r329), (Fl r331), (Fl r333), (Fl r7), (Fl r9), (Fl r11)] at hB364
    have X366 := Below.wr X361 W363 g36
    refine wpList_nil (hK347 _ _ ?_)
    refine wp_ret ?_
    refine ret_val (v := (.tuple #[(.agg #[(Fl r1), (Fl r3), (Fl r5), (Fl r292), (Fl r294), (Fl r296)]), (.agg #[(Fl r329), (Fl r331), (Fl r333), (Fl r7), (Fl r9), (Fl r11)])])) (res_CC rfl (slot rfl) (run_loadAgg (cs := [(Fl r1), (Fl r3), (Fl r5), (Fl r292), (Fl r294), (Fl r296)]) Try.isAgg29 Try.sizeOf29 (Blk.cells (hB362.wr W363 (Nat.ne_of_lt n35))) rfl) (slot rfl) (run_loadAgg (cs := [(Fl r329), (Fl r331), (Fl r333), (Fl r7), (Fl r9), (Fl r11)]) Try.isAgg29 Try.sizeOf29 (Blk.cells hB364) rfl)) X366 ?_
    try simp only [h2, h4, h6, h8, h10, h12, hβ1, hβ2, h249, h255, h258, h263, h268, h293, h295, h297, h330, h332, h334] at c73 c106
    have x367 : cf .f32 r1 = (oneB A_b).lo.x := by (first | (have hax : axB A_b = 0 := by (simp only [axB, gtF, dimB, h2, h4, h6, h8, h10, h12, hβ1, hβ2, h249, h255, h258, h263, h268, h293, h295, h297, h330, h332, h334, c73, c106, pickV_0, pickV_1, pickV_2, setV_0, setV_1, setV_2, if_true, if_false, Bool.false_eq_true, ↓reduceIte]; done)); (simp only [oneB, twoB, midB, dimB, hax, half_two, pickV_0, pickV_1, pickV_2, setV_0, setV_1, setV_2, h2, h4, h6, h8, h10, h12, hβ1, hβ2, h249, h255, h258, h263, h268, h293, h295, h297, h330, h332, h334, c73, c106] <;> rfl) | (have hax : axB A_b = 1 := by (simp only [axB, gtF, dimB, h2, h4, h6, h8, h10, h12, hβ1, hβ2, h249, h255, h258, h263, h268, h293, h295, h297, h330, h332, h334, c73, c106, pickV_0, pickV_1, pickV_2, setV_0, setV_1, setV_2, if_true, if_false, Bool.false_eq_true, ↓reduceIte]; done)); (simp only [oneB, twoB, midB, dimB, hax, half_two, pickV_0, pickV_1, pickV_2, setV_0, setV_1, setV_2, h2, h4, h6, h8, h10, h12, hβ1, hβ2, h249, h255, h258, h263, h268, h293, h295, h297, h330, h332, h334, c73, c106] <;> rfl) | (have hax : axB A_b = 2 := by (simp only [axB, gtF, dimB, h2, h4, h6, h8, h10, h12, hβ1, hβ2, h249, h255, h258, h263, h268, h293, h295, h297, h330, h332, h334, c73, c106, pickV_0, pickV_1, pickV_2, setV_0, setV_1, setV_2, if_true, if_false, Bool.false_eq_true, ↓reduceIte]; done)); (simp only [oneB, twoB, midB, dimB, hax, half_two, pickV_0, pickV_1, pickV_2, setV_0, setV_1, setV_2, h2, h4, h6, h8, h10, h12, hβ1, hβ2, h249, h255, h258, h263, h268, h293, h295, h297, h330, h332, h334, c73, c106] <;> rfl))
    have x368 : cf .f32 r3 = (oneB A_b).lo.y := by (first | (have hax : axB A_b = 0 := by (simp only [axB, gtF, dimB, h2, h4, h6, h8, h10, h12, hβ1, hβ2, h249, h255, h258, h263, h268, h293, h295, h297, h330, h332, h334, c73, c106, pickV_0, pickV_1, pickV_2, setV_0, setV_1, setV_2, if_true, if_false, Bool.false_eq_true, ↓reduceIte]; done)); (simp only [oneB, twoB, midB, dimB, hax, half_two, pickV_0, pickV_1, pickV_2, setV_0, setV_1, setV_2, h2, h4, h6, h8, h10, h12, hβ1, hβ2, h249, h255, h258, h263, h268, h293, h295, h297, h330, h332, h334, c73, c106] <;> rfl) | (have hax : axB A_b = 1 := by (simp only [axB, gtF, dimB, h2, h4, h6, h8, h10, h12, hβ1, hβ2, h249, h255, h258, h263, h268, h293, h295, h297, h330, h332, h334, c73, c106, pickV_0, pickV_1, pickV_2, setV_0, setV_1, setV_2, if_true, if_false, Bool.false_eq_true, ↓reduceIte]; done)); (simp only [oneB, twoB, midB, dimB, hax, half_two, pickV_0, pickV_1, pickV_2, setV_0, setV_1, setV_2, h2, h4, h6, h8, h10, h12, hβ1, hβ2, h249, h255, h258, h263, h268, h293, h295, h297, h330, h332, h334, c73, c106] <;> rfl) | (have hax : axB A_b = 2 := by (simp only [axB, gtF, dimB, h2, h4, h6, h8, h10, h12, hβ1, hβ2, h249, h255, h258, h263, h268, h293, h295, h297, h330, h332, h334, c73, c106, pickV_0, pickV_1, pickV_2, setV_0, setV_1, setV_2, if_true, if_false, Bool.false_eq_true, ↓reduceIte]; done)); (simp only [oneB, twoB, midB, dimB, hax, half_two, pickV_0, pickV_1, pickV_2, setV_0, setV_1, setV_2, h2, h4, h6, h8, h10, h12, hβ1, hβ2, h249, h255, h258, h263, h268, h293, h295, h297, h330, h332, h334, c73, c106] <;> rfl))
    have x369 : cf .f32 r5 = (oneB A_b).lo.z := by (first | (have hax : axB A_b = 0 := by (simp only [axB, gtF, dimB, h2, h4, h6, h8, h10, h12, hβ1, hβ2, h249, h255, h258, h263, h268, h293, h295, h297, h330, h332, h334, c73, c106, pickV_0, pickV_1, pickV_2, setV_0, setV_1, setV_2, if_true, if_false, Bool.false_eq_true, ↓reduceIte]; done)); (simp only [oneB, twoB, midB, dimB, hax, half_two, pickV_0, pickV_1, pickV_2, setV_0, setV_1, setV_2, h2, h4, h6, h8, h10, h12, hβ1, hβ2, h249, h255, h258, h263, h268, h293, h295, h297, h330, h332, h334, c73, c106] <;> rfl) | (have hax : axB A_b = 1 := by (simp only [axB, gtF, dimB, h2, h4, h6, h8, h10, h12, hβ1, hβ2, h249, h255, h258, h263, h268, h293, h295, h297, h330, h332, h334, c73, c106, pickV_0, pickV_1, pickV_2, setV_0, setV_1, setV_2, if_true, if_false, Bool.false_eq_true, ↓reduceIte]; done)); (simp only [oneB, twoB, midB, dimB, hax, half_two, pickV_0, pickV_1, pickV_2, setV_0, setV_1, setV_2, h2, h4, h6, h8, h10, h12, hβ1, hβ2, h249, h255, h258, h263, h268, h293, h295, h297, h330, h332, h334, c73, c106] <;> rfl) | (have hax : axB A_b = 2 := by (simp only [axB, gtF, dimB, h2, h4, h6, h8, h10, h12, hβ1, hβ2, h249, h255, h258, h263, h268, h293, h295, h297, h330, h332, h334, c73, c106, pickV_0, pickV_1, pickV_2, setV_0, setV_1, setV_2, if_true, if_false, Bool.false_eq_true, ↓reduceIte]; done)); (simp only [oneB, twoB, midB, dimB, hax, half_two, pickV_0, pickV_1, pickV_2, setV_0, setV_1, setV_2, h2, h4, h6, h8, h10, h12, hβ1, hβ2, h249, h255, h258, h263, h268, h293, h295, h297, h330, h332, h334, c73, c106] <;> rfl))
    have x370 : cf .f32 r292 = (oneB A_b).hi.x := by (first | (have hax : axB A_b = 0 := by (simp only [axB, gtF, dimB, h2, h4, h6, h8, h10, h12, hβ1, hβ2, h249, h255, h258, h263, h268, h293, h295, h297, h330, h332, h334, c73, c106, pickV_0, pickV_1, pickV_2, setV_0, setV_1, setV_2, if_true, if_false, Bool.false_eq_true, ↓reduceIte]; done)); (simp only [oneB, twoB, midB, dimB, hax, half_two, pickV_0, pickV_1, pickV_2, setV_0, setV_1, setV_2, h2, h4, h6, h8, h10, h12, hβ1, hβ2, h249, h255, h258, h263, h268, h293, h295, h297, h330, h332, h334, c73, c106] <;> rfl) | (have hax : axB A_b = 1 := by (simp only [axB, gtF, dimB, h2, h4, h6, h8, h10, h12, hβ1, hβ2, h249, h255, h258, h263, h268, h293, h295, h297, h330, h332, h334, c73, c106, pickV_0, pickV_1, pickV_2, setV_0, setV_1, setV_2, if_true, if_false, Bool.false_eq_true, ↓reduceIte]; done)); (simp only [oneB, twoB, midB, dimB, hax, half_two, pickV_0, pickV_1, pickV_2, setV_0, setV_1, setV_2, h2, h4, h6, h8, h10, h12, hβ1, hβ2, h249, h255, h258, h263, h268, h293, h295, h297, h330, h332, h334, c73, c106] <;> rfl) | (have hax : axB A_b = 2 := by (simp only [axB, gtF, dimB, h2, h4, h6, h8, h10, h12, hβ1, hβ2, h249, h255, h258, h263, h268, h293, h295, h297, h330, h332, h334, c73, c106, pickV_0, pickV_1, pickV_2, setV_0, setV_1, setV_2, if_true, if_false, Bool.false_eq_true, ↓reduceIte]; done)); (simp only [oneB, twoB, midB, dimB, hax, half_two, pickV_0, pickV_1, pickV_2, setV_0, setV_1, setV_2, h2, h4, h6, h8, h10, h12, hβ1, hβ2, h249, h255, h258, h263, h268, h293, h295, h297, h330, h332, h334, c73, c106] <;> rfl))
    have x371 : cf .f32 r294 = (oneB A_b).hi.y := by (first | (have hax : axB A_b = 0 := by (simp only [axB, gtF, dimB, h2, h4, h6, h8, h10, h12, hβ1, hβ2, h249, h255, h258, h263, h268, h293, h295, h297, h330, h332, h334, c73, c106, pickV_0, pickV_1, pickV_2, setV_0, setV_1, setV_2, if_true, if_false, Bool.false_eq_true, ↓reduceIte]; done)); (simp only [oneB, twoB, midB, dimB, hax, half_two, pickV_0, pickV_1, pickV_2, setV_0, setV_1, setV_2, h2, h4, h6, h8, h10, h12, hβ1, hβ2, h249, h255, h258, h263, h268, h293, h295, h297, h330, h332, h334, c73, c106] <;> rfl) | (have hax : axB A_b = 1 := by (simp only [axB, gtF, dimB, h2, h4, h6, h8, h10, h12, hβ1, hβ2, h249, h255, h258, h263, h268, h293, h295, h297, h330, h332, h334, c73, c106, pickV_0, pickV_1, pickV_2, setV_0, setV_1, setV_2, if_true, if_false, Bool.false_eq_true, ↓reduceIte]; done)); (simp only [oneB, twoB, midB, dimB, hax, half_two, pickV_0, pickV_1, pickV_2, setV_0, setV_1, setV_2, h2, h4, h6, h8, h10, h12, hβ1, hβ2, h249, h255, h258, h263, h268, h293, h295, h297, h330, h332, h334, c73, c106] <;> rfl) | (have hax : axB A_b = 2 := by (simp only [axB, gtF, dimB, h2, h4, h6, h8, h10, h12, hβ1, hβ2, h249, h255, h258, h263, h268, h293, h295, h297, h330, h332, h334, c73, c106, pickV_0, pickV_1, pickV_2, setV_0, setV_1, setV_2, if_true, if_false, Bool.false_eq_true, ↓reduceIte]; done)); (simp only [oneB, twoB, midB, dimB, hax, half_two, pickV_0, pickV_1, pickV_2, setV_0, setV_1, setV_2, h2, h4, h6, h8, h10, h12, hβ1, hβ2, h249, h255, h258, h263, h268, h293, h295, h297, h330, h332, h334, c73, c106] <;> rfl))
    have x372 : cf .f32 r296 = (oneB A_b).hi.z := by (first | (have hax : axB A_b = 0 := by (simp only [axB, gtF, dimB, h2, h4, h6, h8, h10, h12, hβ1, hβ2, h249, h255, h258, h263, h268, h293, h295, h297, h330, h332, h334, c73, c106, pickV_0, pickV_1, pickV_2, setV_0, setV_1, setV_2, if_true, if_false, Bool.false_eq_true, ↓reduceIte]; done)); (simp only [oneB, twoB, midB, dimB, hax, half_two, pickV_0, pickV_1, pickV_2, setV_0, setV_1, setV_2, h2, h4, h6, h8, h10, h12, hβ1, hβ2, h249, h255, h258, h263, h268, h293, h295, h297, h330, h332, h334, c73, c106] <;> rfl) | (have hax : axB A_b = 1 := by (simp only [axB, gtF, dimB, h2, h4, h6, h8, h10, h12, hβ1, hβ2, h249, h255, h258, h263, h268, h293, h295, h297, h330, h332, h334, c73, c106, pickV_0, pickV_1, pickV_2, setV_0, setV_1, setV_2, if_true, if_false, Bool.false_eq_true, ↓reduceIte]; done)); (simp only [oneB, twoB, midB, dimB, hax, half_two, pickV_0, pickV_1, pickV_2, setV_0, setV_1, setV_2, h2, h4, h6, h8, h10, h12, hβ1, hβ2, h249, h255, h258, h263, h268, h293, h295, h297, h330, h332, h334, c73, c106] <;> rfl) | (have hax : axB A_b = 2 := by (simp only [axB, gtF, dimB, h2, h4, h6, h8, h10, h12, hβ1, hβ2, h249, h255, h258, h263, h268, h293, h295, h297, h330, h332, h334, c73, c106, pickV_0, pickV_1, pickV_2, setV_0, setV_1, setV_2, if_true, if_false, Bool.false_eq_true, ↓reduceIte]; done)); (simp only [oneB, twoB, midB, dimB, hax, half_two, pickV_0, pickV_1, pickV_2, setV_0, setV_1, setV_2, h2, h4, h6, h8, h10, h12, hβ1, hβ2, h249, h255, h258, h263, h268, h293, h295, h297, h330, h332, h334, c73, c106] <;> rfl))
    have x373 : cf .f32 r329 = (twoB A_b).lo.x := by (first | (have hax : axB A_b = 0 := by (simp only [axB, gtF, dimB, h2, h4, h6, h8, h10, h12, hβ1, hβ2, h249, h255, h258, h263, h268, h293, h295, h297, h330, h332, h334, c73, c106, pickV_0, pickV_1, pickV_2, setV_0, setV_1, setV_2, if_true, if_false, Bool.false_eq_true, ↓reduceIte]; done)); (simp only [oneB, twoB, midB, dimB, hax, half_two, pickV_0, pickV_1, pickV_2, setV_0, setV_1, setV_2, h2, h4, h6, h8, h10, h12, hβ1, hβ2, h249, h255, h258, h263, h268, h293, h295, h297, h330, h332, h334, c73, c106] <;> rfl) | (have hax : axB A_b = 1 := by (simp only [axB, gtF, dimB, h2, h4, h6, h8, h10, h12, hβ1, hβ2, h249, h255, h258, h263, h268, h293, h295, h297, h330, h332, h334, c73, c106, pickV_0, pickV_1, pickV_2, setV_0, setV_1, setV_2, if_true, if_false, Bool.false_eq_true, ↓reduceIte]; done)); (simp only [oneB, twoB, midB, dimB, hax, half_two, pickV_0, pickV_1, pickV_2, setV_0, setV_1, setV_2, h2, h4, h6, h8, h10, h12, hβ1, hβ2, h249, h255, h258, h263, h268, h293, h295, h297, h330, h332, h334, c73, c106] <;> rfl) | (have hax : axB A_b = 2 := by (simp only [axB, gtF, dimB, h2, h4, h6, h8, h10, h12, hβ1, hβ2, h249, h255, h258, h263, h268, h293, h295, h297, h330, h332, h334, c73, c106, pickV_0, pickV_1, pickV_2, setV_0, setV_1, setV_2, if_true, if_false, Bool.false_eq_true, ↓reduceIte]; done)); (simp only [oneB, twoB, midB, dimB, hax, half_two, pickV_0, pickV_1, pickV_2, setV_0, setV_1, setV_2, h2, h4, h6, h8, h10, h12, hβ1, hβ2, h249, h255, h258, h263, h268, h293, h295, h297, h330, h332, h334, c73, c106] <;> rfl))
    have x374 : cf .f32 r331 = (twoB A_b).lo.y := by (first | (have hax : axB A_b = 0 := by (simp only [axB, gtF, dimB, h2, h4, h6, h8, h10, h12, hβ1, hβ2, h249, h255, h258, h263, h268, h293, h295, h297, h330, h332, h334, c73, c106, pickV_0, pickV_1, pickV_2, setV_0, setV_1, setV_2, if_true, if_false, Bool.false_eq_true, ↓reduceIte]; done)); (simp only [oneB, twoB, midB, dimB, hax, half_two, pickV_0, pickV_1, pickV_2, setV_0, setV_1, setV_2, h2, h4, h6, h8, h10, h12, hβ1, hβ2, h249, h255, h258, h263, h268, h293, h295, h297, h330, h332, h334, c73, c106] <;> rfl) | (have hax : axB A_b = 1 := by (simp only [axB, gtF, dimB, h2, h4, h6, h8, h10, h12, hβ1, hβ2, h249, h255, h258, h263, h268, h293, h295, h297, h330, h332, h334, c73, c106, pickV_0, pickV_1, pickV_2, setV_0, setV_1, setV_2, if_true, if_false, Bool.false_eq_true, ↓reduceIte]; done)); (simp only [oneB, twoB, midB, dimB, hax, half_two, pickV_0, pickV_1, pickV_2, setV_0, setV_1, setV_2, h2, h4, h6, h8, h10, h12, hβ1, hβ2, h249, h255, h258, h263, h268, h293, h295, h297, h330, h332, h334, c73, c106] <;> rfl) | (have hax : axB A_b = 2 := by (simp only [axB, gtF, dimB, h2, h4, h6, h8, h10, h12, hβ1, hβ2, h249, h255, h258, h263, h268, h293, h295, h297, h330, h332, h334, c73, c106, pickV_0, pickV_1, pickV_2, setV_0, setV_1, setV_2, if_true, if_false, Bool.false_eq_true, ↓reduceIte]; done)); (simp only [oneB, twoB, midB, dimB, hax, half_two, pickV_0, pickV_1, pickV_2, setV_0, setV_1, setV_2, h2, h4, h6, h8, h10, h12, hβ1, hβ2, h249, h255, h258, h263, h268, h293, h295, h297, h330, h332, h334, c73, c106] <;> rfl))
    have x375 : cf .f32 r333 = (twoB A_b).lo.z := by (first | (have hax : axB A_b = 0 := by (simp only [axB, gtF, dimB, h2, h4, h6, h8, h10, h12, hβ1, hβ2, h249, h255, h258, h263, h268, h293, h295, h297, h330, h332, h334, c73, c106, pickV_0, pickV_1, pickV_2, setV_0, setV_1, setV_2, if_true, if_false, Bool.false_eq_true, ↓reduceIte]; done)); (simp only [oneB, twoB, midB, dimB, hax, half_two, pickV_0, pickV_1, pickV_2, setV_0, setV_1, setV_2, h2, h4, h6, h8, h10, h12, hβ1, hβ2, h249, h255, h258, h263, h268, h293, h295, h297, h330, h332, h334, c73, c106] <;> rfl) | (have hax : axB A_b = 1 := by (simp only [axB, gtF, dimB, h2, h4, h6, h8, h10, h12, hβ1, hβ2, h249, h255, h258, h263, h268, h293, h295, h297, h330, h332, h334, c73, c106, pickV_0, pickV_1, pickV_2, setV_0, setV_1, setV_2, if_true, if_false, Bool.false_eq_true, ↓reduceIte]; done)); (simp only [oneB, twoB, midB, dimB, hax, half_two, pickV_0, pickV_1, pickV_2, setV_0, setV_1, setV_2, h2, h4, h6, h8, h10, h12, hβ1, hβ2, h249, h255, h258, h263, h268, h293, h295, h297, h330, h332, h334, c73, c106] <;> rfl) | (have hax : axB A_b = 2 := by (simp only [axB, gtF, dimB, h2, h4, h6, h8, h10, h12, hβ1, hβ2, h249, h255, h258, h263, h268, h293, h295, h297, h330, h332, h334, c73, c106, pickV_0, pickV_1, pickV_2, setV_0, setV_1, setV_2, if_true, if_false, Bool.false_eq_true, ↓reduceIte]; done)); (simp only [oneB, twoB, midB, dimB, hax, half_two, pickV_0, pickV_1, pickV_2, setV_0, setV_1, setV_2, h2, h4, h6, h8, h10, h12, hβ1, hβ2, h249, h255, h258, h263, h268, h293, h295, h297, h330, h332, h334, c73, c106] <;> rfl))
    have x376 : cf .f32 r7 = (twoB A_b).hi.x := by (first | (have hax : axB A_b = 0 := by (simp only [axB, gtF, dimB, h2, h4, h6, h8, h10, h12, hβ1, hβ2, h249, h255, h258, h263, h268, h293, h295, h297, h330, h332, h334, c73, c106, pickV_0, pickV_1, pickV_2, setV_0, setV_1, setV_2, if_true, if_false, Bool.false_eq_true, ↓reduceIte]; done)); (simp only [oneB, twoB, midB, dimB, hax, half_two, pickV_0, pickV_1, pickV_2, setV_0, setV_1, setV_2, h2, h4, h6, h8, h10, h12, hβ1, hβ2, h249, h255, h258, h263, h268, h293, h295, h297, h330, h332, h334, c73, c106] <;> rfl) | (have hax : axB A_b = 1 := by (simp only [axB, gtF, dimB, h2, h4, h6, h8, h10, h12, hβ1, hβ2, h249, h255, h258, h263, h268, h293, h295, h297, h330, h332, h334, c73, c106, pickV_0, pickV_1, pickV_2, setV_0, setV_1, setV_2, if_true, if_false, Bool.false_eq_true, ↓reduceIte]; done)); (simp only [oneB, twoB, midB, dimB, hax, half_two, pickV_0, pickV_1, pickV_2, setV_0, setV_1, setV_2, h2, h4, h6, h8, h10, h12, hβ1, hβ2, h249, h255, h258, h263, h268, h293, h295, h297, h330, h332, h334, c73, c106] <;> rfl) | (have hax : axB A_b = 2 := by (simp only [axB, gtF, dimB, h2, h4, h6, h8, h10, h12, hβ1, hβ2, h249, h255, h258, h263, h268, h293, h295, h297, h330, h332, h334, c73, c106, pickV_0, pickV_1, pickV_2, setV_0, setV_1, setV_2, if_true, if_false, Bool.false_eq_true, ↓reduceIte]; done)); (simp only [oneB, twoB, midB, dimB, hax, half_two, pickV_0, pickV_1, pickV_2, setV_0, setV_1, setV_2, h2, h4, h6, h8, h10, h12, hβ1, hβ2, h249, h255, h258, h263, h268, h293, h295, h297, h330, h332, h334, c73, c106] <;> rfl))
    have x377 : cf .f32 r9 = (twoB A_b).hi.y := by (first | (have hax : axB A_b = 0 := by (simp only [axB, gtF, dimB, h2, h4, h6, h8, h10, h12, hβ1, hβ2, h249, h255, h258, h263, h268, h293, h295, h297, h330, h332, h334, c73, c106, pickV_0, pickV_1, pickV_2, setV_0, setV_1, setV_2, if_true, if_false, Bool.false_eq_true, ↓reduceIte]; done)); (simp only [oneB, twoB, midB, dimB, hax, half_two, pickV_0, pickV_1, pickV_2, setV_0, setV_1, setV_2, h2, h4, h6, h8, h10, h12, hβ1, hβ2, h249, h255, h258, h263, h268, h293, h295, h297, h330, h332, h334, c73, c106] <;> rfl) | (have hax : axB A_b = 1 := by (simp only [axB, gtF, dimB, h2, h4, h6, h8, h10, h12, hβ1, hβ2, h249, h255, h258, h263, h268, h293, h295, h297, h330, h332, h334, c73, c106, pickV_0, pickV_1, pickV_2, setV_0, setV_1, setV_2, if_true, if_false, Bool.false_eq_true, ↓reduceIte]; done)); (simp only [oneB, twoB, midB, dimB, hax, half_two, pickV_0, pickV_1, pickV_2, setV_0, setV_1, setV_2, h2, h4, h6, h8, h10, h12, hβ1, hβ2, h249, h255, h258, h263, h268, h293, h295, h297, h330, h332, h334, c73, c106] <;> rfl) | (have hax : axB A_b = 2 := by (simp only [axB, gtF, dimB, h2, h4, h6, h8, h10, h12, hβ1, hβ2, h249, h255, h258, h263, h268, h293, h295, h297, h330, h332, h334, c73, c106, pickV_0, pickV_1, pickV_2, setV_0, setV_1, setV_2, if_true, if_false, Bool.false_eq_true, ↓reduceIte]; done)); (simp only [oneB, twoB, midB, dimB, hax, half_two, pickV_0, pickV_1, pickV_2, setV_0, setV_1, setV_2, h2, h4, h6, h8, h10, h12, hβ1, hβ2, h249, h255, h258, h263, h268, h293, h295, h297, h330, h332, h334, c73, c106] <;> rfl))
    have x378 : cf .f32 r11 = (twoB A_b).hi.z := by (first | (have hax : axB A_b = 0 := by (simp only [axB, gtF, dimB, h2, h4, h6, h8, h10, h12, hβ1, hβ2, h249, h255, h258, h263, h268, h293, h295, h297, h330, h332, h334, c73, c106, pickV_0, pickV_1, pickV_2, setV_0, setV_1, setV_2, if_true, if_false, Bool.false_eq_true, ↓reduceIte]; done)); (simp only [oneB, twoB, midB, dimB, hax, half_two, pickV_0, pickV_1, pickV_2, setV_0, setV_1, setV_2, h2, h4, h6, h8, h10, h12, hβ1, hβ2, h249, h255, h258, h263, h268, h293, h295, h297, h330, h332, h334, c73, c106] <;> rfl) | (have hax : axB A_b = 1 := by (simp only [axB, gtF, dimB, h2, h4, h6, h8, h10, h12, hβ1, hβ2, h249, h255, h258, h263, h268, h293, h295, h297, h330, h332, h334, c73, c106, pickV_0, pickV_1, pickV_2, setV_0, setV_1, setV_2, if_true, if_false, Bool.false_eq_true, ↓reduceIte]; done)); (simp only [oneB, twoB, midB, dimB, hax, half_two, pickV_0, pickV_1, pickV_2, setV_0, setV_1, setV_2, h2, h4, h6, h8, h10, h12, hβ1, hβ2, h249, h255, h258, h263, h268, h293, h295, h297, h330, h332, h334, c73, c106] <;> rfl) | (have hax : axB A_b = 2 := by (simp only [axB, gtF, dimB, h2, h4, h6, h8, h10, h12, hβ1, hβ2, h249, h255, h258, h263, h268, h293, h295, h297, h330, h332, h334, c73, c106, pickV_0, pickV_1, pickV_2, setV_0, setV_1, setV_2, if_true, if_false, Bool.false_eq_true, ↓reduceIte]; done)); (simp only [oneB, twoB, midB, dimB, hax, half_two, pickV_0, pickV_1, pickV_2, setV_0, setV_1, setV_2, h2, h4, h6, h8, h10, h12, hβ1, hβ2, h249, h255, h258, h263, h268, h293, h295, h297, h330, h332, h334, c73, c106] <;> rfl))
    exact ⟨[(Fl r1), (Fl r3), (Fl r5), (Fl r292), (Fl r294), (Fl r296)], [(Fl r329), (Fl r331), (Fl r333), (Fl r7), (Fl r9), (Fl r11)], rfl, ⟨r1, r3, r5, r292, r294, r296, rfl, x367, x368, x369, x370, x371, x372⟩, ⟨r329, r331, r333, r7, r9, r11, rfl, x373, x374, x375, x376, x377, x378⟩⟩
  have c73' := c73
  (try simp only [hβ1] at c73')
  (try simp only [icmp, Bool.and_eq_true, Bool.or_eq_true, Bool.and_eq_false_iff, Bool.or_eq_false_iff, Bool.not_eq_true', Bool.not_eq_false', decide_eq_true_eq, decide_eq_false_iff_not, beq_iff_eq, bne_iff_ne, beq_eq_false_iff_ne, bne_eq_false_iff_eq] at c73')
  simp only [h2, h4, h6, h8, h10, h12, hβ1, pickV_0, pickV_1, pickV_2, setV_0, setV_1, setV_2] at c73
  refine wp_skip (hK43 _ _ ?_)
  refine wp_region_lit ?_
  refine q_is rfl rfl (does_move (u := (Iv 1)) (ev rfl)) (by dsimp only [List.set]; try rfl) ?_
  refine q_is rfl rfl (does_iarith (p := 1) (q := 1) (r := (2)) (ev rfl) (ev rfl) (.inl ⟨rfl, rfl⟩)) (by dsimp only [List.set]; try rfl) ?_
  refine q_is rfl rfl (does_assign (u := (Iv 2)) (ev rfl)) (by dsimp only [List.set]; try rfl) ?_
  refine wpList_nil ?_
  refine un_step ?_
  refine wp_seq_k fun K379 hK379 => ?_
  refine wp_seq_k fun K380 hK380 => ?_
  refine wp_region_lit ?_
  refine q_is rfl rfl (does_move (u := (Iv 2)) (ev rfl)) (by dsimp only [List.set]; try rfl) ?_
  refine q_is rfl rfl (does_icmp (p := 2) (q := 3) (.inr (.inr (.inl rfl))) (ev rfl) (ev rfl)) (by dsimp only [List.set]; try rfl) ?_
  refine wpList_nil (hK380 _ _ ?_)
  refine wp_cond_true (ev rfl) ?_
  refine wp_skip (hK379 _ _ ?_)
  refine wp_seq_k fun K381 hK381 => ?_
  refine wp_block ?_
  refine wp_seq_k fun K382 hK382 => ?_
  obtain ⟨β3, hβ3⟩ : ∃ b : Bool, b = (fcmp .gtr (ford .f32 (fop .sub .f32 (pickV A_b.hi 2) (pickV A_b.lo 2)) (fop .sub .f32 (pickV A_b.hi 0) (pickV A_b.lo 0)))) := ⟨_, rfl⟩
  refine region_draw (
    [Fact.pure [] (fun v => v = (Pt b14 3)),
    Fact.pure [14] (fun v => v = (.agg #[(Fl r7), (Fl r9), (Fl r11)])),
    Fact.pure [] (fun v => v = (Iv 2)),
    Fact.pure [15, 16] (fun v => ∃ r_1 : Nat, v = (Fl r_1) ∧ cf .f32 r_1 = pickV A_b.hi 2),
    Fact.pure [] (fun v => v = (Pt b14 0)),
    Fact.pure [18] (fun v => v = (.agg #[(Fl r1), (Fl r3), (Fl r5)])),
    Fact.pure [] (fun v => v = (Iv 2)),
    Fact.pure [19, 20] (fun v => ∃ r_1 : Nat, v = (Fl r_1) ∧ cf .f32 r_1 = pickV A_b.lo 2),
    Fact.pure [17, 21] (fun v => ∃ r_1 : Nat, v = (Fl r_1) ∧ cf .f32 r_1 = fop .sub .f32 (pickV A_b.hi 2) (pickV A_b.lo 2)),
    Fact.pure [] (fun v => v = (Pt b14 3)),
    Fact.pure [23] (fun v => v = (.agg #[(Fl r7), (Fl r9), (Fl r11)])),
    Fact.pure [] (fun v => v = (Iv 0)),
    Fact.pure [24, 25] (fun v => ∃ r_1 : Nat, v = (Fl r_1) ∧ cf .f32 r_1 = pickV A_b.hi 0),
    Fact.pure [] (fun v => v = (Pt b14 0)),
    Fact.pure [27] (fun v => v = (.agg #[(Fl r1), (Fl r3), (Fl r5)])),
    Fact.pure [] (fun v => v = (Iv 0)),
    Fact.pure [28, 29] (fun v => ∃ r_1 : Nat, v = (Fl r_1) ∧ cf .f32 r_1 = pickV A_b.lo 0),
    Fact.pure [26, 30] (fun v => ∃ r_1 : Nat, v = (Fl r_1) ∧ cf .f32 r_1 = fop .sub .f32 (pickV A_b.hi 0) (pickV A_b.lo 0)),
    Fact.pure [22, 31] (fun v => v = (Bo β3))]) mixed (by kernel_rfl) (by intro _ _ d _ _ h; cases d <;> exact h) ?_
  obtain ⟨w383, hw385⟩ : ∃ w', w' = World.drew w68 := ⟨_, rfl⟩; rw [← hw385]; have E384 : Ext w68 w383 := by rw [hw385]; exact Ext.draw _
  clear hw385
  have X386 := Ext.gr X72 E384
  refine RW_d _ rfl (fun v => by dsimp only [List.set]; try rfl) (fun u hu hF => ?_) (fun v387 => ?_)
  · clear hF
    refine doesG_un rfl ?_
    refine (does_fieldAddr (ev rfl) fa29_1).mono ?_; rintro _ _ ⟨rfl, rfl⟩
    exact ⟨rfl, Ext.refl _⟩
  refine RW_d _ rfl (fun v => by dsimp only [List.set]; try rfl) (fun u hu hF => ?_) (fun v388 => ?_)
  · have h14_ : v387 = (Pt b14 3) := hF.1
    clear hF
    refine doesG_un rfl ?_
    obtain rfl := h14_
    refine (does_loadAgg (cs := [(Fl r7), (Fl r9), (Fl r11)]) (ev rfl) Try.isAgg27 Try.sizeOf27 (Cells.sub (Blk.cells ((((((hB16.ext E24).ext E32).ext E46).ext E69).ext E384).ext hu)) 3 3) rfl).mono ?_; rintro _ _ ⟨rfl, rfl⟩
    exact ⟨rfl, Ext.refl _⟩
  refine RW_d _ rfl (fun v => by dsimp only [List.set]; try rfl) (fun u hu hF => ?_) (fun v389 => ?_)
  · clear hF
    refine doesG_un rfl ?_
    refine (does_move (u := (Iv 2)) (ev rfl)).mono ?_; rintro _ _ ⟨rfl, rfl⟩
    exact ⟨rfl, Ext.refl _⟩
  refine RW_d _ rfl (fun v => by dsimp only [List.set]; try rfl) (fun u hu hF => ?_) (fun v390 => ?_)
  · have h15_ : v388 = (.agg #[(Fl r7), (Fl r9), (Fl r11)]) := hF.1
    have h16_ : v389 = (Iv 2) := hF.2.1
    clear hF
    refine doesG_un rfl ?_
    obtain rfl := h15_
    obtain rfl := h16_
    refine (does_call (args := #[(.agg #[(Fl r7), (Fl r9), (Fl r11)]), (Iv 2)]) cal16 (evs rfl) (c_spec_l02Pick [(Fl r7), (Fl r9), (Fl r11)] A_b.hi 2 _ ⟨r7, r9, r11, rfl, h8, h10, h12⟩)).mono ?_; rintro v u' ⟨hx, ⟨rn1, hv, k0⟩⟩
    exact ⟨⟨rn1, hv, (by simp only [k0])⟩, hx⟩
  refine RW_d _ rfl (fun v => by dsimp only [List.set]; try rfl) (fun u hu hF => ?_) (fun v391 => ?_)
  · clear hF
    refine doesG_un rfl ?_
    refine (does_fieldAddr (ev rfl) fa29_0).mono ?_; rintro _ _ ⟨rfl, rfl⟩
    exact ⟨rfl, Ext.refl _⟩
  refine RW_d _ rfl (fun v => by dsimp only [List.set]; try rfl) (fun u hu hF => ?_) (fun v392 => ?_)
  · have h18_ : v391 = (Pt b14 0) := hF.1
    clear hF
    refine doesG_un rfl ?_
    obtain rfl := h18_
    refine (does_loadAgg (cs := [(Fl r1), (Fl r3), (Fl r5)]) (ev rfl) Try.isAgg27 Try.sizeOf27 (Cells.sub (Blk.cells ((((((hB16.ext E24).ext E32).ext E46).ext E69).ext E384).ext hu)) 0 3) rfl).mono ?_; rintro _ _ ⟨rfl, rfl⟩
    exact ⟨rfl, Ext.refl _⟩
  refine RW_d _ rfl (fun v => by dsimp only [List.set]; try rfl) (fun u hu hF => ?_) (fun v393 => ?_)
  · clear hF
    refine doesG_un rfl ?_
    refine (does_move (u := (Iv 2)) (ev rfl)).mono ?_; rintro _ _ ⟨rfl, rfl⟩
    exact ⟨rfl, Ext.refl _⟩
  refine RW_d _ rfl (fun v => by dsimp only [List.set]; try rfl) (fun u hu hF => ?_) (fun v394 => ?_)
  · have h19_ : v392 = (.agg #[(Fl r1), (Fl r3), (Fl r5)]) := hF.1
    have h20_ : v393 = (Iv 2) := hF.2.1
    clear hF
    refine doesG_un rfl ?_
    obtain rfl := h19_
    obtain rfl := h20_
    refine (does_call (args := #[(.agg #[(Fl r1), (Fl r3), (Fl r5)]), (Iv 2)]) cal16 (evs rfl) (c_spec_l02Pick [(Fl r1), (Fl r3), (Fl r5)] A_b.lo 2 _ ⟨r1, r3, r5, rfl, h2, h4, h6⟩)).mono ?_; rintro v u' ⟨hx, ⟨rn1, hv, k0⟩⟩
    exact ⟨⟨rn1, hv, (by simp only [k0])⟩, hx⟩
  refine RW_d _ rfl (fun v => by dsimp only [List.set]; try rfl) (fun u hu hF => ?_) (fun v395 => ?_)
  · have h17_ : ∃ r_1 : Nat, v390 = (Fl r_1) ∧ cf .f32 r_1 = pickV A_b.hi 2 := hF.1
    have h21_ : ∃ r_1 : Nat, v394 = (Fl r_1) ∧ cf .f32 r_1 = pickV A_b.lo 2 := hF.2.1
    clear hF
    refine doesG_un rfl ?_
    obtain ⟨r17_1, rfl, h17_2⟩ := h17_
    obtain ⟨r21_1, rfl, h21_2⟩ := h21_
    refine (does_float (.inr (.inl rfl)) (ev rfl) (ev rfl)).mono ?_; rintro _ _ ⟨r, rfl, hr, hx⟩
    exact ⟨⟨r, rfl, (by simp only [hr, h17_2, h21_2])⟩, hx⟩
  refine RW_d _ rfl (fun v => by dsimp only [List.set]; try rfl) (fun u hu hF => ?_) (fun v396 => ?_)
  · clear hF
    refine doesG_un rfl ?_
    refine (does_fieldAddr (ev rfl) fa29_1).mono ?_; rintro _ _ ⟨rfl, rfl⟩
    exact ⟨rfl, Ext.refl _⟩
  refine RW_d _ rfl (fun v => by dsimp only [List.set]; try rfl) (fun u hu hF => ?_) (fun v397 => ?_)
  · have h23_ : v396 = (Pt b14 3) := hF.1
    clear hF
    refine doesG_un rfl ?_
    obtain rfl := h23_
    refine (does_loadAgg (cs := [(Fl r7), (Fl r9), (Fl r11)]) (ev rfl) Try.isAgg27 Try.sizeOf27 (Cells.sub (Blk.cells ((((((hB16.ext E24).ext E32).ext E46).ext E69).ext E384).ext hu)) 3 3) rfl).mono ?_; rintro _ _ ⟨rfl, rfl⟩
    exact ⟨rfl, Ext.refl _⟩
  refine RW_d _ rfl (fun v => by dsimp only [List.set]; try rfl) (fun u hu hF => ?_) (fun v398 => ?_)
  · clear hF
    refine doesG_un rfl ?_
    refine (does_move (u := (Iv 0)) (ev rfl)).mono ?_; rintro _ _ ⟨rfl, rfl⟩
    exact ⟨rfl, Ext.refl _⟩
  refine RW_d _ rfl (fun v => by dsimp only [List.set]; try rfl) (fun u hu hF => ?_) (fun v399 => ?_)
  · have h24_ : v397 = (.agg #[(Fl r7), (Fl r9), (Fl r11)]) := hF.1
    have h25_ : v398 = (Iv 0) := hF.2.1
    clear hF
    refine doesG_un rfl ?_
    obtain rfl := h24_
    obtain rfl := h25_
    refine (does_call (args := #[(.agg #[(Fl r7), (Fl r9), (Fl r11)]), (Iv 0)]) cal16 (evs rfl) (c_spec_l02Pick [(Fl r7), (Fl r9), (Fl r11)] A_b.hi 0 _ ⟨r7, r9, r11, rfl, h8, h10, h12⟩)).mono ?_; rintro v u' ⟨hx, ⟨rn1, hv, k0⟩⟩
    exact ⟨⟨rn1, hv, (by simp only [k0])⟩, hx⟩
  refine RW_d _ rfl (fun v => by dsimp only [List.set]; try rfl) (fun u hu hF => ?_) (fun v400 => ?_)
  · clear hF
    refine doesG_un rfl ?_
    refine (does_fieldAddr (ev rfl) fa29_0).mono ?_; rintro _ _ ⟨rfl, rfl⟩
    exact ⟨rfl, Ext.refl _⟩
  refine RW_d _ rfl (fun v => by dsimp only [List.set]; try rfl) (fun u hu hF => ?_) (fun v401 => ?_)
  · have h27_ : v400 = (Pt b14 0) := hF.1
    clear hF
    refine doesG_un rfl ?_
    obtain rfl := h27_
    refine (does_loadAgg (cs := [(Fl r1), (Fl r3), (Fl r5)]) (ev rfl) Try.isAgg27 Try.sizeOf27 (Cells.sub (Blk.cells ((((((hB16.ext E24).ext E32).ext E46).ext E69).ext E384).ext hu)) 0 3) rfl).mono ?_; rintro _ _ ⟨rfl, rfl⟩
    exact ⟨rfl, Ext.refl _⟩
  refine RW_d _ rfl (fun v => by dsimp only [List.set]; try rfl) (fun u hu hF => ?_) (fun v402 => ?_)
  · clear hF
    refine doesG_un rfl ?_
    refine (does_move (u := (Iv 0)) (ev rfl)).mono ?_; rintro _ _ ⟨rfl, rfl⟩
    exact ⟨rfl, Ext.refl _⟩
  refine RW_d _ rfl (fun v => by dsimp only [List.set]; try rfl) (fun u hu hF => ?_) (fun v403 => ?_)
  · have h28_ : v401 = (.agg #[(Fl r1), (Fl r3), (Fl r5)]) := hF.1
    have h29_ : v402 = (Iv 0) := hF.2.1
    clear hF
    refine doesG_un rfl ?_
    obtain rfl := h28_
    obtain rfl := h29_
    refine (does_call (args := #[(.agg #[(Fl r1), (Fl r3), (Fl r5)]), (Iv 0)]) cal16 (evs rfl) (c_spec_l02Pick [(Fl r1), (Fl r3), (Fl r5)] A_b.lo 0 _ ⟨r1, r3, r5, rfl, h2, h4, h6⟩)).mono ?_; rintro v u' ⟨hx, ⟨rn1, hv, k0⟩⟩
    exact ⟨⟨rn1, hv, (by simp only [k0])⟩, hx⟩
  refine RW_d _ rfl (fun v => by dsimp only [List.set]; try rfl) (fun u hu hF => ?_) (fun v404 => ?_)
  · have h26_ : ∃ r_1 : Nat, v399 = (Fl r_1) ∧ cf .f32 r_1 = pickV A_b.hi 0 := hF.1
    have h30_ : ∃ r_1 : Nat, v403 = (Fl r_1) ∧ cf .f32 r_1 = pickV A_b.lo 0 := hF.2.1
    clear hF
    refine doesG_un rfl ?_
    obtain ⟨r26_1, rfl, h26_2⟩ := h26_
    obtain ⟨r30_1, rfl, h30_2⟩ := h30_
    refine (does_float (.inr (.inl rfl)) (ev rfl) (ev rfl)).mono ?_; rintro _ _ ⟨r, rfl, hr, hx⟩
    exact ⟨⟨r, rfl, (by simp only [hr, h26_2, h30_2])⟩, hx⟩
  refine RW_d _ rfl (fun v => by dsimp only [List.set]; try rfl) (fun u hu hF => ?_) (fun v405 => ?_)
  · have h22_ : ∃ r_1 : Nat, v395 = (Fl r_1) ∧ cf .f32 r_1 = fop .sub .f32 (pickV A_b.hi 2) (pickV A_b.lo 2) := hF.1
    have h31_ : ∃ r_1 : Nat, v404 = (Fl r_1) ∧ cf .f32 r_1 = fop .sub .f32 (pickV A_b.hi 0) (pickV A_b.lo 0) := hF.2.1
    clear hF
    refine doesG_un rfl ?_
    obtain ⟨r22_1, rfl, h22_2⟩ := h22_
    obtain ⟨r31_1, rfl, h31_2⟩ := h31_
    refine (does_fcmp (.inr (.inr (.inr (.inr (.inl rfl))))) (ev rfl) (ev rfl)).mono ?_; rintro _ _ ⟨rfl, rfl⟩
    exact ⟨(by first | rfl | (show _ = _; simp only [hβ3, h22_2, h31_2]; done) | (show _ = _; simp only [hβ3, h22_2, h31_2]; rfl)), Ext.refl _⟩
  refine RW_fin ?_; intro w406 E407 hP408
  obtain ⟨⟨⟨⟨⟨⟨⟨⟨⟨⟨⟨⟨⟨⟨⟨⟨⟨⟨⟨-, -⟩, -⟩, -⟩, -⟩, -⟩, -⟩, -⟩, -⟩, -⟩, -⟩, -⟩, -⟩, -⟩, -⟩, -⟩, -⟩, -⟩, -⟩, q409⟩ := hP408
  have X410 := Ext.gr X386 E407
  have q409 : v405 = (Bo β3) := q409
  obtain rfl := q409
  show wpList _ _ _ _ (fr [_, _, _, _, _, _, _, _, _, _, _, _, _, _, _, _, _, _, _, _, _, _, _, _, _, _, _, _, _, _, _, _, _, _, _, _, _, _, _, _, _, _, _, _, _, _, _, _, _, _, _, _, _, _, _, _, _, _, _, _, _, _, _, _, _]) _
  refine wpList_nil (hK382 _ _ ?_)
  refine wp_cond_split (t := β3) (ev rfl) (fun c411 => ?_) (fun c411 => ?_)
  · have c411' := c411
    (try simp only [hβ1, hβ3] at c411')
    (try simp only [icmp, Bool.and_eq_true, Bool.or_eq_true, Bool.and_eq_false_iff, Bool.or_eq_false_iff, Bool.not_eq_true', Bool.not_eq_false', decide_eq_true_eq, decide_eq_false_iff_not, beq_iff_eq, bne_iff_ne, beq_eq_false_iff_ne, bne_eq_false_iff_eq] at c411')
    simp only [h2, h4, h6, h8, h10, h12, hβ1, hβ3, pickV_0, pickV_1, pickV_2, setV_0, setV_1, setV_2] at c411
    refine wp_region_lit ?_
    refine q_is rfl rfl (does_move (u := (Iv 2)) (ev rfl)) (by dsimp only [List.set]; try rfl) ?_
    refine q_is rfl rfl (does_assign (u := (Iv 2)) (ev rfl)) (by dsimp only [List.set]; try rfl) ?_
    refine wpList_nil (hK381 _ _ ?_)
    refine wp_region_lit ?_
    refine q_is rfl rfl (does_move (u := (Iv 2)) (ev rfl)) (by dsimp only [List.set]; try rfl) ?_
    refine q_is rfl rfl (does_iarith (p := 2) (q := 1) (r := (3)) (ev rfl) (ev rfl) (.inl ⟨rfl, rfl⟩)) (by dsimp only [List.set]; try rfl) ?_
    refine q_is rfl rfl (does_assign (u := (Iv 3)) (ev rfl)) (by dsimp only [List.set]; try rfl) ?_
    refine wpList_nil ?_
    refine un_step ?_
    refine wp_seq_k fun K412 hK412 => ?_
    refine wp_seq_k fun K413 hK413 => ?_
    refine wp_region_lit ?_
    refine q_is rfl rfl (does_move (u := (Iv 3)) (ev rfl)) (by dsimp only [List.set]; try rfl) ?_
    refine q_is rfl rfl (does_icmp (p := 3) (q := 3) (.inr (.inr (.inl rfl))) (ev rfl) (ev rfl)) (by dsimp only [List.set]; try rfl) ?_
    refine wpList_nil (hK413 _ _ ?_)
    refine wp_cond_false (ev rfl) ?_
    refine wp_exit ?_
    refine hK39 _ _ ?_
    refine wp_seq_k fun K414 hK414 => ?_
    refine wp_region_lit ?_
    refine q_is rfl rfl (does_fieldAddr (ev rfl) fa29_0) (by dsimp only [List.set]; try rfl) ?_
    refine q_is rfl rfl (does_loadAgg (cs := [(Fl r1), (Fl r3), (Fl r5)]) (ev rfl) Try.isAgg27 Try.sizeOf27 (Cells.sub (Blk.cells ((((((hB16.ext E24).ext E32).ext E46).ext E69).ext E384).ext E407)) 0 3) rfl) (by dsimp only [List.set]; try rfl) ?_
    refine q_is rfl rfl (does_move (u := (Iv 2)) (ev rfl)) (by dsimp only [List.set]; try rfl) ?_
    refine seqd rfl rfl (does_call (args := #[(.agg #[(Fl r1), (Fl r3), (Fl r5)]), (Iv 2)]) cal16 (evs rfl) (c_spec_l02Pick [(Fl r1), (Fl r3), (Fl r5)] A_b.lo 2 _ ⟨r1, r3, r5, rfl, h2, h4, h6⟩)) ?_; rintro _ w416 ⟨E415, ⟨r417, rfl, h418⟩⟩
    have X419 := Ext.gr X410 E415
    show wpList _ _ _ _ (fr [_, _, _, _, _, _, _, _, _, _, _, _, _, _, _, _, _, _, _, _, _, _, _, _, _, _, _, _, _, _, _, _, _, _, _, _, _, _, _, _, _, _, _, _, _, _, _, _, _, _, _, _, _, _, _, _, _, _, _, _, _, _, _, _, _]) _
    refine q_is rfl rfl (does_assign (u := (Fl r417)) (ev rfl)) (by dsimp only [List.set]; try rfl) ?_
    refine wpList_nil (hK414 _ _ ?_)
    refine wp_seq_k fun K420 hK420 => ?_
    refine wp_region_lit ?_
    refine q_is rfl rfl (does_move (u := (Fl r417)) (ev rfl)) (by dsimp only [List.set]; try rfl) ?_
    refine q_is rfl rfl (does_fieldAddr (ev rfl) fa29_1) (by dsimp only [List.set]; try rfl) ?_
    refine q_is rfl rfl (does_loadAgg (cs := [(Fl r7), (Fl r9), (Fl r11)]) (ev rfl) Try.isAgg27 Try.sizeOf27 (Cells.sub (Blk.cells (((((((hB16.ext E24).ext E32).ext E46).ext E69).ext E384).ext E407).ext E415)) 3 3) rfl) (by dsimp only [List.set]; try rfl) ?_
    refine q_is rfl rfl (does_move (u := (Iv 2)) (ev rfl)) (by dsimp only [List.set]; try rfl) ?_
    refine seqd rfl rfl (does_call (args := #[(.agg #[(Fl r7), (Fl r9), (Fl r11)]), (Iv 2)]) cal16 (evs rfl) (c_spec_l02Pick [(Fl r7), (Fl r9), (Fl r11)] A_b.hi 2 _ ⟨r7, r9, r11, rfl, h8, h10, h12⟩)) ?_; rintro _ w422 ⟨E421, ⟨r423, rfl, h424⟩⟩
    have X425 := Ext.gr X419 E421
    show wpList _ _ _ _ (fr [_, _, _, _, _, _, _, _, _, _, _, _, _, _, _, _, _, _, _, _, _, _, _, _, _, _, _, _, _, _, _, _, _, _, _, _, _, _, _, _, _, _, _, _, _, _, _, _, _, _, _, _, _, _, _, _, _, _, _, _, _, _, _, _, _]) _
    refine q_is rfl rfl (does_move (u := (Fl r417)) (ev rfl)) (by dsimp only [List.set]; try rfl) ?_
    refine seqd rfl rfl (does_float (.inr (.inl rfl)) (ev rfl) (ev rfl)) ?_; rintro _ w429 ⟨r426, rfl, h427, E428⟩
    have X430 := Ext.gr X425 E428
    show wpList _ _ _ _ (fr [_, _, _, _, _, _, _, _, _, _, _, _, _, _, _, _, _, _, _, _, _, _, _, _, _, _, _, _, _, _, _, _, _, _, _, _, _, _, _, _, _, _, _, _, _, _, _, _, _, _, _, _, _, _, _, _, _, _, _, _, _, _, _, _, _]) _
    refine seqd rfl rfl (does_float (.inr (.inr (.inl rfl))) (ev rfl) (ev rfl)) ?_; rintro _ w434 ⟨r431, rfl, h432, E433⟩
    have X435 := Ext.gr X430 E433
    show wpList _ _ _ _ (fr [_, _, _, _, _, _, _, _, _, _, _, _, _, _, _, _, _, _, _, _, _, _, _, _, _, _, _, _, _, _, _, _, _, _, _, _, _, _, _, _, _, _, _, _, _, _, _, _, _, _, _, _, _, _, _, _, _, _, _, _, _, _, _, _, _]) _
    refine seqd rfl rfl (does_float (.inl rfl) (ev rfl) (ev rfl)) ?_; rintro _ w439 ⟨r436, rfl, h437, E438⟩
    have X440 := Ext.gr X435 E438
    show wpList _ _ _ _ (fr [_, _, _, _, _, _, _, _, _, _, _, _, _, _, _, _, _, _, _, _, _, _, _, _, _, _, _, _, _, _, _, _, _, _, _, _, _, _, _, _, _, _, _, _, _, _, _, _, _, _, _, _, _, _, _, _, _, _, _, _, _, _, _, _, _]) _
    refine q_is rfl rfl (does_assign (u := (Fl r436)) (ev rfl)) (by dsimp only [List.set]; try rfl) ?_
    refine wpList_nil (hK420 _ _ ?_)
    refine wp_seq_k fun K441 hK441 => ?_
    refine region_draw (
      [Fact.pure [] (fun v => v = (Pt b14 0)),
    Fact.pure [47] (fun v => v = (.agg #[(Fl r1), (Fl r3), (Fl r5)])),
    Fact.pure [] (fun v => v = (Pt b14 3)),
    Fact.pure [49] (fun v => v = (.agg #[(Fl r7), (Fl r9), (Fl r11)])),
    Fact.pure [] (fun v => v = (Iv 2)),
    Fact.pure [] (fun v => v = (Fl r436)),
    Fact.pure [50, 51, 52] (fun v => ∃ cs_1 : List Value, v = (.agg cs_1.toArray) ∧ RV3 w (setV A_b.hi 2 (cf .f32 r436)) cs_1),
    Fact.pure [48, 53] (fun v => ∃ r_1 : Nat, ∃ r_2 : Nat, ∃ r_3 : Nat, v = (.agg #[(Fl r1), (Fl r3), (Fl r5), (Fl r_1), (Fl r_2), (Fl r_3)]) ∧ cf .f32 r_1 = (setV A_b.hi 2 (cf .f32 r436)).x ∧ cf .f32 r_2 = (setV A_b.hi 2 (cf .f32 r436)).y ∧ cf .f32 r_3 = (setV A_b.hi 2 (cf .f32 r436)).z),
    Fact.mem [] (fun v w' => ∃ b : Nat, v = .pointer (some ⟨b, 0, none⟩) ∧ w439.heap.size ≤ b ∧ Blk w' b [(Fl 0), (Fl 0), (Fl 0), (Fl 0), (Fl 0), (Fl 0)]) (by rintro v w1 w2 hx ⟨b, rfl, hb, hB⟩; exact ⟨b, rfl, hb, (hB.ext hx)⟩)]) mixed (by kernel_rfl) (by intro _ _ d _ _ h; cases d <;> exact h) ?_
    obtain ⟨w442, hw444⟩ : ∃ w', w' = World.drew w439 := ⟨_, rfl⟩; rw [← hw444]; have E443 : Ext w439 w442 := by rw [hw444]; exact Ext.draw _
    clear hw444
    have X445 := Ext.gr X440 E443
    refine RW_d _ rfl (fun v => by dsimp only [List.set]; try rfl) (fun u hu hF => ?_) (fun v446 => ?_)
    · clear hF
      refine doesG_un rfl ?_
      refine (does_fieldAddr (ev rfl) fa29_0).mono ?_; rintro _ _ ⟨rfl, rfl⟩
      exact ⟨rfl, Ext.refl _⟩
    refine RW_d _ rfl (fun v => by dsimp only [List.set]; try rfl) (fun u hu hF => ?_) (fun v447 => ?_)
    · have h47_ : v446 = (Pt b14 0) := hF.1
      clear hF
      refine doesG_un rfl ?_
      obtain rfl := h47_
      refine (does_loadAgg (cs := [(Fl r1), (Fl r3), (Fl r5)]) (ev rfl) Try.isAgg27 Try.sizeOf27 (Cells.sub (Blk.cells (((((((((((((hB16.ext E24).ext E32).ext E46).ext E69).ext E384).ext E407).ext E415).ext E421).ext E428).ext E433).ext E438).ext E443).ext hu)) 0 3) rfl).mono ?_; rintro _ _ ⟨rfl, rfl⟩
      exact ⟨rfl, Ext.refl _⟩
    refine RW_d _ rfl (fun v => by dsimp only [List.set]; try rfl) (fun u hu hF => ?_) (fun v448 => ?_)
    · clear hF
      refine doesG_un rfl ?_
      refine (does_fieldAddr (ev rfl) fa29_1).mono ?_; rintro _ _ ⟨rfl, rfl⟩
      exact ⟨rfl, Ext.refl _⟩
    refine RW_d _ rfl (fun v => by dsimp only [List.set]; try rfl) (fun u hu hF => ?_) (fun v449 => ?_)
    · have h49_ : v448 = (Pt b14 3) := hF.1
      clear hF
      refine doesG_un rfl ?_
      obtain rfl := h49_
      refine (does_loadAgg (cs := [(Fl r7), (Fl r9), (Fl r11)]) (ev rfl) Try.isAgg27 Try.sizeOf27 (Cells.sub (Blk.cells (((((((((((((hB16.ext E24).ext E32).ext E46).ext E69).ext E384).ext E407).ext E415).ext E421).ext E428).ext E433).ext E438).ext E443).ext hu)) 3 3) rfl).mono ?_; rintro _ _ ⟨rfl, rfl⟩
      exact ⟨rfl, Ext.refl _⟩
    refine RW_d _ rfl (fun v => by dsimp only [List.set]; try rfl) (fun u hu hF => ?_) (fun v450 => ?_)
    · clear hF
      refine doesG_un rfl ?_
      refine (does_move (u := (Iv 2)) (ev rfl)).mono ?_; rintro _ _ ⟨rfl, rfl⟩
      exact ⟨rfl, Ext.refl _⟩
    refine RW_d _ rfl (fun v => by dsimp only [List.set]; try rfl) (fun u hu hF => ?_) (fun v451 => ?_)
    · clear hF
      refine doesG_un rfl ?_
      refine (does_move (u := (Fl r436)) (ev rfl)).mono ?_; rintro _ _ ⟨rfl, rfl⟩
      exact ⟨rfl, Ext.refl _⟩
    refine RW_d _ rfl (fun v => by dsimp only [List.set]; try rfl) (fun u hu hF => ?_) (fun v452 => ?_)
    · have h50_ : v449 = (.agg #[(Fl r7), (Fl r9), (Fl r11)]) := hF.1
      have h51_ : v450 = (Iv 2) := hF.2.1
      have h52_ : v451 = (Fl r436) := hF.2.2.1
      clear hF
      refine doesG_un rfl ?_
      obtain rfl := h50_
      obtain rfl := h51_
      obtain rfl := h52_
      refine (does_call (args := #[(.agg #[(Fl r7), (Fl r9), (Fl r11)]), (Iv 2), (Fl r436)]) cal17 (evs rfl) (c_spec_l02Set [(Fl r7), (Fl r9), (Fl r11)] A_b.hi 2 r436 _ ⟨r7, r9, r11, rfl, h8, h10, h12⟩)).mono ?_; rintro v u' ⟨hx, ⟨csn1, hv, k0⟩⟩
      exact ⟨⟨csn1, hv, k0⟩, hx⟩
    refine RW_d _ rfl (fun v => by dsimp only [List.set]; try rfl) (fun u hu hF => ?_) (fun v453 => ?_)
    · have h48_ : v447 = (.agg #[(Fl r1), (Fl r3), (Fl r5)]) := hF.1
      have h53_ : ∃ cs_1 : List Value, v452 = (.agg cs_1.toArray) ∧ RV3 w (setV A_b.hi 2 (cf .f32 r436)) cs_1 := hF.2.1
      clear hF
      refine doesG_un rfl ?_
      obtain rfl := h48_
      obtain ⟨_, rfl, ⟨r53_1, r53_3, r53_5, rfl, h53_2, h53_4, h53_6⟩⟩ := h53_
      refine (does_build (parts' := [(0, (.agg #[(Fl r1), (Fl r3), (Fl r5)])), (1, (.agg #[(Fl r53_1), (Fl r53_3), (Fl r53_5)]))]) (cells := #[(Fl r1), (Fl r3), (Fl r5), (Fl r53_1), (Fl r53_3), (Fl r53_5)]) (evp rfl) (by kernel_rfl)).mono ?_; rintro _ _ ⟨rfl, rfl⟩
      exact ⟨⟨r53_1, r53_3, r53_5, rfl, (by simp only [h53_2, h53_4, h53_6]), (by simp only [h53_2, h53_4, h53_6]), (by simp only [h53_2, h53_4, h53_6])⟩, Ext.refl _⟩
    refine RW_d _ rfl (fun v => by dsimp only [List.set]; try rfl) (fun u hu hF => ?_) (fun v454 => ?_)
    · clear hF
      refine doesG_un rfl ?_
      refine (does_alloc z29).mono ?_; rintro _ _ ⟨b, rfl, hb, hB, hx⟩
      exact ⟨⟨b, rfl, Nat.le_trans (Nat.le_trans (Below.size E443) (Below.size hu)) hb, hB⟩, hx⟩
    refine RW_fin ?_; intro w455 E456 hP457
    obtain ⟨⟨⟨⟨⟨⟨⟨⟨⟨-, -⟩, -⟩, -⟩, -⟩, -⟩, -⟩, -⟩, q458⟩, q459⟩ := hP457
    have X460 := Ext.gr X445 E456
    have q458 : ∃ r_1 : Nat, ∃ r_2 : Nat, ∃ r_3 : Nat, v453 = (.agg #[(Fl r1), (Fl r3), (Fl r5), (Fl r_1), (Fl r_2), (Fl r_3)]) ∧ cf .f32 r_1 = (setV A_b.hi 2 (cf .f32 r436)).x ∧ cf .f32 r_2 = (setV A_b.hi 2 (cf .f32 r436)).y ∧ cf .f32 r_3 = (setV A_b.hi 2 (cf .f32 r436)).z := q458
    obtain ⟨r461, r463, r465, rfl, h462, h464, h466⟩ := q458
    have q459 : ∃ b : Nat, v454 = .pointer (some ⟨b, 0, none⟩) ∧ w439.heap.size ≤ b ∧ Blk w455 b [(Fl 0), (Fl 0), (Fl 0), (Fl 0), (Fl 0), (Fl 0)] := q459
    obtain ⟨b467, rfl, hb468, hB469⟩ := q459
    have n470 : b14 < b467 := Nat.lt_of_lt_of_le (Blk.lt (((((((((((hB16.ext E24).ext E32).ext E46).ext E69).ext E384).ext E407).ext E415).ext E421).ext E428).ext E433).ext E438)) hb468
    have n471 : b21 < b467 := Nat.lt_of_lt_of_le (Blk.lt ((((((((((hB23.ext E32).ext E46).ext E69).ext E384).ext E407).ext E415).ext E421).ext E428).ext E433).ext E438)) hb468
    have n472 : b29 < b467 := Nat.lt_of_lt_of_le (Blk.lt (((((((((hB31.ext E46).ext E69).ext E384).ext E407).ext E415).ext E421).ext E428).ext E433).ext E438)) hb468
    have g473 : w.heap.size ≤ b467 := Nat.le_trans (Below.size X440) hb468
    show wpList _ _ _ _ (fr [_, _, _, _, _, _, _, _, _, _, _, _, _, _, _, _, _, _, _, _, _, _, _, _, _, _, _, _, _, _, _, _, _, _, _, _, _, _, _, _, _, _, _, _, _, _, _, _, _, _, _, _, _, _, _, _, _, _, _, _, _, _, _, _, _]) _
    refine seqn rfl rfl (does_store (n := 6) (cs := [(Fl 0), (Fl 0), (Fl 0), (Fl 0), (Fl 0), (Fl 0)]) (u := (.agg #[(Fl r1), (Fl r3), (Fl r5), (Fl r461), (Fl r463), (Fl r465)])) (ev rfl) (ev rfl) Try.sizeOf29 rfl hB469 (Nat.le_of_ble_eq_true rfl) rfl) ?_; rintro _ w476 ⟨rfl, W474, hB475⟩
    change Blk _ _ [(Fl r1), (Fl r3), (Fl r5), (Fl r461), (Fl r463), (Fl r465)] at hB475
    have X477 := Below.wr X460 W474 g473
    refine wpList_nil (hK441 _ _ ?_)
    refine wp_seq_k fun K478 hK478 => ?_
    refine region_draw (
      [Fact.pure [] (fun v => v = (Pt b14 0)),
    Fact.pure [55] (fun v => v = (.agg #[(Fl r1), (Fl r3), (Fl r5)])),
    Fact.pure [] (fun v => v = (Iv 2)),
    Fact.pure [] (fun v => v = (Fl r436)),
    Fact.pure [56, 57, 58] (fun v => ∃ cs_1 : List Value, v = (.agg cs_1.toArray) ∧ RV3 w (setV A_b.lo 2 (cf .f32 r436)) cs_1),
    Fact.pure [] (fun v => v = (Pt b14 3)),
    Fact.pure [60] (fun v => v = (.agg #[(Fl r7), (Fl r9), (Fl r11)])),
    Fact.pure [59, 61] (fun v => ∃ r_1 : Nat, ∃ r_2 : Nat, ∃ r_3 : Nat, v = (.agg #[(Fl r_1), (Fl r_2), (Fl r_3), (Fl r7), (Fl r9), (Fl r11)]) ∧ cf .f32 r_1 = (setV A_b.lo 2 (cf .f32 r436)).x ∧ cf .f32 r_2 = (setV A_b.lo 2 (cf .f32 r436)).y ∧ cf .f32 r_3 = (setV A_b.lo 2 (cf .f32 r436)).z),
    Fact.mem [] (fun v w' => ∃ b : Nat, v = .pointer (some ⟨b, 0, none⟩) ∧ w476.heap.size ≤ b ∧ Blk w' b [(Fl 0), (Fl 0), (Fl 0), (Fl 0), (Fl 0), (Fl 0)]) (by rintro v w1 w2 hx ⟨b, rfl, hb, hB⟩; exact ⟨b, rfl, hb, (hB.ext hx)⟩)]) mixed (by kernel_rfl) (by intro _ _ d _ _ h; cases d <;> exact h) ?_
    obtain ⟨w479, hw481⟩ : ∃ w', w' = World.drew w476 := ⟨_, rfl⟩; rw [← hw481]; have E480 : Ext w476 w479 := by rw [hw481]; exact Ext.draw _
    clear hw481
    have X482 := Ext.gr X477 E480
    refine RW_d _ rfl (fun v => by dsimp only [List.set]; try rfl) (fun u hu hF => ?_) (fun v483 => ?_)
    · clear hF
      refine doesG_un rfl ?_
      refine (does_fieldAddr (ev rfl) fa29_0).mono ?_; rintro _ _ ⟨rfl, rfl⟩
      exact ⟨rfl, Ext.refl _⟩
    refine RW_d _ rfl (fun v => by dsimp only [List.set]; try rfl) (fun u hu hF => ?_) (fun v484 => ?_)
    · have h55_ : v483 = (Pt b14 0) := hF.1
      clear hF
      refine doesG_un rfl ?_
      obtain rfl := h55_
      refine (does_loadAgg (cs := [(Fl r1), (Fl r3), (Fl r5)]) (ev rfl) Try.isAgg27 Try.sizeOf27 (Cells.sub (Blk.cells ((((((((((((((((hB16.ext E24).ext E32).ext E46).ext E69).ext E384).ext E407).ext E415).ext E421).ext E428).ext E433).ext E438).ext E443).ext E456).wr W474 (Nat.ne_of_lt n470)).ext E480).ext hu)) 0 3) rfl).mono ?_; rintro _ _ ⟨rfl, rfl⟩
      exact ⟨rfl, Ext.refl _⟩
    refine RW_d _ rfl (fun v => by dsimp only [List.set]; try rfl) (fun u hu hF => ?_) (fun v485 => ?_)
    · clear hF
      refine doesG_un rfl ?_
      refine (does_move (u := (Iv 2)) (ev rfl)).mono ?_; rintro _ _ ⟨rfl, rfl⟩
      exact ⟨rfl, Ext.refl _⟩
    refine RW_d _ rfl (fun v => by dsimp only [List.set]; try rfl) (fun u hu hF => ?_) (fun v486 => ?_)
    · clear hF
      refine doesG_un rfl ?_
      refine (does_move (u := (Fl r436)) (ev rfl)).mono ?_; rintro _ _ ⟨rfl, rfl⟩
      exact ⟨rfl, Ext.refl _⟩
    refine RW_d _ rfl (fun v => by dsimp only [List.set]; try rfl) (fun u hu hF => ?_) (fun v487 => ?_)
    · have h56_ : v484 = (.agg #[(Fl r1), (Fl r3), (Fl r5)]) := hF.1
      have h57_ : v485 = (Iv 2) := hF.2.1
      have h58_ : v486 = (Fl r436) := hF.2.2.1
      clear hF
      refine doesG_un rfl ?_
      obtain rfl := h56_
      obtain rfl := h57_
      obtain rfl := h58_
      refine (does_call (args := #[(.agg #[(Fl r1), (Fl r3), (Fl r5)]), (Iv 2), (Fl r436)]) cal17 (evs rfl) (c_spec_l02Set [(Fl r1), (Fl r3), (Fl r5)] A_b.lo 2 r436 _ ⟨r1, r3, r5, rfl, h2, h4, h6⟩)).mono ?_; rintro v u' ⟨hx, ⟨csn1, hv, k0⟩⟩
      exact ⟨⟨csn1, hv, k0⟩, hx⟩
    refine RW_d _ rfl (fun v => by dsimp only [List.set]; try rfl) (fun u hu hF => ?_) (fun v488 => ?_)
    · clear hF
      refine doesG_un rfl ?_
      refine (does_fieldAddr (ev rfl) fa29_1).mono ?_; rintro _ _ ⟨rfl, rfl⟩
      exact ⟨rfl, Ext.refl _⟩
    refine RW_d _ rfl (fun v => by dsimp only [List.set]; try rfl) (fun u hu hF => ?_) (fun v489 => ?_)
    · have h60_ : v488 = (Pt b14 3) := hF.1
      clear hF
      refine doesG_un rfl ?_
      obtain rfl := h60_
      refine (does_loadAgg (cs := [(Fl r7), (Fl r9), (Fl r11)]) (ev rfl) Try.isAgg27 Try.sizeOf27 (Cells.sub (Blk.cells ((((((((((((((((hB16.ext E24).ext E32).ext E46).ext E69).ext E384).ext E407).ext E415).ext E421).ext E428).ext E433).ext E438).ext E443).ext E456).wr W474 (Nat.ne_of_lt n470)).ext E480).ext hu)) 3 3) rfl).mono ?_; rintro _ _ ⟨rfl, rfl⟩
      exact ⟨rfl, Ext.refl _⟩
    refine RW_d _ rfl (fun v => by dsimp only [List.set]; try rfl) (fun u hu hF => ?_) (fun v490 => ?_)
    · have h59_ : ∃ cs_1 : List Value, v487 = (.agg cs_1.toArray) ∧ RV3 w (setV A_b.lo 2 (cf .f32 r436)) cs_1 := hF.1
      have h61_ : v489 = (.agg #[(Fl r7), (Fl r9), (Fl r11)]) := hF.2.1
      clear hF
      refine doesG_un rfl ?_
      obtain ⟨_, rfl, ⟨r59_1, r59_3, r59_5, rfl, h59_2, h59_4, h59_6⟩⟩ := h59_
      obtain rfl := h61_
      refine (does_build (parts' := [(0, (.agg #[(Fl r59_1), (Fl r59_3), (Fl r59_5)])), (1, (.agg #[(Fl r7), (Fl r9), (Fl r11)]))]) (cells := #[(Fl r59_1), (Fl r59_3), (Fl r59_5), (Fl r7), (Fl r9), (Fl r11)]) (evp rfl) (by kernel_rfl)).mono ?_; rintro _ _ ⟨rfl, rfl⟩
      exact ⟨⟨r59_1, r59_3, r59_5, rfl, (by simp only [h59_2, h59_4, h59_6]), (by simp only [h59_2, h59_4, h59_6]), (by simp only [h59_2, h59_4, h59_6])⟩, Ext.refl _⟩
    refine RW_d _ rfl (fun v => by dsimp only [List.set]; try rfl) (fun u hu hF => ?_) (fun v491 => ?_)
    · clear hF
      refine doesG_un rfl ?_
      refine (does_alloc z29).mono ?_; rintro _ _ ⟨b, rfl, hb, hB, hx⟩
      exact ⟨⟨b, rfl, Nat.le_trans (Nat.le_trans (Below.size E480) (Below.size hu)) hb, hB⟩, hx⟩
    refine RW_fin ?_; intro w492 E493 hP494
    obtain ⟨⟨⟨⟨⟨⟨⟨⟨⟨-, -⟩, -⟩, -⟩, -⟩, -⟩, -⟩, -⟩, q495⟩, q496⟩ := hP494
    have X497 := Ext.gr X482 E493
    have q495 : ∃ r_1 : Nat, ∃ r_2 : Nat, ∃ r_3 : Nat, v490 = (.agg #[(Fl r_1), (Fl r_2), (Fl r_3), (Fl r7), (Fl r9), (Fl r11)]) ∧ cf .f32 r_1 = (setV A_b.lo 2 (cf .f32 r436)).x ∧ cf .f32 r_2 = (setV A_b.lo 2 (cf .f32 r436)).y ∧ cf .f32 r_3 = (setV A_b.lo 2 (cf .f32 r436)).z := q495
    obtain ⟨r498, r500, r502, rfl, h499, h501, h503⟩ := q495
    have q496 : ∃ b : Nat, v491 = .pointer (some ⟨b, 0, none⟩) ∧ w476.heap.size ≤ b ∧ Blk w492 b [(Fl 0), (Fl 0), (Fl 0), (Fl 0), (Fl 0), (Fl 0)] := q496
    obtain ⟨b504, rfl, hb505, hB506⟩ := q496
    have n507 : b14 < b504 := Nat.lt_of_lt_of_le (Blk.lt ((((((((((((((hB16.ext E24).ext E32).ext E46).ext E69).ext E384).ext E407).ext E415).ext E421).ext E428).ext E433).ext E438).ext E443).ext E456).wr W474 (Nat.ne_of_lt n470))) hb505
    have n508 : b21 < b504 := Nat.lt_of_lt_of_le (Blk.lt (((((((((((((hB23.ext E32).ext E46).ext E69).ext E384).ext E407).ext E415).ext E421).ext E428).ext E433).ext E438).ext E443).ext E456).wr W474 (Nat.ne_of_lt n471))) hb505
    have n509 : b29 < b504 := Nat.lt_of_lt_of_le (Blk.lt ((((((((((((hB31.ext E46).ext E69).ext E384).ext E407).ext E415).ext E421).ext E428).ext E433).ext E438).ext E443).ext E456).wr W474 (Nat.ne_of_lt n472))) hb505
    have n510 : b467 < b504 := Nat.lt_of_lt_of_le (Blk.lt hB475) hb505
    have g511 : w.heap.size ≤ b504 := Nat.le_trans (Below.size X477) hb505
    show wpList _ _ _ _ (fr [_, _, _, _, _, _, _, _, _, _, _, _, _, _, _, _, _, _, _, _, _, _, _, _, _, _, _, _, _, _, _, _, _, _, _, _, _, _, _, _, _, _, _, _, _, _, _, _, _, _, _, _, _, _, _, _, _, _, _, _, _, _, _, _, _]) _
    refine seqn rfl rfl (does_store (n := 6) (cs := [(Fl 0), (Fl 0), (Fl 0), (Fl 0), (Fl 0), (Fl 0)]) (u := (.agg #[(Fl r498), (Fl r500), (Fl r502), (Fl r7), (Fl r9), (Fl r11)])) (ev rfl) (ev rfl) Try.sizeOf29 rfl hB506 (Nat.le_of_ble_eq_true rfl) rfl) ?_; rintro _ w514 ⟨rfl, W512, hB513⟩
    change Blk _ _ [(Fl r498), (Fl r500), (Fl r502), (Fl r7), (Fl r9), (Fl r11)] at hB513
    have X515 := Below.wr X497 W512 g511
    refine wpList_nil (hK478 _ _ ?_)
    refine wp_seq_k fun K516 hK516 => ?_
    have n520 : b21 < w514.heap.size := Blk.lt ((((((((((((((((hB23.ext E32).ext E46).ext E69).ext E384).ext E407).ext E415).ext E421).ext E428).ext E433).ext E438).ext E443).ext E456).wr W474 (Nat.ne_of_lt n471)).ext E480).ext E493).wr W512 (Nat.ne_of_lt n508))
    refine region_any2 [b21] [0, 0, 1, 7] [0] (
      [FactW.pure [] [] [0] true (fun v => v = (.agg #[(Fl r1), (Fl r3), (Fl r5), (Fl r461), (Fl r463), (Fl r465)])),
        FactW.pure [] [0] [0] true (fun v => v = (.agg #[(Fl r498), (Fl r500), (Fl r502), (Fl r7), (Fl r9), (Fl r11)])),
        FactW.mem [0] [] [0] [] true (fun v w' => v = undef ∧ Blk w' b21 [(Fl r1), (Fl r3), (Fl r5), (Fl r461), (Fl r463), (Fl r465)]) (by rintro v w1 w2 hx ⟨rfl, h⟩; exact ⟨rfl, h.ext (KpL.toExt hx)⟩)]) mixed (by kernel_rfl) ?_
    obtain ⟨w517, hw519⟩ : ∃ w', w' = World.drew w514 := ⟨_, rfl⟩; rw [← hw519]; have E518 : Ext w514 w517 := by rw [hw519]; exact Ext.draw _
    clear hw519
    have X521 := Ext.gr X515 E518
    refine RW2_d _ rfl (fun v => by dsimp only [List.set]; try rfl) (fun u hu hF => ?_) (fun v522 => ?_)
    · replace hu : KpL [] _ _ := hu
      clear hF
      refine doesG_un rfl ?_
      refine (does_loadAgg (cs := [(Fl r1), (Fl r3), (Fl r5), (Fl r461), (Fl r463), (Fl r465)]) (ev rfl) Try.isAgg29 Try.sizeOf29 (Blk.cells (((((hB475.ext E480).ext E493).wr W512 (Nat.ne_of_lt n510)).ext E518).ext (KpL.toExt hu))) rfl).mono ?_; rintro _ _ ⟨rfl, rfl⟩
      exact ⟨rfl, KpL.refl _ _⟩
    refine RW2_d _ rfl (fun v => by dsimp only [List.set]; try rfl) (fun u hu hF => ?_) (fun v523 => ?_)
    · replace hu : KpL [b21] _ _ := hu
      clear hF
      refine doesG_un rfl ?_
      refine (does_loadAgg (cs := [(Fl r498), (Fl r500), (Fl r502), (Fl r7), (Fl r9), (Fl r11)]) (ev rfl) Try.isAgg29 Try.sizeOf29 (Blk.cells ((hB513.ext E518).kl hu (ninS (Nat.ne_of_gt n508) nin0))) rfl).mono ?_; rintro _ _ ⟨rfl, rfl⟩
      exact ⟨rfl, KpL.refl _ _⟩
    refine RW2_n rfl (fun u hu hF => ?_) (fun v524 => ?_)
    · replace hu : KpL [] _ _ := hu
      have h63_ : v522 = (.agg #[(Fl r1), (Fl r3), (Fl r5), (Fl r461), (Fl r463), (Fl r465)]) := hF.1
      clear hF
      refine doesG_un rfl ?_
      obtain rfl := h63_
      refine (does_store (n := 6) (cs := [(Fl 0), (Fl 0), (Fl 0), (Fl 0), (Fl 0), (Fl 0)]) (u := (.agg #[(Fl r1), (Fl r3), (Fl r5), (Fl r461), (Fl r463), (Fl r465)])) (ev rfl) (ev rfl) Try.sizeOf29 rfl ((((((((((((((((((hB23.ext E32).ext E46).ext E69).ext E384).ext E407).ext E415).ext E421).ext E428).ext E433).ext E438).ext E443).ext E456).wr W474 (Nat.ne_of_lt n471)).ext E480).ext E493).wr W512 (Nat.ne_of_lt n508)).ext E518).ext (KpL.toExt hu)) (Nat.le_of_ble_eq_true rfl) rfl).mono ?_; rintro _ _ ⟨rfl, hW, hB⟩
      exact ⟨⟨rfl, hB⟩, KpL.of_wr hW⟩
    refine RW2_fin ?_; intro w525 E526 hP527; replace E526 : KpL [b21] _ _ := E526
    obtain ⟨⟨⟨-, -⟩, q528⟩, q529⟩ := hP527
    have X530 := Below.kl X521 E526 (allS g27 all0) (Nat.le_refl _)
    obtain ⟨_, hB531⟩ := q529 rfl
    change Blk _ _ [(Fl r1), (Fl r3), (Fl r5), (Fl r461), (Fl r463), (Fl r465)] at hB531
    have q528 : v523 = (.agg #[(Fl r498), (Fl r500), (Fl r502), (Fl r7), (Fl r9), (Fl r11)]) := q528 rfl
    obtain rfl := q528
    show wpList _ _ _ _ (fr [_, _, _, _, _, _, _, _, _, _, _, _, _, _, _, _, _, _, _, _, _, _, _, _, _, _, _, _, _, _, _, _, _, _, _, _, _, _, _, _, _, _, _, _, _, _, _, _, _, _, _, _, _, _, _, _, _, _, _, _, _, _, _, _, _]) _
    refine seqn rfl rfl (does_store (n := 6) (cs := [(Fl 0), (Fl 0), (Fl 0), (Fl 0), (Fl 0), (Fl 0)]) (u := (.agg #[(Fl r498), (Fl r500), (Fl r502), (Fl r7), (Fl r9), (Fl r11)])) (ev rfl) (ev rfl) Try.sizeOf29 rfl (((((((((((((((((hB31.ext E46).ext E69).ext E384).ext E407).ext E415).ext E421).ext E428).ext E433).ext E438).ext E443).ext E456).wr W474 (Nat.ne_of_lt n472)).ext E480).ext E493).wr W512 (Nat.ne_of_lt n509)).ext E518).kl E526 (ninS (Nat.ne_of_gt n35) nin0)) (Nat.le_of_ble_eq_true rfl) rfl) ?_; rintro _ w534 ⟨rfl, W532, hB533⟩
    change Blk _ _ [(Fl r498), (Fl r500), (Fl r502), (Fl r7), (Fl r9), (Fl r11)] at hB533
    have X535 := Below.wr X530 W532 g36
    refine wpList_nil (hK516 _ _ ?_)
    refine wp_ret ?_
    refine ret_val (v := (.tuple #[(.agg #[(Fl r1), (Fl r3), (Fl r5), (Fl r461), (Fl r463), (Fl r465)]), (.agg #[(Fl r498), (Fl r500), (Fl r502), (Fl r7), (Fl r9), (Fl r11)])])) (res_CC rfl (slot rfl) (run_loadAgg (cs := [(Fl r1), (Fl r3), (Fl r5), (Fl r461), (Fl r463), (Fl r465)]) Try.isAgg29 Try.sizeOf29 (Blk.cells (hB531.wr W532 (Nat.ne_of_lt n35))) rfl) (slot rfl) (run_loadAgg (cs := [(Fl r498), (Fl r500), (Fl r502), (Fl r7), (Fl r9), (Fl r11)]) Try.isAgg29 Try.sizeOf29 (Blk.cells hB533) rfl)) X535 ?_
    try simp only [h2, h4, h6, h8, h10, h12, hβ1, hβ3, h418, h424, h427, h432, h437, h462, h464, h466, h499, h501, h503] at c73 c411
    have x536 : cf .f32 r1 = (oneB A_b).lo.x := by (first | (have hax : axB A_b = 0 := by (simp only [axB, gtF, dimB, h2, h4, h6, h8, h10, h12, hβ1, hβ3, h418, h424, h427, h432, h437, h462, h464, h466, h499, h501, h503, c73, c411, pickV_0, pickV_1, pickV_2, setV_0, setV_1, setV_2, if_true, if_false, Bool.false_eq_true, ↓reduceIte]; done)); (simp only [oneB, twoB, midB, dimB, hax, half_two, pickV_0, pickV_1, pickV_2, setV_0, setV_1, setV_2, h2, h4, h6, h8, h10, h12, hβ1, hβ3, h418, h424, h427, h432, h437, h462, h464, h466, h499, h501, h503, c73, c411] <;> rfl) | (have hax : axB A_b = 1 := by (simp only [axB, gtF, dimB, h2, h4, h6, h8, h10, h12, hβ1, hβ3, h418, h424, h427, h432, h437, h462, h464, h466, h499, h501, h503, c73, c411, pickV_0, pickV_1, pickV_2, setV_0, setV_1, setV_2, if_true, if_false, Bool.false_eq_true, ↓reduceIte]; done)); (simp only [oneB, twoB, midB, dimB, hax, half_two, pickV_0, pickV_1, pickV_2, setV_0, setV_1, setV_2, h2, h4, h6, h8, h10, h12, hβ1, hβ3, h418, h424, h427, h432, h437, h462, h464, h466, h499, h501, h503, c73, c411] <;> rfl) | (have hax : axB A_b = 2 := by (simp only [axB, gtF, dimB, h2, h4, h6, h8, h10, h12, hβ1, hβ3, h418, h424, h427, h432, h437, h462, h464, h466, h499, h501, h503, c73, c411, pickV_0, pickV_1, pickV_2, setV_0, setV_1, setV_2, if_true, if_false, Bool.false_eq_true, ↓reduceIte]; done)); (simp only [oneB, twoB, midB, dimB, hax, half_two, pickV_0, pickV_1, pickV_2, setV_0, setV_1, setV_2, h2, h4, h6, h8, h10, h12, hβ1, hβ3, h418, h424, h427, h432, h437, h462, h464, h466, h499, h501, h503, c73, c411] <;> rfl))
    have x537 : cf .f32 r3 = (oneB A_b).lo.y := by (first | (have hax : axB A_b = 0 := by (simp only [axB, gtF, dimB, h2, h4, h6, h8, h10, h12, hβ1, hβ3, h418, h424, h427, h432, h437, h462, h464, h466, h499, h501, h503, c73, c411, pickV_0, pickV_1, pickV_2, setV_0, setV_1, setV_2, if_true, if_false, Bool.false_eq_true, ↓reduceIte]; done)); (simp only [oneB, twoB, midB, dimB, hax, half_two, pickV_0, pickV_1, pickV_2, setV_0, setV_1, setV_2, h2, h4, h6, h8, h10, h12, hβ1, hβ3, h418, h424, h427, h432, h437, h462, h464, h466, h499, h501, h503, c73, c411] <;> rfl) | (have hax : axB A_b = 1 := by (simp only [axB, gtF, dimB, h2, h4, h6, h8, h10, h12, hβ1, hβ3, h418, h424, h427, h432, h437, h462, h464, h466, h499, h501, h503, c73, c411, pickV_0, pickV_1, pickV_2, setV_0, setV_1, setV_2, if_true, if_false, Bool.false_eq_true, ↓reduceIte]; done)); (simp only [oneB, twoB, midB, dimB, hax, half_two, pickV_0, pickV_1, pickV_2, setV_0, setV_1, setV_2, h2, h4, h6, h8, h10, h12, hβ1, hβ3, h418, h424, h427, h432, h437, h462, h464, h466, h499, h501, h503, c73, c411] <;> rfl) | (have hax : axB A_b = 2 := by (simp only [axB, gtF, dimB, h2, h4, h6, h8, h10, h12, hβ1, hβ3, h418, h424, h427, h432, h437, h462, h464, h466, h499, h501, h503, c73, c411, pickV_0, pickV_1, pickV_2, setV_0, setV_1, setV_2, if_true, if_false, Bool.false_eq_true, ↓reduceIte]; done)); (simp only [oneB, twoB, midB, dimB, hax, half_two, pickV_0, pickV_1, pickV_2, setV_0, setV_1, setV_2, h2, h4, h6, h8, h10, h12, hβ1, hβ3, h418, h424, h427, h432, h437, h462, h464, h466, h499, h501, h503, c73, c411] <;> rfl))
    have x538 : cf .f32 r5 = (oneB A_b).lo.z := by (first | (have hax : axB A_b = 0 := by (simp only [axB, gtF, dimB, h2, h4, h6, h8, h10, h12, hβ1, hβ3, h418, h424, h427, h432, h437, h462, h464, h466, h499, h501, h503, c73, c411, pickV_0, pickV_1, pickV_2, setV_0, setV_1, setV_2, if_true, if_false, Bool.false_eq_true, ↓reduceIte]; done)); (simp only [oneB, twoB, midB, dimB, hax, half_two, pickV_0, pickV_1, pickV_2, setV_0, setV_1, setV_2, h2, h4, h6, h8, h10, h12, hβ1, hβ3, h418, h424, h427, h432, h437, h462, h464, h466, h499, h501, h503, c73, c411] <;> rfl) | (have hax : axB A_b = 1 := by (simp only [axB, gtF, dimB, h2, h4, h6, h8, h10, h12, hβ1, hβ3, h418, h424, h427, h432, h437, h462, h464, h466, h499, h501, h503, c73, c411, pickV_0, pickV_1, pickV_2, setV_0, setV_1, setV_2, if_true, if_false, Bool.false_eq_true, ↓reduceIte]; done)); (simp only [oneB, twoB, midB, dimB, hax, half_two, pickV_0, pickV_1, pickV_2, setV_0, setV_1, setV_2, h2, h4, h6, h8, h10, h12, hβ1, hβ3, h418, h424, h427, h432, h437, h462, h464, h466, h499, h501, h503, c73, c411] <;> rfl) | (have hax : axB A_b = 2 := by (simp only [axB, gtF, dimB, h2, h4, h6, h8, h10, h12, hβ1, hβ3, h418, h424, h427, h432, h437, h462, h464, h466, h499, h501, h503, c73, c411, pickV_0, pickV_1, pickV_2, setV_0, setV_1, setV_2, if_true, if_false, Bool.false_eq_true, ↓reduceIte]; done)); (simp only [oneB, twoB, midB, dimB, hax, half_two, pickV_0, pickV_1, pickV_2, setV_0, setV_1, setV_2, h2, h4, h6, h8, h10, h12, hβ1, hβ3, h418, h424, h427, h432, h437, h462, h464, h466, h499, h501, h503, c73, c411] <;> rfl))
    have x539 : cf .f32 r461 = (oneB A_b).hi.x := by (first | (have hax : axB A_b = 0 := by (simp only [axB, gtF, dimB, h2, h4, h6, h8, h10, h12, hβ1, hβ3, h418, h424, h427, h432, h437, h462, h464, h466, h499, h501, h503, c73, c411, pickV_0, pickV_1, pickV_2, setV_0, setV_1, setV_2, if_true, if_false, Bool.false_eq_true, ↓reduceIte]; done)); (simp only [oneB, twoB, midB, dimB, hax, half_two, pickV_0, pickV_1, pickV_2, setV_0, setV_1, setV_2, h2, h4, h6, h8, h10, h12, hβ1, hβ3, h418, h424, h427, h432, h437, h462, h464, h466, h499, h501, h503, c73, c411] <;> rfl) | (have hax : axB A_b = 1 := by (simp only [axB, gtF, dimB, h2, h4, h6, h8, h10, h12, hβ1, hβ3, h418, h424, h427, h432, h437, h462, h464, h466, h499, h501, h503, c73, c411, pickV_0, pickV_1, pickV_2, setV_0, setV_1, setV_2, if_true, if_false, Bool.false_eq_true, ↓reduceIte]; done)); (simp only [oneB, twoB, midB, dimB, hax, half_two, pickV_0, pickV_1, pickV_2, setV_0, setV_1, setV_2, h2, h4, h6, h8, h10, h12, hβ1, hβ3, h418, h424, h427, h432, h437, h462, h464, h466, h499, h501, h503, c73, c411] <;> rfl) | (have hax : axB A_b = 2 := by (simp only [axB, gtF, dimB, h2, h4, h6, h8, h10, h12, hβ1, hβ3, h418, h424, h427, h432, h437, h462, h464, h466, h499, h501, h503, c73, c411, pickV_0, pickV_1, pickV_2, setV_0, setV_1, setV_2, if_true, if_false, Bool.false_eq_true, ↓reduceIte]; done)); (simp only [oneB, twoB, midB, dimB, hax, half_two, pickV_0, pickV_1, pickV_2, setV_0, setV_1, setV_2, h2, h4, h6, h8, h10, h12, hβ1, hβ3, h418, h424, h427, h432, h437, h462, h464, h466, h499, h501, h503, c73, c411] <;> rfl))
    have x540 : cf .f32 r463 = (oneB A_b).hi.y := by (first | (have hax : axB A_b = 0 := by (simp only [axB, gtF, dimB, h2, h4, h6, h8, h10, h12, hβ1, hβ3, h418, h424, h427, h432, h437, h462, h464, h466, h499, h501, h503, c73, c411, pickV_0, pickV_1, pickV_2, setV_0, setV_1, setV_2, if_true, if_false, Bool.false_eq_true, ↓reduceIte]; done)); (simp only [oneB, twoB, midB, dimB, hax, half_two, pickV_0, pickV_1, pickV_2, setV_0, setV_1, setV_2, h2, h4, h6, h8, h10, h12, hβ1, hβ3, h418, h424, h427, h432, h437, h462, h464, h466, h499, h501, h503, c73, c411] <;> rfl) | (have hax : axB A_b = 1 := by (simp only [axB, gtF, dimB, h2, h4, h6, h8, h10, h12, hβ1, hβ3, h418, h424, h427, h432, h437, h462, h464, h466, h499, h501, h503, c73, c411, pickV_0, pickV_1, pickV_2, setV_0, setV_1, setV_2, if_true, if_false, Bool.false_eq_true, ↓reduceIte]; done)); (simp only [oneB, twoB, midB, dimB, hax, half_two, pickV_0, pickV_1, pickV_2, setV_0, setV_1, setV_2, h2, h4, h6, h8, h10, h12, hβ1, hβ3, h418, h424, h427, h432, h437, h462, h464, h466, h499, h501, h503, c73, c411] <;> rfl) | (have hax : axB A_b = 2 := by (simp only [axB, gtF, dimB, h2, h4, h6, h8, h10, h12, hβ1, hβ3, h418, h424, h427, h432, h437, h462, h464, h466, h499, h501, h503, c73, c411, pickV_0, pickV_1, pickV_2, setV_0, setV_1, setV_2, if_true, if_false, Bool.false_eq_true, ↓reduceIte]; done)); (simp only [oneB, twoB, midB, dimB, hax, half_two, pickV_0, pickV_1, pickV_2, setV_0, setV_1, setV_2, h2, h4, h6, h8, h10, h12, hβ1, hβ3, h418, h424, h427, h432, h437, h462, h464, h466, h499, h501, h503, c73, c411] <;> rfl))
    have x541 : cf .f32 r465 = (oneB A_b).hi.z := by (first | (have hax : axB A_b = 0 := by (simp only [axB, gtF, dimB, h2, h4, h6, h8, h10, h12, hβ1, hβ3, h418, h424, h427, h432, h437, h462, h464, h466, h499, h501, h503, c73, c411, pickV_0, pickV_1, pickV_2, setV_0, setV_1, setV_2, if_true, if_false, Bool.false_eq_true, ↓reduceIte]; done)); (simp only [oneB, twoB, midB, dimB, hax, half_two, pickV_0, pickV_1, pickV_2, setV_0, setV_1, setV_2, h2, h4, h6, h8, h10, h12, hβ1, hβ3, h418, h424, h427, h432, h437, h462, h464, h466, h499, h501, h503, c73, c411] <;> rfl) | (have hax : axB A_b = 1 := by (simp only [axB, gtF, dimB, h2, h4, h6, h8, h10, h12, hβ1, hβ3, h418, h424, h427, h432, h437, h462, h464, h466, h499, h501, h503, c73, c411, pickV_0, pickV_1, pickV_2, setV_0, setV_1, setV_2, if_true, if_false, Bool.false_eq_true, ↓reduceIte]; done)); (simp only [oneB, twoB, midB, dimB, hax, half_two, pickV_0, pickV_1, pickV_2, setV_0, setV_1, setV_2, h2, h4, h6, h8, h10, h12, hβ1, hβ3, h418, h424, h427, h432, h437, h462, h464, h466, h499, h501, h503, c73, c411] <;> rfl) | (have hax : axB A_b = 2 := by (simp only [axB, gtF, dimB, h2, h4, h6, h8, h10, h12, hβ1, hβ3, h418, h424, h427, h432, h437, h462, h464, h466, h499, h501, h503, c73, c411, pickV_0, pickV_1, pickV_2, setV_0, setV_1, setV_2, if_true, if_false, Bool.false_eq_true, ↓reduceIte]; done)); (simp only [oneB, twoB, midB, dimB, hax, half_two, pickV_0, pickV_1, pickV_2, setV_0, setV_1, setV_2, h2, h4, h6, h8, h10, h12, hβ1, hβ3, h418, h424, h427, h432, h437, h462, h464, h466, h499, h501, h503, c73, c411] <;> rfl))
    have x542 : cf .f32 r498 = (twoB A_b).lo.x := by (first | (have hax : axB A_b = 0 := by (simp only [axB, gtF, dimB, h2, h4, h6, h8, h10, h12, hβ1, hβ3, h418, h424, h427, h432, h437, h462, h464, h466, h499, h501, h503, c73, c411, pickV_0, pickV_1, pickV_2, setV_0, setV_1, setV_2, if_true, if_false, Bool.false_eq_true, ↓reduceIte]; done)); (simp only [oneB, twoB, midB, dimB, hax, half_two, pickV_0, pickV_1, pickV_2, setV_0, setV_1, setV_2, h2, h4, h6, h8, h10, h12, hβ1, hβ3, h418, h424, h427, h432, h437, h462, h464, h466, h499, h501, h503, c73, c411] <;> rfl) | (have hax : axB A_b = 1 := by (simp only [axB, gtF, dimB, h2, h4, h6, h8, h10, h12, hβ1, hβ3, h418, h424, h427, h432, h437, h462, h464, h466, h499, h501, h503, c73, c411, pickV_0, pickV_1, pickV_2, setV_0, setV_1, setV_2, if_true, if_false, Bool.false_eq_true, ↓reduceIte]; done)); (simp only [oneB, twoB, midB, dimB, hax, half_two, pickV_0, pickV_1, pickV_2, setV_0, setV_1, setV_2, h2, h4, h6, h8, h10, h12, hβ1, hβ3, h418, h424, h427, h432, h437, h462, h464, h466, h499, h501, h503, c73, c411] <;> rfl) | (have hax : axB A_b = 2 := by (simp only [axB, gtF, dimB, h2, h4, h6, h8, h10, h12, hβ1, hβ3, h418, h424, h427, h432, h437, h462, h464, h466, h499, h501, h503, c73, c411, pickV_0, pickV_1, pickV_2, setV_0, setV_1, setV_2, if_true, if_false, Bool.false_eq_true, ↓reduceIte]; done)); (simp only [oneB, twoB, midB, dimB, hax, half_two, pickV_0, pickV_1, pickV_2, setV_0, setV_1, setV_2, h2, h4, h6, h8, h10, h12, hβ1, hβ3, h418, h424, h427, h432, h437, h462, h464, h466, h499, h501, h503, c73, c411] <;> rfl))
    have x543 : cf .f32 r500 = (twoB A_b).lo.y := by (first | (have hax : axB A_b = 0 := by (simp only [axB, gtF, dimB, h2, h4, h6, h8, h10, h12, hβ1, hβ3, h418, h424, h427, h432, h437, h462, h464, h466, h499, h501, h503, c73, c411, pickV_0, pickV_1, pickV_2, setV_0, setV_1, setV_2, if_true, if_false, Bool.false_eq_true, ↓reduceIte]; done)); (simp only [oneB, twoB, midB, dimB, hax, half_two, pickV_0, pickV_1, pickV_2, setV_0, setV_1, setV_2, h2, h4, h6, h8, h10, h12, hβ1, hβ3, h418, h424, h427, h432, h437, h462, h464, h466, h499, h501, h503, c73, c411] <;> rfl) | (have hax : axB A_b = 1 := by (simp only [axB, gtF, dimB, h2, h4, h6, h8, h10, h12, hβ1, hβ3, h418, h424, h427, h432, h437, h462, h464, h466, h499, h501, h503, c73, c411, pickV_0, pickV_1, pickV_2, setV_0, setV_1, setV_2, if_true, if_false, Bool.false_eq_true, ↓reduceIte]; done)); (simp only [oneB, twoB, midB, dimB, hax, half_two, pickV_0, pickV_1, pickV_2, setV_0, setV_1, setV_2, h2, h4, h6, h8, h10, h12, hβ1, hβ3, h418, h424, h427, h432, h437, h462, h464, h466, h499, h501, h503, c73, c411] <;> rfl) | (have hax : axB A_b = 2 := by (simp only [axB, gtF, dimB, h2, h4, h6, h8, h10, h12, hβ1, hβ3, h418, h424, h427, h432, h437, h462, h464, h466, h499, h501, h503, c73, c411, pickV_0, pickV_1, pickV_2, setV_0, setV_1, setV_2, if_true, if_false, Bool.false_eq_true, ↓reduceIte]; done)); (simp only [oneB, twoB, midB, dimB, hax, half_two, pickV_0, pickV_1, pickV_2, setV_0, setV_1, setV_2, h2, h4, h6, h8, h10, h12, hβ1, hβ3, h418, h424, h427, h432, h437, h462, h464, h466, h499, h501, h503, c73, c411] <;> rfl))
    have x544 : cf .f32 r502 = (twoB A_b).lo.z := by (first | (have hax : axB A_b = 0 := by (simp only [axB, gtF, dimB, h2, h4, h6, h8, h10, h12, hβ1, hβ3, h418, h424, h427, h432, h437, h462, h464, h466, h499, h501, h503, c73, c411, pickV_0, pickV_1, pickV_2, setV_0, setV_1, setV_2, if_true, if_false, Bool.false_eq_true, ↓reduceIte]; done)); (simp only [oneB, twoB, midB, dimB, hax, half_two, pickV_0, pickV_1, pickV_2, setV_0, setV_1, setV_2, h2, h4, h6, h8, h10, h12, hβ1, hβ3, h418, h424, h427, h432, h437, h462, h464, h466, h499, h501, h503, c73, c411] <;> rfl) | (have hax : axB A_b = 1 := by (simp only [axB, gtF, dimB, h2, h4, h6, h8, h10, h12, hβ1, hβ3, h418, h424, h427, h432, h437, h462, h464, h466, h499, h501, h503, c73, c411, pickV_0, pickV_1, pickV_2, setV_0, setV_1, setV_2, if_true, if_false, Bool.false_eq_true, ↓reduceIte]; done)); (simp only [oneB, twoB, midB, dimB, hax, half_two, pickV_0, pickV_1, pickV_2, setV_0, setV_1, setV_2, h2, h4, h6, h8, h10, h12, hβ1, hβ3, h418, h424, h427, h432, h437, h462, h464, h466, h499, h501, h503, c73, c411] <;> rfl) | (have hax : axB A_b = 2 := by (simp only [axB, gtF, dimB, h2, h4, h6, h8, h10, h12, hβ1, hβ3, h418, h424, h427, h432, h437, h462, h464, h466, h499, h501, h503, c73, c411, pickV_0, pickV_1, pickV_2, setV_0, setV_1, setV_2, if_true, if_false, Bool.false_eq_true, ↓reduceIte]; done)); (simp only [oneB, twoB, midB, dimB, hax, half_two, pickV_0, pickV_1, pickV_2, setV_0, setV_1, setV_2, h2, h4, h6, h8, h10, h12, hβ1, hβ3, h418, h424, h427, h432, h437, h462, h464, h466, h499, h501, h503, c73, c411] <;> rfl))
    have x545 : cf .f32 r7 = (twoB A_b).hi.x := by (first | (have hax : axB A_b = 0 := by (simp only [axB, gtF, dimB, h2, h4, h6, h8, h10, h12, hβ1, hβ3, h418, h424, h427, h432, h437, h462, h464, h466, h499, h501, h503, c73, c411, pickV_0, pickV_1, pickV_2, setV_0, setV_1, setV_2, if_true, if_false, Bool.false_eq_true, ↓reduceIte]; done)); (simp only [oneB, twoB, midB, dimB, hax, half_two, pickV_0, pickV_1, pickV_2, setV_0, setV_1, setV_2, h2, h4, h6, h8, h10, h12, hβ1, hβ3, h418, h424, h427, h432, h437, h462, h464, h466, h499, h501, h503, c73, c411] <;> rfl) | (have hax : axB A_b = 1 := by (simp only [axB, gtF, dimB, h2, h4, h6, h8, h10, h12, hβ1, hβ3, h418, h424, h427, h432, h437, h462, h464, h466, h499, h501, h503, c73, c411, pickV_0, pickV_1, pickV_2, setV_0, setV_1, setV_2, if_true, if_false, Bool.false_eq_true, ↓reduceIte]; done)); (simp only [oneB, twoB, midB, dimB, hax, half_two, pickV_0, pickV_1, pickV_2, setV_0, setV_1, setV_2, h2, h4, h6, h8, h10, h12, hβ1, hβ3, h418, h424, h427, h432, h437, h462, h464, h466, h499, h501, h503, c73, c411] <;> rfl) | (have hax : axB A_b = 2 := by (simp only [axB, gtF, dimB, h2, h4, h6, h8, h10, h12, hβ1, hβ3, h418, h424, h427, h432, h437, h462, h464, h466, h499, h501, h503, c73, c411, pickV_0, pickV_1, pickV_2, setV_0, setV_1, setV_2, if_true, if_false, Bool.false_eq_true, ↓reduceIte]; done)); (simp only [oneB, twoB, midB, dimB, hax, half_two, pickV_0, pickV_1, pickV_2, setV_0, setV_1, setV_2, h2, h4, h6, h8, h10, h12, hβ1, hβ3, h418, h424, h427, h432, h437, h462, h464, h466, h499, h501, h503, c73, c411] <;> rfl))
    have x546 : cf .f32 r9 = (twoB A_b).hi.y := by (first | (have hax : axB A_b = 0 := by (simp only [axB, gtF, dimB, h2, h4, h6, h8, h10, h12, hβ1, hβ3, h418, h424, h427, h432, h437, h462, h464, h466, h499, h501, h503, c73, c411, pickV_0, pickV_1, pickV_2, setV_0, setV_1, setV_2, if_true, if_false, Bool.false_eq_true, ↓reduceIte]; done)); (simp only [oneB, twoB, midB, dimB, hax, half_two, pickV_0, pickV_1, pickV_2, setV_0, setV_1, setV_2, h2, h4, h6, h8, h10, h12, hβ1, hβ3, h418, h424, h427, h432, h437, h462, h464, h466, h499, h501, h503, c73, c411] <;> rfl) | (have hax : axB A_b = 1 := by (simp only [axB, gtF, dimB, h2, h4, h6, h8, h10, h12, hβ1, hβ3, h418, h424, h427, h432, h437, h462, h464, h466, h499, h501, h503, c73, c411, pickV_0, pickV_1, pickV_2, setV_0, setV_1, setV_2, if_true, if_false, Bool.false_eq_true, ↓reduceIte]; done)); (simp only [oneB, twoB, midB, dimB, hax, half_two, pickV_0, pickV_1, pickV_2, setV_0, setV_1, setV_2, h2, h4, h6, h8, h10, h12, hβ1, hβ3, h418, h424, h427, h432, h437, h462, h464, h466, h499, h501, h503, c73, c411] <;> rfl) | (have hax : axB A_b = 2 := by (simp only [axB, gtF, dimB, h2, h4, h6, h8, h10, h12, hβ1, hβ3, h418, h424, h427, h432, h437, h462, h464, h466, h499, h501, h503, c73, c411, pickV_0, pickV_1, pickV_2, setV_0, setV_1, setV_2, if_true, if_false, Bool.false_eq_true, ↓reduceIte]; done)); (simp only [oneB, twoB, midB, dimB, hax, half_two, pickV_0, pickV_1, pickV_2, setV_0, setV_1, setV_2, h2, h4, h6, h8, h10, h12, hβ1, hβ3, h418, h424, h427, h432, h437, h462, h464, h466, h499, h501, h503, c73, c411] <;> rfl))
    have x547 : cf .f32 r11 = (twoB A_b).hi.z := by (first | (have hax : axB A_b = 0 := by (simp only [axB, gtF, dimB, h2, h4, h6, h8, h10, h12, hβ1, hβ3, h418, h424, h427, h432, h437, h462, h464, h466, h499, h501, h503, c73, c411, pickV_0, pickV_1, pickV_2, setV_0, setV_1, setV_2, if_true, if_false, Bool.false_eq_true, ↓reduceIte]; done)); (simp only [oneB, twoB, midB, dimB, hax, half_two, pickV_0, pickV_1, pickV_2, setV_0, setV_1, setV_2, h2, h4, h6, h8, h10, h12, hβ1, hβ3, h418, h424, h427, h432, h437, h462, h464, h466, h499, h501, h503, c73, c411] <;> rfl) | (have hax : axB A_b = 1 := by (simp only [axB, gtF, dimB, h2, h4, h6, h8, h10, h12, hβ1, hβ3, h418, h424, h427, h432, h437, h462, h464, h466, h499, h501, h503, c73, c411, pickV_0, pickV_1, pickV_2, setV_0, setV_1, setV_2, if_true, if_false, Bool.false_eq_true, ↓reduceIte]; done)); (simp only [oneB, twoB, midB, dimB, hax, half_two, pickV_0, pickV_1, pickV_2, setV_0, setV_1, setV_2, h2, h4, h6, h8, h10, h12, hβ1, hβ3, h418, h424, h427, h432, h437, h462, h464, h466, h499, h501, h503, c73, c411] <;> rfl) | (have hax : axB A_b = 2 := by (simp only [axB, gtF, dimB, h2, h4, h6, h8, h10, h12, hβ1, hβ3, h418, h424, h427, h432, h437, h462, h464, h466, h499, h501, h503, c73, c411, pickV_0, pickV_1, pickV_2, setV_0, setV_1, setV_2, if_true, if_false, Bool.false_eq_true, ↓reduceIte]; done)); (simp only [oneB, twoB, midB, dimB, hax, half_two, pickV_0, pickV_1, pickV_2, setV_0, setV_1, setV_2, h2, h4, h6, h8, h10, h12, hβ1, hβ3, h418, h424, h427, h432, h437, h462, h464, h466, h499, h501, h503, c73, c411] <;> rfl))
    exact ⟨[(Fl r1), (Fl r3), (Fl r5), (Fl r461), (Fl r463), (Fl r465)], [(Fl r498), (Fl r500), (Fl r502), (Fl r7), (Fl r9), (Fl r11)], rfl, ⟨r1, r3, r5, r461, r463, r465, rfl, x536, x537, x538, x539, x540, x541⟩, ⟨r498, r500, r502, r7, r9, r11, rfl, x542, x543, x544, x545, x546, x547⟩⟩
  have c411' := c411
  (try simp only [hβ1, hβ3] at c411')
  (try simp only [icmp, Bool.and_eq_true, Bool.or_eq_true, Bool.and_eq_false_iff, Bool.or_eq_false_iff, Bool.not_eq_true', Bool.not_eq_false', decide_eq_true_eq, decide_eq_false_iff_not, beq_iff_eq, bne_iff_ne, beq_eq_false_iff_ne, bne_eq_false_iff_eq] at c411')
  simp only [h2, h4, h6, h8, h10, h12, hβ1, hβ3, pickV_0, pickV_1, pickV_2, setV_0, setV_1, setV_2] at c411
  refine wp_skip (hK381 _ _ ?_)
  refine wp_region_lit ?_
  refine q_is rfl rfl (does_move (u := (Iv 2)) (ev rfl)) (by dsimp only [List.set]; try rfl) ?_
  refine q_is rfl rfl (does_iarith (p := 2) (q := 1) (r := (3)) (ev rfl) (ev rfl) (.inl ⟨rfl, rfl⟩)) (by dsimp only [List.set]; try rfl) ?_
  refine q_is rfl rfl (does_assign (u := (Iv 3)) (ev rfl)) (by dsimp only [List.set]; try rfl) ?_
  refine wpList_nil ?_
  refine un_step ?_
  refine wp_seq_k fun K548 hK548 => ?_
  refine wp_seq_k fun K549 hK549 => ?_
  refine wp_region_lit ?_
  refine q_is rfl rfl (does_move (u := (Iv 3)) (ev rfl)) (by dsimp only [List.set]; try rfl) ?_
  refine q_is rfl rfl (does_icmp (p := 3) (q := 3) (.inr (.inr (.inl rfl))) (ev rfl) (ev rfl)) (by dsimp only [List.set]; try rfl) ?_
  refine wpList_nil (hK549 _ _ ?_)
  refine wp_cond_false (ev rfl) ?_
  refine wp_exit ?_
  refine hK39 _ _ ?_
  refine wp_seq_k fun K550 hK550 => ?_
  refine wp_region_lit ?_
  refine q_is rfl rfl (does_fieldAddr (ev rfl) fa29_0) (by dsimp only [List.set]; try rfl) ?_
  refine q_is rfl rfl (does_loadAgg (cs := [(Fl r1), (Fl r3), (Fl r5)]) (ev rfl) Try.isAgg27 Try.sizeOf27 (Cells.sub (Blk.cells ((((((hB16.ext E24).ext E32).ext E46).ext E69).ext E384).ext E407)) 0 3) rfl) (by dsimp only [List.set]; try rfl) ?_
  refine q_is rfl rfl (does_move (u := (Iv 0)) (ev rfl)) (by dsimp only [List.set]; try rfl) ?_
  refine seqd rfl rfl (does_call (args := #[(.agg #[(Fl r1), (Fl r3), (Fl r5)]), (Iv 0)]) cal16 (evs rfl) (c_spec_l02Pick [(Fl r1), (Fl r3), (Fl r5)] A_b.lo 0 _ ⟨r1, r3, r5, rfl, h2, h4, h6⟩)) ?_; rintro _ w552 ⟨E551, ⟨r553, rfl, h554⟩⟩
  have X555 := Ext.gr X410 E551
  show wpList _ _ _ _ (fr [_, _, _, _, _, _, _, _, _, _, _, _, _, _, _, _, _, _, _, _, _, _, _, _, _, _, _, _, _, _, _, _, _, _, _, _, _, _, _, _, _, _, _, _, _, _, _, _, _, _, _, _, _, _, _, _, _, _, _, _, _, _, _, _, _]) _
  refine q_is rfl rfl (does_assign (u := (Fl r553)) (ev rfl)) (by dsimp only [List.set]; try rfl) ?_
  refine wpList_nil (hK550 _ _ ?_)
  refine wp_seq_k fun K556 hK556 => ?_
  refine wp_region_lit ?_
  refine q_is rfl rfl (does_move (u := (Fl r553)) (ev rfl)) (by dsimp only [List.set]; try rfl) ?_
  refine q_is rfl rfl (does_fieldAddr (ev rfl) fa29_1) (by dsimp only [List.set]; try rfl) ?_
  refine q_is rfl rfl (does_loadAgg (cs := [(Fl r7), (Fl r9), (Fl r11)]) (ev rfl) Try.isAgg27 Try.sizeOf27 (Cells.sub (Blk.cells (((((((hB16.ext E24).ext E32).ext E46).ext E69).ext E384).ext E407).ext E551)) 3 3) rfl) (by dsimp only [List.set]; try rfl) ?_
  refine q_is rfl rfl (does_move (u := (Iv 0)) (ev rfl)) (by dsimp only [List.set]; try rfl) ?_
  refine seqd rfl rfl (does_call (args := #[(.agg #[(Fl r7), (Fl r9), (Fl r11)]), (Iv 0)]) cal16 (evs rfl) (c_spec_l02Pick [(Fl r7), (Fl r9), (Fl r11)] A_b.hi 0 _ ⟨r7, r9, r11, rfl, h8, h10, h12⟩)) ?_; rintro _ w558 ⟨E557, ⟨r559, rfl, h560⟩⟩
  have X561 := Ext.gr X555 E557
  show wpList _ _ _ _ (fr [_, _, _, _, _, _, _, _, _, _, _, _, _, _, _, _, _, _, _, _, _, _, _, _, _, _, _, _, _, _, _, _, _, _, _, _, _, _, _, _, _, _, _, _, _, _, _, _, _, _, _, _, _, _, _, _, _, _, _, _, _, _, _, _, _]) _
  refine q_is rfl rfl (does_move (u := (Fl r553)) (ev rfl)) (by dsimp only [List.set]; try rfl) ?_
  refine seqd rfl rfl (does_float (.inr (.inl rfl)) (ev rfl) (ev rfl)) ?_; rintro _ w565 ⟨r562, rfl, h563, E564⟩
  have X566 := Ext.gr X561 E564
  show wpList _ _ _ _ (fr [_, _, _, _, _, _, _, _, _, _, _, _, _, _, _, _, _, _, _, _, _, _, _, _, _, _, _, _, _, _, _, _, _, _, _, _, _, _, _, _, _, _, _, _, _, _, _, _, _, _, _, _, _, _, _, _, _, _, _, _, _, _, _, _, _]) _
  refine seqd rfl rfl (does_float (.inr (.inr (.inl rfl))) (ev rfl) (ev rfl)) ?_; rintro _ w570 ⟨r567, rfl, h568, E569⟩
  have X571 := Ext.gr X566 E569
  show wpList _ _ _ _ (fr [_, _, _, _, _, _, _, _, _, _, _, _, _, _, _, _, _, _, _, _, _, _, _, _, _, _, _, _, _, _, _, _, _, _, _, _, _, _, _, _, _, _, _, _, _, _, _, _, _, _, _, _, _, _, _, _, _, _, _, _, _, _, _, _, _]) _
  refine seqd rfl rfl (does_float (.inl rfl) (ev rfl) (ev rfl)) ?_; rintro _ w575 ⟨r572, rfl, h573, E574⟩
  have X576 := Ext.gr X571 E574
  show wpList _ _ _ _ (fr [_, _, _, _, _, _, _, _, _, _, _, _, _, _, _, _, _, _, _, _, _, _, _, _, _, _, _, _, _, _, _, _, _, _, _, _, _, _, _, _, _, _, _, _, _, _, _, _, _, _, _, _, _, _, _, _, _, _, _, _, _, _, _, _, _]) _
  refine q_is rfl rfl (does_assign (u := (Fl r572)) (ev rfl)) (by dsimp only [List.set]; try rfl) ?_
  refine wpList_nil (hK556 _ _ ?_)
  refine wp_seq_k fun K577 hK577 => ?_
  refine region_draw (
    [Fact.pure [] (fun v => v = (Pt b14 0)),
    Fact.pure [47] (fun v => v = (.agg #[(Fl r1), (Fl r3), (Fl r5)])),
    Fact.pure [] (fun v => v = (Pt b14 3)),
    Fact.pure [49] (fun v => v = (.agg #[(Fl r7), (Fl r9), (Fl r11)])),
    Fact.pure [] (fun v => v = (Iv 0)),
    Fact.pure [] (fun v => v = (Fl r572)),
    Fact.pure [50, 51, 52] (fun v => ∃ cs_1 : List Value, v = (.agg cs_1.toArray) ∧ RV3 w (setV A_b.hi 0 (cf .f32 r572)) cs_1),
    Fact.pure [48, 53] (fun v => ∃ r_1 : Nat, ∃ r_2 : Nat, ∃ r_3 : Nat, v = (.agg #[(Fl r1), (Fl r3), (Fl r5), (Fl r_1), (Fl r_2), (Fl r_3)]) ∧ cf .f32 r_1 = (setV A_b.hi 0 (cf .f32 r572)).x ∧ cf .f32 r_2 = (setV A_b.hi 0 (cf .f32 r572)).y ∧ cf .f32 r_3 = (setV A_b.hi 0 (cf .f32 r572)).z),
    Fact.mem [] (fun v w' => ∃ b : Nat, v = .pointer (some ⟨b, 0, none⟩) ∧ w575.heap.size ≤ b ∧ Blk w' b [(Fl 0), (Fl 0), (Fl 0), (Fl 0), (Fl 0), (Fl 0)]) (by rintro v w1 w2 hx ⟨b, rfl, hb, hB⟩; exact ⟨b, rfl, hb, (hB.ext hx)⟩)]) mixed (by kernel_rfl) (by intro _ _ d _ _ h; cases d <;> exact h) ?_
  obtain ⟨w578, hw580⟩ : ∃ w', w' = World.drew w575 := ⟨_, rfl⟩; rw [← hw580]; have E579 : Ext w575 w578 := by rw [hw580]; exact Ext.draw _
  clear hw580
  have X581 := Ext.gr X576 E579
  refine RW_d _ rfl (fun v => by dsimp only [List.set]; try rfl) (fun u hu hF => ?_) (fun v582 => ?_)
  · clear hF
    refine doesG_un rfl ?_
    refine (does_fieldAddr (ev rfl) fa29_0).mono ?_; rintro _ _ ⟨rfl, rfl⟩
    exact ⟨rfl, Ext.refl _⟩
  refine RW_d _ rfl (fun v => by dsimp only [List.set]; try rfl) (fun u hu hF => ?_) (fun v583 => ?_)
  · have h47_ : v582 = (Pt b14 0) := hF.1
    clear hF
    refine doesG_un rfl ?_
    obtain rfl := h47_
    refine (does_loadAgg (cs := [(Fl r1), (Fl r3), (Fl r5)]) (ev rfl) Try.isAgg27 Try.sizeOf27 (Cells.sub (Blk.cells (((((((((((((hB16.ext E24).ext E32).ext E46).ext E69).ext E384).ext E407).ext E551).ext E557).ext E564).ext E569).ext E574).ext E579).ext hu)) 0 3) rfl).mono ?_; rintro _ _ ⟨rfl, rfl⟩
    exact ⟨rfl, Ext.refl _⟩
  refine RW_d _ rfl (fun v => by dsimp only [List.set]; try rfl) (fun u hu hF => ?_) (fun v584 => ?_)
  · clear hF
    refine doesG_un rfl ?_
    refine (does_fieldAddr (ev rfl) fa29_1).mono ?_; rintro _ _ ⟨rfl, rfl⟩
    exact ⟨rfl, Ext.refl _⟩
  refine RW_d _ rfl (fun v => by dsimp only [List.set]; try rfl) (fun u hu hF => ?_) (fun v585 => ?_)
  · have h49_ : v584 = (Pt b14 3) := hF.1
    clear hF
    refine doesG_un rfl ?_
    obtain rfl := h49_
    refine (does_loadAgg (cs := [(Fl r7), (Fl r9), (Fl r11)]) (ev rfl) Try.isAgg27 Try.sizeOf27 (Cells.sub (Blk.cells (((((((((((((hB16.ext E24).ext E32).ext E46).ext E69).ext E384).ext E407).ext E551).ext E557).ext E564).ext E569).ext E574).ext E579).ext hu)) 3 3) rfl).mono ?_; rintro _ _ ⟨rfl, rfl⟩
    exact ⟨rfl, Ext.refl _⟩
  refine RW_d _ rfl (fun v => by dsimp only [List.set]; try rfl) (fun u hu hF => ?_) (fun v586 => ?_)
  · clear hF
    refine doesG_un rfl ?_
    refine (does_move (u := (Iv 0)) (ev rfl)).mono ?_; rintro _ _ ⟨rfl, rfl⟩
    exact ⟨rfl, Ext.refl _⟩
  refine RW_d _ rfl (fun v => by dsimp only [List.set]; try rfl) (fun u hu hF => ?_) (fun v587 => ?_)
  · clear hF
    refine doesG_un rfl ?_
    refine (does_move (u := (Fl r572)) (ev rfl)).mono ?_; rintro _ _ ⟨rfl, rfl⟩
    exact ⟨rfl, Ext.refl _⟩
  refine RW_d _ rfl (fun v => by dsimp only [List.set]; try rfl) (fun u hu hF => ?_) (fun v588 => ?_)
  · have h50_ : v585 = (.agg #[(Fl r7), (Fl r9), (Fl r11)]) := hF.1
    have h51_ : v586 = (Iv 0) := hF.2.1
    have h52_ : v587 = (Fl r572) := hF.2.2.1
    clear hF
    refine doesG_un rfl ?_
    obtain rfl := h50_
    obtain rfl := h51_
    obtain rfl := h52_
    refine (does_call (args := #[(.agg #[(Fl r7), (Fl r9), (Fl r11)]), (Iv 0), (Fl r572)]) cal17 (evs rfl) (c_spec_l02Set [(Fl r7), (Fl r9), (Fl r11)] A_b.hi 0 r572 _ ⟨r7, r9, r11, rfl, h8, h10, h12⟩)).mono ?_; rintro v u' ⟨hx, ⟨csn1, hv, k0⟩⟩
    exact ⟨⟨csn1, hv, k0⟩, hx⟩
  refine RW_d _ rfl (fun v => by dsimp only [List.set]; try rfl) (fun u hu hF => ?_) (fun v589 => ?_)
  · have h48_ : v583 = (.agg #[(Fl r1), (Fl r3), (Fl r5)]) := hF.1
    have h53_ : ∃ cs_1 : List Value, v588 = (.agg cs_1.toArray) ∧ RV3 w (setV A_b.hi 0 (cf .f32 r572)) cs_1 := hF.2.1
    clear hF
    refine doesG_un rfl ?_
    obtain rfl := h48_
    obtain ⟨_, rfl, ⟨r53_1, r53_3, r53_5, rfl, h53_2, h53_4, h53_6⟩⟩ := h53_
    refine (does_build (parts' := [(0, (.agg #[(Fl r1), (Fl r3), (Fl r5)])), (1, (.agg #[(Fl r53_1), (Fl r53_3), (Fl r53_5)]))]) (cells := #[(Fl r1), (Fl r3), (Fl r5), (Fl r53_1), (Fl r53_3), (Fl r53_5)]) (evp rfl) (by kernel_rfl)).mono ?_; rintro _ _ ⟨rfl, rfl⟩
    exact ⟨⟨r53_1, r53_3, r53_5, rfl, (by simp only [h53_2, h53_4, h53_6]), (by simp only [h53_2, h53_4, h53_6]), (by simp only [h53_2, h53_4, h53_6])⟩, Ext.refl _⟩
  refine RW_d _ rfl (fun v => by dsimp only [List.set]; try rfl) (fun u hu hF => ?_) (fun v590 => ?_)
  · clear hF
    refine doesG_un rfl ?_
    refine (does_alloc z29).mono ?_; rintro _ _ ⟨b, rfl, hb, hB, hx⟩
    exact ⟨⟨b, rfl, Nat.le_trans (Nat.le_trans (Below.size E579) (Below.size hu)) hb, hB⟩, hx⟩
  refine RW_fin ?_; intro w591 E592 hP593
  obtain ⟨⟨⟨⟨⟨⟨⟨⟨⟨-, -⟩, -⟩, -⟩, -⟩, -⟩, -⟩, -⟩, q594⟩, q595⟩ := hP593
  have X596 := Ext.gr X581 E592
  have q594 : ∃ r_1 : Nat, ∃ r_2 : Nat, ∃ r_3 : Nat, v589 = (.agg #[(Fl r1), (Fl r3), (Fl r5), (Fl r_1), (Fl r_2), (Fl r_3)]) ∧ cf .f32 r_1 = (setV A_b.hi 0 (cf .f32 r572)).x ∧ cf .f32 r_2 = (setV A_b.hi 0 (cf .f32 r572)).y ∧ cf .f32 r_3 = (setV A_b.hi 0 (cf .f32 r572)).z := q594
  obtain ⟨r597, r599, r601, rfl, h598, h600, h602⟩ := q594
  have q595 : ∃ b : Nat, v590 = .pointer (some ⟨b, 0, none⟩) ∧ w575.heap.size ≤ b ∧ Blk w591 b [(Fl 0), (Fl 0), (Fl 0), (Fl 0), (Fl 0), (Fl 0)] := q595
  obtain ⟨b603, rfl, hb604, hB605⟩ := q595
  have n606 : b14 < b603 := Nat.lt_of_lt_of_le (Blk.lt (((((((((((hB16.ext E24).ext E32).ext E46).ext E69).ext E384).ext E407).ext E551).ext E557).ext E564).ext E569).ext E574)) hb604
  have n607 : b21 < b603 := Nat.lt_of_lt_of_le (Blk.lt ((((((((((hB23.ext E32).ext E46).ext E69).ext E384).ext E407).ext E551).ext E557).ext E564).ext E569).ext E574)) hb604
  have n608 : b29 < b603 := Nat.lt_of_lt_of_le (Blk.lt (((((((((hB31.ext E46).ext E69).ext E384).ext E407).ext E551).ext E557).ext E564).ext E569).ext E574)) hb604
  have g609 : w.heap.size ≤ b603 := Nat.le_trans (Below.size X576) hb604
  show wpList _ _ _ _ (fr [_, _, _, _, _, _, _, _, _, _, _, _, _, _, _, _, _, _, _, _, _, _, _, _, _, _, _, _, _, _, _, _, _, _, _, _, _, _, _, _, _, _, _, _, _, _, _, _, _, _, _, _, _, _, _, _, _, _, _, _, _, _, _, _, _]) _
  refine seqn rfl rfl (does_store (n := 6) (cs := [(Fl 0), (Fl 0), (Fl 0), (Fl 0), (Fl 0), (Fl 0)]) (u := (.agg #[(Fl r1), (Fl r3), (Fl r5), (Fl r597), (Fl r599), (Fl r601)])) (ev rfl) (ev rfl) Try.sizeOf29 rfl hB605 (Nat.le_of_ble_eq_true rfl) rfl) ?_; rintro _ w612 ⟨rfl, W610, hB611⟩
  change Blk _ _ [(Fl r1), (Fl r3), (Fl r5), (Fl r597), (Fl r599), (Fl r601)] at hB611
  have X613 := Below.wr X596 W610 g609
  refine wpList_nil (hK577 _ _ ?_)
  refine wp_seq_k fun K614 hK614 => ?_
  refine region_draw (
    [Fact.pure [] (fun v => v = (Pt b14 0)),
    Fact.pure [55] (fun v => v = (.agg #[(Fl r1), (Fl r3), (Fl r5)])),
    Fact.pure [] (fun v => v = (Iv 0)),
    Fact.pure [] (fun v => v = (Fl r572)),
    Fact.pure [56, 57, 58] (fun v => ∃ cs_1 : List Value, v = (.agg cs_1.toArray) ∧ RV3 w (setV A_b.lo 0 (cf .f32 r572)) cs_1),
    Fact.pure [] (fun v => v = (Pt b14 3)),
    Fact.pure [60] (fun v => v = (.agg #[(Fl r7), (Fl r9), (Fl r11)])),
    Fact.pure [59, 61] (fun v => ∃ r_1 : Nat, ∃ r_2 : Nat, ∃ r_3 : Nat, v = (.agg #[(Fl r_1), (Fl r_2), (Fl r_3), (Fl r7), (Fl r9), (Fl r11)]) ∧ cf .f32 r_1 = (setV A_b.lo 0 (cf .f32 r572)).x ∧ cf .f32 r_2 = (setV A_b.lo 0 (cf .f32 r572)).y ∧ cf .f32 r_3 = (setV A_b.lo 0 (cf .f32 r572)).z),
    Fact.mem [] (fun v w' => ∃ b : Nat, v = .pointer (some ⟨b, 0, none⟩) ∧ w612.heap.size ≤ b ∧ Blk w' b [(Fl 0), (Fl 0), (Fl 0), (Fl 0), (Fl 0), (Fl 0)]) (by rintro v w1 w2 hx ⟨b, rfl, hb, hB⟩; exact ⟨b, rfl, hb, (hB.ext hx)⟩)]) mixed (by kernel_rfl) (by intro _ _ d _ _ h; cases d <;> exact h) ?_
  obtain ⟨w615, hw617⟩ : ∃ w', w' = World.drew w612 := ⟨_, rfl⟩; rw [← hw617]; have E616 : Ext w612 w615 := by rw [hw617]; exact Ext.draw _
  clear hw617
  have X618 := Ext.gr X613 E616
  refine RW_d _ rfl (fun v => by dsimp only [List.set]; try rfl) (fun u hu hF => ?_) (fun v619 => ?_)
  · clear hF
    refine doesG_un rfl ?_
    refine (does_fieldAddr (ev rfl) fa29_0).mono ?_; rintro _ _ ⟨rfl, rfl⟩
    exact ⟨rfl, Ext.refl _⟩
  refine RW_d _ rfl (fun v => by dsimp only [List.set]; try rfl) (fun u hu hF => ?_) (fun v620 => ?_)
  · have h55_ : v619 = (Pt b14 0) := hF.1
    clear hF
    refine doesG_un rfl ?_
    obtain rfl := h55_
    refine (does_loadAgg (cs := [(Fl r1), (Fl r3), (Fl r5)]) (ev rfl) Try.isAgg27 Try.sizeOf27 (Cells.sub (Blk.cells ((((((((((((((((hB16.ext E24).ext E32).ext E46).ext E69).ext E384).ext E407).ext E551).ext E557).ext E564).ext E569).ext E574).ext E579).ext E592).wr W610 (Nat.ne_of_lt n606)).ext E616).ext hu)) 0 3) rfl).mono ?_; rintro _ _ ⟨rfl, rfl⟩
    exact ⟨rfl, Ext.refl _⟩
  refine RW_d _ rfl (fun v => by dsimp only [List.set]; try rfl) (fun u hu hF => ?_) (fun v621 => ?_)
  · clear hF
    refine doesG_un rfl ?_
    refine (does_move (u := (Iv 0)) (ev rfl)).mono ?_; rintro _ _ ⟨rfl, rfl⟩
    exact ⟨rfl, Ext.refl _⟩
  refine RW_d _ rfl (fun v => by dsimp only [List.set]; try rfl) (fun u hu hF => ?_) (fun v622 => ?_)
  · clear hF
    refine doesG_un rfl ?_
    refine (does_move (u := (Fl r572)) (ev rfl)).mono ?_; rintro _ _ ⟨rfl, rfl⟩
    exact ⟨rfl, Ext.refl _⟩
  refine RW_d _ rfl (fun v => by dsimp only [List.set]; try rfl) (fun u hu hF => ?_) (fun v623 => ?_)
  · have h56_ : v620 = (.agg #[(Fl r1), (Fl r3), (Fl r5)]) := hF.1
    have h57_ : v621 = (Iv 0) := hF.2.1
    have h58_ : v622 = (Fl r572) := hF.2.2.1
    clear hF
    refine doesG_un rfl ?_
    obtain rfl := h56_
    obtain rfl := h57_
    obtain rfl := h58_
    refine (does_call (args := #[(.agg #[(Fl r1), (Fl r3), (Fl r5)]), (Iv 0), (Fl r572)]) cal17 (evs rfl) (c_spec_l02Set [(Fl r1), (Fl r3), (Fl r5)] A_b.lo 0 r572 _ ⟨r1, r3, r5, rfl, h2, h4, h6⟩)).mono ?_; rintro v u' ⟨hx, ⟨csn1, hv, k0⟩⟩
    exact ⟨⟨csn1, hv, k0⟩, hx⟩
  refine RW_d _ rfl (fun v => by dsimp only [List.set]; try rfl) (fun u hu hF => ?_) (fun v624 => ?_)
  · clear hF
    refine doesG_un rfl ?_
    refine (does_fieldAddr (ev rfl) fa29_1).mono ?_; rintro _ _ ⟨rfl, rfl⟩
    exact ⟨rfl, Ext.refl _⟩
  refine RW_d _ rfl (fun v => by dsimp only [List.set]; try rfl) (fun u hu hF => ?_) (fun v625 => ?_)
  · have h60_ : v624 = (Pt b14 3) := hF.1
    clear hF
    refine doesG_un rfl ?_
    obtain rfl := h60_
    refine (does_loadAgg (cs := [(Fl r7), (Fl r9), (Fl r11)]) (ev rfl) Try.isAgg27 Try.sizeOf27 (Cells.sub (Blk.cells ((((((((((((((((hB16.ext E24).ext E32).ext E46).ext E69).ext E384).ext E407).ext E551).ext E557).ext E564).ext E569).ext E574).ext E579).ext E592).wr W610 (Nat.ne_of_lt n606)).ext E616).ext hu)) 3 3) rfl).mono ?_; rintro _ _ ⟨rfl, rfl⟩
    exact ⟨rfl, Ext.refl _⟩
  refine RW_d _ rfl (fun v => by dsimp only [List.set]; try rfl) (fun u hu hF => ?_) (fun v626 => ?_)
  · have h59_ : ∃ cs_1 : List Value, v623 = (.agg cs_1.toArray) ∧ RV3 w (setV A_b.lo 0 (cf .f32 r572)) cs_1 := hF.1
    have h61_ : v625 = (.agg #[(Fl r7), (Fl r9), (Fl r11)]) := hF.2.1
    clear hF
    refine doesG_un rfl ?_
    obtain ⟨_, rfl, ⟨r59_1, r59_3, r59_5, rfl, h59_2, h59_4, h59_6⟩⟩ := h59_
    obtain rfl := h61_
    refine (does_build (parts' := [(0, (.agg #[(Fl r59_1), (Fl r59_3), (Fl r59_5)])), (1, (.agg #[(Fl r7), (Fl r9), (Fl r11)]))]) (cells := #[(Fl r59_1), (Fl r59_3), (Fl r59_5), (Fl r7), (Fl r9), (Fl r11)]) (evp rfl) (by kernel_rfl)).mono ?_; rintro _ _ ⟨rfl, rfl⟩
    exact ⟨⟨r59_1, r59_3, r59_5, rfl, (by simp only [h59_2, h59_4, h59_6]), (by simp only [h59_2, h59_4, h59_6]), (by simp only [h59_2, h59_4, h59_6])⟩, Ext.refl _⟩
  refine RW_d _ rfl (fun v => by dsimp only [List.set]; try rfl) (fun u hu hF => ?_) (fun v627 => ?_)
  · clear hF
    refine doesG_un rfl ?_
    refine (does_alloc z29).mono ?_; rintro _ _ ⟨b, rfl, hb, hB, hx⟩
    exact ⟨⟨b, rfl, Nat.le_trans (Nat.le_trans (Below.size E616) (Below.size hu)) hb, hB⟩, hx⟩
  refine RW_fin ?_; intro w628 E629 hP630
  obtain ⟨⟨⟨⟨⟨⟨⟨⟨⟨-, -⟩, -⟩, -⟩, -⟩, -⟩, -⟩, -⟩, q631⟩, q632⟩ := hP630
  have X633 := Ext.gr X618 E629
  have q631 : ∃ r_1 : Nat, ∃ r_2 : Nat, ∃ r_3 : Nat, v626 = (.agg #[(Fl r_1), (Fl r_2), (Fl r_3), (Fl r7), (Fl r9), (Fl r11)]) ∧ cf .f32 r_1 = (setV A_b.lo 0 (cf .f32 r572)).x ∧ cf .f32 r_2 = (setV A_b.lo 0 (cf .f32 r572)).y ∧ cf .f32 r_3 = (setV A_b.lo 0 (cf .f32 r572)).z := q631
  obtain ⟨r634, r636, r638, rfl, h635, h637, h639⟩ := q631
  have q632 : ∃ b : Nat, v627 = .pointer (some ⟨b, 0, none⟩) ∧ w612.heap.size ≤ b ∧ Blk w628 b [(Fl 0), (Fl 0), (Fl 0), (Fl 0), (Fl 0), (Fl 0)] := q632
  obtain ⟨b640, rfl, hb641, hB642⟩ := q632
  have n643 : b14 < b640 := Nat.lt_of_lt_of_le (Blk.lt ((((((((((((((hB16.ext E24).ext E32).ext E46).ext E69).ext E384).ext E407).ext E551).ext E557).ext E564).ext E569).ext E574).ext E579).ext E592).wr W610 (Nat.ne_of_lt n606))) hb641
  have n644 : b21 < b640 := Nat.lt_of_lt_of_le (Blk.lt (((((((((((((hB23.ext E32).ext E46).ext E69).ext E384).ext E407).ext E551).ext E557).ext E564).ext E569).ext E574).ext E579).ext E592).wr W610 (Nat.ne_of_lt n607))) hb641
  have n645 : b29 < b640 := Nat.lt_of_lt_of_le (Blk.lt ((((((((((((hB31.ext E46).ext E69).ext E384).ext E407).ext E551).ext E557).ext E564).ext E569).ext E574).ext E579).ext E592).wr W610 (Nat.ne_of_lt n608))) hb641
  have n646 : b603 < b640 := Nat.lt_of_lt_of_le (Blk.lt hB611) hb641
  have g647 : w.heap.size ≤ b640 := Nat.le_trans (Below.size X613) hb641
  show wpList _ _ _ _ (fr [_, _, _, _, _, _, _, _, _, _, _, _, _, _, _, _, _, _, _, _, _, _, _, _, _, _, _, _, _, _, _, _, _, _, _, _, _, _, _, _, _, _, _, _, _, _, _, _, _, _, _, _, _, _, _, _, _, _, _, _, _, _, _, _, _]) _
  refine seqn rfl rfl (does_store (n := 6) (cs := [(Fl 0), (Fl 0), (Fl 0), (Fl 0), (Fl 0), (Fl 0)]) (u := (.agg #[(Fl r634), (Fl r636), (Fl r638), (Fl r7), (Fl r9), (Fl r11)])) (ev rfl) (ev rfl) Try.sizeOf29 rfl hB642 (Nat.le_of_ble_eq_true rfl) rfl) ?_; rintro _ w650 ⟨rfl, W648, hB649⟩
  change Blk _ _ [(Fl r634), (Fl r636), (Fl r638), (Fl r7), (Fl r9), (Fl r11)] at hB649
  have X651 := Below.wr X633 W648 g647
  refine wpList_nil (hK614 _ _ ?_)
  refine wp_seq_k fun K652 hK652 => ?_
  have n656 : b21 < w650.heap.size := Blk.lt ((((((((((((((((hB23.ext E32).ext E46).ext E69).ext E384).ext E407).ext E551).ext E557).ext E564).ext E569).ext E574).ext E579).ext E592).wr W610 (Nat.ne_of_lt n607)).ext E616).ext E629).wr W648 (Nat.ne_of_lt n644))
  refine region_any2 [b21] [0, 0, 1, 7] [0] (
    [FactW.pure [] [] [0] true (fun v => v = (.agg #[(Fl r1), (Fl r3), (Fl r5), (Fl r597), (Fl r599), (Fl r601)])),
      FactW.pure [] [0] [0] true (fun v => v = (.agg #[(Fl r634), (Fl r636), (Fl r638), (Fl r7), (Fl r9), (Fl r11)])),
      FactW.mem [0] [] [0] [] true (fun v w' => v = undef ∧ Blk w' b21 [(Fl r1), (Fl r3), (Fl r5), (Fl r597), (Fl r599), (Fl r601)]) (by rintro v w1 w2 hx ⟨rfl, h⟩; exact ⟨rfl, h.ext (KpL.toExt hx)⟩)]) mixed (by kernel_rfl) ?_
  obtain ⟨w653, hw655⟩ : ∃ w', w' = World.drew w650 := ⟨_, rfl⟩; rw [← hw655]; have E654 : Ext w650 w653 := by rw [hw655]; exact Ext.draw _
  clear hw655
  have X657 := Ext.gr X651 E654
  refine RW2_d _ rfl (fun v => by dsimp only [List.set]; try rfl) (fun u hu hF => ?_) (fun v658 => ?_)
  · replace hu : KpL [] _ _ := hu
    clear hF
    refine doesG_un rfl ?_
    refine (does_loadAgg (cs := [(Fl r1), (Fl r3), (Fl r5), (Fl r597), (Fl r599), (Fl r601)]) (ev rfl) Try.isAgg29 Try.sizeOf29 (Blk.cells (((((hB611.ext E616).ext E629).wr W648 (Nat.ne_of_lt n646)).ext E654).ext (KpL.toExt hu))) rfl).mono ?_; rintro _ _ ⟨rfl, rfl⟩
    exact ⟨rfl, KpL.refl _ _⟩
  refine RW2_d _ rfl (fun v => by dsimp only [List.set]; try rfl) (fun u hu hF => ?_) (fun v659 => ?_)
  · replace hu : KpL [b21] _ _ := hu
    clear hF
    refine doesG_un rfl ?_
    refine (does_loadAgg (cs := [(Fl r634), (Fl r636), (Fl r638), (Fl r7), (Fl r9), (Fl r11)]) (ev rfl) Try.isAgg29 Try.sizeOf29 (Blk.cells ((hB649.ext E654).kl hu (ninS (Nat.ne_of_gt n644) nin0))) rfl).mono ?_; rintro _ _ ⟨rfl, rfl⟩
    exact ⟨rfl, KpL.refl _ _⟩
  refine RW2_n rfl (fun u hu hF => ?_) (fun v660 => ?_)
  · replace hu : KpL [] _ _ := hu
    have h63_ : v658 = (.agg #[(Fl r1), (Fl r3), (Fl r5), (Fl r597), (Fl r599), (Fl r601)]) := hF.1
    clear hF
    refine doesG_un rfl ?_
    obtain rfl := h63_
    refine (does_store (n := 6) (cs := [(Fl 0), (Fl 0), (Fl 0), (Fl 0), (Fl 0), (Fl 0)]) (u := (.agg #[(Fl r1), (Fl r3), (Fl r5), (Fl r597), (Fl r599), (Fl r601)])) (ev rfl) (ev rfl) Try.sizeOf29 rfl ((((((((((((((((((hB23.ext E32).ext E46).ext E69).ext E384).ext E407).ext E551).ext E557).ext E564).ext E569).ext E574).ext E579).ext E592).wr W610 (Nat.ne_of_lt n607)).ext E616).ext E629).wr W648 (Nat.ne_of_lt n644)).ext E654).ext (KpL.toExt hu)) (Nat.le_of_ble_eq_true rfl) rfl).mono ?_; rintro _ _ ⟨rfl, hW, hB⟩
    exact ⟨⟨rfl, hB⟩, KpL.of_wr hW⟩
  refine RW2_fin ?_; intro w661 E662 hP663; replace E662 : KpL [b21] _ _ := E662
  obtain ⟨⟨⟨-, -⟩, q664⟩, q665⟩ := hP663
  have X666 := Below.kl X657 E662 (allS g27 all0) (Nat.le_refl _)
  obtain ⟨_, hB667⟩ := q665 rfl
  change Blk _ _ [(Fl r1), (Fl r3), (Fl r5), (Fl r597), (Fl r599), (Fl r601)] at hB667
  have q664 : v659 = (.agg #[(Fl r634), (Fl r636), (Fl r638), (Fl r7), (Fl r9), (Fl r11)]) := q664 rfl
  obtain rfl := q664
  show wpList _ _ _ _ (fr [_, _, _, _, _, _, _, _, _, _, _, _, _, _, _, _, _, _, _, _, _, _, _, _, _, _, _, _, _, _, _, _, _, _, _, _, _, _, _, _, _, _, _, _, _, _, _, _, _, _, _, _, _, _, _, _, _, _, _, _, _, _, _, _, _]) _
  refine seqn rfl rfl (does_store (n := 6) (cs := [(Fl 0), (Fl 0), (Fl 0), (Fl 0), (Fl 0), (Fl 0)]) (u := (.agg #[(Fl r634), (Fl r636), (Fl r638), (Fl r7), (Fl r9), (Fl r11)])) (ev rfl) (ev rfl) Try.sizeOf29 rfl (((((((((((((((((hB31.ext E46).ext E69).ext E384).ext E407).ext E551).ext E557).ext E564).ext E569).ext E574).ext E579).ext E592).wr W610 (Nat.ne_of_lt n608)).ext E616).ext E629).wr W648 (Nat.ne_of_lt n645)).ext E654).kl E662 (ninS (Nat.ne_of_gt n35) nin0)) (Nat.le_of_ble_eq_true rfl) rfl) ?_; rintro _ w670 ⟨rfl, W668, hB669⟩
  change Blk _ _ [(Fl r634), (Fl r636), (Fl r638), (Fl r7), (Fl r9), (Fl r11)] at hB669
  have X671 := Below.wr X666 W668 g36
  refine wpList_nil (hK652 _ _ ?_)
  refine wp_ret ?_
  refine ret_val (v := (.tuple #[(.agg #[(Fl r1), (Fl r3), (Fl r5), (Fl r597), (Fl r599), (Fl r601)]), (.agg #[(Fl r634), (Fl r636), (Fl r638), (Fl r7), (Fl r9), (Fl r11)])])) (res_CC rfl (slot rfl) (run_loadAgg (cs := [(Fl r1), (Fl r3), (Fl r5), (Fl r597), (Fl r599), (Fl r601)]) Try.isAgg29 Try.sizeOf29 (Blk.cells (hB667.wr W668 (Nat.ne_of_lt n35))) rfl) (slot rfl) (run_loadAgg (cs := [(Fl r634), (Fl r636), (Fl r638), (Fl r7), (Fl r9), (Fl r11)]) Try.isAgg29 Try.sizeOf29 (Blk.cells hB669) rfl)) X671 ?_
  try simp only [h2, h4, h6, h8, h10, h12, hβ1, hβ3, h554, h560, h563, h568, h573, h598, h600, h602, h635, h637, h639] at c73 c411
  have x672 : cf .f32 r1 = (oneB A_b).lo.x := by (first | (have hax : axB A_b = 0 := by (simp only [axB, gtF, dimB, h2, h4, h6, h8, h10, h12, hβ1, hβ3, h554, h560, h563, h568, h573, h598, h600, h602, h635, h637, h639, c73, c411, pickV_0, pickV_1, pickV_2, setV_0, setV_1, setV_2, if_true, if_false, Bool.false_eq_true, ↓reduceIte]; done)); (simp only [oneB, twoB, midB, dimB, hax, half_two, pickV_0, pickV_1, pickV_2, setV_0, setV_1, setV_2, h2, h4, h6, h8, h10, h12, hβ1, hβ3, h554, h560, h563, h568, h573, h598, h600, h602, h635, h637, h639, c73, c411] <;> rfl) | (have hax : axB A_b = 1 := by (simp only [axB, gtF, dimB, h2, h4, h6, h8, h10, h12, hβ1, hβ3, h554, h560, h563, h568, h573, h598, h600, h602, h635, h637, h639, c73, c411, pickV_0, pickV_1, pickV_2, setV_0, setV_1, setV_2, if_true, if_false, Bool.false_eq_true, ↓reduceIte]; done)); (simp only [oneB, twoB, midB, dimB, hax, half_two, pickV_0, pickV_1, pickV_2, setV_0, setV_1, setV_2, h2, h4, h6, h8, h10, h12, hβ1, hβ3, h554, h560, h563, h568, h573, h598, h600, h602, h635, h637, h639, c73, c411] <;> rfl) | (have hax : axB A_b = 2 := by (simp only [axB, gtF, dimB, h2, h4, h6, h8, h10, h12, hβ1, hβ3, h554, h560, h563, h568, h573, h598, h600, h602, h635, h637, h639, c73, c411, pickV_0, pickV_1, pickV_2, setV_0, setV_1, setV_2, if_true, if_false, Bool.false_eq_true, ↓reduceIte]; done)); (simp only [oneB, twoB, midB, dimB, hax, half_two, pickV_0, pickV_1, pickV_2, setV_0, setV_1, setV_2, h2, h4, h6, h8, h10, h12, hβ1, hβ3, h554, h560, h563, h568, h573, h598, h600, h602, h635, h637, h639, c73, c411] <;> rfl))
  have x673 : cf .f32 r3 = (oneB A_b).lo.y := by (first | (have hax : axB A_b = 0 := by (simp only [axB, gtF, dimB, h2, h4, h6, h8, h10, h12, hβ1, hβ3, h554, h560, h563, h568, h573, h598, h600, h602, h635, h637, h639, c73, c411, pickV_0, pickV_1, pickV_2, setV_0, setV_1, setV_2, if_true, if_false, Bool.false_eq_true, ↓reduceIte]; done)); (simp only [oneB, twoB, midB, dimB, hax, half_two, pickV_0, pickV_1, pickV_2, setV_0, setV_1, setV_2, h2, h4, h6, h8, h10, h12, hβ1, hβ3, h554, h560, h563, h568, h573, h598, h600, h602, h635, h637, h639, c73, c411] <;> rfl) | (have hax : axB A_b = 1 := by (simp only [axB, gtF, dimB, h2, h4, h6, h8, h10, h12, hβ1, hβ3, h554, h560, h563, h568, h573, h598, h600, h602, h635, h637, h639, c73, c411, pickV_0, pickV_1, pickV_2, setV_0, setV_1, setV_2, if_true, if_false, Bool.false_eq_true, ↓reduceIte]; done)); (simp only [oneB, twoB, midB, dimB, hax, half_two, pickV_0, pickV_1, pickV_2, setV_0, setV_1, setV_2, h2, h4, h6, h8, h10, h12, hβ1, hβ3, h554, h560, h563, h568, h573, h598, h600, h602, h635, h637, h639, c73, c411] <;> rfl) | (have hax : axB A_b = 2 := by (simp only [axB, gtF, dimB, h2, h4, h6, h8, h10, h12, hβ1, hβ3, h554, h560, h563, h568, h573, h598, h600, h602, h635, h637, h639, c73, c411, pickV_0, pickV_1, pickV_2, setV_0, setV_1, setV_2, if_true, if_false, Bool.false_eq_true, ↓reduceIte]; done)); (simp only [oneB, twoB, midB, dimB, hax, half_two, pickV_0, pickV_1, pickV_2, setV_0, setV_1, setV_2, h2, h4, h6, h8, h10, h12, hβ1, hβ3, h554, h560, h563, h568, h573, h598, h600, h602, h635, h637, h639, c73, c411] <;> rfl))
  have x674 : cf .f32 r5 = (oneB A_b).lo.z := by (first | (have hax : axB A_b = 0 := by (simp only [axB, gtF, dimB, h2, h4, h6, h8, h10, h12, hβ1, hβ3, h554, h560, h563, h568, h573, h598, h600, h602, h635, h637, h639, c73, c411, pickV_0, pickV_1, pickV_2, setV_0, setV_1, setV_2, if_true, if_false, Bool.false_eq_true, ↓reduceIte]; done)); (simp only [oneB, twoB, midB, dimB, hax, half_two, pickV_0, pickV_1, pickV_2, setV_0, setV_1, setV_2, h2, h4, h6, h8, h10, h12, hβ1, hβ3, h554, h560, h563, h568, h573, h598, h600, h602, h635, h637, h639, c73, c411] <;> rfl) | (have hax : axB A_b = 1 := by (simp only [axB, gtF, dimB, h2, h4, h6, h8, h10, h12, hβ1, hβ3, h554, h560, h563, h568, h573, h598, h600, h602, h635, h637, h639, c73, c411, pickV_0, pickV_1, pickV_2, setV_0, setV_1, setV_2, if_true, if_false, Bool.false_eq_true, ↓reduceIte]; done)); (simp only [oneB, twoB, midB, dimB, hax, half_two, pickV_0, pickV_1, pickV_2, setV_0, setV_1, setV_2, h2, h4, h6, h8, h10, h12, hβ1, hβ3, h554, h560, h563, h568, h573, h598, h600, h602, h635, h637, h639, c73, c411] <;> rfl) | (have hax : axB A_b = 2 := by (simp only [axB, gtF, dimB, h2, h4, h6, h8, h10, h12, hβ1, hβ3, h554, h560, h563, h568, h573, h598, h600, h602, h635, h637, h639, c73, c411, pickV_0, pickV_1, pickV_2, setV_0, setV_1, setV_2, if_true, if_false, Bool.false_eq_true, ↓reduceIte]; done)); (simp only [oneB, twoB, midB, dimB, hax, half_two, pickV_0, pickV_1, pickV_2, setV_0, setV_1, setV_2, h2, h4, h6, h8, h10, h12, hβ1, hβ3, h554, h560, h563, h568, h573, h598, h600, h602, h635, h637, h639, c73, c411] <;> rfl))
  have x675 : cf .f32 r597 = (oneB A_b).hi.x := by (first | (have hax : axB A_b = 0 := by (simp only [axB, gtF, dimB, h2, h4, h6, h8, h10, h12, hβ1, hβ3, h554, h560, h563, h568, h573, h598, h600, h602, h635, h637, h639, c73, c411, pickV_0, pickV_1, pickV_2, setV_0, setV_1, setV_2, if_true, if_false, Bool.false_eq_true, ↓reduceIte]; done)); (simp only [oneB, twoB, midB, dimB, hax, half_two, pickV_0, pickV_1, pickV_2, setV_0, setV_1, setV_2, h2, h4, h6, h8, h10, h12, hβ1, hβ3, h554, h560, h563, h568, h573, h598, h600, h602, h635, h637, h639, c73, c411] <;> rfl) | (have hax : axB A_b = 1 := by (simp only [axB, gtF, dimB, h2, h4, h6, h8, h10, h12, hβ1, hβ3, h554, h560, h563, h568, h573, h598, h600, h602, h635, h637, h639, c73, c411, pickV_0, pickV_1, pickV_2, setV_0, setV_1, setV_2, if_true, if_false, Bool.false_eq_true, ↓reduceIte]; done)); (simp only [oneB, twoB, midB, dimB, hax, half_two, pickV_0, pickV_1, pickV_2, setV_0, setV_1, setV_2, h2, h4, h6, h8, h10, h12, hβ1, hβ3, h554, h560, h563, h568, h573, h598, h600, h602, h635, h637, h639, c73, c411] <;> rfl) | (have hax : axB A_b = 2 := by (simp only [axB, gtF, dimB, h2, h4, h6, h8, h10, h12, hβ1, hβ3, h554, h560, h563, h568, h573, h598, h600, h602, h635, h637, h639, c73, c411, pickV_0, pickV_1, pickV_2, setV_0, setV_1, setV_2, if_true, if_false, Bool.false_eq_true, ↓reduceIte]; done)); (simp only [oneB, twoB, midB, dimB, hax, half_two, pickV_0, pickV_1, pickV_2, setV_0, setV_1, setV_2, h2, h4, h6, h8, h10, h12, hβ1, hβ3, h554, h560, h563, h568, h573, h598, h600, h602, h635, h637, h639, c73, c411] <;> rfl))
  have x676 : cf .f32 r599 = (oneB A_b).hi.y := by (first | (have hax : axB A_b = 0 := by (simp only [axB, gtF, dimB, h2, h4, h6, h8, h10, h12, hβ1, hβ3, h554, h560, h563, h568, h573, h598, h600, h602, h635, h637, h639, c73, c411, pickV_0, pickV_1, pickV_2, setV_0, setV_1, setV_2, if_true, if_false, Bool.false_eq_true, ↓reduceIte]; done)); (simp only [oneB, twoB, midB, dimB, hax, half_two, pickV_0, pickV_1, pickV_2, setV_0, setV_1, setV_2, h2, h4, h6, h8, h10, h12, hβ1, hβ3, h554, h560, h563, h568, h573, h598, h600, h602, h635, h637, h639, c73, c411] <;> rfl) | (have hax : axB A_b = 1 := by (simp only [axB, gtF, dimB, h2, h4, h6, h8, h10, h12, hβ1, hβ3, h554, h560, h563, h568, h573, h598, h600, h602, h635, h637, h639, c73, c411, pickV_0, pickV_1, pickV_2, setV_0, setV_1, setV_2, if_true, if_false, Bool.false_eq_true, ↓reduceIte]; done)); (simp only [oneB, twoB, midB, dimB, hax, half_two, pickV_0, pickV_1, pickV_2, setV_0, setV_1, setV_2, h2, h4, h6, h8, h10, h12, hβ1, hβ3, h554, h560, h563, h568, h573, h598, h600, h602, h635, h637, h639, c73, c411] <;> rfl) | (have hax : axB A_b = 2 := by (simp only [axB, gtF, dimB, h2, h4, h6, h8, h10, h12, hβ1, hβ3, h554, h560, h563, h568, h573, h598, h600, h602, h635, h637, h639, c73, c411, pickV_0, pickV_1, pickV_2, setV_0, setV_1, setV_2, if_true, if_false, Bool.false_eq_true, ↓reduceIte]; done)); (simp only [oneB, twoB, midB, dimB, hax, half_two, pickV_0, pickV_1, pickV_2, setV_0, setV_1, setV_2, h2, h4, h6, h8, h10, h12, hβ1, hβ3, h554, h560, h563, h568, h573, h598, h600, h602, h635, h637, h639, c73, c411] <;> rfl))
  have x677 : cf .f32 r601 = (oneB A_b).hi.z := by (first | (have hax : axB A_b = 0 := by (simp only [axB, gtF, dimB, h2, h4, h6, h8, h10, h12, hβ1, hβ3, h554, h560, h563, h568, h573, h598, h600, h602, h635, h637, h639, c73, c411, pickV_0, pickV_1, pickV_2, setV_0, setV_1, setV_2, if_true, if_false, Bool.false_eq_true, ↓reduceIte]; done)); (simp only [oneB, twoB, midB, dimB, hax, half_two, pickV_0, pickV_1, pickV_2, setV_0, setV_1, setV_2, h2, h4, h6, h8, h10, h12, hβ1, hβ3, h554, h560, h563, h568, h573, h598, h600, h602, h635, h637, h639, c73, c411] <;> rfl) | (have hax : axB A_b = 1 := by (simp only [axB, gtF, dimB, h2, h4, h6, h8, h10, h12, hβ1, hβ3, h554, h560, h563, h568, h573, h598, h600, h602, h635, h637, h639, c73, c411, pickV_0, pickV_1, pickV_2, setV_0, setV_1, setV_2, if_true, if_false, Bool.false_eq_true, ↓reduceIte]; done)); (simp only [oneB, twoB, midB, dimB, hax, half_two, pickV_0, pickV_1, pickV_2, setV_0, setV_1, setV_2, h2, h4, h6, h8, h10, h12, hβ1, hβ3, h554, h560, h563, h568, h573, h598, h600, h602, h635, h637, h639, c73, c411] <;> rfl) | (have hax : axB A_b = 2 := by (simp only [axB, gtF, dimB, h2, h4, h6, h8, h10, h12, hβ1, hβ3, h554, h560, h563, h568, h573, h598, h600, h602, h635, h637, h639, c73, c411, pickV_0, pickV_1, pickV_2, setV_0, setV_1, setV_2, if_true, if_false, Bool.false_eq_true, ↓reduceIte]; done)); (simp only [oneB, twoB, midB, dimB, hax, half_two, pickV_0, pickV_1, pickV_2, setV_0, setV_1, setV_2, h2, h4, h6, h8, h10, h12, hβ1, hβ3, h554, h560, h563, h568, h573, h598, h600, h602, h635, h637, h639, c73, c411] <;> rfl))
  have x678 : cf .f32 r634 = (twoB A_b).lo.x := by (first | (have hax : axB A_b = 0 := by (simp only [axB, gtF, dimB, h2, h4, h6, h8, h10, h12, hβ1, hβ3, h554, h560, h563, h568, h573, h598, h600, h602, h635, h637, h639, c73, c411, pickV_0, pickV_1, pickV_2, setV_0, setV_1, setV_2, if_true, if_false, Bool.false_eq_true, ↓reduceIte]; done)); (simp only [oneB, twoB, midB, dimB, hax, half_two, pickV_0, pickV_1, pickV_2, setV_0, setV_1, setV_2, h2, h4, h6, h8, h10, h12, hβ1, hβ3, h554, h560, h563, h568, h573, h598, h600, h602, h635, h637, h639, c73, c411] <;> rfl) | (have hax : axB A_b = 1 := by (simp only [axB, gtF, dimB, h2, h4, h6, h8, h10, h12, hβ1, hβ3, h554, h560, h563, h568, h573, h598, h600, h602, h635, h637, h639, c73, c411, pickV_0, pickV_1, pickV_2, setV_0, setV_1, setV_2, if_true, if_false, Bool.false_eq_true, ↓reduceIte]; done)); (simp only [oneB, twoB, midB, dimB, hax, half_two, pickV_0, pickV_1, pickV_2, setV_0, setV_1, setV_2, h2, h4, h6, h8, h10, h12, hβ1, hβ3, h554, h560, h563, h568, h573, h598, h600, h602, h635, h637, h639, c73, c411] <;> rfl) | (have hax : axB A_b = 2 := by (simp only [axB, gtF, dimB, h2, h4, h6, h8, h10, h12, hβ1, hβ3, h554, h560, h563, h568, h573, h598, h600, h602, h635, h637, h639, c73, c411, pickV_0, pickV_1, pickV_2, setV_0, setV_1, setV_2, if_true, if_false, Bool.false_eq_true, ↓reduceIte]; done)); (simp only [oneB, twoB, midB, dimB, hax, half_two, pickV_0, pickV_1, pickV_2, setV_0, setV_1, setV_2, h2, h4, h6, h8, h10, h12, hβ1, hβ3, h554, h560, h563, h568, h573, h598, h600, h602, h635, h637, h639, c73, c411] <;> rfl))
  have x679 : cf .f32 r636 = (twoB A_b).lo.y := by (first | (have hax : axB A_b = 0 := by (simp only [axB, gtF, dimB, h2, h4, h6, h8, h10, h12, hβ1, hβ3, h554, h560, h563, h568, h573, h598, h600, h602, h635, h637, h639, c73, c411, pickV_0, pickV_1, pickV_2, setV_0, setV_1, setV_2, if_true, if_false, Bool.false_eq_true, ↓reduceIte]; done)); (simp only [oneB, twoB, midB, dimB, hax, half_two, pickV_0, pickV_1, pickV_2, setV_0, setV_1, setV_2, h2, h4, h6, h8, h10, h12, hβ1, hβ3, h554, h560, h563, h568, h573, h598, h600, h602, h635, h637, h639, c73, c411] <;> rfl) | (have hax : axB A_b = 1 := by (simp only [axB, gtF, dimB, h2, h4, h6, h8, h10, h12, hβ1, hβ3, h554, h560, h563, h568, h573, h598, h600, h602, h635, h637, h639, c73, c411, pickV_0, pickV_1, pickV_2, setV_0, setV_1, setV_2, if_true, if_false, Bool.false_eq_true, ↓reduceIte]; done)); (simp only [oneB, twoB, midB, dimB, hax, half_two, pickV_0, pickV_1, pickV_2, setV_0, setV_1, setV_2, h2, h4, h6, h8, h10, h12, hβ1, hβ3, h554, h560, h563, h568, h573, h598, h600, h602, h635, h637, h639, c73, c411] <;> rfl) | (have hax : axB A_b = 2 := by (simp only [axB, gtF, dimB, h2, h4, h6, h8, h10, h12, hβ1, hβ3, h554, h560, h563, h568, h573, h598, h600, h602, h635, h637, h639, c73, c411, pickV_0, pickV_1, pickV_2, setV_0, setV_1, setV_2, if_true, if_false, Bool.false_eq_true, ↓reduceIte]; done)); (simp only [oneB, twoB, midB, dimB, hax, half_two, pickV_0, pickV_1, pickV_2, setV_0, setV_1, setV_2, h2, h4, h6, h8, h10, h12, hβ1, hβ3, h554, h560, h563, h568, h573, h598, h600, h602, h635, h637, h639, c73, c411] <;> rfl))
  have x680 : cf .f32 r638 = (twoB A_b).lo.z := by (first | (have hax : axB A_b = 0 := by (simp only [axB, gtF, dimB, h2, h4, h6, h8, h10, h12, hβ1, hβ3, h554, h560, h563, h568, h573, h598, h600, h602, h635, h637, h639, c73, c411, pickV_0, pickV_1, pickV_2, setV_0, setV_1, setV_2, if_true, if_false, Bool.false_eq_true, ↓reduceIte]; done)); (simp only [oneB, twoB, midB, dimB, hax, half_two, pickV_0, pickV_1, pickV_2, setV_0, setV_1, setV_2, h2, h4, h6, h8, h10, h12, hβ1, hβ3, h554, h560, h563, h568, h573, h598, h600, h602, h635, h637, h639, c73, c411] <;> rfl) | (have hax : axB A_b = 1 := by (simp only [axB, gtF, dimB, h2, h4, h6, h8, h10, h12, hβ1, hβ3, h554, h560, h563, h568, h573, h598, h600, h602, h635, h637, h639, c73, c411, pickV_0, pickV_1, pickV_2, setV_0, setV_1, setV_2, if_true, if_false, Bool.false_eq_true, ↓reduceIte]; done)); (simp only [oneB, twoB, midB, dimB, hax, half_two, pickV_0, pickV_1, pickV_2, setV_0, setV_1, setV_2, h2, h4, h6, h8, h10, h12, hβ1, hβ3, h554, h560, h563, h568, h573, h598, h600, h602, h635, h637, h639, c73, c411] <;> rfl) | (have hax : axB A_b = 2 := by (simp only [axB, gtF, dimB, h2, h4, h6, h8, h10, h12, hβ1, hβ3, h554, h560, h563, h568, h573, h598, h600, h602, h635, h637, h639, c73, c411, pickV_0, pickV_1, pickV_2, setV_0, setV_1, setV_2, if_true, if_false, Bool.false_eq_true, ↓reduceIte]; done)); (simp only [oneB, twoB, midB, dimB, hax, half_two, pickV_0, pickV_1, pickV_2, setV_0, setV_1, setV_2, h2, h4, h6, h8, h10, h12, hβ1, hβ3, h554, h560, h563, h568, h573, h598, h600, h602, h635, h637, h639, c73, c411] <;> rfl))
  have x681 : cf .f32 r7 = (twoB A_b).hi.x := by (first | (have hax : axB A_b = 0 := by (simp only [axB, gtF, dimB, h2, h4, h6, h8, h10, h12, hβ1, hβ3, h554, h560, h563, h568, h573, h598, h600, h602, h635, h637, h639, c73, c411, pickV_0, pickV_1, pickV_2, setV_0, setV_1, setV_2, if_true, if_false, Bool.false_eq_true, ↓reduceIte]; done)); (simp only [oneB, twoB, midB, dimB, hax, half_two, pickV_0, pickV_1, pickV_2, setV_0, setV_1, setV_2, h2, h4, h6, h8, h10, h12, hβ1, hβ3, h554, h560, h563, h568, h573, h598, h600, h602, h635, h637, h639, c73, c411] <;> rfl) | (have hax : axB A_b = 1 := by (simp only [axB, gtF, dimB, h2, h4, h6, h8, h10, h12, hβ1, hβ3, h554, h560, h563, h568, h573, h598, h600, h602, h635, h637, h639, c73, c411, pickV_0, pickV_1, pickV_2, setV_0, setV_1, setV_2, if_true, if_false, Bool.false_eq_true, ↓reduceIte]; done)); (simp only [oneB, twoB, midB, dimB, hax, half_two, pickV_0, pickV_1, pickV_2, setV_0, setV_1, setV_2, h2, h4, h6, h8, h10, h12, hβ1, hβ3, h554, h560, h563, h568, h573, h598, h600, h602, h635, h637, h639, c73, c411] <;> rfl) | (have hax : axB A_b = 2 := by (simp only [axB, gtF, dimB, h2, h4, h6, h8, h10, h12, hβ1, hβ3, h554, h560, h563, h568, h573, h598, h600, h602, h635, h637, h639, c73, c411, pickV_0, pickV_1, pickV_2, setV_0, setV_1, setV_2, if_true, if_false, Bool.false_eq_true, ↓reduceIte]; done)); (simp only [oneB, twoB, midB, dimB, hax, half_two, pickV_0, pickV_1, pickV_2, setV_0, setV_1, setV_2, h2, h4, h6, h8, h10, h12, hβ1, hβ3, h554, h560, h563, h568, h573, h598, h600, h602, h635, h637, h639, c73, c411] <;> rfl))
  have x682 : cf .f32 r9 = (twoB A_b).hi.y := by (first | (have hax : axB A_b = 0 := by (simp only [axB, gtF, dimB, h2, h4, h6, h8, h10, h12, hβ1, hβ3, h554, h560, h563, h568, h573, h598, h600, h602, h635, h637, h639, c73, c411, pickV_0, pickV_1, pickV_2, setV_0, setV_1, setV_2, if_true, if_false, Bool.false_eq_true, ↓reduceIte]; done)); (simp only [oneB, twoB, midB, dimB, hax, half_two, pickV_0, pickV_1, pickV_2, setV_0, setV_1, setV_2, h2, h4, h6, h8, h10, h12, hβ1, hβ3, h554, h560, h563, h568, h573, h598, h600, h602, h635, h637, h639, c73, c411] <;> rfl) | (have hax : axB A_b = 1 := by (simp only [axB, gtF, dimB, h2, h4, h6, h8, h10, h12, hβ1, hβ3, h554, h560, h563, h568, h573, h598, h600, h602, h635, h637, h639, c73, c411, pickV_0, pickV_1, pickV_2, setV_0, setV_1, setV_2, if_true, if_false, Bool.false_eq_true, ↓reduceIte]; done)); (simp only [oneB, twoB, midB, dimB, hax, half_two, pickV_0, pickV_1, pickV_2, setV_0, setV_1, setV_2, h2, h4, h6, h8, h10, h12, hβ1, hβ3, h554, h560, h563, h568, h573, h598, h600, h602, h635, h637, h639, c73, c411] <;> rfl) | (have hax : axB A_b = 2 := by (simp only [axB, gtF, dimB, h2, h4, h6, h8, h10, h12, hβ1, hβ3, h554, h560, h563, h568, h573, h598, h600, h602, h635, h637, h639, c73, c411, pickV_0, pickV_1, pickV_2, setV_0, setV_1, setV_2, if_true, if_false, Bool.false_eq_true, ↓reduceIte]; done)); (simp only [oneB, twoB, midB, dimB, hax, half_two, pickV_0, pickV_1, pickV_2, setV_0, setV_1, setV_2, h2, h4, h6, h8, h10, h12, hβ1, hβ3, h554, h560, h563, h568, h573, h598, h600, h602, h635, h637, h639, c73, c411] <;> rfl))
  have x683 : cf .f32 r11 = (twoB A_b).hi.z := by (first | (have hax : axB A_b = 0 := by (simp only [axB, gtF, dimB, h2, h4, h6, h8, h10, h12, hβ1, hβ3, h554, h560, h563, h568, h573, h598, h600, h602, h635, h637, h639, c73, c411, pickV_0, pickV_1, pickV_2, setV_0, setV_1, setV_2, if_true, if_false, Bool.false_eq_true, ↓reduceIte]; done)); (simp only [oneB, twoB, midB, dimB, hax, half_two, pickV_0, pickV_1, pickV_2, setV_0, setV_1, setV_2, h2, h4, h6, h8, h10, h12, hβ1, hβ3, h554, h560, h563, h568, h573, h598, h600, h602, h635, h637, h639, c73, c411] <;> rfl) | (have hax : axB A_b = 1 := by (simp only [axB, gtF, dimB, h2, h4, h6, h8, h10, h12, hβ1, hβ3, h554, h560, h563, h568, h573, h598, h600, h602, h635, h637, h639, c73, c411, pickV_0, pickV_1, pickV_2, setV_0, setV_1, setV_2, if_true, if_false, Bool.false_eq_true, ↓reduceIte]; done)); (simp only [oneB, twoB, midB, dimB, hax, half_two, pickV_0, pickV_1, pickV_2, setV_0, setV_1, setV_2, h2, h4, h6, h8, h10, h12, hβ1, hβ3, h554, h560, h563, h568, h573, h598, h600, h602, h635, h637, h639, c73, c411] <;> rfl) | (have hax : axB A_b = 2 := by (simp only [axB, gtF, dimB, h2, h4, h6, h8, h10, h12, hβ1, hβ3, h554, h560, h563, h568, h573, h598, h600, h602, h635, h637, h639, c73, c411, pickV_0, pickV_1, pickV_2, setV_0, setV_1, setV_2, if_true, if_false, Bool.false_eq_true, ↓reduceIte]; done)); (simp only [oneB, twoB, midB, dimB, hax, half_two, pickV_0, pickV_1, pickV_2, setV_0, setV_1, setV_2, h2, h4, h6, h8, h10, h12, hβ1, hβ3, h554, h560, h563, h568, h573, h598, h600, h602, h635, h637, h639, c73, c411] <;> rfl))
  exact ⟨[(Fl r1), (Fl r3), (Fl r5), (Fl r597), (Fl r599), (Fl r601)], [(Fl r634), (Fl r636), (Fl r638), (Fl r7), (Fl r9), (Fl r11)], rfl, ⟨r1, r3, r5, r597, r599, r601, rfl, x672, x673, x674, x675, x676, x677⟩, ⟨r634, r636, r638, r7, r9, r11, rfl, x678, x679, x680, x681, x682, x683⟩⟩

/- spec.SplitBox -/
theorem c_spec_SplitBox (b : List Value) (A_b : Bx) (w : World) (hv_b : RBx w A_b b) : Gives Try.prog 4 #[(.agg b.toArray)] w (fun v w' => ∃ cs_1 : List Value, ∃ cs_2 : List Value, v = (.tuple #[(.agg cs_1.toArray), (.agg cs_2.toArray), (Bo (splitOk A_b))]) ∧ RBx w (gvB (splitOk A_b) (oneB A_b)) cs_1 ∧ RBx w (gvB (splitOk A_b) (twoB A_b)) cs_2) := by
  obtain ⟨r1, r3, r5, r7, r9, r11, rfl, h2, h4, h6, h8, h10, h12⟩ := hv_b
  refine enter [(.agg #[(Fl r1), (Fl r3), (Fl r5), (Fl r7), (Fl r9), (Fl r11)]), Ud, Ud, Ud, Ud, Ud, Ud, Ud, Ud, Ud, Ud, Ud, Ud, Ud, Ud, Ud, Ud, Ud, Ud, Ud, Ud, Ud, Ud, Ud, Ud, Ud] Try.func4 rfl Try.ntmps4 rfl ?_
  refine wp_seq_k fun K13 hK13 => ?_
  refine wp_region_lit ?_
  refine seqd rfl rfl (does_box (u := (.agg #[(Fl r1), (Fl r3), (Fl r5), (Fl r7), (Fl r9), (Fl r11)])) (ev rfl)) ?_; rintro _ w18 ⟨b14, rfl, hb15, hB16, E17⟩
  have g19 : w.heap.size ≤ b14 := Nat.le_trans (Below.size (Ext.refl w)) hb15
  change Blk _ _ [(Fl r1), (Fl r3), (Fl r5), (Fl r7), (Fl r9), (Fl r11)] at hB16
  have X20 := Ext.gr (Ext.refl w) E17
  show wpList _ _ _ _ (fr [_, _, _, _, _, _, _, _, _, _, _, _, _, _, _, _, _, _, _, _, _, _, _, _, _, _]) _
  refine seqd rfl rfl (does_alloc z29) ?_; rintro _ w25 ⟨b21, rfl, hb22, hB23, E24⟩
  have n26 : b14 < b21 := Nat.lt_of_lt_of_le (Blk.lt hB16) hb22
  have g27 : w.heap.size ≤ b21 := Nat.le_trans (Below.size X20) hb22
  change Blk _ _ [(Fl 0), (Fl 0), (Fl 0), (Fl 0), (Fl 0), (Fl 0)] at hB23
  have X28 := Ext.gr X20 E24
  show wpList _ _ _ _ (fr [_, _, _, _, _, _, _, _, _, _, _, _, _, _, _, _, _, _, _, _, _, _, _, _, _, _]) _
  refine seqd rfl rfl (does_alloc z29) ?_; rintro _ w33 ⟨b29, rfl, hb30, hB31, E32⟩
  have n34 : b14 < b29 := Nat.lt_of_lt_of_le (Blk.lt (hB16.ext E24)) hb30
  have n35 : b21 < b29 := Nat.lt_of_lt_of_le (Blk.lt hB23) hb30
  have g36 : w.heap.size ≤ b29 := Nat.le_trans (Below.size X28) hb30
  change Blk _ _ [(Fl 0), (Fl 0), (Fl 0), (Fl 0), (Fl 0), (Fl 0)] at hB31
  have X37 := Ext.gr X28 E32
  show wpList _ _ _ _ (fr [_, _, _, _, _, _, _, _, _, _, _, _, _, _, _, _, _, _, _, _, _, _, _, _, _, _]) _
  refine q_is rfl rfl (does_assign (u := (Bo false)) (ev rfl)) (by dsimp only [List.set]; try rfl) ?_
  refine wpList_nil (hK13 _ _ ?_)
  refine wp_seq_k fun K38 hK38 => ?_
  refine wp_seq_k fun K39 hK39 => ?_
  refine wp_region_lit ?_
  refine seqd rfl rfl (does_call (args := #[(Pt b14 0)]) cal8 (evs rfl) (c_spec_l04Is b14 0 [(Fl r1), (Fl r3), (Fl r5), (Fl r7), (Fl r9), (Fl r11)] A_b _ (Blk.cells ((hB16.ext E24).ext E32)) ⟨r1, r3, r5, r7, r9, r11, rfl, h2, h4, h6, h8, h10, h12⟩)) ?_; rintro _ w41 ⟨E40, rfl⟩
  have X42 := Ext.gr X37 E40
  show wpList _ _ _ _ (fr [_, _, _, _, _, _, _, _, _, _, _, _, _, _, _, _, _, _, _, _, _, _, _, _, _, _]) _
  refine q_is rfl rfl (does_not (ev rfl)) (by dsimp only [List.set]; try rfl) ?_
  refine wpList_nil (hK39 _ _ ?_)
  refine wp_cond_split (t := !(isBox A_b)) (ev rfl) (fun c43 => ?_) (fun c43 => ?_)
  · rw [Bool.not_eq_true'] at c43
    have c43' := c43
    have hsf := splitOk_0 c43
    refine wp_seq_k fun K44 hK44 => ?_
    refine wp_region_lit ?_
    refine q_is rfl rfl (does_build (parts' := []) (cells := #[(Fl 0), (Fl 0), (Fl 0), (Fl 0), (Fl 0), (Fl 0)]) (evp rfl) (by kernel_rfl)) (by dsimp only [List.set]; try rfl) ?_
    refine q_is rfl rfl (does_build (parts' := []) (cells := #[(Fl 0), (Fl 0), (Fl 0), (Fl 0), (Fl 0), (Fl 0)]) (evp rfl) (by kernel_rfl)) (by dsimp only [List.set]; try rfl) ?_
    refine seqn rfl rfl (does_store (n := 6) (cs := [(Fl 0), (Fl 0), (Fl 0), (Fl 0), (Fl 0), (Fl 0)]) (u := (.agg #[(Fl 0), (Fl 0), (Fl 0), (Fl 0), (Fl 0), (Fl 0)])) (ev rfl) (ev rfl) Try.sizeOf29 rfl ((hB23.ext E32).ext E40) (Nat.le_of_ble_eq_true rfl) rfl) ?_; rintro _ w47 ⟨rfl, W45, hB46⟩
    change Blk _ _ [(Fl 0), (Fl 0), (Fl 0), (Fl 0), (Fl 0), (Fl 0)] at hB46
    have X48 := Below.wr X42 W45 g27
    refine seqn rfl rfl (does_store (n := 6) (cs := [(Fl 0), (Fl 0), (Fl 0), (Fl 0), (Fl 0), (Fl 0)]) (u := (.agg #[(Fl 0), (Fl 0), (Fl 0), (Fl 0), (Fl 0), (Fl 0)])) (ev rfl) (ev rfl) Try.sizeOf29 rfl ((hB31.ext E40).wr W45 (Nat.ne_of_gt n35)) (Nat.le_of_ble_eq_true rfl) rfl) ?_; rintro _ w51 ⟨rfl, W49, hB50⟩
    change Blk _ _ [(Fl 0), (Fl 0), (Fl 0), (Fl 0), (Fl 0), (Fl 0)] at hB50
    have X52 := Below.wr X48 W49 g36
    refine q_is rfl rfl (does_assign (u := (Bo false)) (ev rfl)) (by dsimp only [List.set]; try rfl) ?_
    refine wpList_nil (hK44 _ _ ?_)
    refine wp_ret ?_
    dsimp only [Exit.then, Exit.inBlock]
    refine ret_val (v := (.tuple #[(.agg #[(Fl 0), (Fl 0), (Fl 0), (Fl 0), (Fl 0), (Fl 0)]), (.agg #[(Fl 0), (Fl 0), (Fl 0), (Fl 0), (Fl 0), (Fl 0)]), (Bo false)])) (res_CCT rfl (slot rfl) (run_loadAgg (cs := [(Fl 0), (Fl 0), (Fl 0), (Fl 0), (Fl 0), (Fl 0)]) Try.isAgg29 Try.sizeOf29 (Blk.cells (hB46.wr W49 (Nat.ne_of_lt n35))) rfl) (slot rfl) (run_loadAgg (cs := [(Fl 0), (Fl 0), (Fl 0), (Fl 0), (Fl 0), (Fl 0)]) Try.isAgg29 Try.sizeOf29 (Blk.cells hB50) rfl) (slot rfl)) X52 ?_
    try simp only [h2, h4, h6, h8, h10, h12] at c43
    have x53 : (splitOk A_b) = false := by first | exact hsf | exact hst | (rw [hsf] <;> rfl) | (rw [hst, gvB_t]; first | rfl | assumption | (simp only [h2, h4, h6, h8, h10, h12, c43]; done))
    have x54 : cf .f32 0 = (gvB (splitOk A_b) (oneB A_b)).lo.x := by first | exact hsf | exact hst | (rw [hsf] <;> rfl) | (rw [hst, gvB_t]; first | rfl | assumption | (simp only [h2, h4, h6, h8, h10, h12, c43]; done))
    have x55 : cf .f32 0 = (gvB (splitOk A_b) (oneB A_b)).lo.y := by first | exact hsf | exact hst | (rw [hsf] <;> rfl) | (rw [hst, gvB_t]; first | rfl | assumption | (simp only [h2, h4, h6, h8, h10, h12, c43]; done))
    have x56 : cf .f32 0 = (gvB (splitOk A_b) (oneB A_b)).lo.z := by first | exact hsf | exact hst | (rw [hsf] <;> rfl) | (rw [hst, gvB_t]; first | rfl | assumption | (simp only [h2, h4, h6, h8, h10, h12, c43]; done))
    have x57 : cf .f32 0 = (gvB (splitOk A_b) (oneB A_b)).hi.x := by first | exact hsf | exact hst | (rw [hsf] <;> rfl) | (rw [hst, gvB_t]; first | rfl | assumption | (simp only [h2, h4, h6, h8, h10, h12, c43]; done))
    have x58 : cf .f32 0 = (gvB (splitOk A_b) (oneB A_b)).hi.y := by first | exact hsf | exact hst | (rw [hsf] <;> rfl) | (rw [hst, gvB_t]; first | rfl | assumption | (simp only [h2, h4, h6, h8, h10, h12, c43]; done))
    have x59 : cf .f32 0 = (gvB (splitOk A_b) (oneB A_b)).hi.z := by first | exact hsf | exact hst | (rw [hsf] <;> rfl) | (rw [hst, gvB_t]; first | rfl | assumption | (simp only [h2, h4, h6, h8, h10, h12, c43]; done))
    have x60 : cf .f32 0 = (gvB (splitOk A_b) (twoB A_b)).lo.x := by first | exact hsf | exact hst | (rw [hsf] <;> rfl) | (rw [hst, gvB_t]; first | rfl | assumption | (simp only [h2, h4, h6, h8, h10, h12, c43]; done))
    have x61 : cf .f32 0 = (gvB (splitOk A_b) (twoB A_b)).lo.y := by first | exact hsf | exact hst | (rw [hsf] <;> rfl) | (rw [hst, gvB_t]; first | rfl | assumption | (simp only [h2, h4, h6, h8, h10, h12, c43]; done))
    have x62 : cf .f32 0 = (gvB (splitOk A_b) (twoB A_b)).lo.z := by first | exact hsf | exact hst | (rw [hsf] <;> rfl) | (rw [hst, gvB_t]; first | rfl | assumption | (simp only [h2, h4, h6, h8, h10, h12, c43]; done))
    have x63 : cf .f32 0 = (gvB (splitOk A_b) (twoB A_b)).hi.x := by first | exact hsf | exact hst | (rw [hsf] <;> rfl) | (rw [hst, gvB_t]; first | rfl | assumption | (simp only [h2, h4, h6, h8, h10, h12, c43]; done))
    have x64 : cf .f32 0 = (gvB (splitOk A_b) (twoB A_b)).hi.y := by first | exact hsf | exact hst | (rw [hsf] <;> rfl) | (rw [hst, gvB_t]; first | rfl | assumption | (simp only [h2, h4, h6, h8, h10, h12, c43]; done))
    have x65 : cf .f32 0 = (gvB (splitOk A_b) (twoB A_b)).hi.z := by first | exact hsf | exact hst | (rw [hsf] <;> rfl) | (rw [hst, gvB_t]; first | rfl | assumption | (simp only [h2, h4, h6, h8, h10, h12, c43]; done))
    exact ⟨[(Fl 0), (Fl 0), (Fl 0), (Fl 0), (Fl 0), (Fl 0)], [(Fl 0), (Fl 0), (Fl 0), (Fl 0), (Fl 0), (Fl 0)], (by first | with_reducible rfl | rw [x53] | rfl), ⟨0, 0, 0, 0, 0, 0, rfl, x54, x55, x56, x57, x58, x59⟩, ⟨0, 0, 0, 0, 0, 0, rfl, x60, x61, x62, x63, x64, x65⟩⟩
  rw [Bool.not_eq_false'] at c43
  have c43' := c43
  have hs0 : isBox A_b = true := c43
  refine wp_skip (hK38 _ _ ?_)
  refine wp_seq_k fun K66 hK66 => ?_
  refine wp_region_lit ?_
  refine q_is rfl rfl (does_loadAgg (cs := [(Fl r1), (Fl r3), (Fl r5), (Fl r7), (Fl r9), (Fl r11)]) (ev rfl) Try.isAgg29 Try.sizeOf29 (Blk.cells (((hB16.ext E24).ext E32).ext E40)) rfl) (by dsimp only [List.set]; try rfl) ?_
  refine seqd rfl rfl (does_call (args := #[(.agg #[(Fl r1), (Fl r3), (Fl r5), (Fl r7), (Fl r9), (Fl r11)])]) cal9 (evs rfl) (c_spec_l04Split [(Fl r1), (Fl r3), (Fl r5), (Fl r7), (Fl r9), (Fl r11)] A_b _ ⟨r1, r3, r5, r7, r9, r11, rfl, h2, h4, h6, h8, h10, h12⟩)) ?_; rintro _ w68 ⟨E67, ⟨_, _, rfl, ⟨r69, r71, r73, r75, r77, r79, rfl, h70, h72, h74, h76, h78, h80⟩, ⟨r81, r83, r85, r87, r89, r91, rfl, h82, h84, h86, h88, h90, h92⟩⟩⟩
  have X93 := Ext.gr X42 E67
  show wpList _ _ _ _ (fr [_, _, _, _, _, _, _, _, _, _, _, _, _, _, _, _, _, _, _, _, _, _, _, _, _, _]) _
  refine q_is rfl rfl (does_move (u := (.tuple #[(.agg #[(Fl r69), (Fl r71), (Fl r73), (Fl r75), (Fl r77), (Fl r79)]), (.agg #[(Fl r81), (Fl r83), (Fl r85), (Fl r87), (Fl r89), (Fl r91)])])) (ev rfl)) (by dsimp only [List.set]; try rfl) ?_
  refine q_is rfl rfl (does_extract (vs := #[(.agg #[(Fl r69), (Fl r71), (Fl r73), (Fl r75), (Fl r77), (Fl r79)]), (.agg #[(Fl r81), (Fl r83), (Fl r85), (Fl r87), (Fl r89), (Fl r91)])]) (u := (.agg #[(Fl r69), (Fl r71), (Fl r73), (Fl r75), (Fl r77), (Fl r79)])) (ev rfl) rfl) (by dsimp only [List.set]; try rfl) ?_
  refine q_is rfl rfl (does_extract (vs := #[(.agg #[(Fl r69), (Fl r71), (Fl r73), (Fl r75), (Fl r77), (Fl r79)]), (.agg #[(Fl r81), (Fl r83), (Fl r85), (Fl r87), (Fl r89), (Fl r91)])]) (u := (.agg #[(Fl r81), (Fl r83), (Fl r85), (Fl r87), (Fl r89), (Fl r91)])) (ev rfl) rfl) (by dsimp only [List.set]; try rfl) ?_
  refine seqd rfl rfl (does_alloc z29) ?_; rintro _ w98 ⟨b94, rfl, hb95, hB96, E97⟩
  have n99 : b14 < b94 := Nat.lt_of_lt_of_le (Blk.lt ((((hB16.ext E24).ext E32).ext E40).ext E67)) hb95
  have n100 : b21 < b94 := Nat.lt_of_lt_of_le (Blk.lt (((hB23.ext E32).ext E40).ext E67)) hb95
  have n101 : b29 < b94 := Nat.lt_of_lt_of_le (Blk.lt ((hB31.ext E40).ext E67)) hb95
  have g102 : w.heap.size ≤ b94 := Nat.le_trans (Below.size X93) hb95
  change Blk _ _ [(Fl 0), (Fl 0), (Fl 0), (Fl 0), (Fl 0), (Fl 0)] at hB96
  have X103 := Ext.gr X93 E97
  show wpList _ _ _ _ (fr [_, _, _, _, _, _, _, _, _, _, _, _, _, _, _, _, _, _, _, _, _, _, _, _, _, _]) _
  refine seqd rfl rfl (does_alloc z29) ?_; rintro _ w108 ⟨b104, rfl, hb105, hB106, E107⟩
  have n109 : b14 < b104 := Nat.lt_of_lt_of_le (Blk.lt (((((hB16.ext E24).ext E32).ext E40).ext E67).ext E97)) hb105
  have n110 : b21 < b104 := Nat.lt_of_lt_of_le (Blk.lt ((((hB23.ext E32).ext E40).ext E67).ext E97)) hb105
  have n111 : b29 < b104 := Nat.lt_of_lt_of_le (Blk.lt (((hB31.ext E40).ext E67).ext E97)) hb105
  have n112 : b94 < b104 := Nat.lt_of_lt_of_le (Blk.lt hB96) hb105
  have g113 : w.heap.size ≤ b104 := Nat.le_trans (Below.size X103) hb105
  change Blk _ _ [(Fl 0), (Fl 0), (Fl 0), (Fl 0), (Fl 0), (Fl 0)] at hB106
  have X114 := Ext.gr X103 E107
  show wpList _ _ _ _ (fr [_, _, _, _, _, _, _, _, _, _, _, _, _, _, _, _, _, _, _, _, _, _, _, _, _, _]) _
  refine seqn rfl rfl (does_store (n := 6) (cs := [(Fl 0), (Fl 0), (Fl 0), (Fl 0), (Fl 0), (Fl 0)]) (u := (.agg #[(Fl r69), (Fl r71), (Fl r73), (Fl r75), (Fl r77), (Fl r79)])) (ev rfl) (ev rfl) Try.sizeOf29 rfl (hB96.ext E107) (Nat.le_of_ble_eq_true rfl) rfl) ?_; rintro _ w117 ⟨rfl, W115, hB116⟩
  change Blk _ _ [(Fl r69), (Fl r71), (Fl r73), (Fl r75), (Fl r77), (Fl r79)] at hB116
  have X118 := Below.wr X114 W115 g102
  refine seqn rfl rfl (does_store (n := 6) (cs := [(Fl 0), (Fl 0), (Fl 0), (Fl 0), (Fl 0), (Fl 0)]) (u := (.agg #[(Fl r81), (Fl r83), (Fl r85), (Fl r87), (Fl r89), (Fl r91)])) (ev rfl) (ev rfl) Try.sizeOf29 rfl (hB106.wr W115 (Nat.ne_of_gt n112)) (Nat.le_of_ble_eq_true rfl) rfl) ?_; rintro _ w121 ⟨rfl, W119, hB120⟩
  change Blk _ _ [(Fl r81), (Fl r83), (Fl r85), (Fl r87), (Fl r89), (Fl r91)] at hB120
  have X122 := Below.wr X118 W119 g113
  refine wpList_nil (hK66 _ _ ?_)
  refine wp_seq_k fun K123 hK123 => ?_
  refine wp_seq_k fun K124 hK124 => ?_
  obtain ⟨β1, hβ1⟩ : ∃ b : Bool, b = ((!(isBox (oneB A_b))) || (!(isBox (twoB A_b)))) := ⟨_, rfl⟩
  refine region_text (
    [Fact.pure [] (fun v => v = (Bo (isBox (oneB A_b)))),
    Fact.pure [16] (fun v => v = (Bo (!(isBox (oneB A_b))))),
    Fact.pure [17] (fun v => v = (Bo (!(isBox (oneB A_b))))),
    Fact.pure [18] (fun v => (!(isBox (oneB A_b))) = false → v = (Bo (isBox (twoB A_b)))),
    Fact.pure [19, 18] (fun v => (!(isBox (oneB A_b))) = false → v = (Bo (!(isBox (twoB A_b))))),
    Fact.pure [18, 20] (fun v => v = (Bo β1))]) (by simp [Fact.pure, Fact.mem]) ?_
  refine RW_d _ rfl (fun v => by dsimp only [List.set]; try rfl) (fun u hu hF => ?_) (fun v125 => ?_)
  · clear hF
    refine doesG_un rfl ?_
    refine (does_call (args := #[(Pt b94 0)]) cal8 (evs rfl) (c_spec_l04Is b94 0 [(Fl r69), (Fl r71), (Fl r73), (Fl r75), (Fl r77), (Fl r79)] (oneB A_b) _ (Blk.cells ((hB116.wr W119 (Nat.ne_of_lt n112)).ext hu)) ⟨r69, r71, r73, r75, r77, r79, rfl, h70, h72, h74, h76, h78, h80⟩)).mono ?_; rintro v u' ⟨hx, hv⟩
    exact ⟨hv, hx⟩
  refine RW_d _ rfl (fun v => by dsimp only [List.set]; try rfl) (fun u hu hF => ?_) (fun v126 => ?_)
  · have h16_ : v125 = (Bo (isBox (oneB A_b))) := hF.1
    clear hF
    refine doesG_un rfl ?_
    obtain rfl := h16_
    refine (does_not (ev rfl)).mono ?_; rintro _ _ ⟨rfl, rfl⟩
    exact ⟨rfl, Ext.refl _⟩
  refine RW_d _ rfl (fun v => by dsimp only [List.set]; try rfl) (fun u hu hF => ?_) (fun v127 => ?_)
  · have h17_ : v126 = (Bo (!(isBox (oneB A_b)))) := hF.1
    clear hF
    refine doesG_un rfl ?_
    obtain rfl := h17_
    refine (does_move (u := (Bo (!(isBox (oneB A_b))))) (ev rfl)).mono ?_; rintro _ _ ⟨rfl, rfl⟩
    exact ⟨rfl, Ext.refl _⟩
  refine RW_d _ rfl (fun v => by dsimp only [List.set]; try rfl) (fun u hu hF => ?_) (fun v128 => ?_)
  · have h18_ : v127 = (Bo (!(isBox (oneB A_b)))) := hF.1
    clear hF
    obtain rfl := h18_
    refine doesG_g (b := (!(isBox (oneB A_b)))) rfl (yld rfl rfl) (fun hg1 => ?_) (fun hc => ⟨fun hg1 => absurd hg1 hc, Ext.refl _⟩)
    refine (does_call (args := #[(Pt b104 0)]) cal8 (evs rfl) (c_spec_l04Is b104 0 [(Fl r81), (Fl r83), (Fl r85), (Fl r87), (Fl r89), (Fl r91)] (twoB A_b) _ (Blk.cells (hB120.ext hu)) ⟨r81, r83, r85, r87, r89, r91, rfl, h82, h84, h86, h88, h90, h92⟩)).mono ?_; rintro v u' ⟨hx, hv⟩
    exact ⟨fun _ => hv, hx⟩
  refine RW_d _ rfl (fun v => by dsimp only [List.set]; try rfl) (fun u hu hF => ?_) (fun v129 => ?_)
  · have h19_ : (!(isBox (oneB A_b))) = false → v128 = (Bo (isBox (twoB A_b))) := hF.1
    have h18_ : v127 = (Bo (!(isBox (oneB A_b)))) := hF.2.1
    clear hF
    obtain rfl := h18_
    refine doesG_g (b := (!(isBox (oneB A_b)))) rfl (yld rfl rfl) (fun hg1 => ?_) (fun hc => ⟨fun hg1 => absurd hg1 hc, Ext.refl _⟩)
    obtain rfl := h19_ hg1
    refine (does_not (ev rfl)).mono ?_; rintro _ _ ⟨rfl, rfl⟩
    exact ⟨fun _ => rfl, Ext.refl _⟩
  refine RW_d _ rfl (fun v => by dsimp only [List.set]; try rfl) (fun u hu hF => ?_) (fun v130 => ?_)
  · have h18_ : v127 = (Bo (!(isBox (oneB A_b)))) := hF.1
    have h20_ : (!(isBox (oneB A_b))) = false → v129 = (Bo (!(isBox (twoB A_b)))) := hF.2.1
    clear hF
    refine doesG_un rfl ?_
    skip
    obtain rfl := h18_
    refine (does_pick (b := (!(isBox (oneB A_b)))) (u := (Bo true)) (v := v129) (ev rfl) (ev rfl) (ev rfl)).mono ?_; rintro _ _ ⟨rfl, rfl⟩; refine ⟨?_, Ext.refl _⟩; rw [hβ1]; skip
    cases hbb : (!(isBox (oneB A_b)))
    all_goals first | (show _ = _; simp only [↓reduceIte, Bool.true_and, Bool.false_and, Bool.true_or, Bool.false_or, Bool.false_eq_true]; done) | (have e_ := h20_ hbb; subst e_; show _ = _; simp only [↓reduceIte, Bool.true_and, Bool.false_and, Bool.true_or, Bool.false_or, Bool.false_eq_true]; done) | rfl | (have e_ := h20_ hbb; subst e_; rfl) | (simp [hbb] at h20_ ⊢; first | done | rfl | (subst h20_; rfl) | simp_all) | (simp [hbb] at h20_ ⊢; done)
  refine RW_fin ?_; intro w131 E132 hP133
  obtain ⟨⟨⟨⟨⟨⟨-, -⟩, -⟩, -⟩, -⟩, -⟩, q134⟩ := hP133
  have X135 := Ext.gr X122 E132
  have q134 : v130 = (Bo β1) := q134
  obtain rfl := q134
  show wpList _ _ _ _ (fr [_, _, _, _, _, _, _, _, _, _, _, _, _, _, _, _, _, _, _, _, _, _, _, _, _, _]) _
  refine wpList_nil (hK124 _ _ ?_)
  refine wp_cond_split (t := β1) (ev rfl) (fun c136 => ?_) (fun c136 => ?_)
  · have c136' := c136
    (try simp only [hβ1] at c136')
    (try simp only [icmp, Bool.and_eq_true, Bool.or_eq_true, Bool.and_eq_false_iff, Bool.or_eq_false_iff, Bool.not_eq_true', Bool.not_eq_false', decide_eq_true_eq, decide_eq_false_iff_not, beq_iff_eq, bne_iff_ne, beq_eq_false_iff_ne, bne_eq_false_iff_eq] at c136')
    have hsf := splitOk_1 c136'
    refine wp_seq_k fun K137 hK137 => ?_
    refine wp_region_lit ?_
    refine q_is rfl rfl (does_build (parts' := []) (cells := #[(Fl 0), (Fl 0), (Fl 0), (Fl 0), (Fl 0), (Fl 0)]) (evp rfl) (by kernel_rfl)) (by dsimp only [List.set]; try rfl) ?_
    refine q_is rfl rfl (does_build (parts' := []) (cells := #[(Fl 0), (Fl 0), (Fl 0), (Fl 0), (Fl 0), (Fl 0)]) (evp rfl) (by kernel_rfl)) (by dsimp only [List.set]; try rfl) ?_
    refine seqn rfl rfl (does_store (n := 6) (cs := [(Fl 0), (Fl 0), (Fl 0), (Fl 0), (Fl 0), (Fl 0)]) (u := (.agg #[(Fl 0), (Fl 0), (Fl 0), (Fl 0), (Fl 0), (Fl 0)])) (ev rfl) (ev rfl) Try.sizeOf29 rfl ((((((((hB23.ext E32).ext E40).ext E67).ext E97).ext E107).wr W115 (Nat.ne_of_lt n100)).wr W119 (Nat.ne_of_lt n110)).ext E132) (Nat.le_of_ble_eq_true rfl) rfl) ?_; rintro _ w140 ⟨rfl, W138, hB139⟩
    change Blk _ _ [(Fl 0), (Fl 0), (Fl 0), (Fl 0), (Fl 0), (Fl 0)] at hB139
    have X141 := Below.wr X135 W138 g27
    refine seqn rfl rfl (does_store (n := 6) (cs := [(Fl 0), (Fl 0), (Fl 0), (Fl 0), (Fl 0), (Fl 0)]) (u := (.agg #[(Fl 0), (Fl 0), (Fl 0), (Fl 0), (Fl 0), (Fl 0)])) (ev rfl) (ev rfl) Try.sizeOf29 rfl ((((((((hB31.ext E40).ext E67).ext E97).ext E107).wr W115 (Nat.ne_of_lt n101)).wr W119 (Nat.ne_of_lt n111)).ext E132).wr W138 (Nat.ne_of_gt n35)) (Nat.le_of_ble_eq_true rfl) rfl) ?_; rintro _ w144 ⟨rfl, W142, hB143⟩
    change Blk _ _ [(Fl 0), (Fl 0), (Fl 0), (Fl 0), (Fl 0), (Fl 0)] at hB143
    have X145 := Below.wr X141 W142 g36
    refine q_is rfl rfl (does_assign (u := (Bo false)) (ev rfl)) (by dsimp only [List.set]; try rfl) ?_
    refine wpList_nil (hK137 _ _ ?_)
    refine wp_ret ?_
    dsimp only [Exit.then, Exit.inBlock]
    refine ret_val (v := (.tuple #[(.agg #[(Fl 0), (Fl 0), (Fl 0), (Fl 0), (Fl 0), (Fl 0)]), (.agg #[(Fl 0), (Fl 0), (Fl 0), (Fl 0), (Fl 0), (Fl 0)]), (Bo false)])) (res_CCT rfl (slot rfl) (run_loadAgg (cs := [(Fl 0), (Fl 0), (Fl 0), (Fl 0), (Fl 0), (Fl 0)]) Try.isAgg29 Try.sizeOf29 (Blk.cells (hB139.wr W142 (Nat.ne_of_lt n35))) rfl) (slot rfl) (run_loadAgg (cs := [(Fl 0), (Fl 0), (Fl 0), (Fl 0), (Fl 0), (Fl 0)]) Try.isAgg29 Try.sizeOf29 (Blk.cells hB143) rfl) (slot rfl)) X145 ?_
    try simp only [h2, h4, h6, h8, h10, h12, h70, h72, h74, h76, h78, h80, h82, h84, h86, h88, h90, h92, hβ1] at c43 c136
    have x146 : (splitOk A_b) = false := by first | exact hsf | exact hst | (rw [hsf] <;> rfl) | (rw [hst, gvB_t]; first | rfl | assumption | (simp only [h2, h4, h6, h8, h10, h12, h70, h72, h74, h76, h78, h80, h82, h84, h86, h88, h90, h92, hβ1, c43, c136]; done))
    have x147 : cf .f32 0 = (gvB (splitOk A_b) (oneB A_b)).lo.x := by first | exact hsf | exact hst | (rw [hsf] <;> rfl) | (rw [hst, gvB_t]; first | rfl | assumption | (simp only [h2, h4, h6, h8, h10, h12, h70, h72, h74, h76, h78, h80, h82, h84, h86, h88, h90, h92, hβ1, c43, c136]; done))
    have x148 : cf .f32 0 = (gvB (splitOk A_b) (oneB A_b)).lo.y := by first | exact hsf | exact hst | (rw [hsf] <;> rfl) | (rw [hst, gvB_t]; first | rfl | assumption | (simp only [h2, h4, h6, h8, h10, h12, h70, h72, h74, h76, h78, h80, h82, h84, h86, h88, h90, h92, hβ1, c43, c136]; done))
    have x149 : cf .f32 0 = (gvB (splitOk A_b) (oneB A_b)).lo.z := by first | exact hsf | exact hst | (rw [hsf] <;> rfl) | (rw [hst, gvB_t]; first | rfl | assumption | (simp only [h2, h4, h6, h8, h10, h12, h70, h72, h74, h76, h78, h80, h82, h84, h86, h88, h90, h92, hβ1, c43, c136]; done))
    have x150 : cf .f32 0 = (gvB (splitOk A_b) (oneB A_b)).hi.x := by first | exact hsf | exact hst | (rw [hsf] <;> rfl) | (rw [hst, gvB_t]; first | rfl | assumption | (simp only [h2, h4, h6, h8, h10, h12, h70, h72, h74, h76, h78, h80, h82, h84, h86, h88, h90, h92, hβ1, c43, c136]; done))
    have x151 : cf .f32 0 = (gvB (splitOk A_b) (oneB A_b)).hi.y := by first | exact hsf | exact hst | (rw [hsf] <;> rfl) | (rw [hst, gvB_t]; first | rfl | assumption | (simp only [h2, h4, h6, h8, h10, h12, h70, h72, h74, h76, h78, h80, h82, h84, h86, h88, h90, h92, hβ1, c43, c136]; done))
    have x152 : cf .f32 0 = (gvB (splitOk A_b) (oneB A_b)).hi.z := by first | exact hsf | exact hst | (rw [hsf] <;> rfl) | (rw [hst, gvB_t]; first | rfl | assumption | (simp only [h2, h4, h6, h8, h10, h12, h70, h72, h74, h76, h78, h80, h82, h84, h86, h88, h90, h92, hβ1, c43, c136]; done))
    have x153 : cf .f32 0 = (gvB (splitOk A_b) (twoB A_b)).lo.x := by first | exact hsf | exact hst | (rw [hsf] <;> rfl) | (rw [hst, gvB_t]; first | rfl | assumption | (simp only [h2, h4, h6, h8, h10, h12, h70, h72, h74, h76, h78, h80, h82, h84, h86, h88, h90, h92, hβ1, c43, c136]; done))
    have x154 : cf .f32 0 = (gvB (splitOk A_b) (twoB A_b)).lo.y := by first | exact hsf | exact hst | (rw [hsf] <;> rfl) | (rw [hst, gvB_t]; first | rfl | assumption | (simp only [h2, h4, h6, h8, h10, h12, h70, h72, h74, h76, h78, h80, h82, h84, h86, h88, h90, h92, hβ1, c43, c136]; done))
    have x155 : cf .f32 0 = (gvB (splitOk A_b) (twoB A_b)).lo.z := by first | exact hsf | exact hst | (rw [hsf] <;> rfl) | (rw [hst, gvB_t]; first | rfl | assumption | (simp only [h2, h4, h6, h8, h10, h12, h70, h72, h74, h76, h78, h80, h82, h84, h86, h88, h90, h92, hβ1, c43, c136]; done))
    have x156 : cf .f32 0 = (gvB (splitOk A_b) (twoB A_b)).hi.x := by first | exact hsf | exact hst | (rw [hsf] <;> rfl) | (rw [hst, gvB_t]; first | rfl | assumption | (simp only [h2, h4, h6, h8, h10, h12, h70, h72, h74, h76, h78, h80, h82, h84, h86, h88, h90, h92, hβ1, c43, c136]; done))
    have x157 : cf .f32 0 = (gvB (splitOk A_b) (twoB A_b)).hi.y := by first | exact hsf | exact hst | (rw [hsf] <;> rfl) | (rw [hst, gvB_t]; first | rfl | assumption | (simp only [h2, h4, h6, h8, h10, h12, h70, h72, h74, h76, h78, h80, h82, h84, h86, h88, h90, h92, hβ1, c43, c136]; done))
    have x158 : cf .f32 0 = (gvB (splitOk A_b) (twoB A_b)).hi.z := by first | exact hsf | exact hst | (rw [hsf] <;> rfl) | (rw [hst, gvB_t]; first | rfl | assumption | (simp only [h2, h4, h6, h8, h10, h12, h70, h72, h74, h76, h78, h80, h82, h84, h86, h88, h90, h92, hβ1, c43, c136]; done))
    exact ⟨[(Fl 0), (Fl 0), (Fl 0), (Fl 0), (Fl 0), (Fl 0)], [(Fl 0), (Fl 0), (Fl 0), (Fl 0), (Fl 0), (Fl 0)], (by first | with_reducible rfl | rw [x146] | rfl), ⟨0, 0, 0, 0, 0, 0, rfl, x147, x148, x149, x150, x151, x152⟩, ⟨0, 0, 0, 0, 0, 0, rfl, x153, x154, x155, x156, x157, x158⟩⟩
  have c136' := c136
  (try simp only [hβ1] at c136')
  (try simp only [icmp, Bool.and_eq_true, Bool.or_eq_true, Bool.and_eq_false_iff, Bool.or_eq_false_iff, Bool.not_eq_true', Bool.not_eq_false', decide_eq_true_eq, decide_eq_false_iff_not, beq_iff_eq, bne_iff_ne, beq_eq_false_iff_ne, bne_eq_false_iff_eq] at c136')
  have hst := splitOk_t hs0 c136'
  refine wp_skip (hK123 _ _ ?_)
  refine wp_seq_k fun K159 hK159 => ?_
  have n163 : b21 < w131.heap.size := Blk.lt ((((((((hB23.ext E32).ext E40).ext E67).ext E97).ext E107).wr W115 (Nat.ne_of_lt n100)).wr W119 (Nat.ne_of_lt n110)).ext E132)
  refine region_any2 [b21] [0, 0, 1, 7, 15] [0] (
    [FactW.pure [] [] [0] true (fun v => v = (.agg #[(Fl r69), (Fl r71), (Fl r73), (Fl r75), (Fl r77), (Fl r79)])),
      FactW.pure [] [0] [0] true (fun v => v = (.agg #[(Fl r81), (Fl r83), (Fl r85), (Fl r87), (Fl r89), (Fl r91)])),
      FactW.mem [0] [] [0] [] true (fun v w' => v = undef ∧ Blk w' b21 [(Fl r69), (Fl r71), (Fl r73), (Fl r75), (Fl r77), (Fl r79)]) (by rintro v w1 w2 hx ⟨rfl, h⟩; exact ⟨rfl, h.ext (KpL.toExt hx)⟩)]) mixed (by kernel_rfl) ?_
  obtain ⟨w160, hw162⟩ : ∃ w', w' = World.drew w131 := ⟨_, rfl⟩; rw [← hw162]; have E161 : Ext w131 w160 := by rw [hw162]; exact Ext.draw _
  clear hw162
  have X164 := Ext.gr X135 E161
  refine RW2_d _ rfl (fun v => by dsimp only [List.set]; try rfl) (fun u hu hF => ?_) (fun v165 => ?_)
  · replace hu : KpL [] _ _ := hu
    clear hF
    refine doesG_un rfl ?_
    refine (does_loadAgg (cs := [(Fl r69), (Fl r71), (Fl r73), (Fl r75), (Fl r77), (Fl r79)]) (ev rfl) Try.isAgg29 Try.sizeOf29 (Blk.cells ((((hB116.wr W119 (Nat.ne_of_lt n112)).ext E132).ext E161).ext (KpL.toExt hu))) rfl).mono ?_; rintro _ _ ⟨rfl, rfl⟩
    exact ⟨rfl, KpL.refl _ _⟩
  refine RW2_d _ rfl (fun v => by dsimp only [List.set]; try rfl) (fun u hu hF => ?_) (fun v166 => ?_)
  · replace hu : KpL [b21] _ _ := hu
    clear hF
    refine doesG_un rfl ?_
    refine (does_loadAgg (cs := [(Fl r81), (Fl r83), (Fl r85), (Fl r87), (Fl r89), (Fl r91)]) (ev rfl) Try.isAgg29 Try.sizeOf29 (Blk.cells (((hB120.ext E132).ext E161).kl hu (ninS (Nat.ne_of_gt n110) nin0))) rfl).mono ?_; rintro _ _ ⟨rfl, rfl⟩
    exact ⟨rfl, KpL.refl _ _⟩
  refine RW2_n rfl (fun u hu hF => ?_) (fun v167 => ?_)
  · replace hu : KpL [] _ _ := hu
    have h24_ : v165 = (.agg #[(Fl r69), (Fl r71), (Fl r73), (Fl r75), (Fl r77), (Fl r79)]) := hF.1
    clear hF
    refine doesG_un rfl ?_
    obtain rfl := h24_
    refine (does_store (n := 6) (cs := [(Fl 0), (Fl 0), (Fl 0), (Fl 0), (Fl 0), (Fl 0)]) (u := (.agg #[(Fl r69), (Fl r71), (Fl r73), (Fl r75), (Fl r77), (Fl r79)])) (ev rfl) (ev rfl) Try.sizeOf29 rfl ((((((((((hB23.ext E32).ext E40).ext E67).ext E97).ext E107).wr W115 (Nat.ne_of_lt n100)).wr W119 (Nat.ne_of_lt n110)).ext E132).ext E161).ext (KpL.toExt hu)) (Nat.le_of_ble_eq_true rfl) rfl).mono ?_; rintro _ _ ⟨rfl, hW, hB⟩
    exact ⟨⟨rfl, hB⟩, KpL.of_wr hW⟩
  refine RW2_fin ?_; intro w168 E169 hP170; replace E169 : KpL [b21] _ _ := E169
  obtain ⟨⟨⟨-, -⟩, q171⟩, q172⟩ := hP170
  have X173 := Below.kl X164 E169 (allS g27 all0) (Nat.le_refl _)
  obtain ⟨_, hB174⟩ := q172 rfl
  change Blk _ _ [(Fl r69), (Fl r71), (Fl r73), (Fl r75), (Fl r77), (Fl r79)] at hB174
  have q171 : v166 = (.agg #[(Fl r81), (Fl r83), (Fl r85), (Fl r87), (Fl r89), (Fl r91)]) := q171 rfl
  obtain rfl := q171
  show wpList _ _ _ _ (fr [_, _, _, _, _, _, _, _, _, _, _, _, _, _, _, _, _, _, _, _, _, _, _, _, _, _]) _
  refine seqn rfl rfl (does_store (n := 6) (cs := [(Fl 0), (Fl 0), (Fl 0), (Fl 0), (Fl 0), (Fl 0)]) (u := (.agg #[(Fl r81), (Fl r83), (Fl r85), (Fl r87), (Fl r89), (Fl r91)])) (ev rfl) (ev rfl) Try.sizeOf29 rfl (((((((((hB31.ext E40).ext E67).ext E97).ext E107).wr W115 (Nat.ne_of_lt n101)).wr W119 (Nat.ne_of_lt n111)).ext E132).ext E161).kl E169 (ninS (Nat.ne_of_gt n35) nin0)) (Nat.le_of_ble_eq_true rfl) rfl) ?_; rintro _ w177 ⟨rfl, W175, hB176⟩
  change Blk _ _ [(Fl r81), (Fl r83), (Fl r85), (Fl r87), (Fl r89), (Fl r91)] at hB176
  have X178 := Below.wr X173 W175 g36
  refine q_is rfl rfl (does_assign (u := (Bo true)) (ev rfl)) (by dsimp only [List.set]; try rfl) ?_
  refine wpList_nil (hK159 _ _ ?_)
  refine wp_ret ?_
  refine ret_val (v := (.tuple #[(.agg #[(Fl r69), (Fl r71), (Fl r73), (Fl r75), (Fl r77), (Fl r79)]), (.agg #[(Fl r81), (Fl r83), (Fl r85), (Fl r87), (Fl r89), (Fl r91)]), (Bo true)])) (res_CCT rfl (slot rfl) (run_loadAgg (cs := [(Fl r69), (Fl r71), (Fl r73), (Fl r75), (Fl r77), (Fl r79)]) Try.isAgg29 Try.sizeOf29 (Blk.cells (hB174.wr W175 (Nat.ne_of_lt n35))) rfl) (slot rfl) (run_loadAgg (cs := [(Fl r81), (Fl r83), (Fl r85), (Fl r87), (Fl r89), (Fl r91)]) Try.isAgg29 Try.sizeOf29 (Blk.cells hB176) rfl) (slot rfl)) X178 ?_
  try simp only [h2, h4, h6, h8, h10, h12, h70, h72, h74, h76, h78, h80, h82, h84, h86, h88, h90, h92, hβ1] at c43 c136
  have x179 : (splitOk A_b) = true := by first | exact hsf | exact hst | (rw [hsf] <;> rfl) | (rw [hst, gvB_t]; first | rfl | assumption | (simp only [h2, h4, h6, h8, h10, h12, h70, h72, h74, h76, h78, h80, h82, h84, h86, h88, h90, h92, hβ1, c43, c136]; done))
  have x180 : cf .f32 r69 = (gvB (splitOk A_b) (oneB A_b)).lo.x := by first | exact hsf | exact hst | (rw [hsf] <;> rfl) | (rw [hst, gvB_t]; first | rfl | assumption | (simp only [h2, h4, h6, h8, h10, h12, h70, h72, h74, h76, h78, h80, h82, h84, h86, h88, h90, h92, hβ1, c43, c136]; done))
  have x181 : cf .f32 r71 = (gvB (splitOk A_b) (oneB A_b)).lo.y := by first | exact hsf | exact hst | (rw [hsf] <;> rfl) | (rw [hst, gvB_t]; first | rfl | assumption | (simp only [h2, h4, h6, h8, h10, h12, h70, h72, h74, h76, h78, h80, h82, h84, h86, h88, h90, h92, hβ1, c43, c136]; done))
  have x182 : cf .f32 r73 = (gvB (splitOk A_b) (oneB A_b)).lo.z := by first | exact hsf | exact hst | (rw [hsf] <;> rfl) | (rw [hst, gvB_t]; first | rfl | assumption | (simp only [h2, h4, h6, h8, h10, h12, h70, h72, h74, h76, h78, h80, h82, h84, h86, h88, h90, h92, hβ1, c43, c136]; done))
  have x183 : cf .f32 r75 = (gvB (splitOk A_b) (oneB A_b)).hi.x := by first | exact hsf | exact hst | (rw [hsf] <;> rfl) | (rw [hst, gvB_t]; first | rfl | assumption | (simp only [h2, h4, h6, h8, h10, h12, h70, h72, h74, h76, h78, h80, h82, h84, h86, h88, h90, h92, hβ1, c43, c136]; done))
  have x184 : cf .f32 r77 = (gvB (splitOk A_b) (oneB A_b)).hi.y := by first | exact hsf | exact hst | (rw [hsf] <;> rfl) | (rw [hst, gvB_t]; first | rfl | assumption | (simp only [h2, h4, h6, h8, h10, h12, h70, h72, h74, h76, h78, h80, h82, h84, h86, h88, h90, h92, hβ1, c43, c136]; done))
  have x185 : cf .f32 r79 = (gvB (splitOk A_b) (oneB A_b)).hi.z := by first | exact hsf | exact hst | (rw [hsf] <;> rfl) | (rw [hst, gvB_t]; first | rfl | assumption | (simp only [h2, h4, h6, h8, h10, h12, h70, h72, h74, h76, h78, h80, h82, h84, h86, h88, h90, h92, hβ1, c43, c136]; done))
  have x186 : cf .f32 r81 = (gvB (splitOk A_b) (twoB A_b)).lo.x := by first | exact hsf | exact hst | (rw [hsf] <;> rfl) | (rw [hst, gvB_t]; first | rfl | assumption | (simp only [h2, h4, h6, h8, h10, h12, h70, h72, h74, h76, h78, h80, h82, h84, h86, h88, h90, h92, hβ1, c43, c136]; done))
  have x187 : cf .f32 r83 = (gvB (splitOk A_b) (twoB A_b)).lo.y := by first | exact hsf | exact hst | (rw [hsf] <;> rfl) | (rw [hst, gvB_t]; first | rfl | assumption | (simp only [h2, h4, h6, h8, h10, h12, h70, h72, h74, h76, h78, h80, h82, h84, h86, h88, h90, h92, hβ1, c43, c136]; done))
  have x188 : cf .f32 r85 = (gvB (splitOk A_b) (twoB A_b)).lo.z := by first | exact hsf | exact hst | (rw [hsf] <;> rfl) | (rw [hst, gvB_t]; first | rfl | assumption | (simp only [h2, h4, h6, h8, h10, h12, h70, h72, h74, h76, h78, h80, h82, h84, h86, h88, h90, h92, hβ1, c43, c136]; done))
  have x189 : cf .f32 r87 = (gvB (splitOk A_b) (twoB A_b)).hi.x := by first | exact hsf | exact hst | (rw [hsf] <;> rfl) | (rw [hst, gvB_t]; first | rfl | assumption | (simp only [h2, h4, h6, h8, h10, h12, h70, h72, h74, h76, h78, h80, h82, h84, h86, h88, h90, h92, hβ1, c43, c136]; done))
  have x190 : cf .f32 r89 = (gvB (splitOk A_b) (twoB A_b)).hi.y := by first | exact hsf | exact hst | (rw [hsf] <;> rfl) | (rw [hst, gvB_t]; first | rfl | assumption | (simp only [h2, h4, h6, h8, h10, h12, h70, h72, h74, h76, h78, h80, h82, h84, h86, h88, h90, h92, hβ1, c43, c136]; done))
  have x191 : cf .f32 r91 = (gvB (splitOk A_b) (twoB A_b)).hi.z := by first | exact hsf | exact hst | (rw [hsf] <;> rfl) | (rw [hst, gvB_t]; first | rfl | assumption | (simp only [h2, h4, h6, h8, h10, h12, h70, h72, h74, h76, h78, h80, h82, h84, h86, h88, h90, h92, hβ1, c43, c136]; done))
  exact ⟨[(Fl r69), (Fl r71), (Fl r73), (Fl r75), (Fl r77), (Fl r79)], [(Fl r81), (Fl r83), (Fl r85), (Fl r87), (Fl r89), (Fl r91)], (by first | with_reducible rfl | rw [x179] | rfl), ⟨r69, r71, r73, r75, r77, r79, rfl, x180, x181, x182, x183, x184, x185⟩, ⟨r81, r83, r85, r87, r89, r91, rfl, x186, x187, x188, x189, x190, x191⟩⟩

/- laws.toVector -/
theorem c_laws_toVector (a : List Value) (A_a : V3) (w : World) (hv_a : RV3 w A_a a) : Gives Try.prog 10 #[(.agg a.toArray)] w (fun v w' => ∃ cs_1 : List Value, v = (.agg cs_1.toArray) ∧ RV3 w A_a cs_1) := by
  obtain ⟨r1, r3, r5, rfl, h2, h4, h6⟩ := hv_a
  refine enter [(.agg #[(Fl r1), (Fl r3), (Fl r5)]), Ud, Ud, Ud, Ud, Ud, Ud, Ud, Ud, Ud, Ud, Ud, Ud, Ud] Try.func10 rfl Try.ntmps10 rfl ?_
  refine wp_seq_k fun K7 hK7 => ?_
  refine wp_region_lit ?_
  refine seqd rfl rfl (does_box (u := (.agg #[(Fl r1), (Fl r3), (Fl r5)])) (ev rfl)) ?_; rintro _ w12 ⟨b8, rfl, hb9, hB10, E11⟩
  have g13 : w.heap.size ≤ b8 := Nat.le_trans (Below.size (Ext.refl w)) hb9
  change Blk _ _ [(Fl r1), (Fl r3), (Fl r5)] at hB10
  have X14 := Ext.gr (Ext.refl w) E11
  show wpList _ _ _ _ (fr [(.agg #[(Fl r1), (Fl r3), (Fl r5)]), (Pt b8 0), Ud, Ud, Ud, Ud, Ud, Ud, Ud, Ud, Ud, Ud, Ud, Ud]) _
  refine seqd rfl rfl (does_alloc z27) ?_; rintro _ w19 ⟨b15, rfl, hb16, hB17, E18⟩
  have n20 : b8 < b15 := Nat.lt_of_lt_of_le (Blk.lt hB10) hb16
  have g21 : w.heap.size ≤ b15 := Nat.le_trans (Below.size X14) hb16
  change Blk _ _ [(Fl 0), (Fl 0), (Fl 0)] at hB17
  have X22 := Ext.gr X14 E18
  show wpList _ _ _ _ (fr [(.agg #[(Fl r1), (Fl r3), (Fl r5)]), (Pt b8 0), (Pt b15 0), Ud, Ud, Ud, Ud, Ud, Ud, Ud, Ud, Ud, Ud, Ud]) _
  refine wpList_nil (hK7 _ _ ?_)
  refine wp_seq_k fun K23 hK23 => ?_
  refine wp_region_lit ?_
  refine seqd rfl rfl (does_alloc z27) ?_; rintro _ w28 ⟨b24, rfl, hb25, hB26, E27⟩
  have n29 : b8 < b24 := Nat.lt_of_lt_of_le (Blk.lt (hB10.ext E18)) hb25
  have n30 : b15 < b24 := Nat.lt_of_lt_of_le (Blk.lt hB17) hb25
  have g31 : w.heap.size ≤ b24 := Nat.le_trans (Below.size X22) hb25
  change Blk _ _ [(Fl 0), (Fl 0), (Fl 0)] at hB26
  have X32 := Ext.gr X22 E27
  show wpList _ _ _ _ (fr [(.agg #[(Fl r1), (Fl r3), (Fl r5)]), (Pt b8 0), (Pt b15 0), (Pt b24 0), Ud, Ud, Ud, Ud, Ud, Ud, Ud, Ud, Ud, Ud]) _
  refine wpList_nil (hK23 _ _ ?_)
  refine wp_seq_k fun K33 hK33 => ?_
  refine wp_region_lit ?_
  refine q_is (l' := [(.agg #[(Fl r1), (Fl r3), (Fl r5)]), (Pt b8 0), (Pt b15 0), (Pt b24 0), (Pt b8 0), Ud, Ud, Ud, Ud, Ud, Ud, Ud, Ud, Ud]) rfl rfl (does_fieldAddr (ev rfl) fa24_0) rfl ?_
  refine q_is (l' := [(.agg #[(Fl r1), (Fl r3), (Fl r5)]), (Pt b8 0), (Pt b15 0), (Pt b24 0), (Pt b8 0), (Fl r1), Ud, Ud, Ud, Ud, Ud, Ud, Ud, Ud]) rfl rfl (does_load (u := (Fl r1)) (ev rfl) Try.isAgg22 (Cells.at (Blk.cells ((hB10.ext E18).ext E27)) 0 rfl)) rfl ?_
  refine q_is (l' := [(.agg #[(Fl r1), (Fl r3), (Fl r5)]), (Pt b8 0), (Pt b15 0), (Pt b24 0), (Pt b8 0), (Fl r1), (Pt b24 0), Ud, Ud, Ud, Ud, Ud, Ud, Ud]) rfl rfl (does_fieldAddr (ev rfl) fa27_0) rfl ?_
  refine seqn rfl rfl (does_store (n := 1) (cs := [(Fl 0), (Fl 0), (Fl 0)]) (u := (Fl r1)) (ev rfl) (ev rfl) Try.sizeOf22 rfl hB26 (Nat.le_of_ble_eq_true rfl) rfl) ?_; rintro _ w36 ⟨rfl, W34, hB35⟩
  change Blk _ _ [(Fl r1), (Fl 0), (Fl 0)] at hB35
  have X37 := Below.wr X32 W34 g31
  refine wpList_nil (hK33 _ _ ?_)
  refine wp_seq_k fun K38 hK38 => ?_
  refine wp_region_lit ?_
  refine q_is (l' := [(.agg #[(Fl r1), (Fl r3), (Fl r5)]), (Pt b8 0), (Pt b15 0), (Pt b24 0), (Pt b8 0), (Fl r1), (Pt b24 0), (Pt b8 1), Ud, Ud, Ud, Ud, Ud, Ud]) rfl rfl (does_fieldAddr (ev rfl) fa24_1) rfl ?_
  refine q_is (l' := [(.agg #[(Fl r1), (Fl r3), (Fl r5)]), (Pt b8 0), (Pt b15 0), (Pt b24 0), (Pt b8 0), (Fl r1), (Pt b24 0), (Pt b8 1), (Fl r3), Ud, Ud, Ud, Ud, Ud]) rfl rfl (does_load (u := (Fl r3)) (ev rfl) Try.isAgg22 (Cells.at (Blk.cells (((hB10.ext E18).ext E27).wr W34 (Nat.ne_of_lt n29))) 1 rfl)) rfl ?_
  refine q_is (l' := [(.agg #[(Fl r1), (Fl r3), (Fl r5)]), (Pt b8 0), (Pt b15 0), (Pt b24 0), (Pt b8 0), (Fl r1), (Pt b24 0), (Pt b8 1), (Fl r3), (Pt b24 1), Ud, Ud, Ud, Ud]) rfl rfl (does_fieldAddr (ev rfl) fa27_1) rfl ?_
  refine seqn rfl rfl (does_store (n := 1) (cs := [(Fl r1), (Fl 0), (Fl 0)]) (u := (Fl r3)) (ev rfl) (ev rfl) Try.sizeOf22 rfl hB35 (Nat.le_of_ble_eq_true rfl) rfl) ?_; rintro _ w41 ⟨rfl, W39, hB40⟩
  change Blk _ _ [(Fl r1), (Fl r3), (Fl 0)] at hB40
  have X42 := Below.wr X37 W39 g31
  refine wpList_nil (hK38 _ _ ?_)
  refine wp_seq_k fun K43 hK43 => ?_
  refine wp_region_lit ?_
  refine q_is (l' := [(.agg #[(Fl r1), (Fl r3), (Fl r5)]), (Pt b8 0), (Pt b15 0), (Pt b24 0), (Pt b8 0), (Fl r1), (Pt b24 0), (Pt b8 1), (Fl r3), (Pt b24 1), (Pt b8 2), Ud, Ud, Ud]) rfl rfl (does_fieldAddr (ev rfl) fa24_2) rfl ?_
  refine q_is (l' := [(.agg #[(Fl r1), (Fl r3), (Fl r5)]), (Pt b8 0), (Pt b15 0), (Pt b24 0), (Pt b8 0), (Fl r1), (Pt b24 0), (Pt b8 1), (Fl r3), (Pt b24 1), (Pt b8 2), (Fl r5), Ud, Ud]) rfl rfl (does_load (u := (Fl r5)) (ev rfl) Try.isAgg22 (Cells.at (Blk.cells ((((hB10.ext E18).ext E27).wr W34 (Nat.ne_of_lt n29)).wr W39 (Nat.ne_of_lt n29))) 2 rfl)) rfl ?_
  refine q_is (l' := [(.agg #[(Fl r1), (Fl r3), (Fl r5)]), (Pt b8 0), (Pt b15 0), (Pt b24 0), (Pt b8 0), (Fl r1), (Pt b24 0), (Pt b8 1), (Fl r3), (Pt b24 1), (Pt b8 2), (Fl r5), (Pt b24 2), Ud]) rfl rfl (does_fieldAddr (ev rfl) fa27_2) rfl ?_
  refine seqn rfl rfl (does_store (n := 1) (cs := [(Fl r1), (Fl r3), (Fl 0)]) (u := (Fl r5)) (ev rfl) (ev rfl) Try.sizeOf22 rfl hB40 (Nat.le_of_ble_eq_true rfl) rfl) ?_; rintro _ w46 ⟨rfl, W44, hB45⟩
  change Blk _ _ [(Fl r1), (Fl r3), (Fl r5)] at hB45
  have X47 := Below.wr X42 W44 g31
  refine wpList_nil (hK43 _ _ ?_)
  refine wp_seq_k fun K48 hK48 => ?_
  refine wp_region_lit ?_
  refine q_is (l' := [(.agg #[(Fl r1), (Fl r3), (Fl r5)]), (Pt b8 0), (Pt b15 0), (Pt b24 0), (Pt b8 0), (Fl r1), (Pt b24 0), (Pt b8 1), (Fl r3), (Pt b24 1), (Pt b8 2), (Fl r5), (Pt b24 2), (.agg #[(Fl r1), (Fl r3), (Fl r5)])]) rfl rfl (does_loadAgg (cs := [(Fl r1), (Fl r3), (Fl r5)]) (ev rfl) Try.isAgg27 Try.sizeOf27 (Blk.cells hB45) rfl) rfl ?_
  refine seqn rfl rfl (does_store (n := 3) (cs := [(Fl 0), (Fl 0), (Fl 0)]) (u := (.agg #[(Fl r1), (Fl r3), (Fl r5)])) (ev rfl) (ev rfl) Try.sizeOf27 rfl ((((hB17.ext E27).wr W34 (Nat.ne_of_lt n30)).wr W39 (Nat.ne_of_lt n30)).wr W44 (Nat.ne_of_lt n30)) (Nat.le_of_ble_eq_true rfl) rfl) ?_; rintro _ w51 ⟨rfl, W49, hB50⟩
  change Blk _ _ [(Fl r1), (Fl r3), (Fl r5)] at hB50
  have X52 := Below.wr X47 W49 g21
  refine wpList_nil (hK48 _ _ ?_)
  refine wp_ret ?_
  refine ret_val (v := (.agg #[(Fl r1), (Fl r3), (Fl r5)])) (res_C rfl (slot rfl) (run_loadAgg (cs := [(Fl r1), (Fl r3), (Fl r5)]) Try.isAgg27 Try.sizeOf27 (Blk.cells hB50) rfl)) X52 ?_
  exact ⟨[(Fl r1), (Fl r3), (Fl r5)], rfl, ⟨r1, r3, r5, rfl, h2, h4, h6⟩⟩

/- laws.toBox -/
theorem c_laws_toBox (b : List Value) (A_b : Bx) (w : World) (hv_b : RBx w A_b b) : Gives Try.prog 5 #[(.agg b.toArray)] w (fun v w' => ∃ cs_1 : List Value, v = (.agg cs_1.toArray) ∧ RBx w A_b cs_1) := by
  obtain ⟨r1, r3, r5, r7, r9, r11, rfl, h2, h4, h6, h8, h10, h12⟩ := hv_b
  refine enter [(.agg #[(Fl r1), (Fl r3), (Fl r5), (Fl r7), (Fl r9), (Fl r11)]), Ud, Ud, Ud, Ud, Ud, Ud, Ud, Ud, Ud, Ud, Ud, Ud] Try.func5 rfl Try.ntmps5 rfl ?_
  refine wp_seq_k fun K13 hK13 => ?_
  refine wp_region_lit ?_
  refine seqd rfl rfl (does_box (u := (.agg #[(Fl r1), (Fl r3), (Fl r5), (Fl r7), (Fl r9), (Fl r11)])) (ev rfl)) ?_; rintro _ w18 ⟨b14, rfl, hb15, hB16, E17⟩
  have g19 : w.heap.size ≤ b14 := Nat.le_trans (Below.size (Ext.refl w)) hb15
  change Blk _ _ [(Fl r1), (Fl r3), (Fl r5), (Fl r7), (Fl r9), (Fl r11)] at hB16
  have X20 := Ext.gr (Ext.refl w) E17
  show wpList _ _ _ _ (fr [(.agg #[(Fl r1), (Fl r3), (Fl r5), (Fl r7), (Fl r9), (Fl r11)]), (Pt b14 0), Ud, Ud, Ud, Ud, Ud, Ud, Ud, Ud, Ud, Ud, Ud]) _
  refine seqd rfl rfl (does_alloc z29) ?_; rintro _ w25 ⟨b21, rfl, hb22, hB23, E24⟩
  have n26 : b14 < b21 := Nat.lt_of_lt_of_le (Blk.lt hB16) hb22
  have g27 : w.heap.size ≤ b21 := Nat.le_trans (Below.size X20) hb22
  change Blk _ _ [(Fl 0), (Fl 0), (Fl 0), (Fl 0), (Fl 0), (Fl 0)] at hB23
  have X28 := Ext.gr X20 E24
  show wpList _ _ _ _ (fr [(.agg #[(Fl r1), (Fl r3), (Fl r5), (Fl r7), (Fl r9), (Fl r11)]), (Pt b14 0), (Pt b21 0), Ud, Ud, Ud, Ud, Ud, Ud, Ud, Ud, Ud, Ud]) _
  refine wpList_nil (hK13 _ _ ?_)
  refine wp_seq_k fun K29 hK29 => ?_
  refine wp_region_lit ?_
  refine seqd rfl rfl (does_alloc z29) ?_; rintro _ w34 ⟨b30, rfl, hb31, hB32, E33⟩
  have n35 : b14 < b30 := Nat.lt_of_lt_of_le (Blk.lt (hB16.ext E24)) hb31
  have n36 : b21 < b30 := Nat.lt_of_lt_of_le (Blk.lt hB23) hb31
  have g37 : w.heap.size ≤ b30 := Nat.le_trans (Below.size X28) hb31
  change Blk _ _ [(Fl 0), (Fl 0), (Fl 0), (Fl 0), (Fl 0), (Fl 0)] at hB32
  have X38 := Ext.gr X28 E33
  show wpList _ _ _ _ (fr [(.agg #[(Fl r1), (Fl r3), (Fl r5), (Fl r7), (Fl r9), (Fl r11)]), (Pt b14 0), (Pt b21 0), (Pt b30 0), Ud, Ud, Ud, Ud, Ud, Ud, Ud, Ud, Ud]) _
  refine wpList_nil (hK29 _ _ ?_)
  refine wp_seq_k fun K39 hK39 => ?_
  refine wp_region_lit ?_
  refine q_is (l' := [(.agg #[(Fl r1), (Fl r3), (Fl r5), (Fl r7), (Fl r9), (Fl r11)]), (Pt b14 0), (Pt b21 0), (Pt b30 0), (Pt b14 0), Ud, Ud, Ud, Ud, Ud, Ud, Ud, Ud]) rfl rfl (does_fieldAddr (ev rfl) fa26_0) rfl ?_
  refine q_is (l' := [(.agg #[(Fl r1), (Fl r3), (Fl r5), (Fl r7), (Fl r9), (Fl r11)]), (Pt b14 0), (Pt b21 0), (Pt b30 0), (Pt b14 0), (.agg #[(Fl r1), (Fl r3), (Fl r5)]), Ud, Ud, Ud, Ud, Ud, Ud, Ud]) rfl rfl (does_loadAgg (cs := [(Fl r1), (Fl r3), (Fl r5)]) (ev rfl) Try.isAgg24 Try.sizeOf24 (Cells.sub (Blk.cells ((hB16.ext E24).ext E33)) 0 3) rfl) rfl ?_
  refine seqd rfl rfl (does_call (args := #[(.agg #[(Fl r1), (Fl r3), (Fl r5)])]) cal10 (evs rfl) (c_laws_toVector [(Fl r1), (Fl r3), (Fl r5)] A_b.lo _ ⟨r1, r3, r5, rfl, h2, h4, h6⟩)) ?_; rintro _ w41 ⟨E40, ⟨_, rfl, ⟨r42, r44, r46, rfl, h43, h45, h47⟩⟩⟩
  have X48 := Ext.gr X38 E40
  show wpList _ _ _ _ (fr [(.agg #[(Fl r1), (Fl r3), (Fl r5), (Fl r7), (Fl r9), (Fl r11)]), (Pt b14 0), (Pt b21 0), (Pt b30 0), (Pt b14 0), (.agg #[(Fl r1), (Fl r3), (Fl r5)]), (.agg #[(Fl r42), (Fl r44), (Fl r46)]), Ud, Ud, Ud, Ud, Ud, Ud]) _
  refine q_is (l' := [(.agg #[(Fl r1), (Fl r3), (Fl r5), (Fl r7), (Fl r9), (Fl r11)]), (Pt b14 0), (Pt b21 0), (Pt b30 0), (Pt b14 0), (.agg #[(Fl r1), (Fl r3), (Fl r5)]), (.agg #[(Fl r42), (Fl r44), (Fl r46)]), (Pt b30 0), Ud, Ud, Ud, Ud, Ud]) rfl rfl (does_fieldAddr (ev rfl) fa29_0) rfl ?_
  refine seqn rfl rfl (does_store (n := 3) (cs := [(Fl 0), (Fl 0), (Fl 0), (Fl 0), (Fl 0), (Fl 0)]) (u := (.agg #[(Fl r42), (Fl r44), (Fl r46)])) (ev rfl) (ev rfl) Try.sizeOf27 rfl (hB32.ext E40) (Nat.le_of_ble_eq_true rfl) rfl) ?_; rintro _ w51 ⟨rfl, W49, hB50⟩
  change Blk _ _ [(Fl r42), (Fl r44), (Fl r46), (Fl 0), (Fl 0), (Fl 0)] at hB50
  have X52 := Below.wr X48 W49 g37
  refine wpList_nil (hK39 _ _ ?_)
  refine wp_seq_k fun K53 hK53 => ?_
  refine wp_region_lit ?_
  refine q_is (l' := [(.agg #[(Fl r1), (Fl r3), (Fl r5), (Fl r7), (Fl r9), (Fl r11)]), (Pt b14 0), (Pt b21 0), (Pt b30 0), (Pt b14 0), (.agg #[(Fl r1), (Fl r3), (Fl r5)]), (.agg #[(Fl r42), (Fl r44), (Fl r46)]), (Pt b30 0), (Pt b14 3), Ud, Ud, Ud, Ud]) rfl rfl (does_fieldAddr (ev rfl) fa26_1) rfl ?_
  refine q_is (l' := [(.agg #[(Fl r1), (Fl r3), (Fl r5), (Fl r7), (Fl r9), (Fl r11)]), (Pt b14 0), (Pt b21 0), (Pt b30 0), (Pt b14 0), (.agg #[(Fl r1), (Fl r3), (Fl r5)]), (.agg #[(Fl r42), (Fl r44), (Fl r46)]), (Pt b30 0), (Pt b14 3), (.agg #[(Fl r7), (Fl r9), (Fl r11)]), Ud, Ud, Ud]) rfl rfl (does_loadAgg (cs := [(Fl r7), (Fl r9), (Fl r11)]) (ev rfl) Try.isAgg24 Try.sizeOf24 (Cells.sub (Blk.cells ((((hB16.ext E24).ext E33).ext E40).wr W49 (Nat.ne_of_lt n35))) 3 3) rfl) rfl ?_
  refine seqd rfl rfl (does_call (args := #[(.agg #[(Fl r7), (Fl r9), (Fl r11)])]) cal10 (evs rfl) (c_laws_toVector [(Fl r7), (Fl r9), (Fl r11)] A_b.hi _ ⟨r7, r9, r11, rfl, h8, h10, h12⟩)) ?_; rintro _ w55 ⟨E54, ⟨_, rfl, ⟨r56, r58, r60, rfl, h57, h59, h61⟩⟩⟩
  have X62 := Ext.gr X52 E54
  show wpList _ _ _ _ (fr [(.agg #[(Fl r1), (Fl r3), (Fl r5), (Fl r7), (Fl r9), (Fl r11)]), (Pt b14 0), (Pt b21 0), (Pt b30 0), (Pt b14 0), (.agg #[(Fl r1), (Fl r3), (Fl r5)]), (.agg #[(Fl r42), (Fl r44), (Fl r46)]), (Pt b30 0), (Pt b14 3), (.agg #[(Fl r7), (Fl r9), (Fl r11)]), (.agg #[(Fl r56), (Fl r58), (Fl r60)]), Ud, Ud]) _
  refine q_is (l' := [(.agg #[(Fl r1), (Fl r3), (Fl r5), (Fl r7), (Fl r9), (Fl r11)]), (Pt b14 0), (Pt b21 0), (Pt b30 0), (Pt b14 0), (.agg #[(Fl r1), (Fl r3), (Fl r5)]), (.agg #[(Fl r42), (Fl r44), (Fl r46)]), (Pt b30 0), (Pt b14 3), (.agg #[(Fl r7), (Fl r9), (Fl r11)]), (.agg #[(Fl r56), (Fl r58), (Fl r60)]), (Pt b30 3), Ud]) rfl rfl (does_fieldAddr (ev rfl) fa29_1) rfl ?_
  refine seqn rfl rfl (does_store (n := 3) (cs := [(Fl r42), (Fl r44), (Fl r46), (Fl 0), (Fl 0), (Fl 0)]) (u := (.agg #[(Fl r56), (Fl r58), (Fl r60)])) (ev rfl) (ev rfl) Try.sizeOf27 rfl (hB50.ext E54) (Nat.le_of_ble_eq_true rfl) rfl) ?_; rintro _ w65 ⟨rfl, W63, hB64⟩
  change Blk _ _ [(Fl r42), (Fl r44), (Fl r46), (Fl r56), (Fl r58), (Fl r60)] at hB64
  have X66 := Below.wr X62 W63 g37
  refine wpList_nil (hK53 _ _ ?_)
  refine wp_seq_k fun K67 hK67 => ?_
  refine wp_region_lit ?_
  refine q_is (l' := [(.agg #[(Fl r1), (Fl r3), (Fl r5), (Fl r7), (Fl r9), (Fl r11)]), (Pt b14 0), (Pt b21 0), (Pt b30 0), (Pt b14 0), (.agg #[(Fl r1), (Fl r3), (Fl r5)]), (.agg #[(Fl r42), (Fl r44), (Fl r46)]), (Pt b30 0), (Pt b14 3), (.agg #[(Fl r7), (Fl r9), (Fl r11)]), (.agg #[(Fl r56), (Fl r58), (Fl r60)]), (Pt b30 3), (.agg #[(Fl r42), (Fl r44), (Fl r46), (Fl r56), (Fl r58), (Fl r60)])]) rfl rfl (does_loadAgg (cs := [(Fl r42), (Fl r44), (Fl r46), (Fl r56), (Fl r58), (Fl r60)]) (ev rfl) Try.isAgg29 Try.sizeOf29 (Blk.cells hB64) rfl) rfl ?_
  refine seqn rfl rfl (does_store (n := 6) (cs := [(Fl 0), (Fl 0), (Fl 0), (Fl 0), (Fl 0), (Fl 0)]) (u := (.agg #[(Fl r42), (Fl r44), (Fl r46), (Fl r56), (Fl r58), (Fl r60)])) (ev rfl) (ev rfl) Try.sizeOf29 rfl (((((hB23.ext E33).ext E40).wr W49 (Nat.ne_of_lt n36)).ext E54).wr W63 (Nat.ne_of_lt n36)) (Nat.le_of_ble_eq_true rfl) rfl) ?_; rintro _ w70 ⟨rfl, W68, hB69⟩
  change Blk _ _ [(Fl r42), (Fl r44), (Fl r46), (Fl r56), (Fl r58), (Fl r60)] at hB69
  have X71 := Below.wr X66 W68 g27
  refine wpList_nil (hK67 _ _ ?_)
  refine wp_ret ?_
  refine ret_val (v := (.agg #[(Fl r42), (Fl r44), (Fl r46), (Fl r56), (Fl r58), (Fl r60)])) (res_C rfl (slot rfl) (run_loadAgg (cs := [(Fl r42), (Fl r44), (Fl r46), (Fl r56), (Fl r58), (Fl r60)]) Try.isAgg29 Try.sizeOf29 (Blk.cells hB69) rfl)) X71 ?_
  exact ⟨[(Fl r42), (Fl r44), (Fl r46), (Fl r56), (Fl r58), (Fl r60)], rfl, ⟨r42, r44, r46, r56, r58, r60, rfl, h43, h45, h47, h57, h59, h61⟩⟩

end Go.Proofs.Ythffielpjjggeaa
