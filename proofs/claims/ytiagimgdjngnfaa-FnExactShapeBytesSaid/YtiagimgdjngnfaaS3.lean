/- contracts of functions, each walked once -/
import Derived.Test.YtiagimgdjngnfaaS2
namespace Go.Proofs.Ytiagimgdjngnfaa
open Go Go.RowKit
set_option maxRecDepth 100000
set_option maxHeartbeats 3200000
set_option linter.unusedVariables false
set_option linter.unusedSimpArgs false

/- impl.ValidShape -/
theorem c_impl_ValidShape (s_ : List Value) (A_s_ : ShapeT) (w : World) (hv_s_ : RShapeT w A_s_ s_) : Gives Try.prog 26 #[(.agg s_.toArray)] w (fun v w' => v = (Bo (isShape A_s_))) := by
  obtain ⟨y1, rfl, h2⟩ := hv_s_
  have hs5 := h2; have hs5l := Sl.len h2; obtain ⟨p3, q4, rfl⟩ := Sl.shape h2
  refine enter [(.agg #[(.slice p3 A_s_.nodes.length q4)]), Ud, Ud, Ud, Ud, Ud, Ud, Ud, Ud, Ud, Ud, Ud, Ud, Ud, Ud, Ud, Ud, Ud, Ud, Ud, Ud, Ud, Ud, Ud, Ud, Ud, Ud, Ud, Ud, Ud, Ud, Ud, Ud, Ud, Ud, Ud, Ud, Ud, Ud, Ud, Ud, Ud, Ud, Ud, Ud, Ud, Ud, Ud, Ud, Ud, Ud, Ud, Ud, Ud, Ud, Ud, Ud, Ud, Ud, Ud, Ud, Ud, Ud, Ud, Ud, Ud, Ud, Ud, Ud, Ud, Ud, Ud, Ud, Ud, Ud, Ud, Ud, Ud] Try.func26 rfl Try.ntmps26 rfl ?_
  refine wp_seq_k fun K6 hK6 => ?_
  refine wp_region_lit ?_
  refine seqd rfl rfl (does_box (u := (.agg #[(.slice p3 A_s_.nodes.length q4)])) (ev rfl)) ?_; rintro _ w11 ⟨b7, rfl, hb8, hB9, E10⟩
  have g12 : w.heap.size ≤ b7 := Nat.le_trans (Below.size (Ext.refl w)) hb8
  change Blk _ _ [(.slice p3 A_s_.nodes.length q4)] at hB9
  have X13 := Ext.gr (Ext.refl w) E10
  show wpList _ _ _ _ (fr [_, _, _, _, _, _, _, _, _, _, _, _, _, _, _, _, _, _, _, _, _, _, _, _, _, _, _, _, _, _, _, _, _, _, _, _, _, _, _, _, _, _, _, _, _, _, _, _, _, _, _, _, _, _, _, _, _, _, _, _, _, _, _, _, _, _, _, _, _, _, _, _, _, _, _, _, _, _]) _
  refine q_is rfl rfl (does_assign (u := (Bo false)) (ev rfl)) (by dsimp only [List.set]; try rfl) ?_
  refine wpList_nil (hK6 _ _ ?_)
  refine wp_seq_k fun K14 hK14 => ?_
  refine wp_seq_k fun K15 hK15 => ?_
  refine wp_region_lit ?_
  refine q_is rfl rfl (does_fieldAddr (ev rfl) fa30_0) (by dsimp only [List.set]; try rfl) ?_
  refine q_is rfl rfl (does_load (u := (.slice p3 A_s_.nodes.length q4)) (ev rfl) Try.isAgg28 (Cells.at (Blk.cells hB9) 0 rfl)) (by dsimp only [List.set]; try rfl) ?_
  refine q_is rfl rfl (does_len_slice Try.underlying28 (ev rfl)) (by dsimp only [List.set]; try rfl) ?_
  refine seqd rfl rfl (does_call (args := #[(Iv (A_s_.nodes.length : Int)), (Iv 1), (Iv 16)]) cal55 (evs rfl) (c_impl_in (A_s_.nodes.length : Int) 1 16 _)) ?_; rintro _ w17 ⟨E16, rfl⟩
  have X18 := Ext.gr X13 E16
  show wpList _ _ _ _ (fr [_, _, _, _, _, _, _, _, _, _, _, _, _, _, _, _, _, _, _, _, _, _, _, _, _, _, _, _, _, _, _, _, _, _, _, _, _, _, _, _, _, _, _, _, _, _, _, _, _, _, _, _, _, _, _, _, _, _, _, _, _, _, _, _, _, _, _, _, _, _, _, _, _, _, _, _, _, _]) _
  refine q_is rfl rfl (does_not (ev rfl)) (by dsimp only [List.set]; try rfl) ?_
  refine wpList_nil (hK15 _ _ ?_)
  refine wp_cond_split (t := !(inI (A_s_.nodes.length : Int) 1 16)) (ev rfl) (fun c19 => ?_) (fun c19 => ?_)
  · rw [Bool.not_eq_true'] at c19
    have c19' := c19
    have hnb : inI (A_s_.nodes.length : Int) 1 16 = false := by assumption
    refine wp_seq_k fun K20 hK20 => ?_
    refine wp_region_lit ?_
    refine q_is rfl rfl (does_assign (u := (Bo false)) (ev rfl)) (by dsimp only [List.set]; try rfl) ?_
    refine wpList_nil (hK20 _ _ ?_)
    refine wp_ret ?_
    dsimp only [Exit.then, Exit.inBlock]
    refine ret_val (v := (Bo false)) (res_T rfl (slot rfl)) X18 ?_
    have x21 : (isShape A_s_) = false := by first | exact isShape_bad hel1 hbd | exact isShape_len (fun hh => by rw [inI_iff.2 hh] at hnb; cases hnb) | exact isShape_last hb hok (by omega) hk (by assumption) | (simp only [c19]; exact isShape_last hb hok (by omega) hk (by assumption))
    exact (by first | with_reducible rfl | rw [x21] | rfl)
  rw [Bool.not_eq_false'] at c19
  have c19' := c19
  have hb := inI_iff.1 (by assumption : inI (A_s_.nodes.length : Int) 1 16 = true)
  refine wp_skip (hK14 _ _ ?_)
  refine wp_seq_k fun K22 hK22 => ?_
  refine wp_region_lit ?_
  refine q_is rfl rfl (does_fieldAddr (ev rfl) fa30_0) (by dsimp only [List.set]; try rfl) ?_
  refine q_is rfl rfl (does_load (u := (.slice p3 A_s_.nodes.length q4)) (ev rfl) Try.isAgg28 (Cells.at (Blk.cells (hB9.ext E16)) 0 rfl)) (by dsimp only [List.set]; try rfl) ?_
  refine q_is rfl rfl (does_len_slice Try.underlying28 (ev rfl)) (by dsimp only [List.set]; try rfl) ?_
  refine seqd rfl rfl (does_makeSlice (n := A_s_.nodes.length) Try.underlying108 inf3 (ev rfl) (ev rfl) (by omega)) ?_; rintro _ w27 ⟨b23, rfl, hb24, ⟨cs28, hB25, hl29, hz30⟩, E26⟩
  have n31 : b7 < b23 := Nat.lt_of_lt_of_le (Blk.lt (hB9.ext E16)) hb24
  have g32 : w.heap.size ≤ b23 := Nat.le_trans (Below.size X18) hb24
  have X33 := Ext.gr X18 E26
  have hR34 : RowG RI 1 w27 b23 (List.replicate A_s_.nodes.length (0 : Int)) := RowG.made (z := (.int .i64 0)) hB25 rfl rfl hz30 rfl
  show wpList _ _ _ _ (fr [_, _, _, _, _, _, _, _, _, _, _, _, _, _, _, _, _, _, _, _, _, _, _, _, _, _, _, _, _, _, _, _, _, _, _, _, _, _, _, _, _, _, _, _, _, _, _, _, _, _, _, _, _, _, _, _, _, _, _, _, _, _, _, _, _, _, _, _, _, _, _, _, _, _, _, _, _, _]) _
  refine q_is rfl rfl (does_assign (u := (.slice (some ⟨b23, 0, none⟩) A_s_.nodes.length A_s_.nodes.length)) (ev rfl)) (by dsimp only [List.set]; try rfl) ?_
  refine wpList_nil (hK22 _ _ ?_)
  refine wp_seq_k fun K35 hK35 => ?_
  refine wp_seq_k fun K36 hK36 => ?_
  refine wp_region_lit ?_
  refine q_is rfl rfl (does_fieldAddr (ev rfl) fa30_0) (by dsimp only [List.set]; try rfl) ?_
  refine q_is rfl rfl (does_load (u := (.slice p3 A_s_.nodes.length q4)) (ev rfl) Try.isAgg28 (Cells.at (Blk.cells ((hB9.ext E16).ext E26)) 0 rfl)) (by dsimp only [List.set]; try rfl) ?_
  refine q_is rfl rfl (does_len_slice Try.underlying28 (ev rfl)) (by dsimp only [List.set]; try rfl) ?_
  refine q_is rfl rfl (does_move (u := (Iv 0)) (ev rfl)) (by dsimp only [List.set]; try rfl) ?_
  refine wpList_nil (hK36 _ _ ?_)
  refine wp_block ?_
  refine loop_ghost (σ := Nat) (fun k a w' => ∃ u37 : Nat → Value, a = fr [(.agg #[(.slice p3 A_s_.nodes.length q4)]), (Pt b7 0), (u37 2), (.slice (some ⟨b23, 0, none⟩) A_s_.nodes.length A_s_.nodes.length), (u37 4), (u37 5), Ud, (u37 7), Ud, (Pt b7 0), (.slice p3 A_s_.nodes.length q4), (Iv (A_s_.nodes.length : Int)), (Bo (inI (A_s_.nodes.length : Int) 1 16)), (Bo (!(inI (A_s_.nodes.length : Int) 1 16))), (Pt b7 0), (.slice p3 A_s_.nodes.length q4), (Iv (A_s_.nodes.length : Int)), (.slice (some ⟨b23, 0, none⟩) A_s_.nodes.length A_s_.nodes.length), (Pt b7 0), (.slice p3 A_s_.nodes.length q4), (Iv (A_s_.nodes.length : Int)), (Iv (k : Int)), (u37 22), (u37 23), (u37 24), (u37 25), (u37 26), (u37 27), (u37 28), (u37 29), (u37 30), (u37 31), (u37 32), (u37 33), (u37 34), (u37 35), (u37 36), (u37 37), (u37 38), (u37 39), (u37 40), (u37 41), (u37 42), (u37 43), (u37 44), (u37 45), (u37 46), (u37 47), (u37 48), (u37 49), (u37 50), (u37 51), (u37 52), (u37 53), (u37 54), (u37 55), (u37 56), (u37 57), (u37 58), (u37 59), (u37 60), (u37 61), (u37 62), Ud, Ud, Ud, Ud, Ud, Ud, Ud, Ud, Ud, Ud, Ud, Ud, Ud, Ud, Ud] ∧ KpL [b23] w27 w' ∧ RowG RI 1 w' b23 (useTo A_s_.nodes k) ∧ (k ≤ A_s_.nodes.length ∧ OkTo A_s_.nodes k)) (fun k => A_s_.nodes.length - k) 0 ?_ ?_
  · refine ⟨fun t => (([(.agg #[(.slice p3 A_s_.nodes.length q4)]), (Pt b7 0), (Bo false), (.slice (some ⟨b23, 0, none⟩) A_s_.nodes.length A_s_.nodes.length), Ud, Ud, Ud, Ud, Ud, (Pt b7 0), (.slice p3 A_s_.nodes.length q4), (Iv (A_s_.nodes.length : Int)), (Bo (inI (A_s_.nodes.length : Int) 1 16)), (Bo (!(inI (A_s_.nodes.length : Int) 1 16))), (Pt b7 0), (.slice p3 A_s_.nodes.length q4), (Iv (A_s_.nodes.length : Int)), (.slice (some ⟨b23, 0, none⟩) A_s_.nodes.length A_s_.nodes.length), (Pt b7 0), (.slice p3 A_s_.nodes.length q4), (Iv (A_s_.nodes.length : Int)), (Iv 0), Ud, Ud, Ud, Ud, Ud, Ud, Ud, Ud, Ud, Ud, Ud, Ud, Ud, Ud, Ud, Ud, Ud, Ud, Ud, Ud, Ud, Ud, Ud, Ud, Ud, Ud, Ud, Ud, Ud, Ud, Ud, Ud, Ud, Ud, Ud, Ud, Ud, Ud, Ud, Ud, Ud, Ud, Ud, Ud, Ud, Ud, Ud, Ud, Ud, Ud, Ud, Ud, Ud, Ud, Ud, Ud] : List Value)[t]?).getD undef, rfl, KpL.refl _ _, (RowG.cast hR34 (by (try dsimp only); rfl)), ?_⟩
    exact ⟨Nat.zero_le _, OkTo.zero⟩
  · rintro k a w38 ⟨u37, rfl, E39, hRg0, ⟨hk, hok⟩⟩
    have X41 := Below.kl X33 E39 (allS g32 all0) (Nat.le_refl _)
    have hR42 := hRg0; clear hRg0
    refine wp_seq_k fun K43 hK43 => ?_
    refine wp_region_lit ?_
    refine q_is rfl rfl (does_icmp (p := (k : Int)) (q := (A_s_.nodes.length : Int)) (.inr (.inr (.inl rfl))) (ev rfl) (ev rfl)) (by dsimp only [List.set]; try rfl) ?_
    refine wpList_nil (hK43 _ _ ?_)
    refine wp_seq_k fun K44 hK44 => ?_
    refine wp_cond_split (t := icmp .lss (k : Int) (A_s_.nodes.length : Int)) (ev rfl) (fun c45 => ?_) (fun c45 => ?_)
    · have c45' := c45
      (try simp only [icmp, Bool.and_eq_true, Bool.or_eq_true, Bool.and_eq_false_iff, Bool.or_eq_false_iff, Bool.not_eq_true', Bool.not_eq_false', decide_eq_true_eq, decide_eq_false_iff_not, beq_iff_eq, bne_iff_ne, beq_eq_false_iff_ne, bne_eq_false_iff_eq] at c45')
      refine wp_skip (hK44 _ _ ?_)
      refine wp_seq_k fun K46 hK46 => ?_
      refine wp_block ?_
      refine wp_seq_k fun K47 hK47 => ?_
      refine wp_region_lit ?_
      refine q_is rfl rfl (does_move (u := (Iv (k : Int))) (ev rfl)) (by dsimp only [List.set]; try rfl) ?_
      refine q_is rfl rfl (does_assign (u := (Iv (k : Int))) (ev rfl)) (by dsimp only [List.set]; try rfl) ?_
      refine wpList_nil (hK47 _ _ ?_)
      refine wp_seq_k fun K48 hK48 => ?_
      refine wp_region_lit ?_
      refine q_is rfl rfl (does_fieldAddr (ev rfl) fa30_0) (by dsimp only [List.set]; try rfl) ?_
      refine q_is rfl rfl (does_load (u := (.slice p3 A_s_.nodes.length q4)) (ev rfl) Try.isAgg28 (Cells.at (Blk.cells (((hB9.ext E16).ext E26).kl E39 (ninS (Nat.ne_of_lt n31) nin0))) 0 rfl)) (by dsimp only [List.set]; try rfl) ?_
      refine q_is rfl rfl (does_move (u := (Iv (k : Int))) (ev rfl)) (by dsimp only [List.set]; try rfl) ?_
      obtain ⟨el1, hel1⟩ : ∃ e, A_s_.nodes[k]? = some e := ⟨_, List.getElem?_eq_getElem (by omega)⟩
      refine seqd rfl rfl (does_indexSl0 (R := RNodeT) (i := (k : Int)) (xs := A_s_.nodes) (e := el1) Try.underlying28 Try.sizeOf102 (ev rfl) (ev rfl) hs5 (by omega) hel1) ?_; rintro _ w38 ⟨b49, o50, _, rfl, hc52, ⟨y53, rfl, h54⟩, rfl⟩
      have hs57 := h54; have hs57l := Sl.len h54; obtain ⟨p55, q56, rfl⟩ := Sl.shape h54
      show wpList _ _ _ _ (fr [_, _, _, _, _, _, _, _, _, _, _, _, _, _, _, _, _, _, _, _, _, _, _, _, _, _, _, _, _, _, _, _, _, _, _, _, _, _, _, _, _, _, _, _, _, _, _, _, _, _, _, _, _, _, _, _, _, _, _, _, _, _, _, _, _, _, _, _, _, _, _, _, _, _, _, _, _, _]) _
      refine q_is rfl rfl (does_assign (u := (Pt b49 o50)) (ev rfl)) (by dsimp only [List.set]; try rfl) ?_
      refine wpList_nil (hK48 _ _ ?_)
      refine wp_seq_k fun K58 hK58 => ?_
      refine wp_seq_k fun K59 hK59 => ?_
      obtain ⟨β1, hβ1⟩ : ∃ b : Bool, b = (rlOk el1.kind && nodeNums el1.kind el1.nums) := ⟨_, rfl⟩
      refine region_draw (
        [Fact.pure [] (fun v => v = (Pt b49 o50)),
    Fact.pure [28] (fun v => v = (Pt b49 o50)),
    Fact.pure [29] (fun v => v = (Pt b49 o50)),
    Fact.pure [30] (fun v => v = (Iv el1.kind)),
    Fact.pure [] (fun v => v = (Pt b49 o50)),
    Fact.pure [32] (fun v => v = (Pt b49 o50)),
    Fact.pure [33] (fun v => v = (Pt b49 (o50 + 3))),
    Fact.pure [34] (fun v => v = (.slice p55 el1.nums.length q56)),
    Fact.pure [31, 35] (fun v => v = (Bo β1)),
    Fact.pure [36] (fun v => v = (Bo (!β1))),
    Fact.pure [37] (fun v => v = (Bo (!β1))),
    Fact.pure [38] (fun v => (!β1) = false → v = (Pt b49 o50)),
    Fact.pure [39, 38] (fun v => (!β1) = false → v = (Bo (axOk el1))),
    Fact.pure [40, 38] (fun v => (!β1) = false → v = (Bo (!(axOk el1)))),
    Fact.pure [38, 41] (fun v => v = (Bo ((!β1) || (!(axOk el1)))))]) mixed (by kernel_rfl) (by intro _ _ d _ _ h; cases d <;> exact h) ?_
      obtain ⟨w60, hw62⟩ : ∃ w', w' = World.drew w38 := ⟨_, rfl⟩; rw [← hw62]; have E61 : Ext w38 w60 := by rw [hw62]; exact Ext.draw _
      clear hw62
      have X63 := Ext.gr X41 E61
      refine RW_d _ rfl (fun v => by dsimp only [List.set]; try rfl) (fun u hu hF => ?_) (fun v64 => ?_)
      · clear hF
        refine doesG_un rfl ?_
        refine (does_move (u := (Pt b49 o50)) (ev rfl)).mono ?_; rintro _ _ ⟨rfl, rfl⟩
        exact ⟨rfl, Ext.refl _⟩
      refine RW_d _ rfl (fun v => by dsimp only [List.set]; try rfl) (fun u hu hF => ?_) (fun v65 => ?_)
      · have h28_ : v64 = (Pt b49 o50) := hF.1
        clear hF
        refine doesG_un rfl ?_
        obtain rfl := h28_
        refine (does_nilCheck (ev rfl)).mono ?_; rintro _ _ ⟨rfl, rfl⟩
        exact ⟨rfl, Ext.refl _⟩
      refine RW_d _ rfl (fun v => by dsimp only [List.set]; try rfl) (fun u hu hF => ?_) (fun v66 => ?_)
      · have h29_ : v65 = (Pt b49 o50) := hF.1
        clear hF
        refine doesG_un rfl ?_
        obtain rfl := h29_
        refine (does_fieldAddr (ev rfl) fa102_0).mono ?_; rintro _ _ ⟨rfl, rfl⟩
        exact ⟨rfl, Ext.refl _⟩
      refine RW_d _ rfl (fun v => by dsimp only [List.set]; try rfl) (fun u hu hF => ?_) (fun v67 => ?_)
      · have h30_ : v66 = (Pt b49 o50) := hF.1
        clear hF
        refine doesG_un rfl ?_
        obtain rfl := h30_
        refine (does_load (u := (Iv el1.kind)) (ev rfl) Try.isAgg2 (Cells.at ((hc52.ext (Ext.gr X41 E61)).ext hu) 0 rfl)).mono ?_; rintro _ _ ⟨rfl, rfl⟩
        exact ⟨rfl, Ext.refl _⟩
      refine RW_d _ rfl (fun v => by dsimp only [List.set]; try rfl) (fun u hu hF => ?_) (fun v68 => ?_)
      · clear hF
        refine doesG_un rfl ?_
        refine (does_move (u := (Pt b49 o50)) (ev rfl)).mono ?_; rintro _ _ ⟨rfl, rfl⟩
        exact ⟨rfl, Ext.refl _⟩
      refine RW_d _ rfl (fun v => by dsimp only [List.set]; try rfl) (fun u hu hF => ?_) (fun v69 => ?_)
      · have h32_ : v68 = (Pt b49 o50) := hF.1
        clear hF
        refine doesG_un rfl ?_
        obtain rfl := h32_
        refine (does_nilCheck (ev rfl)).mono ?_; rintro _ _ ⟨rfl, rfl⟩
        exact ⟨rfl, Ext.refl _⟩
      refine RW_d _ rfl (fun v => by dsimp only [List.set]; try rfl) (fun u hu hF => ?_) (fun v70 => ?_)
      · have h33_ : v69 = (Pt b49 o50) := hF.1
        clear hF
        refine doesG_un rfl ?_
        obtain rfl := h33_
        refine (does_fieldAddr (ev rfl) fa102_3).mono ?_; rintro _ _ ⟨rfl, rfl⟩
        exact ⟨rfl, Ext.refl _⟩
      refine RW_d _ rfl (fun v => by dsimp only [List.set]; try rfl) (fun u hu hF => ?_) (fun v71 => ?_)
      · have h34_ : v70 = (Pt b49 (o50 + 3)) := hF.1
        clear hF
        refine doesG_un rfl ?_
        obtain rfl := h34_
        refine (does_load (u := (.slice p55 el1.nums.length q56)) (ev rfl) Try.isAgg97 (Cells.at ((hc52.ext (Ext.gr X41 E61)).ext hu) 3 rfl)).mono ?_; rintro _ _ ⟨rfl, rfl⟩
        exact ⟨rfl, Ext.refl _⟩
      refine RW_d _ rfl (fun v => by dsimp only [List.set]; try rfl) (fun u hu hF => ?_) (fun v72 => ?_)
      · have h31_ : v67 = (Iv el1.kind) := hF.1
        have h35_ : v71 = (.slice p55 el1.nums.length q56) := hF.2.1
        clear hF
        refine doesG_un rfl ?_
        obtain rfl := h31_
        obtain rfl := h35_
        refine (does_call (args := #[(Iv el1.kind), (.slice p55 el1.nums.length q56)]) cal56 (evs rfl) (c_impl_numbersOk el1.kind (.slice p55 el1.nums.length q56) el1.nums _ (Sl.ext (Sl.ext hs57 RF.mono (Ext.gr X41 E61)) RF.mono hu))).mono ?_; rintro v u' ⟨hx, hv⟩
        exact ⟨hv.trans (by simp only [hβ1]), hx⟩
      refine RW_d _ rfl (fun v => by dsimp only [List.set]; try rfl) (fun u hu hF => ?_) (fun v73 => ?_)
      · have h36_ : v72 = (Bo β1) := hF.1
        clear hF
        refine doesG_un rfl ?_
        obtain rfl := h36_
        refine (does_not (ev rfl)).mono ?_; rintro _ _ ⟨rfl, rfl⟩
        exact ⟨rfl, Ext.refl _⟩
      refine RW_d _ rfl (fun v => by dsimp only [List.set]; try rfl) (fun u hu hF => ?_) (fun v74 => ?_)
      · have h37_ : v73 = (Bo (!β1)) := hF.1
        clear hF
        refine doesG_un rfl ?_
        obtain rfl := h37_
        refine (does_move (u := (Bo (!β1))) (ev rfl)).mono ?_; rintro _ _ ⟨rfl, rfl⟩
        exact ⟨rfl, Ext.refl _⟩
      refine RW_d _ rfl (fun v => by dsimp only [List.set]; try rfl) (fun u hu hF => ?_) (fun v75 => ?_)
      · have h38_ : v74 = (Bo (!β1)) := hF.1
        clear hF
        obtain rfl := h38_
        refine doesG_g (b := (!β1)) rfl (yld rfl rfl) (fun hg1 => ?_) (fun hc => ⟨fun hg1 => absurd hg1 hc, Ext.refl _⟩)
        refine (does_move (u := (Pt b49 o50)) (ev rfl)).mono ?_; rintro _ _ ⟨rfl, rfl⟩
        exact ⟨fun _ => rfl, Ext.refl _⟩
      refine RW_d _ rfl (fun v => by dsimp only [List.set]; try rfl) (fun u hu hF => ?_) (fun v76 => ?_)
      · have h39_ : (!β1) = false → v75 = (Pt b49 o50) := hF.1
        have h38_ : v74 = (Bo (!β1)) := hF.2.1
        clear hF
        obtain rfl := h38_
        refine doesG_g (b := (!β1)) rfl (yld rfl rfl) (fun hg1 => ?_) (fun hc => ⟨fun hg1 => absurd hg1 hc, Ext.refl _⟩)
        obtain rfl := h39_ hg1
        refine (does_call (args := #[(Pt b49 o50)]) cal57 (evs rfl) (c_impl_axisOk b49 o50 [(Iv el1.kind), (Iv el1.a), (Iv el1.b), (.slice p55 el1.nums.length q56)] el1 _ ((hc52.ext (Ext.gr X41 E61)).ext hu) ⟨(.slice p55 el1.nums.length q56), rfl, (Sl.ext (Sl.ext hs57 RF.mono (Ext.gr X41 E61)) RF.mono hu)⟩)).mono ?_; rintro v u' ⟨hx, hv⟩
        exact ⟨fun _ => hv, hx⟩
      refine RW_d _ rfl (fun v => by dsimp only [List.set]; try rfl) (fun u hu hF => ?_) (fun v77 => ?_)
      · have h40_ : (!β1) = false → v76 = (Bo (axOk el1)) := hF.1
        have h38_ : v74 = (Bo (!β1)) := hF.2.1
        clear hF
        obtain rfl := h38_
        refine doesG_g (b := (!β1)) rfl (yld rfl rfl) (fun hg1 => ?_) (fun hc => ⟨fun hg1 => absurd hg1 hc, Ext.refl _⟩)
        obtain rfl := h40_ hg1
        refine (does_not (ev rfl)).mono ?_; rintro _ _ ⟨rfl, rfl⟩
        exact ⟨fun _ => rfl, Ext.refl _⟩
      refine RW_d _ rfl (fun v => by dsimp only [List.set]; try rfl) (fun u hu hF => ?_) (fun v78 => ?_)
      · have h38_ : v74 = (Bo (!β1)) := hF.1
        have h41_ : (!β1) = false → v77 = (Bo (!(axOk el1))) := hF.2.1
        clear hF
        refine doesG_un rfl ?_
        skip
        obtain rfl := h38_
        refine (does_pick (b := (!β1)) (u := (Bo true)) (v := v77) (ev rfl) (ev rfl) (ev rfl)).mono ?_; rintro _ _ ⟨rfl, rfl⟩; refine ⟨?_, Ext.refl _⟩; skip
        cases hbb : (!β1)
        all_goals first | (show _ = _; simp only [↓reduceIte, Bool.true_and, Bool.false_and, Bool.true_or, Bool.false_or, Bool.false_eq_true]; done) | (have e_ := h41_ hbb; subst e_; show _ = _; simp only [↓reduceIte, Bool.true_and, Bool.false_and, Bool.true_or, Bool.false_or, Bool.false_eq_true]; done) | rfl | (have e_ := h41_ hbb; subst e_; rfl) | (simp [hbb] at h41_ ⊢; first | done | rfl | (subst h41_; rfl) | simp_all) | (simp [hbb] at h41_ ⊢; done)
      refine RW_fin ?_; intro w79 E80 hP81
      obtain ⟨⟨⟨⟨⟨⟨⟨⟨⟨⟨⟨⟨⟨⟨⟨-, -⟩, -⟩, -⟩, -⟩, -⟩, -⟩, -⟩, -⟩, -⟩, -⟩, -⟩, -⟩, -⟩, -⟩, q82⟩ := hP81
      have X83 := Ext.gr X63 E80
      have q82 : v78 = (Bo ((!β1) || (!(axOk el1)))) := q82
      obtain rfl := q82
      show wpList _ _ _ _ (fr [_, _, _, _, _, _, _, _, _, _, _, _, _, _, _, _, _, _, _, _, _, _, _, _, _, _, _, _, _, _, _, _, _, _, _, _, _, _, _, _, _, _, _, _, _, _, _, _, _, _, _, _, _, _, _, _, _, _, _, _, _, _, _, _, _, _, _, _, _, _, _, _, _, _, _, _, _, _]) _
      refine wpList_nil (hK59 _ _ ?_)
      refine wp_cond_split (t := (!β1) || (!(axOk el1))) (ev rfl) (fun c84 => ?_) (fun c84 => ?_)
      · have c84' := c84
        (try simp only [hβ1] at c84')
        (try simp only [icmp, Bool.and_eq_true, Bool.or_eq_true, Bool.and_eq_false_iff, Bool.or_eq_false_iff, Bool.not_eq_true', Bool.not_eq_false', decide_eq_true_eq, decide_eq_false_iff_not, beq_iff_eq, bne_iff_ne, beq_eq_false_iff_ne, bne_eq_false_iff_eq] at c84')
        have hbd : nodeIn el1 k = false := nodeI_bad (by first | exact c84' | simpa only [or_assoc] using c84')
        refine wp_seq_k fun K85 hK85 => ?_
        refine wp_region_lit ?_
        refine q_is rfl rfl (does_assign (u := (Bo false)) (ev rfl)) (by dsimp only [List.set]; try rfl) ?_
        refine wpList_nil (hK85 _ _ ?_)
        refine wp_ret ?_
        dsimp only [Exit.then, Exit.inBlock]
        refine ret_val (v := (Bo false)) (res_T rfl (slot rfl)) X83 ?_
        try simp only [hel1, hβ1] at c19 c45 c84
        have x86 : (isShape A_s_) = false := by first | exact isShape_bad hel1 hbd | exact isShape_len (fun hh => by rw [inI_iff.2 hh] at hnb; cases hnb) | exact isShape_last hb hok (by omega) hk (by assumption) | (simp only [hel1, hβ1, c19, c45, c84]; exact isShape_last hb hok (by omega) hk (by assumption))
        exact (by first | with_reducible rfl | rw [x86] | rfl)
      have c84' := c84
      (try simp only [hβ1] at c84')
      (try simp only [icmp, Bool.and_eq_true, Bool.or_eq_true, Bool.and_eq_false_iff, Bool.or_eq_false_iff, Bool.not_eq_true', Bool.not_eq_false', decide_eq_true_eq, decide_eq_false_iff_not, beq_iff_eq, bne_iff_ne, beq_eq_false_iff_ne, bne_eq_false_iff_eq] at c84')
      have hno : rlOk el1.kind = true ∧ nodeNums el1.kind el1.nums = true ∧ axOk el1 = true := by first | exact c84' | simpa only [and_assoc] using c84'
      have hcl := chL_len el1
      refine wp_skip (hK58 _ _ ?_)
      refine wp_seq_k fun K87 hK87 => ?_
      refine wp_region_lit ?_
      refine q_is rfl rfl (does_move (u := (Pt b49 o50)) (ev rfl)) (by dsimp only [List.set]; try rfl) ?_
      refine seqd rfl rfl (does_call (args := #[(Pt b49 o50)]) cal58 (evs rfl) (c_impl_childrenOf b49 o50 [(Iv el1.kind), (Iv el1.a), (Iv el1.b), (.slice p55 el1.nums.length q56)] el1 _ (hc52.ext X83) ⟨(.slice p55 el1.nums.length q56), rfl, (Sl.ext hs57 RF.mono X83)⟩)) ?_; rintro _ w89 ⟨E88, ⟨y91, rfl, hh90⟩⟩
      have X92 := Ext.gr X83 E88
      have n93 : b7 < w79.heap.size := Blk.lt (((((hB9.ext E16).ext E26).kl E39 (ninS (Nat.ne_of_lt n31) nin0)).ext E61).ext E80)
      have n94 : b23 < w79.heap.size := RowG.lt (RowG.ext (RowG.ext hR42 RI.flat E61) RI.flat E80)
      obtain ⟨p95, q96, rfl⟩ := Sl.shape hh90.get
      show wpList _ _ _ _ (fr [_, _, _, _, _, _, _, _, _, _, _, _, _, _, _, _, _, _, _, _, _, _, _, _, _, _, _, _, _, _, _, _, _, _, _, _, _, _, _, _, _, _, _, _, _, _, _, _, _, _, _, _, _, _, _, _, _, _, _, _, _, _, _, _, _, _, _, _, _, _, _, _, _, _, _, _, _, _]) _
      refine q_is rfl rfl (does_len_slice Try.underlying100 (ev rfl)) (by dsimp only [List.set]; try rfl) ?_
      refine q_is rfl rfl (does_move (u := (Iv 0)) (ev rfl)) (by dsimp only [List.set]; try rfl) ?_
      refine wpList_nil (hK87 _ _ ?_)
      refine wp_block ?_
      refine loop_ghost (σ := Nat) (fun m a w' => ∃ u97 : Nat → Value, a = fr [(.agg #[(.slice p3 A_s_.nodes.length q4)]), (Pt b7 0), (u97 2), (.slice (some ⟨b23, 0, none⟩) A_s_.nodes.length A_s_.nodes.length), (Iv (k : Int)), (Pt b49 o50), Ud, (u97 7), Ud, (Pt b7 0), (.slice p3 A_s_.nodes.length q4), (Iv (A_s_.nodes.length : Int)), (Bo (inI (A_s_.nodes.length : Int) 1 16)), (Bo (!(inI (A_s_.nodes.length : Int) 1 16))), (Pt b7 0), (.slice p3 A_s_.nodes.length q4), (Iv (A_s_.nodes.length : Int)), (.slice (some ⟨b23, 0, none⟩) A_s_.nodes.length A_s_.nodes.length), (Pt b7 0), (.slice p3 A_s_.nodes.length q4), (Iv (A_s_.nodes.length : Int)), (Iv (k : Int)), (Bo (icmp .lss (k : Int) (A_s_.nodes.length : Int))), (Iv (k : Int)), (Pt b7 0), (.slice p3 A_s_.nodes.length q4), (Iv (k : Int)), (Pt b49 o50), v64, v65, v66, v67, v68, v69, v70, v71, v72, v73, v74, v75, v76, v77, (Bo ((!β1) || (!(axOk el1)))), (Pt b49 o50), (.slice p95 ((chL el1).length) q96), (Iv (((chL el1).length) : Int)), (Iv (m : Int)), (u97 47), (u97 48), (u97 49), (u97 50), (u97 51), (u97 52), (u97 53), (u97 54), (u97 55), (u97 56), (u97 57), (u97 58), (u97 59), (u97 60), (u97 61), (u37 62), Ud, Ud, Ud, Ud, Ud, Ud, Ud, Ud, Ud, Ud, Ud, Ud, Ud, Ud, Ud] ∧ KpL [b23] w89 w' ∧ RowG RI 1 w' b23 (((chL el1).take m).foldl incL (useTo A_s_.nodes k)) ∧ (m ≤ (chL el1).length ∧ AllTo (fun c => inI c 0 ((k : Int) - 1)) (chL el1) m)) (fun m => (chL el1).length - m) 0 ?_ ?_
      · refine ⟨fun t => (([(.agg #[(.slice p3 A_s_.nodes.length q4)]), (Pt b7 0), (u37 2), (.slice (some ⟨b23, 0, none⟩) A_s_.nodes.length A_s_.nodes.length), (Iv (k : Int)), (Pt b49 o50), Ud, (u37 7), Ud, (Pt b7 0), (.slice p3 A_s_.nodes.length q4), (Iv (A_s_.nodes.length : Int)), (Bo (inI (A_s_.nodes.length : Int) 1 16)), (Bo (!(inI (A_s_.nodes.length : Int) 1 16))), (Pt b7 0), (.slice p3 A_s_.nodes.length q4), (Iv (A_s_.nodes.length : Int)), (.slice (some ⟨b23, 0, none⟩) A_s_.nodes.length A_s_.nodes.length), (Pt b7 0), (.slice p3 A_s_.nodes.length q4), (Iv (A_s_.nodes.length : Int)), (Iv (k : Int)), (Bo (icmp .lss (k : Int) (A_s_.nodes.length : Int))), (Iv (k : Int)), (Pt b7 0), (.slice p3 A_s_.nodes.length q4), (Iv (k : Int)), (Pt b49 o50), v64, v65, v66, v67, v68, v69, v70, v71, v72, v73, v74, v75, v76, v77, (Bo ((!β1) || (!(axOk el1)))), (Pt b49 o50), (.slice p95 ((chL el1).length) q96), (Iv (((chL el1).length) : Int)), (Iv 0), (u37 47), (u37 48), (u37 49), (u37 50), (u37 51), (u37 52), (u37 53), (u37 54), (u37 55), (u37 56), (u37 57), (u37 58), (u37 59), (u37 60), (u37 61), (u37 62), Ud, Ud, Ud, Ud, Ud, Ud, Ud, Ud, Ud, Ud, Ud, Ud, Ud, Ud, Ud] : List Value)[t]?).getD undef, rfl, KpL.refl _ _, (RowG.cast (RowG.ext (RowG.ext (RowG.ext hR42 RI.flat E61) RI.flat E80) RI.flat E88) (by (try dsimp only); rfl)), ?_⟩
        exact ⟨Nat.zero_le _, AllTo.zero⟩
      · rintro m a w98 ⟨u97, rfl, E99, hRg0, ⟨hm, hal⟩⟩
        have X101 := Below.kl X92 E99 (allS g32 all0) (Nat.le_refl _)
        have hR102 := hRg0; clear hRg0
        refine wp_seq_k fun K103 hK103 => ?_
        refine wp_region_lit ?_
        refine q_is rfl rfl (does_icmp (p := (m : Int)) (q := (((chL el1).length) : Int)) (.inr (.inr (.inl rfl))) (ev rfl) (ev rfl)) (by dsimp only [List.set]; try rfl) ?_
        refine wpList_nil (hK103 _ _ ?_)
        refine wp_seq_k fun K104 hK104 => ?_
        refine wp_cond_split (t := icmp .lss (m : Int) (((chL el1).length) : Int)) (ev rfl) (fun c105 => ?_) (fun c105 => ?_)
        · have c105' := c105
          (try simp only [hβ1] at c105')
          (try simp only [icmp, Bool.and_eq_true, Bool.or_eq_true, Bool.and_eq_false_iff, Bool.or_eq_false_iff, Bool.not_eq_true', Bool.not_eq_false', decide_eq_true_eq, decide_eq_false_iff_not, beq_iff_eq, bne_iff_ne, beq_eq_false_iff_ne, bne_eq_false_iff_eq] at c105')
          refine wp_skip (hK104 _ _ ?_)
          refine wp_seq_k fun K106 hK106 => ?_
          refine wp_block ?_
          refine wp_seq_k fun K107 hK107 => ?_
          refine wp_region_lit ?_
          obtain ⟨el2, hel2⟩ : ∃ e, (chL el1)[m]? = some e := ⟨_, List.getElem?_eq_getElem (by omega)⟩
          refine seqd rfl rfl (does_indexSl (R := RI) (i := (m : Int)) (xs := (chL el1)) (e := el2) Try.underlying100 Try.sizeOf2 (ev rfl) (ev rfl) (hh90 _ ((Same.refl _ _).kl E99 (allS (.inl n94) all0))) (by omega) hel2) ?_; rintro _ w98 ⟨b108, o109, _, rfl, hc111, rfl, rfl⟩
          show wpList _ _ _ _ (fr [_, _, _, _, _, _, _, _, _, _, _, _, _, _, _, _, _, _, _, _, _, _, _, _, _, _, _, _, _, _, _, _, _, _, _, _, _, _, _, _, _, _, _, _, _, _, _, _, _, _, _, _, _, _, _, _, _, _, _, _, _, _, _, _, _, _, _, _, _, _, _, _, _, _, _, _, _, _]) _
          refine q_is rfl rfl (does_load (u := (Iv el2)) (ev rfl) Try.isAgg2 (Cells.at hc111 0 rfl)) (by dsimp only [List.set]; try rfl) ?_
          refine q_is rfl rfl (does_assign (u := (Iv el2)) (ev rfl)) (by dsimp only [List.set]; try rfl) ?_
          refine wpList_nil (hK107 _ _ ?_)
          refine wp_seq_k fun K112 hK112 => ?_
          refine wp_seq_k fun K113 hK113 => ?_
          refine wp_region_lit ?_
          refine q_is rfl rfl (does_move (u := (Iv el2)) (ev rfl)) (by dsimp only [List.set]; try rfl) ?_
          refine q_is rfl rfl (does_move (u := (Iv (k : Int))) (ev rfl)) (by dsimp only [List.set]; try rfl) ?_
          refine q_is rfl rfl (does_iarith (p := (k : Int)) (q := 1) (r := (k : Int) - 1) (ev rfl) (ev rfl) (.inr (.inl ⟨rfl, (in_i64 (by omega) (by omega)).symm⟩))) (by dsimp only [List.set]; try rfl) ?_
          refine seqd rfl rfl (does_call (args := #[(Iv el2), (Iv 0), (Iv ((k : Int) - 1))]) cal55 (evs rfl) (c_impl_in el2 0 ((k : Int) - 1) _)) ?_; rintro _ w115 ⟨E114, rfl⟩
          have X116 := Ext.gr X101 E114
          show wpList _ _ _ _ (fr [_, _, _, _, _, _, _, _, _, _, _, _, _, _, _, _, _, _, _, _, _, _, _, _, _, _, _, _, _, _, _, _, _, _, _, _, _, _, _, _, _, _, _, _, _, _, _, _, _, _, _, _, _, _, _, _, _, _, _, _, _, _, _, _, _, _, _, _, _, _, _, _, _, _, _, _, _, _]) _
          refine q_is rfl rfl (does_not (ev rfl)) (by dsimp only [List.set]; try rfl) ?_
          refine wpList_nil (hK113 _ _ ?_)
          refine wp_cond_split (t := !(inI el2 0 ((k : Int) - 1))) (ev rfl) (fun c117 => ?_) (fun c117 => ?_)
          · rw [Bool.not_eq_true'] at c117
            have c117' := c117
            (try simp only [hβ1] at c117')
            (try simp only [icmp, Bool.and_eq_true, Bool.or_eq_true, Bool.and_eq_false_iff, Bool.or_eq_false_iff, Bool.not_eq_true', Bool.not_eq_false', decide_eq_true_eq, decide_eq_false_iff_not, beq_iff_eq, bne_iff_ne, beq_eq_false_iff_ne, bne_eq_false_iff_eq] at c117')
            have hbd : nodeIn el1 k = false := nodeI_bad2 hno.1 hel2 (by assumption)
            refine wp_seq_k fun K118 hK118 => ?_
            refine wp_region_lit ?_
            refine q_is rfl rfl (does_assign (u := (Bo false)) (ev rfl)) (by dsimp only [List.set]; try rfl) ?_
            refine wpList_nil (hK118 _ _ ?_)
            refine wp_ret ?_
            dsimp only [Exit.then, Exit.inBlock]
            refine ret_val (v := (Bo false)) (res_T rfl (slot rfl)) X116 ?_
            try simp only [hel1, hβ1, hel2] at c19 c45 c84 c105 c117
            have x119 : (isShape A_s_) = false := by first | exact isShape_bad hel1 hbd | exact isShape_len (fun hh => by rw [inI_iff.2 hh] at hnb; cases hnb) | exact isShape_last hb hok (by omega) hk (by assumption) | (simp only [hel1, hβ1, hel2, c19, c45, c84, c105, c117]; exact isShape_last hb hok (by omega) hk (by assumption))
            exact (by first | with_reducible rfl | rw [x119] | rfl)
          rw [Bool.not_eq_false'] at c117
          have c117' := c117
          (try simp only [hβ1] at c117')
          (try simp only [icmp, Bool.and_eq_true, Bool.or_eq_true, Bool.and_eq_false_iff, Bool.or_eq_false_iff, Bool.not_eq_true', Bool.not_eq_false', decide_eq_true_eq, decide_eq_false_iff_not, beq_iff_eq, bne_iff_ne, beq_eq_false_iff_ne, bne_eq_false_iff_eq] at c117')
          have hci := inI_iff.1 (by assumption : inI el2 0 ((k : Int) - 1) = true)
          refine wp_skip (hK112 _ _ ?_)
          refine wp_region_lit ?_
          refine q_is rfl rfl (does_move (u := (.slice (some ⟨b23, 0, none⟩) A_s_.nodes.length A_s_.nodes.length)) (ev rfl)) (by dsimp only [List.set]; try rfl) ?_
          refine q_is rfl rfl (does_move (u := (Iv el2)) (ev rfl)) (by dsimp only [List.set]; try rfl) ?_
          refine q_is rfl rfl (does_indexOwn (b := b23) (n := A_s_.nodes.length) (i := el2) Try.underlying108 Try.sizeOf3 (ev rfl) (ev rfl) (by omega) (by omega)) (by dsimp only [List.set]; try rfl) ?_
          obtain ⟨el3, hel3⟩ : ∃ e, (((chL el1).take m).foldl incL (useTo A_s_.nodes k))[el2.toNat]? = some e := ⟨_, List.getElem?_eq_getElem (by first | assumption | omega | (simp only [useTo_len, foldI_len, List.length_set, List.length_replicate]; omega) | (simp only [useTo_len, foldI_len, List.length_set, List.length_replicate]; done))⟩
          refine q_is rfl rfl (does_loadRowI (xs := (((chL el1).take m).foldl incL (useTo A_s_.nodes k))) (i := el2.toNat) (e := el3) (ev rfl) Try.isAgg3 (RowG.ext hR102 RI.flat E114) rfl hel3) (by dsimp only [List.set]; try rfl) ?_
          refine q_is rfl rfl (does_iarith (p := el3) (q := 1) (r := IntKind.i64.wrap (el3 + 1)) (ev rfl) (ev rfl) (.inl ⟨rfl, rfl⟩)) (by dsimp only [List.set]; try rfl) ?_
          refine q_is rfl rfl (does_indexOwn (b := b23) (n := A_s_.nodes.length) (i := el2) Try.underlying108 Try.sizeOf3 (ev rfl) (ev rfl) (by omega) (by omega)) (by dsimp only [List.set]; try rfl) ?_
          refine seqn rfl rfl (does_storeRowG (R := RI) (k := 1) (xs := (((chL el1).take m).foldl incL (useTo A_s_.nodes k))) (i := el2.toNat) (u := (Iv (IntKind.i64.wrap (el3 + 1)))) (e := (IntKind.i64.wrap (el3 + 1))) (ev rfl) (ev rfl) Try.sizeOf3 rfl rfl RI.flat (RowG.ext hR102 RI.flat E114) rfl (by first | assumption | omega | (simp only [useTo_len, foldI_len, List.length_set, List.length_replicate]; omega) | (simp only [useTo_len, foldI_len, List.length_set, List.length_replicate]; done)) rfl) ?_; rintro _ w122 ⟨rfl, W120, hR121⟩
          have X123 := Below.wr X116 W120 g32
          refine wpList_nil (hK106 _ _ ?_)
          refine wp_region_lit ?_
          refine q_is rfl rfl (does_iarith (p := (m : Int)) (q := 1) (r := (m : Int) + 1) (ev rfl) (ev rfl) (.inl ⟨rfl, (in_i64 (by omega) (by omega)).symm⟩)) (by dsimp only [List.set]; try rfl) ?_
          refine q_is rfl rfl (does_move (u := (Iv ((m : Int) + 1))) (ev rfl)) (by dsimp only [List.set]; try rfl) ?_
          refine wpList_nil ?_
          have hR124 := RowG.cast (ys := ((fun (m : Nat) => ((chL el1).take m).foldl incL (useTo A_s_.nodes k)) (m + 1))) hR121 (by (try dsimp only); rw [fold_take hel2]; exact incL_at hel3)
          refine ⟨m + 1, ⟨fun t => (([(.agg #[(.slice p3 A_s_.nodes.length q4)]), (Pt b7 0), (u97 2), (.slice (some ⟨b23, 0, none⟩) A_s_.nodes.length A_s_.nodes.length), (Iv (k : Int)), (Pt b49 o50), Ud, (Iv el2), Ud, (Pt b7 0), (.slice p3 A_s_.nodes.length q4), (Iv (A_s_.nodes.length : Int)), (Bo (inI (A_s_.nodes.length : Int) 1 16)), (Bo (!(inI (A_s_.nodes.length : Int) 1 16))), (Pt b7 0), (.slice p3 A_s_.nodes.length q4), (Iv (A_s_.nodes.length : Int)), (.slice (some ⟨b23, 0, none⟩) A_s_.nodes.length A_s_.nodes.length), (Pt b7 0), (.slice p3 A_s_.nodes.length q4), (Iv (A_s_.nodes.length : Int)), (Iv (k : Int)), (Bo (icmp .lss (k : Int) (A_s_.nodes.length : Int))), (Iv (k : Int)), (Pt b7 0), (.slice p3 A_s_.nodes.length q4), (Iv (k : Int)), (Pt b49 o50), v64, v65, v66, v67, v68, v69, v70, v71, v72, v73, v74, v75, v76, v77, (Bo ((!β1) || (!(axOk el1)))), (Pt b49 o50), (.slice p95 ((chL el1).length) q96), (Iv (((chL el1).length) : Int)), (Iv ((m : Int) + 1)), (Bo (icmp .lss (m : Int) (((chL el1).length) : Int))), (Pt b108 o109), (Iv el2), (Iv el2), (Iv (k : Int)), (Iv ((k : Int) - 1)), (Bo (inI el2 0 ((k : Int) - 1))), (Bo (!(inI el2 0 ((k : Int) - 1)))), (.slice (some ⟨b23, 0, none⟩) A_s_.nodes.length A_s_.nodes.length), (Iv el2), (Pt b23 (el2.toNat * 1)), (Iv el3), (Iv (IntKind.i64.wrap (el3 + 1))), (Pt b23 (el2.toNat * 1)), (Iv ((m : Int) + 1)), (u37 62), Ud, Ud, Ud, Ud, Ud, Ud, Ud, Ud, Ud, Ud, Ud, Ud, Ud, Ud, Ud] : List Value)[t]?).getD undef, ?_, (KpL.more (KpL.ext E99 E114) (KpL.of_wr W120) (allS (.inl (by simp)) all0)), hR124, ?_⟩, ?_⟩
          · first | rfl | (simp only [Int.natCast_add, Int.natCast_one]; rfl)
          · (try dsimp only); exact ⟨by omega, AllTo.step hal hel2 (by assumption)⟩
          · (try dsimp only); omega
        have c105' := c105
        (try simp only [hβ1] at c105')
        (try simp only [icmp, Bool.and_eq_true, Bool.or_eq_true, Bool.and_eq_false_iff, Bool.or_eq_false_iff, Bool.not_eq_true', Bool.not_eq_false', decide_eq_true_eq, decide_eq_false_iff_not, beq_iff_eq, bne_iff_ne, beq_eq_false_iff_ne, bne_eq_false_iff_eq] at c105')
        refine wp_exit ?_
        refine hK46 _ _ ?_
        refine wp_region_lit ?_
        refine q_is rfl rfl (does_iarith (p := (k : Int)) (q := 1) (r := (k : Int) + 1) (ev rfl) (ev rfl) (.inl ⟨rfl, (in_i64 (by omega) (by omega)).symm⟩)) (by dsimp only [List.set]; try rfl) ?_
        refine q_is rfl rfl (does_move (u := (Iv ((k : Int) + 1))) (ev rfl)) (by dsimp only [List.set]; try rfl) ?_
        refine wpList_nil ?_
        have hR125 := RowG.cast (ys := ((fun (k : Nat) => useTo A_s_.nodes k) (k + 1))) hR102 (by (try dsimp only); rw [useTo_succ hel1, useN_ch hno.1, List.take_of_length_le (by omega)])
        refine ⟨k + 1, ⟨fun t => (([(.agg #[(.slice p3 A_s_.nodes.length q4)]), (Pt b7 0), (u97 2), (.slice (some ⟨b23, 0, none⟩) A_s_.nodes.length A_s_.nodes.length), (Iv (k : Int)), (Pt b49 o50), Ud, (u97 7), Ud, (Pt b7 0), (.slice p3 A_s_.nodes.length q4), (Iv (A_s_.nodes.length : Int)), (Bo (inI (A_s_.nodes.length : Int) 1 16)), (Bo (!(inI (A_s_.nodes.length : Int) 1 16))), (Pt b7 0), (.slice p3 A_s_.nodes.length q4), (Iv (A_s_.nodes.length : Int)), (.slice (some ⟨b23, 0, none⟩) A_s_.nodes.length A_s_.nodes.length), (Pt b7 0), (.slice p3 A_s_.nodes.length q4), (Iv (A_s_.nodes.length : Int)), (Iv ((k : Int) + 1)), (Bo (icmp .lss (k : Int) (A_s_.nodes.length : Int))), (Iv (k : Int)), (Pt b7 0), (.slice p3 A_s_.nodes.length q4), (Iv (k : Int)), (Pt b49 o50), v64, v65, v66, v67, v68, v69, v70, v71, v72, v73, v74, v75, v76, v77, (Bo ((!β1) || (!(axOk el1)))), (Pt b49 o50), (.slice p95 ((chL el1).length) q96), (Iv (((chL el1).length) : Int)), (Iv (m : Int)), (Bo (icmp .lss (m : Int) (((chL el1).length) : Int))), (u97 48), (u97 49), (u97 50), (u97 51), (u97 52), (u97 53), (u97 54), (u97 55), (u97 56), (u97 57), (u97 58), (u97 59), (u97 60), (u97 61), (Iv ((k : Int) + 1)), Ud, Ud, Ud, Ud, Ud, Ud, Ud, Ud, Ud, Ud, Ud, Ud, Ud, Ud, Ud] : List Value)[t]?).getD undef, ?_, (KpL.more (KpL.ext (KpL.ext (KpL.ext E39 E61) E80) E88) E99 (allS (.inl (by simp)) all0)), hR125, ?_⟩, ?_⟩
        · first | rfl | (simp only [Int.natCast_add, Int.natCast_one]; rfl)
        · exact ⟨by omega, OkTo.step hok hel1 (nodeI_good hno.1 hno.2.1 hno.2.2 hal (by omega))⟩
        · omega
    have c45' := c45
    (try simp only [icmp, Bool.and_eq_true, Bool.or_eq_true, Bool.and_eq_false_iff, Bool.or_eq_false_iff, Bool.not_eq_true', Bool.not_eq_false', decide_eq_true_eq, decide_eq_false_iff_not, beq_iff_eq, bne_iff_ne, beq_eq_false_iff_ne, bne_eq_false_iff_eq] at c45')
    refine wp_exit ?_
    refine hK35 _ _ ?_
    refine wp_seq_k fun K126 hK126 => ?_
    refine wp_region_lit ?_
    refine q_is rfl rfl (does_move (u := (.slice (some ⟨b23, 0, none⟩) A_s_.nodes.length A_s_.nodes.length)) (ev rfl)) (by dsimp only [List.set]; try rfl) ?_
    refine q_is rfl rfl (does_len_slice Try.underlying108 (ev rfl)) (by dsimp only [List.set]; try rfl) ?_
    refine q_is rfl rfl (does_iarith (p := (A_s_.nodes.length : Int)) (q := 1) (r := (A_s_.nodes.length : Int) - 1) (ev rfl) (ev rfl) (.inr (.inl ⟨rfl, (in_i64 (by omega) (by omega)).symm⟩))) (by dsimp only [List.set]; try rfl) ?_
    refine q_is rfl rfl (does_assign (u := (Iv ((A_s_.nodes.length : Int) - 1))) (ev rfl)) (by dsimp only [List.set]; try rfl) ?_
    refine wpList_nil (hK126 _ _ ?_)
    refine wp_seq_k fun K127 hK127 => ?_
    obtain ⟨el4, hel4⟩ : ∃ e, (useTo A_s_.nodes k)[(((A_s_.nodes.length : Int) - 1).toNat)]? = some e := ⟨_, List.getElem?_eq_getElem (by first | assumption | omega | (simp only [useTo_len, foldI_len, List.length_set, List.length_replicate]; omega) | (simp only [useTo_len, foldI_len, List.length_set, List.length_replicate]; done))⟩
    obtain ⟨β2, hβ2⟩ : ∃ b : Bool, b = (((useTo A_s_.nodes k).take ((A_s_.nodes.length : Int) - 1).toNat).any (fun x => icmp .neq x 1)) := ⟨_, rfl⟩
    obtain ⟨β3, hβ3⟩ : ∃ b : Bool, b = ((icmp .eql el4 0) && (!β2)) := ⟨_, rfl⟩
    refine region_text (
      [Fact.pure [] (fun v => v = (.slice (some ⟨b23, 0, none⟩) A_s_.nodes.length A_s_.nodes.length)),
    Fact.pure [] (fun v => v = (Iv ((A_s_.nodes.length : Int) - 1))),
    Fact.pure [66, 67] (fun v => v = (Pt b23 ((((A_s_.nodes.length : Int) - 1).toNat) * 1))),
    Fact.pure [68] (fun v => v = (Iv el4)),
    Fact.pure [69] (fun v => v = (Bo (icmp .eql el4 0))),
    Fact.pure [70] (fun v => v = (Bo (icmp .eql el4 0))),
    Fact.pure [71] (fun v => (icmp .eql el4 0) = true → v = (.slice (some ⟨b23, 0, none⟩) A_s_.nodes.length A_s_.nodes.length)),
    Fact.pure [71] (fun v => (icmp .eql el4 0) = true → v = (Iv ((A_s_.nodes.length : Int) - 1))),
    Fact.mem [72, 73, 71] (fun v w' => (icmp .eql el4 0) = true → ∃ y_1 : Value, v = y_1 ∧ Sl RI 1 w' y_1 ((useTo A_s_.nodes k).take ((A_s_.nodes.length : Int) - 1).toNat)) (by intro v w1 w2 hx h hg1; obtain ⟨z1, rfl, k0⟩ := h hg1; exact ⟨_, rfl, (k0.ext RI.mono hx)⟩),
    Fact.pure [74, 71] (fun v => (icmp .eql el4 0) = true → v = (Bo β2)),
    Fact.pure [75, 71] (fun v => (icmp .eql el4 0) = true → v = (Bo (!β2))),
    Fact.pure [71, 76] (fun v => v = (Bo β3))]) (by simp [Fact.pure, Fact.mem]) ?_
    refine RW_d _ rfl (fun v => by dsimp only [List.set]; try rfl) (fun u hu hF => ?_) (fun v128 => ?_)
    · clear hF
      refine doesG_un rfl ?_
      refine (does_move (u := (.slice (some ⟨b23, 0, none⟩) A_s_.nodes.length A_s_.nodes.length)) (ev rfl)).mono ?_; rintro _ _ ⟨rfl, rfl⟩
      exact ⟨rfl, Ext.refl _⟩
    refine RW_d _ rfl (fun v => by dsimp only [List.set]; try rfl) (fun u hu hF => ?_) (fun v129 => ?_)
    · clear hF
      refine doesG_un rfl ?_
      refine (does_move (u := (Iv ((A_s_.nodes.length : Int) - 1))) (ev rfl)).mono ?_; rintro _ _ ⟨rfl, rfl⟩
      exact ⟨rfl, Ext.refl _⟩
    refine RW_d _ rfl (fun v => by dsimp only [List.set]; try rfl) (fun u hu hF => ?_) (fun v130 => ?_)
    · have h66_ : v128 = (.slice (some ⟨b23, 0, none⟩) A_s_.nodes.length A_s_.nodes.length) := hF.1
      have h67_ : v129 = (Iv ((A_s_.nodes.length : Int) - 1)) := hF.2.1
      clear hF
      refine doesG_un rfl ?_
      obtain rfl := h66_
      obtain rfl := h67_
      refine (does_indexOwn (b := b23) (n := A_s_.nodes.length) (i := (A_s_.nodes.length : Int) - 1) Try.underlying108 Try.sizeOf3 (ev rfl) (ev rfl) (by omega) (by omega)).mono ?_; rintro _ _ ⟨rfl, rfl⟩
      exact ⟨rfl, Ext.refl _⟩
    refine RW_d _ rfl (fun v => by dsimp only [List.set]; try rfl) (fun u hu hF => ?_) (fun v131 => ?_)
    · have h68_ : v130 = (Pt b23 ((((A_s_.nodes.length : Int) - 1).toNat) * 1)) := hF.1
      clear hF
      refine doesG_un rfl ?_
      obtain rfl := h68_
      refine (does_loadRowI (xs := (useTo A_s_.nodes k)) (i := (((A_s_.nodes.length : Int) - 1).toNat)) (e := el4) (ev rfl) Try.isAgg3 (RowG.ext hR42 RI.flat hu) rfl hel4).mono ?_; rintro _ _ ⟨rfl, rfl⟩
      exact ⟨rfl, Ext.refl _⟩
    refine RW_d _ rfl (fun v => by dsimp only [List.set]; try rfl) (fun u hu hF => ?_) (fun v132 => ?_)
    · have h69_ : v131 = (Iv el4) := hF.1
      clear hF
      refine doesG_un rfl ?_
      obtain rfl := h69_
      refine (does_icmp (p := el4) (q := 0) (.inl rfl) (ev rfl) (ev rfl)).mono ?_; rintro _ _ ⟨rfl, rfl⟩
      exact ⟨rfl, Ext.refl _⟩
    refine RW_d _ rfl (fun v => by dsimp only [List.set]; try rfl) (fun u hu hF => ?_) (fun v133 => ?_)
    · have h70_ : v132 = (Bo (icmp .eql el4 0)) := hF.1
      clear hF
      refine doesG_un rfl ?_
      obtain rfl := h70_
      refine (does_move (u := (Bo (icmp .eql el4 0))) (ev rfl)).mono ?_; rintro _ _ ⟨rfl, rfl⟩
      exact ⟨rfl, Ext.refl _⟩
    refine RW_d _ rfl (fun v => by dsimp only [List.set]; try rfl) (fun u hu hF => ?_) (fun v134 => ?_)
    · have h71_ : v133 = (Bo (icmp .eql el4 0)) := hF.1
      clear hF
      obtain rfl := h71_
      refine doesG_g (b := (icmp .eql el4 0)) rfl (yld rfl rfl) (fun hg1 => ?_) (fun hc => ⟨fun hg1 => absurd hg1 hc, Ext.refl _⟩)
      refine (does_move (u := (.slice (some ⟨b23, 0, none⟩) A_s_.nodes.length A_s_.nodes.length)) (ev rfl)).mono ?_; rintro _ _ ⟨rfl, rfl⟩
      exact ⟨fun _ => rfl, Ext.refl _⟩
    refine RW_d _ rfl (fun v => by dsimp only [List.set]; try rfl) (fun u hu hF => ?_) (fun v135 => ?_)
    · have h71_ : v133 = (Bo (icmp .eql el4 0)) := hF.1
      clear hF
      obtain rfl := h71_
      refine doesG_g (b := (icmp .eql el4 0)) rfl (yld rfl rfl) (fun hg1 => ?_) (fun hc => ⟨fun hg1 => absurd hg1 hc, Ext.refl _⟩)
      refine (does_move (u := (Iv ((A_s_.nodes.length : Int) - 1))) (ev rfl)).mono ?_; rintro _ _ ⟨rfl, rfl⟩
      exact ⟨fun _ => rfl, Ext.refl _⟩
    refine RW_d _ rfl (fun v => by dsimp only [List.set]; try rfl) (fun u hu hF => ?_) (fun v136 => ?_)
    · have h72_ : (icmp .eql el4 0) = true → v134 = (.slice (some ⟨b23, 0, none⟩) A_s_.nodes.length A_s_.nodes.length) := hF.1
      have h73_ : (icmp .eql el4 0) = true → v135 = (Iv ((A_s_.nodes.length : Int) - 1)) := hF.2.1
      have h71_ : v133 = (Bo (icmp .eql el4 0)) := hF.2.2.1
      clear hF
      obtain rfl := h71_
      refine doesG_g (b := (icmp .eql el4 0)) rfl (yld rfl rfl) (fun hg1 => ?_) (fun hc => ⟨fun hg1 => absurd hg1 hc, Ext.refl _⟩)
      obtain rfl := h72_ hg1
      obtain rfl := h73_ hg1
      refine (does_sliceTo (R := RI) (k := 1) (xs := (useTo A_s_.nodes k)) (h := ((A_s_.nodes.length : Int) - 1)) Try.underlying108 Try.sizeOf3 (ev rfl) (ev rfl) (RowG.sl (RowG.ext hR42 RI.flat hu) RI.flat (by first | assumption | omega | (simp only [useTo_len, foldI_len, List.length_set, List.length_replicate]; omega) | (simp only [useTo_len, foldI_len, List.length_set, List.length_replicate]; done)) (Nat.le_refl _) (by omega) (by decide)) (by omega) (by first | omega | (simp only [useTo_len]; omega))).mono ?_; rintro v u' ⟨hx, ⟨yn1, hv, k0⟩⟩
      exact ⟨fun _ => ⟨yn1, hv, k0⟩, hx⟩
    refine RW_d _ rfl (fun v => by dsimp only [List.set]; try rfl) (fun u hu hF => ?_) (fun v137 => ?_)
    · have h74_ : (icmp .eql el4 0) = true → ∃ y_1 : Value, v136 = y_1 ∧ Sl RI 1 u y_1 ((useTo A_s_.nodes k).take ((A_s_.nodes.length : Int) - 1).toNat) := hF.1
      have h71_ : v133 = (Bo (icmp .eql el4 0)) := hF.2.1
      clear hF
      obtain rfl := h71_
      refine doesG_g (b := (icmp .eql el4 0)) rfl (yld rfl rfl) (fun hg1 => ?_) (fun hc => ⟨fun hg1 => absurd hg1 hc, Ext.refl _⟩)
      obtain ⟨y74_1, rfl, h74_2⟩ := h74_ hg1
      have hh74_2 := h74_2; obtain ⟨p74_3, q74_4, rfl⟩ := Sl.shape h74_2
      refine (does_call (args := #[(.slice p74_3 (((useTo A_s_.nodes k).take ((A_s_.nodes.length : Int) - 1).toNat).length) q74_4), (.func (.func 60) #[] #[])]) cal59 (evs rfl) (c_slices_ContainsFunc_int_int (.slice p74_3 (((useTo A_s_.nodes k).take ((A_s_.nodes.length : Int) - 1).toNat).length) q74_4) ((useTo A_s_.nodes k).take ((A_s_.nodes.length : Int) - 1).toNat) (.func (.func 60) #[] #[]) (fun x => icmp .neq x 1) _ hh74_2 ⟨60, #[], #[], rfl, cal60, fun n0 u hu'  => by simpa using (c_impl_ValidShape_1 n0 u)⟩)).mono ?_; rintro v u' ⟨hx, hv⟩
      exact ⟨fun _ => hv.trans (by simp only [hβ2]), hx⟩
    refine RW_d _ rfl (fun v => by dsimp only [List.set]; try rfl) (fun u hu hF => ?_) (fun v138 => ?_)
    · have h75_ : (icmp .eql el4 0) = true → v137 = (Bo β2) := hF.1
      have h71_ : v133 = (Bo (icmp .eql el4 0)) := hF.2.1
      clear hF
      obtain rfl := h71_
      refine doesG_g (b := (icmp .eql el4 0)) rfl (yld rfl rfl) (fun hg1 => ?_) (fun hc => ⟨fun hg1 => absurd hg1 hc, Ext.refl _⟩)
      obtain rfl := h75_ hg1
      refine (does_not (ev rfl)).mono ?_; rintro _ _ ⟨rfl, rfl⟩
      exact ⟨fun _ => rfl, Ext.refl _⟩
    refine RW_d _ rfl (fun v => by dsimp only [List.set]; try rfl) (fun u hu hF => ?_) (fun v139 => ?_)
    · have h71_ : v133 = (Bo (icmp .eql el4 0)) := hF.1
      have h76_ : (icmp .eql el4 0) = true → v138 = (Bo (!β2)) := hF.2.1
      clear hF
      refine doesG_un rfl ?_
      skip
      obtain rfl := h71_
      refine (does_pick (b := (icmp .eql el4 0)) (u := v138) (v := (Bo false)) (ev rfl) (ev rfl) (ev rfl)).mono ?_; rintro _ _ ⟨rfl, rfl⟩; refine ⟨?_, Ext.refl _⟩; rw [hβ3]; skip
      cases hbb : (icmp .eql el4 0)
      all_goals first | (show _ = _; simp only [↓reduceIte, Bool.true_and, Bool.false_and, Bool.true_or, Bool.false_or, Bool.false_eq_true]; done) | (have e_ := h76_ hbb; subst e_; show _ = _; simp only [↓reduceIte, Bool.true_and, Bool.false_and, Bool.true_or, Bool.false_or, Bool.false_eq_true]; done) | rfl | (have e_ := h76_ hbb; subst e_; rfl) | (simp [hbb] at h76_ ⊢; first | done | rfl | (subst h76_; rfl) | simp_all) | (simp [hbb] at h76_ ⊢; done)
    refine RW_fin ?_; intro w140 E141 hP142
    obtain ⟨⟨⟨⟨⟨⟨⟨⟨⟨⟨⟨⟨-, -⟩, -⟩, -⟩, -⟩, -⟩, -⟩, -⟩, -⟩, -⟩, -⟩, -⟩, q143⟩ := hP142
    have X144 := Ext.gr X41 E141
    have q143 : v139 = (Bo β3) := q143
    obtain rfl := q143
    show wpList _ _ _ _ (fr [_, _, _, _, _, _, _, _, _, _, _, _, _, _, _, _, _, _, _, _, _, _, _, _, _, _, _, _, _, _, _, _, _, _, _, _, _, _, _, _, _, _, _, _, _, _, _, _, _, _, _, _, _, _, _, _, _, _, _, _, _, _, _, _, _, _, _, _, _, _, _, _, _, _, _, _, _, _]) _
    refine q_is rfl rfl (does_assign (u := (Bo β3)) (ev rfl)) (by dsimp only [List.set]; try rfl) ?_
    refine wpList_nil (hK127 _ _ ?_)
    refine wp_ret ?_
    refine ret_val (v := (Bo β3)) (res_T rfl (slot rfl)) X144 ?_
    try simp only [hβ2, hβ3, hel4] at c19 c45
    have x145 : (isShape A_s_) = β3 := by first | exact isShape_bad hel1 hbd | exact isShape_len (fun hh => by rw [inI_iff.2 hh] at hnb; cases hnb) | exact isShape_last hb hok (by omega) hk (by assumption) | (simp only [hβ2, hβ3, hel4, c19, c45]; exact isShape_last hb hok (by omega) hk (by assumption))
    exact (by first | with_reducible rfl | rw [x145] | rfl)

/- impl.bytesOf -/
theorem c_impl_bytesOf (n_ : Int) (many : Int) (w : World) (hm0 : 0 ≤ many ∧ many ≤ 8) : Gives Try.prog 61 #[(Iv n_), (Iv many)] w (fun v w' => v = (.string (wordS n_ many.toNat))) := by
  refine enter [(Iv n_), (Iv many), Ud, Ud, Ud, Ud, Ud, Ud, Ud, Ud, Ud, Ud, Ud, Ud, Ud, Ud, Ud, Ud, Ud, Ud] Try.func61 rfl Try.ntmps61 rfl ?_
  refine wp_seq_k fun K1 hK1 => ?_
  refine wp_region_lit ?_
  refine q_is (l' := [(Iv n_), (Iv many), Ud, Ud, (.string (⟨#[]⟩)), Ud, Ud, Ud, Ud, Ud, Ud, Ud, Ud, Ud, Ud, Ud, Ud, Ud, Ud, Ud]) rfl rfl (does_assign (u := (.string (⟨#[]⟩))) (ev rfl)) rfl ?_
  refine wpList_nil (hK1 _ _ ?_)
  refine wp_seq_k fun K2 hK2 => ?_
  refine wp_region_lit ?_
  refine seqd rfl rfl (does_slice0 (e := 5) (fun _ => by kernel_rfl)) ?_; rintro _ w8 ⟨b3, rfl, hb4, hl5, hO6, E7⟩
  have X9 := Ext.gr (Ext.refl w) E7
  have hO10 := hO6 _ RU 1
  have hH11 : Hang w.heap.size w8 (fun u => Sl RU 1 u (.slice (some ⟨b3, 0, none⟩) 0 0) ([])) := Own.hang hO10 RU.flat (by decide) hb4 (Below.size E7)
  show wpList _ _ _ _ (fr [(Iv n_), (Iv many), Ud, Ud, (.string (⟨#[]⟩)), Ud, (.slice (some ⟨b3, 0, none⟩) 0 0), Ud, Ud, Ud, Ud, Ud, Ud, Ud, Ud, Ud, Ud, Ud, Ud, Ud]) _
  refine q_is (l' := [(Iv n_), (Iv many), Ud, Ud, (.string (⟨#[]⟩)), (.slice (some ⟨b3, 0, none⟩) 0 0), (.slice (some ⟨b3, 0, none⟩) 0 0), Ud, Ud, Ud, Ud, Ud, Ud, Ud, Ud, Ud, Ud, Ud, Ud, Ud]) rfl rfl (does_assign (u := (.slice (some ⟨b3, 0, none⟩) 0 0)) (ev rfl)) rfl ?_
  refine wpList_nil (hK2 _ _ ?_)
  refine wp_seq_k fun K12 hK12 => ?_
  refine wp_seq_k fun K13 hK13 => ?_
  refine wp_region_lit ?_
  refine q_is (l' := [(Iv n_), (Iv many), Ud, Ud, (.string (⟨#[]⟩)), (.slice (some ⟨b3, 0, none⟩) 0 0), (.slice (some ⟨b3, 0, none⟩) 0 0), (Iv many), Ud, Ud, Ud, Ud, Ud, Ud, Ud, Ud, Ud, Ud, Ud, Ud]) rfl rfl (does_move (u := (Iv many)) (ev rfl)) rfl ?_
  refine q_is (l' := [(Iv n_), (Iv many), Ud, Ud, (.string (⟨#[]⟩)), (.slice (some ⟨b3, 0, none⟩) 0 0), (.slice (some ⟨b3, 0, none⟩) 0 0), (Iv many), (Iv 0), Ud, Ud, Ud, Ud, Ud, Ud, Ud, Ud, Ud, Ud, Ud]) rfl rfl (does_move (u := (Iv 0)) (ev rfl)) rfl ?_
  refine wpList_nil (hK13 _ _ ?_)
  refine wp_block ?_
  obtain ⟨gg15, hg16, hg17, hO18⟩ := Own.start' hO10 hO10
  have hN19 : w.heap.size ≤ gg15 := by rcases hg16 with h | h; exact h ▸ hb4; exact Nat.le_trans (Below.size E7) h
  have g20 : w.heap.size ≤ gg15 := Nat.le_trans (Nat.le_refl _) hN19
  have hg21 : gg15 < w8.heap.size := by rcases hg17 with h | h; exact h ▸ Nat.lt_of_lt_of_le hl5 (Nat.le_refl _); exact h
  refine loop_ghost (σ := Nat) (fun k a w' => ∃ u14 : Nat → Value, ∃ y5 : Value, a = fr [(Iv (shN n_ k)), (Iv many), Ud, Ud, (.string (⟨#[]⟩)), y5, (.slice (some ⟨b3, 0, none⟩) 0 0), (Iv many), (Iv (k : Int)), (u14 9), (u14 10), (u14 11), (u14 12), (u14 13), (u14 14), (u14 15), (u14 16), (u14 17), Ud, Ud] ∧ KpL [gg15] w8 w' ∧ Own RU 1 5 gg15 w8.heap.size w' y5 (wordL n_ k) ∧ ((k : Int) ≤ many)) (fun k => many.toNat - k) 0 ?_ ?_
  · refine ⟨fun t => (([(Iv n_), (Iv many), Ud, Ud, (.string (⟨#[]⟩)), (.slice (some ⟨b3, 0, none⟩) 0 0), (.slice (some ⟨b3, 0, none⟩) 0 0), (Iv many), (Iv 0), Ud, Ud, Ud, Ud, Ud, Ud, Ud, Ud, Ud, Ud, Ud] : List Value)[t]?).getD undef, (.slice (some ⟨b3, 0, none⟩) 0 0), rfl, KpL.refl _ _, (Own.cast hO18 (by rfl)), ?_⟩
    exact hm0.1
  · rintro k a w22 ⟨u14, y5, rfl, E23, hO25, hk⟩
    have X26 := Below.kl X9 E23 (allS g20 all0) (Nat.le_refl _)
    obtain ⟨p27, q28, rfl⟩ := Own.shape hO25
    have hH29 : Hang w.heap.size w22 (fun u => Sl RU 1 u (.slice p27 ((wordL n_ k).length) q28) (wordL n_ k)) := Own.hang hO25 RU.flat (by decide) hN19 (Below.size E7)
    have hwl := wordL_len n_ k
    refine wp_seq_k fun K30 hK30 => ?_
    refine wp_region_lit ?_
    refine q_is (l' := [(Iv (shN n_ k)), (Iv many), Ud, Ud, (.string (⟨#[]⟩)), (.slice p27 ((wordL n_ k).length) q28), (.slice (some ⟨b3, 0, none⟩) 0 0), (Iv many), (Iv (k : Int)), (Bo (icmp .lss (k : Int) many)), (u14 10), (u14 11), (u14 12), (u14 13), (u14 14), (u14 15), (u14 16), (u14 17), Ud, Ud]) rfl rfl (does_icmp (p := (k : Int)) (q := many) (.inr (.inr (.inl rfl))) (ev rfl) (ev rfl)) rfl ?_
    refine wpList_nil (hK30 _ _ ?_)
    refine wp_seq_k fun K31 hK31 => ?_
    refine wp_cond_split (t := icmp .lss (k : Int) many) (ev rfl) (fun c32 => ?_) (fun c32 => ?_)
    · have c32' := c32
      (try simp only [icmp, Bool.and_eq_true, Bool.or_eq_true, Bool.and_eq_false_iff, Bool.or_eq_false_iff, Bool.not_eq_true', Bool.not_eq_false', decide_eq_true_eq, decide_eq_false_iff_not, beq_iff_eq, bne_iff_ne, beq_eq_false_iff_ne, bne_eq_false_iff_eq] at c32')
      refine wp_skip (hK31 _ _ ?_)
      refine wp_seq_k fun K33 hK33 => ?_
      refine wp_block ?_
      refine wp_seq_k fun K34 hK34 => ?_
      refine wp_region_lit ?_
      refine q_is (l' := [(Iv (shN n_ k)), (Iv many), Ud, Ud, (.string (⟨#[]⟩)), (.slice p27 ((wordL n_ k).length) q28), (.slice (some ⟨b3, 0, none⟩) 0 0), (Iv many), (Iv (k : Int)), (Bo (icmp .lss (k : Int) many)), (.slice p27 ((wordL n_ k).length) q28), (u14 11), (u14 12), (u14 13), (u14 14), (u14 15), (u14 16), (u14 17), Ud, Ud]) rfl rfl (does_move (u := (.slice p27 ((wordL n_ k).length) q28)) (ev rfl)) rfl ?_
      refine q_is (l' := [(Iv (shN n_ k)), (Iv many), Ud, Ud, (.string (⟨#[]⟩)), (.slice p27 ((wordL n_ k).length) q28), (.slice (some ⟨b3, 0, none⟩) 0 0), (Iv many), (Iv (k : Int)), (Bo (icmp .lss (k : Int) many)), (.slice p27 ((wordL n_ k).length) q28), (Iv (shN n_ k)), (u14 12), (u14 13), (u14 14), (u14 15), (u14 16), (u14 17), Ud, Ud]) rfl rfl (does_move (u := (Iv (shN n_ k))) (ev rfl)) rfl ?_
      refine q_is (l' := [(Iv (shN n_ k)), (Iv many), Ud, Ud, (.string (⟨#[]⟩)), (.slice p27 ((wordL n_ k).length) q28), (.slice (some ⟨b3, 0, none⟩) 0 0), (Iv many), (Iv (k : Int)), (Bo (icmp .lss (k : Int) many)), (.slice p27 ((wordL n_ k).length) q28), (Iv (shN n_ k)), (Uv (IntKind.u8.wrap (shN n_ k))), (u14 13), (u14 14), (u14 15), (u14 16), (u14 17), Ud, Ud]) rfl rfl (does_conv_ii (r := IntKind.u8.wrap (shN n_ k)) (k := .i64) (k' := .u8) (n := (shN n_ k)) Try.underlying2 Try.underlying5 (ev rfl) rfl) rfl ?_
      refine seqd rfl rfl (does_buildSlice (e := 5) (parts' := [(0, (Uv (IntKind.u8.wrap (shN n_ k))))]) (cells := [(Uv (IntKind.u8.wrap (shN n_ k)))]) (evp rfl) (fun _ => by kernel_rfl)) ?_; rintro _ w39 ⟨b35, rfl, hb36, hB37, E38⟩
      have g40 : w.heap.size ≤ b35 := Nat.le_trans (Below.size X26) hb36
      have X41 := Ext.gr X26 E38
      show wpList _ _ _ _ (fr [(Iv (shN n_ k)), (Iv many), Ud, Ud, (.string (⟨#[]⟩)), (.slice p27 ((wordL n_ k).length) q28), (.slice (some ⟨b3, 0, none⟩) 0 0), (Iv many), (Iv (k : Int)), (Bo (icmp .lss (k : Int) many)), (.slice p27 ((wordL n_ k).length) q28), (Iv (shN n_ k)), (Uv (IntKind.u8.wrap (shN n_ k))), (.slice (some ⟨b35, 0, none⟩) 1 1), (u14 14), (u14 15), (u14 16), (u14 17), Ud, Ud]) _
      refine seqd rfl rfl (does_append (R := RU) (k := 1) (g0 := gg15) (B := w8.heap.size) (xs := (wordL n_ k)) (ys := [IntKind.u8.wrap (shN n_ k)]) Try.underlying136 inf5 rfl (by decide) (ev rfl) (ev rfl) (Own.same hO25 RU.flat ((Same.refl _ _).ext E38) hN19 (Below.size E7)) RU.flat hB37 rfl rfl rfl (fun i x hi => lit1 (R := RU) (cs := [(Uv (IntKind.u8.wrap (shN n_ k)))]) (y := IntKind.u8.wrap (shN n_ k))  rfl i x hi) (by first | (simp only [List.length_append, List.length_cons, List.length_nil]; omega) | omega) (Nat.le_trans (KpL.size E23) (Below.size E38))) ?_; rintro y' w42 ⟨gg43, hg44, K45, hO46⟩
      have hN47 : w.heap.size ≤ gg43 := by rcases hg44 with h | h; exact h ▸ hN19; exact Nat.le_trans (Below.size E7) h
      have g48 : w.heap.size ≤ gg43 := Nat.le_trans (Nat.le_refl _) hN47
      have X49 := Below.kl X41 K45 (allS g48 all0) (Nat.le_refl _)
      obtain ⟨p50, q51, rfl⟩ := Own.shape hO46
      have hH52 : Hang w.heap.size w42 (fun u => Sl RU 1 u (.slice p50 (((wordL n_ k) ++ [IntKind.u8.wrap (shN n_ k)]).length) q51) ((wordL n_ k) ++ [IntKind.u8.wrap (shN n_ k)])) := Own.hang hO46 RU.flat (by decide) hN19 (Below.size E7)
      show wpList _ _ _ _ (fr [(Iv (shN n_ k)), (Iv many), Ud, Ud, (.string (⟨#[]⟩)), (.slice p27 ((wordL n_ k).length) q28), (.slice (some ⟨b3, 0, none⟩) 0 0), (Iv many), (Iv (k : Int)), (Bo (icmp .lss (k : Int) many)), (.slice p27 ((wordL n_ k).length) q28), (Iv (shN n_ k)), (Uv (IntKind.u8.wrap (shN n_ k))), (.slice (some ⟨b35, 0, none⟩) 1 1), (.slice p50 (((wordL n_ k) ++ [IntKind.u8.wrap (shN n_ k)]).length) q51), (u14 15), (u14 16), (u14 17), Ud, Ud]) _
      refine q_is (l' := [(Iv (shN n_ k)), (Iv many), Ud, Ud, (.string (⟨#[]⟩)), (.slice p50 (((wordL n_ k) ++ [IntKind.u8.wrap (shN n_ k)]).length) q51), (.slice (some ⟨b3, 0, none⟩) 0 0), (Iv many), (Iv (k : Int)), (Bo (icmp .lss (k : Int) many)), (.slice p27 ((wordL n_ k).length) q28), (Iv (shN n_ k)), (Uv (IntKind.u8.wrap (shN n_ k))), (.slice (some ⟨b35, 0, none⟩) 1 1), (.slice p50 (((wordL n_ k) ++ [IntKind.u8.wrap (shN n_ k)]).length) q51), (u14 15), (u14 16), (u14 17), Ud, Ud]) rfl rfl (does_assign (u := (.slice p50 (((wordL n_ k) ++ [IntKind.u8.wrap (shN n_ k)]).length) q51)) (ev rfl)) rfl ?_
      refine wpList_nil (hK34 _ _ ?_)
      refine wp_region_lit ?_
      refine q_is (l' := [(Iv (shN n_ k)), (Iv many), Ud, Ud, (.string (⟨#[]⟩)), (.slice p50 (((wordL n_ k) ++ [IntKind.u8.wrap (shN n_ k)]).length) q51), (.slice (some ⟨b3, 0, none⟩) 0 0), (Iv many), (Iv (k : Int)), (Bo (icmp .lss (k : Int) many)), (.slice p27 ((wordL n_ k).length) q28), (Iv (shN n_ k)), (Uv (IntKind.u8.wrap (shN n_ k))), (.slice (some ⟨b35, 0, none⟩) 1 1), (.slice p50 (((wordL n_ k) ++ [IntKind.u8.wrap (shN n_ k)]).length) q51), (Iv (shN n_ k)), (u14 16), (u14 17), Ud, Ud]) rfl rfl (does_move (u := (Iv (shN n_ k))) (ev rfl)) rfl ?_
      refine q_is (l' := [(Iv (shN n_ k)), (Iv many), Ud, Ud, (.string (⟨#[]⟩)), (.slice p50 (((wordL n_ k) ++ [IntKind.u8.wrap (shN n_ k)]).length) q51), (.slice (some ⟨b3, 0, none⟩) 0 0), (Iv many), (Iv (k : Int)), (Bo (icmp .lss (k : Int) many)), (.slice p27 ((wordL n_ k).length) q28), (Iv (shN n_ k)), (Uv (IntKind.u8.wrap (shN n_ k))), (.slice (some ⟨b35, 0, none⟩) 1 1), (.slice p50 (((wordL n_ k) ++ [IntKind.u8.wrap (shN n_ k)]).length) q51), (Iv (shN n_ k)), (Iv ((shN n_ k) / 2 ^ (8 : Int).toNat)), (u14 17), Ud, Ud]) rfl rfl (does_shr (p := (shN n_ k)) (c := 8) (ev rfl) (ev rfl) (by omega) (by omega)) rfl ?_
      refine q_is (l' := [(Iv ((shN n_ k) / 2 ^ (8 : Int).toNat)), (Iv many), Ud, Ud, (.string (⟨#[]⟩)), (.slice p50 (((wordL n_ k) ++ [IntKind.u8.wrap (shN n_ k)]).length) q51), (.slice (some ⟨b3, 0, none⟩) 0 0), (Iv many), (Iv (k : Int)), (Bo (icmp .lss (k : Int) many)), (.slice p27 ((wordL n_ k).length) q28), (Iv (shN n_ k)), (Uv (IntKind.u8.wrap (shN n_ k))), (.slice (some ⟨b35, 0, none⟩) 1 1), (.slice p50 (((wordL n_ k) ++ [IntKind.u8.wrap (shN n_ k)]).length) q51), (Iv (shN n_ k)), (Iv ((shN n_ k) / 2 ^ (8 : Int).toNat)), (u14 17), Ud, Ud]) rfl rfl (does_assign (u := (Iv ((shN n_ k) / 2 ^ (8 : Int).toNat))) (ev rfl)) rfl ?_
      refine wpList_nil (hK33 _ _ ?_)
      refine wp_region_lit ?_
      refine q_is (l' := [(Iv ((shN n_ k) / 2 ^ (8 : Int).toNat)), (Iv many), Ud, Ud, (.string (⟨#[]⟩)), (.slice p50 (((wordL n_ k) ++ [IntKind.u8.wrap (shN n_ k)]).length) q51), (.slice (some ⟨b3, 0, none⟩) 0 0), (Iv many), (Iv (k : Int)), (Bo (icmp .lss (k : Int) many)), (.slice p27 ((wordL n_ k).length) q28), (Iv (shN n_ k)), (Uv (IntKind.u8.wrap (shN n_ k))), (.slice (some ⟨b35, 0, none⟩) 1 1), (.slice p50 (((wordL n_ k) ++ [IntKind.u8.wrap (shN n_ k)]).length) q51), (Iv (shN n_ k)), (Iv ((shN n_ k) / 2 ^ (8 : Int).toNat)), (Iv ((k : Int) + 1)), Ud, Ud]) rfl rfl (does_iarith (p := (k : Int)) (q := 1) (r := (k : Int) + 1) (ev rfl) (ev rfl) (.inl ⟨rfl, (in_i64 (by omega) (by omega)).symm⟩)) rfl ?_
      refine q_is (l' := [(Iv ((shN n_ k) / 2 ^ (8 : Int).toNat)), (Iv many), Ud, Ud, (.string (⟨#[]⟩)), (.slice p50 (((wordL n_ k) ++ [IntKind.u8.wrap (shN n_ k)]).length) q51), (.slice (some ⟨b3, 0, none⟩) 0 0), (Iv many), (Iv ((k : Int) + 1)), (Bo (icmp .lss (k : Int) many)), (.slice p27 ((wordL n_ k).length) q28), (Iv (shN n_ k)), (Uv (IntKind.u8.wrap (shN n_ k))), (.slice (some ⟨b35, 0, none⟩) 1 1), (.slice p50 (((wordL n_ k) ++ [IntKind.u8.wrap (shN n_ k)]).length) q51), (Iv (shN n_ k)), (Iv ((shN n_ k) / 2 ^ (8 : Int).toNat)), (Iv ((k : Int) + 1)), Ud, Ud]) rfl rfl (does_move (u := (Iv ((k : Int) + 1))) (ev rfl)) rfl ?_
      refine wpList_nil ?_
      have hO53 := Own.cast (ys := ((fun (k : Nat) => wordL n_ k) (k + 1))) hO46 (by (try dsimp only); exact wordN)
      refine ⟨k + 1, ⟨fun t => (([(Iv ((shN n_ k) / 2 ^ (8 : Int).toNat)), (Iv many), Ud, Ud, (.string (⟨#[]⟩)), (.slice p50 (((wordL n_ k) ++ [IntKind.u8.wrap (shN n_ k)]).length) q51), (.slice (some ⟨b3, 0, none⟩) 0 0), (Iv many), (Iv ((k : Int) + 1)), (Bo (icmp .lss (k : Int) many)), (.slice p27 ((wordL n_ k).length) q28), (Iv (shN n_ k)), (Uv (IntKind.u8.wrap (shN n_ k))), (.slice (some ⟨b35, 0, none⟩) 1 1), (.slice p50 (((wordL n_ k) ++ [IntKind.u8.wrap (shN n_ k)]).length) q51), (Iv (shN n_ k)), (Iv ((shN n_ k) / 2 ^ (8 : Int).toNat)), (Iv ((k : Int) + 1)), Ud, Ud] : List Value)[t]?).getD undef, (.slice p50 (((wordL n_ k) ++ [IntKind.u8.wrap (shN n_ k)]).length) q51), ?_, (KpL.more (KpL.ext E23 E38) K45 (allS (hg44.imp (fun h => by simp [h]) id) all0)), hO53, ?_⟩, ?_⟩
      · first | rfl | (simp only [Int.natCast_add, Int.natCast_one]; rfl)
      · omega
      · omega
    have c32' := c32
    (try simp only [icmp, Bool.and_eq_true, Bool.or_eq_true, Bool.and_eq_false_iff, Bool.or_eq_false_iff, Bool.not_eq_true', Bool.not_eq_false', decide_eq_true_eq, decide_eq_false_iff_not, beq_iff_eq, bne_iff_ne, beq_eq_false_iff_ne, bne_eq_false_iff_eq] at c32')
    refine wp_exit ?_
    refine hK12 _ _ ?_
    refine wp_seq_k fun K54 hK54 => ?_
    refine wp_region_lit ?_
    refine q_is (l' := [(Iv (shN n_ k)), (Iv many), Ud, Ud, (.string (⟨#[]⟩)), (.slice p27 ((wordL n_ k).length) q28), (.slice (some ⟨b3, 0, none⟩) 0 0), (Iv many), (Iv (k : Int)), (Bo (icmp .lss (k : Int) many)), (u14 10), (u14 11), (u14 12), (u14 13), (u14 14), (u14 15), (u14 16), (u14 17), (.slice p27 ((wordL n_ k).length) q28), Ud]) rfl rfl (does_move (u := (.slice p27 ((wordL n_ k).length) q28)) (ev rfl)) rfl ?_
    refine q_is (l' := [(Iv (shN n_ k)), (Iv many), Ud, Ud, (.string (⟨#[]⟩)), (.slice p27 ((wordL n_ k).length) q28), (.slice (some ⟨b3, 0, none⟩) 0 0), (Iv many), (Iv (k : Int)), (Bo (icmp .lss (k : Int) many)), (u14 10), (u14 11), (u14 12), (u14 13), (u14 14), (u14 15), (u14 16), (u14 17), (.slice p27 ((wordL n_ k).length) q28), (.string (strOfNums (wordL n_ k)))]) rfl rfl (does_conv_bytes (xs := (wordL n_ k)) Try.underlying136 Try.underlying5 Try.underlying9 (ev rfl) hH29.get) rfl ?_
    refine q_is (l' := [(Iv (shN n_ k)), (Iv many), Ud, Ud, (.string (strOfNums (wordL n_ k))), (.slice p27 ((wordL n_ k).length) q28), (.slice (some ⟨b3, 0, none⟩) 0 0), (Iv many), (Iv (k : Int)), (Bo (icmp .lss (k : Int) many)), (u14 10), (u14 11), (u14 12), (u14 13), (u14 14), (u14 15), (u14 16), (u14 17), (.slice p27 ((wordL n_ k).length) q28), (.string (strOfNums (wordL n_ k)))]) rfl rfl (does_assign (u := (.string (strOfNums (wordL n_ k)))) (ev rfl)) rfl ?_
    refine wpList_nil (hK54 _ _ ?_)
    refine wp_ret ?_
    refine ret_val (v := (.string (strOfNums (wordL n_ k)))) (res_T rfl (slot rfl)) X26 ?_
    have x55 : (wordS n_ many.toNat) = (strOfNums (wordL n_ k)) := by (rw [show many.toNat = k by omega] <;> rfl)
    exact (by first | with_reducible rfl | rw [x55] | rfl)

/- impl.isNaN -/
theorem c_impl_isNaN (x : Nat) (w : World) : Gives Try.prog 104 #[(Fl x)] w (fun v w' => v = (Bo (fcmp .neq (ford .f32 (cf .f32 x) (cf .f32 x))))) := by
  refine enter [(Fl x), Ud, Ud, Ud, Ud, Ud] Try.func104 rfl Try.ntmps104 rfl ?_
  refine wp_seq_k fun K1 hK1 => ?_
  refine wp_region_lit ?_
  refine q_is (l' := [(Fl x), Ud, (Bo false), Ud, Ud, Ud]) rfl rfl (does_assign (u := (Bo false)) (ev rfl)) rfl ?_
  refine wpList_nil (hK1 _ _ ?_)
  refine wp_seq_k fun K2 hK2 => ?_
  refine wp_region_lit ?_
  refine q_is (l' := [(Fl x), Ud, (Bo false), (Fl x), Ud, Ud]) rfl rfl (does_move (u := (Fl x)) (ev rfl)) rfl ?_
  refine q_is (l' := [(Fl x), Ud, (Bo false), (Fl x), (Fl x), Ud]) rfl rfl (does_move (u := (Fl x)) (ev rfl)) rfl ?_
  refine q_is (l' := [(Fl x), Ud, (Bo false), (Fl x), (Fl x), (Bo (fcmp .neq (ford .f32 (cf .f32 x) (cf .f32 x))))]) rfl rfl (does_fcmp (.inr (.inl rfl)) (ev rfl) (ev rfl)) rfl ?_
  refine q_is (l' := [(Fl x), Ud, (Bo (fcmp .neq (ford .f32 (cf .f32 x) (cf .f32 x)))), (Fl x), (Fl x), (Bo (fcmp .neq (ford .f32 (cf .f32 x) (cf .f32 x))))]) rfl rfl (does_assign (u := (Bo (fcmp .neq (ford .f32 (cf .f32 x) (cf .f32 x))))) (ev rfl)) rfl ?_
  refine wpList_nil (hK2 _ _ ?_)
  refine wp_ret ?_
  refine ret_val (v := (Bo (fcmp .neq (ford .f32 (cf .f32 x) (cf .f32 x))))) (res_T rfl (slot rfl)) (Ext.refl w) ?_
  exact rfl

/- impl.BitsOf -/
theorem c_impl_BitsOf (x_ : Nat) (w : World) : Gives Try.prog 89 #[(Fl x_)] w (fun v w' => v = (Iv (bitsF (cf .f32 x_)))) := by
  refine enter [(Fl x_), Ud, Ud, Ud, Ud, Ud, Ud, Ud] Try.func89 rfl Try.ntmps89 rfl ?_
  refine wp_seq_k fun K1 hK1 => ?_
  refine wp_region_lit ?_
  refine q_is (l' := [(Fl x_), Ud, (Iv 0), Ud, Ud, Ud, Ud, Ud]) rfl rfl (does_assign (u := (Iv 0)) (ev rfl)) rfl ?_
  refine wpList_nil (hK1 _ _ ?_)
  refine wp_seq_k fun K2 hK2 => ?_
  refine wp_seq_k fun K3 hK3 => ?_
  refine wp_region_lit ?_
  refine q_is (l' := [(Fl x_), Ud, (Iv 0), (Fl x_), Ud, Ud, Ud, Ud]) rfl rfl (does_move (u := (Fl x_)) (ev rfl)) rfl ?_
  refine seqd rfl rfl (does_call (args := #[(Fl x_)]) cal104 (evs rfl) (c_impl_isNaN x_ _)) ?_; rintro _ w5 ⟨E4, rfl⟩
  have X6 := Ext.gr (Ext.refl w) E4
  show wpList _ _ _ _ (fr [(Fl x_), Ud, (Iv 0), (Fl x_), (Bo (fcmp .neq (ford .f32 (cf .f32 x_) (cf .f32 x_)))), Ud, Ud, Ud]) _
  refine wpList_nil (hK3 _ _ ?_)
  refine wp_cond_split (t := fcmp .neq (ford .f32 (cf .f32 x_) (cf .f32 x_))) (ev rfl) (fun c7 => ?_) (fun c7 => ?_)
  · have c7' := c7
    refine wp_seq_k fun K8 hK8 => ?_
    refine wp_region_lit ?_
    refine q_is (l' := [(Fl x_), Ud, (Iv 2143289344), (Fl x_), (Bo (fcmp .neq (ford .f32 (cf .f32 x_) (cf .f32 x_)))), Ud, Ud, Ud]) rfl rfl (does_assign (u := (Iv 2143289344)) (ev rfl)) rfl ?_
    refine wpList_nil (hK8 _ _ ?_)
    refine wp_ret ?_
    dsimp only [Exit.then, Exit.inBlock]
    refine ret_val (v := (Iv 2143289344)) (res_T rfl (slot rfl)) X6 ?_
    have x9 : (bitsF (cf .f32 x_) : Int) = 2143289344 := by first | exact bits_nan (by assumption) | exact bits_num (by assumption)
    exact (by first | with_reducible rfl | rw [x9] | rfl)
  have c7' := c7
  refine wp_skip (hK2 _ _ ?_)
  refine wp_seq_k fun K10 hK10 => ?_
  refine wp_region_lit ?_
  refine q_is (l' := [(Fl x_), Ud, (Iv 0), (Fl x_), (Bo (fcmp .neq (ford .f32 (cf .f32 x_) (cf .f32 x_)))), (Fl x_), Ud, Ud]) rfl rfl (does_move (u := (Fl x_)) (ev rfl)) rfl ?_
  refine q_is (l' := [(Fl x_), Ud, (Iv 0), (Fl x_), (Bo (fcmp .neq (ford .f32 (cf .f32 x_) (cf .f32 x_)))), (Fl x_), (.int .u32 (x_ : Int)), Ud]) rfl rfl (does_bits (p := x_) (ev rfl) cfb102) rfl ?_
  refine q_is (l' := [(Fl x_), Ud, (Iv 0), (Fl x_), (Bo (fcmp .neq (ford .f32 (cf .f32 x_) (cf .f32 x_)))), (Fl x_), (.int .u32 (x_ : Int)), (Iv (IntKind.i64.wrap (x_ : Int)))]) rfl rfl (does_conv_ii (r := IntKind.i64.wrap (x_ : Int)) (k := .u32) (k' := .i64) (n := (x_ : Int)) Try.underlying152 Try.underlying2 (ev rfl) rfl) rfl ?_
  refine q_is (l' := [(Fl x_), Ud, (Iv (IntKind.i64.wrap (x_ : Int))), (Fl x_), (Bo (fcmp .neq (ford .f32 (cf .f32 x_) (cf .f32 x_)))), (Fl x_), (.int .u32 (x_ : Int)), (Iv (IntKind.i64.wrap (x_ : Int)))]) rfl rfl (does_assign (u := (Iv (IntKind.i64.wrap (x_ : Int)))) (ev rfl)) rfl ?_
  refine wpList_nil (hK10 _ _ ?_)
  refine wp_ret ?_
  refine ret_val (v := (Iv (IntKind.i64.wrap (x_ : Int)))) (res_T rfl (slot rfl)) X6 ?_
  have x11 : (bitsF (cf .f32 x_) : Int) = (IntKind.i64.wrap (x_ : Int)) := by first | exact bits_nan (by assumption) | exact bits_num (by assumption)
  exact (by first | with_reducible rfl | rw [x11] | rfl)

/- impl.floats -/
theorem c_impl_floats (xs : Value) (L_xs : List Nat) (w : World) (hv_xs : Sl RF 1 w xs L_xs) (hfl : L_xs.length ≤ 1000000) : Gives Try.prog 62 #[xs] w (fun v w' => v = (.string (fltS L_xs L_xs.length))) := by
  have hlen_xs := Sl.len hv_xs; obtain ⟨p_xs, q_xs, rfl⟩ := Sl.shape hv_xs
  refine enter [(.slice p_xs L_xs.length q_xs), Ud, Ud, Ud, Ud, Ud, Ud, Ud, Ud, Ud, Ud, Ud, Ud, Ud, Ud, Ud, Ud, Ud, Ud] Try.func62 rfl Try.ntmps62 rfl ?_
  refine wp_seq_k fun K1 hK1 => ?_
  refine wp_region_lit ?_
  refine q_is (l' := [(.slice p_xs L_xs.length q_xs), Ud, (.string (⟨#[]⟩)), Ud, Ud, Ud, Ud, Ud, Ud, Ud, Ud, Ud, Ud, Ud, Ud, Ud, Ud, Ud, Ud]) rfl rfl (does_assign (u := (.string (⟨#[]⟩))) (ev rfl)) rfl ?_
  refine wpList_nil (hK1 _ _ ?_)
  refine wp_seq_k fun K2 hK2 => ?_
  refine wp_region_lit ?_
  refine q_is (l' := [(.slice p_xs L_xs.length q_xs), Ud, (.string (⟨#[]⟩)), (.string (⟨#[]⟩)), Ud, Ud, Ud, Ud, Ud, Ud, Ud, Ud, Ud, Ud, Ud, Ud, Ud, Ud, Ud]) rfl rfl (does_assign (u := (.string (⟨#[]⟩))) (ev rfl)) rfl ?_
  refine wpList_nil (hK2 _ _ ?_)
  refine wp_seq_k fun K3 hK3 => ?_
  refine wp_seq_k fun K4 hK4 => ?_
  refine wp_region_lit ?_
  refine q_is (l' := [(.slice p_xs L_xs.length q_xs), Ud, (.string (⟨#[]⟩)), (.string (⟨#[]⟩)), Ud, Ud, (.slice p_xs L_xs.length q_xs), Ud, Ud, Ud, Ud, Ud, Ud, Ud, Ud, Ud, Ud, Ud, Ud]) rfl rfl (does_move (u := (.slice p_xs L_xs.length q_xs)) (ev rfl)) rfl ?_
  refine q_is (l' := [(.slice p_xs L_xs.length q_xs), Ud, (.string (⟨#[]⟩)), (.string (⟨#[]⟩)), Ud, Ud, (.slice p_xs L_xs.length q_xs), (Iv (L_xs.length : Int)), Ud, Ud, Ud, Ud, Ud, Ud, Ud, Ud, Ud, Ud, Ud]) rfl rfl (does_len_slice Try.underlying97 (ev rfl)) rfl ?_
  refine q_is (l' := [(.slice p_xs L_xs.length q_xs), Ud, (.string (⟨#[]⟩)), (.string (⟨#[]⟩)), Ud, Ud, (.slice p_xs L_xs.length q_xs), (Iv (L_xs.length : Int)), (Iv 0), Ud, Ud, Ud, Ud, Ud, Ud, Ud, Ud, Ud, Ud]) rfl rfl (does_move (u := (Iv 0)) (ev rfl)) rfl ?_
  refine wpList_nil (hK4 _ _ ?_)
  refine wp_block ?_
  refine loop_ghost (σ := Nat) (fun k a w' => ∃ u5 : Nat → Value, a = fr [(.slice p_xs L_xs.length q_xs), Ud, (.string (⟨#[]⟩)), (.string (fltS L_xs k)), Ud, (u5 5), (.slice p_xs L_xs.length q_xs), (Iv (L_xs.length : Int)), (Iv (k : Int)), (u5 9), (u5 10), (u5 11), (u5 12), (u5 13), (u5 14), (u5 15), (u5 16), (u5 17), Ud] ∧ Ext w w' ∧ (k ≤ L_xs.length)) (fun k => L_xs.length - k) 0 ?_ ?_
  · refine ⟨fun t => (([(.slice p_xs L_xs.length q_xs), Ud, (.string (⟨#[]⟩)), (.string (⟨#[]⟩)), Ud, Ud, (.slice p_xs L_xs.length q_xs), (Iv (L_xs.length : Int)), (Iv 0), Ud, Ud, Ud, Ud, Ud, Ud, Ud, Ud, Ud, Ud] : List Value)[t]?).getD undef, rfl, Ext.refl _, ?_⟩
    exact Nat.zero_le _
  · rintro k a w6 ⟨u5, rfl, E7, hk⟩
    have X9 := Ext.gr (Ext.refl w) E7
    have hfz := fltS_size L_xs k
    refine wp_seq_k fun K10 hK10 => ?_
    refine wp_region_lit ?_
    refine q_is (l' := [(.slice p_xs L_xs.length q_xs), Ud, (.string (⟨#[]⟩)), (.string (fltS L_xs k)), Ud, (u5 5), (.slice p_xs L_xs.length q_xs), (Iv (L_xs.length : Int)), (Iv (k : Int)), (Bo (icmp .lss (k : Int) (L_xs.length : Int))), (u5 10), (u5 11), (u5 12), (u5 13), (u5 14), (u5 15), (u5 16), (u5 17), Ud]) rfl rfl (does_icmp (p := (k : Int)) (q := (L_xs.length : Int)) (.inr (.inr (.inl rfl))) (ev rfl) (ev rfl)) rfl ?_
    refine wpList_nil (hK10 _ _ ?_)
    refine wp_seq_k fun K11 hK11 => ?_
    refine wp_cond_split (t := icmp .lss (k : Int) (L_xs.length : Int)) (ev rfl) (fun c12 => ?_) (fun c12 => ?_)
    · have c12' := c12
      (try simp only [icmp, Bool.and_eq_true, Bool.or_eq_true, Bool.and_eq_false_iff, Bool.or_eq_false_iff, Bool.not_eq_true', Bool.not_eq_false', decide_eq_true_eq, decide_eq_false_iff_not, beq_iff_eq, bne_iff_ne, beq_eq_false_iff_ne, bne_eq_false_iff_eq] at c12')
      refine wp_skip (hK11 _ _ ?_)
      refine wp_seq_k fun K13 hK13 => ?_
      refine wp_block ?_
      refine wp_seq_k fun K14 hK14 => ?_
      refine wp_region_lit ?_
      obtain ⟨el1, hel1⟩ : ∃ e, L_xs[k]? = some e := ⟨_, List.getElem?_eq_getElem (by omega)⟩
      refine seqd rfl rfl (does_indexSl (R := RF) (i := (k : Int)) (xs := L_xs) (e := el1) Try.underlying97 Try.sizeOf38 (ev rfl) (ev rfl) (Sl.ext hv_xs RF.mono X9) (by omega) hel1) ?_; rintro _ w6 ⟨b15, o16, _, rfl, hc18, ⟨r19, rfl, h20⟩, rfl⟩
      show wpList _ _ _ _ (fr [(.slice p_xs L_xs.length q_xs), Ud, (.string (⟨#[]⟩)), (.string (fltS L_xs k)), Ud, (u5 5), (.slice p_xs L_xs.length q_xs), (Iv (L_xs.length : Int)), (Iv (k : Int)), (Bo (icmp .lss (k : Int) (L_xs.length : Int))), (Pt b15 o16), (u5 11), (u5 12), (u5 13), (u5 14), (u5 15), (u5 16), (u5 17), Ud]) _
      refine q_is (l' := [(.slice p_xs L_xs.length q_xs), Ud, (.string (⟨#[]⟩)), (.string (fltS L_xs k)), Ud, (u5 5), (.slice p_xs L_xs.length q_xs), (Iv (L_xs.length : Int)), (Iv (k : Int)), (Bo (icmp .lss (k : Int) (L_xs.length : Int))), (Pt b15 o16), (Fl r19), (u5 12), (u5 13), (u5 14), (u5 15), (u5 16), (u5 17), Ud]) rfl rfl (does_load (u := (Fl r19)) (ev rfl) Try.isAgg38 (Cells.at hc18 0 rfl)) rfl ?_
      refine q_is (l' := [(.slice p_xs L_xs.length q_xs), Ud, (.string (⟨#[]⟩)), (.string (fltS L_xs k)), Ud, (Fl r19), (.slice p_xs L_xs.length q_xs), (Iv (L_xs.length : Int)), (Iv (k : Int)), (Bo (icmp .lss (k : Int) (L_xs.length : Int))), (Pt b15 o16), (Fl r19), (u5 12), (u5 13), (u5 14), (u5 15), (u5 16), (u5 17), Ud]) rfl rfl (does_assign (u := (Fl r19)) (ev rfl)) rfl ?_
      refine wpList_nil (hK14 _ _ ?_)
      refine wp_region_lit ?_
      refine q_is (l' := [(.slice p_xs L_xs.length q_xs), Ud, (.string (⟨#[]⟩)), (.string (fltS L_xs k)), Ud, (Fl r19), (.slice p_xs L_xs.length q_xs), (Iv (L_xs.length : Int)), (Iv (k : Int)), (Bo (icmp .lss (k : Int) (L_xs.length : Int))), (Pt b15 o16), (Fl r19), (.string (fltS L_xs k)), (u5 13), (u5 14), (u5 15), (u5 16), (u5 17), Ud]) rfl rfl (does_move (u := (.string (fltS L_xs k))) (ev rfl)) rfl ?_
      refine q_is (l' := [(.slice p_xs L_xs.length q_xs), Ud, (.string (⟨#[]⟩)), (.string (fltS L_xs k)), Ud, (Fl r19), (.slice p_xs L_xs.length q_xs), (Iv (L_xs.length : Int)), (Iv (k : Int)), (Bo (icmp .lss (k : Int) (L_xs.length : Int))), (Pt b15 o16), (Fl r19), (.string (fltS L_xs k)), (Fl r19), (u5 14), (u5 15), (u5 16), (u5 17), Ud]) rfl rfl (does_move (u := (Fl r19)) (ev rfl)) rfl ?_
      refine seqd rfl rfl (does_call (args := #[(Fl r19)]) cal89 (evs rfl) (c_impl_BitsOf r19 _)) ?_; rintro _ w22 ⟨E21, rfl⟩
      have X23 := Ext.gr X9 E21
      show wpList _ _ _ _ (fr [(.slice p_xs L_xs.length q_xs), Ud, (.string (⟨#[]⟩)), (.string (fltS L_xs k)), Ud, (Fl r19), (.slice p_xs L_xs.length q_xs), (Iv (L_xs.length : Int)), (Iv (k : Int)), (Bo (icmp .lss (k : Int) (L_xs.length : Int))), (Pt b15 o16), (Fl r19), (.string (fltS L_xs k)), (Fl r19), (Iv (bitsF (cf .f32 r19))), (u5 15), (u5 16), (u5 17), Ud]) _
      refine seqd rfl rfl (does_call (args := #[(Iv (bitsF (cf .f32 r19))), (Iv 4)]) cal61 (evs rfl) (c_impl_bytesOf (bitsF (cf .f32 r19)) 4 _ (by omega))) ?_; rintro _ w25 ⟨E24, rfl⟩
      have X26 := Ext.gr X23 E24
      show wpList _ _ _ _ (fr [(.slice p_xs L_xs.length q_xs), Ud, (.string (⟨#[]⟩)), (.string (fltS L_xs k)), Ud, (Fl r19), (.slice p_xs L_xs.length q_xs), (Iv (L_xs.length : Int)), (Iv (k : Int)), (Bo (icmp .lss (k : Int) (L_xs.length : Int))), (Pt b15 o16), (Fl r19), (.string (fltS L_xs k)), (Fl r19), (Iv (bitsF (cf .f32 r19))), (.string (wordS (bitsF (cf .f32 r19)) (4 : Int).toNat)), (u5 16), (u5 17), Ud]) _
      refine q_is (l' := [(.slice p_xs L_xs.length q_xs), Ud, (.string (⟨#[]⟩)), (.string (fltS L_xs k)), Ud, (Fl r19), (.slice p_xs L_xs.length q_xs), (Iv (L_xs.length : Int)), (Iv (k : Int)), (Bo (icmp .lss (k : Int) (L_xs.length : Int))), (Pt b15 o16), (Fl r19), (.string (fltS L_xs k)), (Fl r19), (Iv (bitsF (cf .f32 r19))), (.string (wordS (bitsF (cf .f32 r19)) (4 : Int).toNat)), (.string ((fltS L_xs k) ++ (wordS (bitsF (cf .f32 r19)) (4 : Int).toNat))), (u5 17), Ud]) rfl rfl (does_sadd (p := (fltS L_xs k)) (q := (wordS (bitsF (cf .f32 r19)) (4 : Int).toNat)) (ev rfl) (ev rfl) (by first | omega | (simp only [wordS_size, fltS_size, wordT4]; omega))) rfl ?_
      refine q_is (l' := [(.slice p_xs L_xs.length q_xs), Ud, (.string (⟨#[]⟩)), (.string ((fltS L_xs k) ++ (wordS (bitsF (cf .f32 r19)) (4 : Int).toNat))), Ud, (Fl r19), (.slice p_xs L_xs.length q_xs), (Iv (L_xs.length : Int)), (Iv (k : Int)), (Bo (icmp .lss (k : Int) (L_xs.length : Int))), (Pt b15 o16), (Fl r19), (.string (fltS L_xs k)), (Fl r19), (Iv (bitsF (cf .f32 r19))), (.string (wordS (bitsF (cf .f32 r19)) (4 : Int).toNat)), (.string ((fltS L_xs k) ++ (wordS (bitsF (cf .f32 r19)) (4 : Int).toNat))), (u5 17), Ud]) rfl rfl (does_assign (u := (.string ((fltS L_xs k) ++ (wordS (bitsF (cf .f32 r19)) (4 : Int).toNat)))) (ev rfl)) rfl ?_
      refine wpList_nil (hK13 _ _ ?_)
      refine wp_region_lit ?_
      refine q_is (l' := [(.slice p_xs L_xs.length q_xs), Ud, (.string (⟨#[]⟩)), (.string ((fltS L_xs k) ++ (wordS (bitsF (cf .f32 r19)) (4 : Int).toNat))), Ud, (Fl r19), (.slice p_xs L_xs.length q_xs), (Iv (L_xs.length : Int)), (Iv (k : Int)), (Bo (icmp .lss (k : Int) (L_xs.length : Int))), (Pt b15 o16), (Fl r19), (.string (fltS L_xs k)), (Fl r19), (Iv (bitsF (cf .f32 r19))), (.string (wordS (bitsF (cf .f32 r19)) (4 : Int).toNat)), (.string ((fltS L_xs k) ++ (wordS (bitsF (cf .f32 r19)) (4 : Int).toNat))), (Iv ((k : Int) + 1)), Ud]) rfl rfl (does_iarith (p := (k : Int)) (q := 1) (r := (k : Int) + 1) (ev rfl) (ev rfl) (.inl ⟨rfl, (in_i64 (by omega) (by omega)).symm⟩)) rfl ?_
      refine q_is (l' := [(.slice p_xs L_xs.length q_xs), Ud, (.string (⟨#[]⟩)), (.string ((fltS L_xs k) ++ (wordS (bitsF (cf .f32 r19)) (4 : Int).toNat))), Ud, (Fl r19), (.slice p_xs L_xs.length q_xs), (Iv (L_xs.length : Int)), (Iv ((k : Int) + 1)), (Bo (icmp .lss (k : Int) (L_xs.length : Int))), (Pt b15 o16), (Fl r19), (.string (fltS L_xs k)), (Fl r19), (Iv (bitsF (cf .f32 r19))), (.string (wordS (bitsF (cf .f32 r19)) (4 : Int).toNat)), (.string ((fltS L_xs k) ++ (wordS (bitsF (cf .f32 r19)) (4 : Int).toNat))), (Iv ((k : Int) + 1)), Ud]) rfl rfl (does_move (u := (Iv ((k : Int) + 1))) (ev rfl)) rfl ?_
      refine wpList_nil ?_
      refine ⟨k + 1, ⟨fun t => (([(.slice p_xs L_xs.length q_xs), Ud, (.string (⟨#[]⟩)), (.string ((fltS L_xs k) ++ (wordS (bitsF (cf .f32 r19)) (4 : Int).toNat))), Ud, (Fl r19), (.slice p_xs L_xs.length q_xs), (Iv (L_xs.length : Int)), (Iv ((k : Int) + 1)), (Bo (icmp .lss (k : Int) (L_xs.length : Int))), (Pt b15 o16), (Fl r19), (.string (fltS L_xs k)), (Fl r19), (Iv (bitsF (cf .f32 r19))), (.string (wordS (bitsF (cf .f32 r19)) (4 : Int).toNat)), (.string ((fltS L_xs k) ++ (wordS (bitsF (cf .f32 r19)) (4 : Int).toNat))), (Iv ((k : Int) + 1)), Ud] : List Value)[t]?).getD undef, ?_, (Ext.gr (Ext.gr E7 E21) E24), ?_⟩, ?_⟩
      · first | rfl | (rw [← fltS_succ hel1]; simp only [hel1, h20, wordT4, Int.natCast_add, Int.natCast_one] <;> rfl)
      · omega
      · omega
    have c12' := c12
    (try simp only [icmp, Bool.and_eq_true, Bool.or_eq_true, Bool.and_eq_false_iff, Bool.or_eq_false_iff, Bool.not_eq_true', Bool.not_eq_false', decide_eq_true_eq, decide_eq_false_iff_not, beq_iff_eq, bne_iff_ne, beq_eq_false_iff_ne, bne_eq_false_iff_eq] at c12')
    refine wp_exit ?_
    refine hK3 _ _ ?_
    refine wp_seq_k fun K27 hK27 => ?_
    refine wp_region_lit ?_
    refine q_is (l' := [(.slice p_xs L_xs.length q_xs), Ud, (.string (⟨#[]⟩)), (.string (fltS L_xs k)), Ud, (u5 5), (.slice p_xs L_xs.length q_xs), (Iv (L_xs.length : Int)), (Iv (k : Int)), (Bo (icmp .lss (k : Int) (L_xs.length : Int))), (u5 10), (u5 11), (u5 12), (u5 13), (u5 14), (u5 15), (u5 16), (u5 17), (.string (fltS L_xs k))]) rfl rfl (does_move (u := (.string (fltS L_xs k))) (ev rfl)) rfl ?_
    refine q_is (l' := [(.slice p_xs L_xs.length q_xs), Ud, (.string (fltS L_xs k)), (.string (fltS L_xs k)), Ud, (u5 5), (.slice p_xs L_xs.length q_xs), (Iv (L_xs.length : Int)), (Iv (k : Int)), (Bo (icmp .lss (k : Int) (L_xs.length : Int))), (u5 10), (u5 11), (u5 12), (u5 13), (u5 14), (u5 15), (u5 16), (u5 17), (.string (fltS L_xs k))]) rfl rfl (does_assign (u := (.string (fltS L_xs k))) (ev rfl)) rfl ?_
    refine wpList_nil (hK27 _ _ ?_)
    refine wp_ret ?_
    refine ret_val (v := (.string (fltS L_xs k))) (res_T rfl (slot rfl)) X9 ?_
    have x28 : (fltS L_xs L_xs.length) = (fltS L_xs k) := by (rw [show L_xs.length = k by omega])
    exact (by first | with_reducible rfl | rw [x28] | rfl)

/- impl.shapeBytes -/
theorem c_impl_shapeBytes (s_ : List Value) (A_s_ : ShapeT) (w : World) (hv_s_ : RShapeT w A_s_ s_) (hsh : isShape A_s_ = true) : Gives Try.prog 27 #[(.agg s_.toArray)] w (fun v w' => v = (.string (shpS A_s_.nodes A_s_.nodes.length))) := by
  obtain ⟨y1, rfl, h2⟩ := hv_s_
  have hs5 := h2; have hs5l := Sl.len h2; obtain ⟨p3, q4, rfl⟩ := Sl.shape h2
  have hnu := shape_nums hsh
  have hbd := isShape_bd hsh
  refine enter [(.agg #[(.slice p3 A_s_.nodes.length q4)]), Ud, Ud, Ud, Ud, Ud, Ud, Ud, Ud, Ud, Ud, Ud, Ud, Ud, Ud, Ud, Ud, Ud, Ud, Ud, Ud, Ud, Ud, Ud, Ud, Ud, Ud, Ud, Ud, Ud, Ud, Ud, Ud, Ud, Ud, Ud] Try.func27 rfl Try.ntmps27 rfl ?_
  refine wp_seq_k fun K6 hK6 => ?_
  refine wp_region_lit ?_
  refine seqd rfl rfl (does_box (u := (.agg #[(.slice p3 A_s_.nodes.length q4)])) (ev rfl)) ?_; rintro _ w11 ⟨b7, rfl, hb8, hB9, E10⟩
  have g12 : w.heap.size ≤ b7 := Nat.le_trans (Below.size (Ext.refl w)) hb8
  change Blk _ _ [(.slice p3 A_s_.nodes.length q4)] at hB9
  have X13 := Ext.gr (Ext.refl w) E10
  show wpList _ _ _ _ (fr [_, _, _, _, _, _, _, _, _, _, _, _, _, _, _, _, _, _, _, _, _, _, _, _, _, _, _, _, _, _, _, _, _, _, _, _]) _
  refine q_is rfl rfl (does_assign (u := (.string (⟨#[]⟩))) (ev rfl)) (by dsimp only [List.set]; try rfl) ?_
  refine wpList_nil (hK6 _ _ ?_)
  refine wp_seq_k fun K14 hK14 => ?_
  refine wp_region_lit ?_
  refine q_is rfl rfl (does_fieldAddr (ev rfl) fa30_0) (by dsimp only [List.set]; try rfl) ?_
  refine q_is rfl rfl (does_load (u := (.slice p3 A_s_.nodes.length q4)) (ev rfl) Try.isAgg28 (Cells.at (Blk.cells hB9) 0 rfl)) (by dsimp only [List.set]; try rfl) ?_
  refine q_is rfl rfl (does_len_slice Try.underlying28 (ev rfl)) (by dsimp only [List.set]; try rfl) ?_
  refine seqd rfl rfl (does_call (args := #[(Iv (A_s_.nodes.length : Int)), (Iv 1)]) cal61 (evs rfl) (c_impl_bytesOf (A_s_.nodes.length : Int) 1 _ (by omega))) ?_; rintro _ w16 ⟨E15, rfl⟩
  have X17 := Ext.gr X13 E15
  show wpList _ _ _ _ (fr [_, _, _, _, _, _, _, _, _, _, _, _, _, _, _, _, _, _, _, _, _, _, _, _, _, _, _, _, _, _, _, _, _, _, _, _]) _
  refine q_is rfl rfl (does_assign (u := (.string (wordS (A_s_.nodes.length : Int) (1 : Int).toNat))) (ev rfl)) (by dsimp only [List.set]; try rfl) ?_
  refine wpList_nil (hK14 _ _ ?_)
  refine wp_seq_k fun K18 hK18 => ?_
  refine wp_seq_k fun K19 hK19 => ?_
  refine wp_region_lit ?_
  refine q_is rfl rfl (does_fieldAddr (ev rfl) fa30_0) (by dsimp only [List.set]; try rfl) ?_
  refine q_is rfl rfl (does_load (u := (.slice p3 A_s_.nodes.length q4)) (ev rfl) Try.isAgg28 (Cells.at (Blk.cells (hB9.ext E15)) 0 rfl)) (by dsimp only [List.set]; try rfl) ?_
  refine q_is rfl rfl (does_len_slice Try.underlying28 (ev rfl)) (by dsimp only [List.set]; try rfl) ?_
  refine q_is rfl rfl (does_move (u := (Iv 0)) (ev rfl)) (by dsimp only [List.set]; try rfl) ?_
  refine wpList_nil (hK19 _ _ ?_)
  refine wp_block ?_
  refine loop_ghost (σ := Nat) (fun k a w' => ∃ u20 : Nat → Value, a = fr [(.agg #[(.slice p3 A_s_.nodes.length q4)]), (Pt b7 0), (.string (⟨#[]⟩)), (.string (shpS A_s_.nodes k)), Ud, (u20 5), (Pt b7 0), (.slice p3 A_s_.nodes.length q4), (Iv (A_s_.nodes.length : Int)), (.string (wordS (A_s_.nodes.length : Int) (1 : Int).toNat)), (Pt b7 0), (.slice p3 A_s_.nodes.length q4), (Iv (A_s_.nodes.length : Int)), (Iv (k : Int)), (u20 14), (u20 15), (u20 16), (u20 17), (u20 18), (u20 19), (u20 20), (u20 21), (u20 22), (u20 23), (u20 24), (u20 25), (u20 26), (u20 27), (u20 28), (u20 29), (u20 30), (u20 31), (u20 32), (u20 33), (u20 34), Ud] ∧ Ext w16 w' ∧ (k ≤ A_s_.nodes.length)) (fun k => A_s_.nodes.length - k) 0 ?_ ?_
  · refine ⟨fun t => (([(.agg #[(.slice p3 A_s_.nodes.length q4)]), (Pt b7 0), (.string (⟨#[]⟩)), (.string (wordS (A_s_.nodes.length : Int) (1 : Int).toNat)), Ud, Ud, (Pt b7 0), (.slice p3 A_s_.nodes.length q4), (Iv (A_s_.nodes.length : Int)), (.string (wordS (A_s_.nodes.length : Int) (1 : Int).toNat)), (Pt b7 0), (.slice p3 A_s_.nodes.length q4), (Iv (A_s_.nodes.length : Int)), (Iv 0), Ud, Ud, Ud, Ud, Ud, Ud, Ud, Ud, Ud, Ud, Ud, Ud, Ud, Ud, Ud, Ud, Ud, Ud, Ud, Ud, Ud, Ud] : List Value)[t]?).getD undef, rfl, Ext.refl _, ?_⟩
    exact Nat.zero_le _
  · rintro k a w21 ⟨u20, rfl, E22, hk⟩
    have X24 := Ext.gr X17 E22
    have hsz := shpS_size hnu k
    refine wp_seq_k fun K25 hK25 => ?_
    refine wp_region_lit ?_
    refine q_is rfl rfl (does_icmp (p := (k : Int)) (q := (A_s_.nodes.length : Int)) (.inr (.inr (.inl rfl))) (ev rfl) (ev rfl)) (by dsimp only [List.set]; try rfl) ?_
    refine wpList_nil (hK25 _ _ ?_)
    refine wp_seq_k fun K26 hK26 => ?_
    refine wp_cond_split (t := icmp .lss (k : Int) (A_s_.nodes.length : Int)) (ev rfl) (fun c27 => ?_) (fun c27 => ?_)
    · have c27' := c27
      (try simp only [icmp, Bool.and_eq_true, Bool.or_eq_true, Bool.and_eq_false_iff, Bool.or_eq_false_iff, Bool.not_eq_true', Bool.not_eq_false', decide_eq_true_eq, decide_eq_false_iff_not, beq_iff_eq, bne_iff_ne, beq_eq_false_iff_ne, bne_eq_false_iff_eq] at c27')
      refine wp_skip (hK26 _ _ ?_)
      refine wp_seq_k fun K28 hK28 => ?_
      refine wp_block ?_
      refine wp_seq_k fun K29 hK29 => ?_
      refine wp_region_lit ?_
      obtain ⟨el1, hel1⟩ : ∃ e, A_s_.nodes[k]? = some e := ⟨_, List.getElem?_eq_getElem (by omega)⟩
      refine seqd rfl rfl (does_indexSl (R := RNodeT) (i := (k : Int)) (xs := A_s_.nodes) (e := el1) Try.underlying28 Try.sizeOf102 (ev rfl) (ev rfl) (Sl.ext hs5 RNodeT.mono X24) (by omega) hel1) ?_; rintro _ w21 ⟨b30, o31, _, rfl, hc33, ⟨y34, rfl, h35⟩, rfl⟩
      have hs38 := h35; have hs38l := Sl.len h35; obtain ⟨p36, q37, rfl⟩ := Sl.shape h35
      show wpList _ _ _ _ (fr [_, _, _, _, _, _, _, _, _, _, _, _, _, _, _, _, _, _, _, _, _, _, _, _, _, _, _, _, _, _, _, _, _, _, _, _]) _
      refine q_is rfl rfl (does_loadAgg (cs := [(Iv el1.kind), (Iv el1.a), (Iv el1.b), (.slice p36 el1.nums.length q37)]) (ev rfl) Try.isAgg102 Try.sizeOf102 hc33 rfl) (by dsimp only [List.set]; try rfl) ?_
      refine seqd rfl rfl (does_alloc z102) ?_; rintro _ w43 ⟨b39, rfl, hb40, hB41, E42⟩
      have n44 : b7 < b39 := Nat.lt_of_lt_of_le (Blk.lt ((hB9.ext E15).ext E22)) hb40
      have n45 : b30 < b39 := Nat.lt_of_lt_of_le (cell_lt (Cells.at hc33 0 rfl)) hb40
      have g46 : w.heap.size ≤ b39 := Nat.le_trans (Below.size X24) hb40
      change Blk _ _ [(Iv 0), (Iv 0), (Iv 0), (.slice none 0 0)] at hB41
      have X47 := Ext.gr X24 E42
      show wpList _ _ _ _ (fr [_, _, _, _, _, _, _, _, _, _, _, _, _, _, _, _, _, _, _, _, _, _, _, _, _, _, _, _, _, _, _, _, _, _, _, _]) _
      refine seqn rfl rfl (does_store (n := 4) (cs := [(Iv 0), (Iv 0), (Iv 0), (.slice none 0 0)]) (u := (.agg #[(Iv el1.kind), (Iv el1.a), (Iv el1.b), (.slice p36 el1.nums.length q37)])) (ev rfl) (ev rfl) Try.sizeOf102 rfl hB41 (Nat.le_of_ble_eq_true rfl) rfl) ?_; rintro _ w50 ⟨rfl, W48, hB49⟩
      change Blk _ _ [(Iv el1.kind), (Iv el1.a), (Iv el1.b), (.slice p36 el1.nums.length q37)] at hB49
      have X51 := Below.wr X47 W48 g46
      refine wpList_nil (hK29 _ _ ?_)
      refine region_draw (
        [Fact.pure [] (fun v => v = (.string (shpS A_s_.nodes k))),
    Fact.pure [] (fun v => v = (Pt b39 0)),
    Fact.pure [18] (fun v => v = (Iv el1.kind)),
    Fact.pure [19] (fun v => v = (.string (wordS el1.kind (1 : Int).toNat))),
    Fact.pure [] (fun v => v = (Pt b39 1)),
    Fact.pure [21] (fun v => v = (Iv el1.a)),
    Fact.pure [22] (fun v => v = (.string (wordS el1.a (1 : Int).toNat))),
    Fact.pure [20, 23] (fun v => v = (.string ((wordS el1.kind (1 : Int).toNat) ++ (wordS el1.a (1 : Int).toNat)))),
    Fact.pure [] (fun v => v = (Pt b39 2)),
    Fact.pure [25] (fun v => v = (Iv el1.b)),
    Fact.pure [26] (fun v => v = (.string (wordS el1.b (1 : Int).toNat))),
    Fact.pure [24, 27] (fun v => v = (.string (((wordS el1.kind (1 : Int).toNat) ++ (wordS el1.a (1 : Int).toNat)) ++ (wordS el1.b (1 : Int).toNat)))),
    Fact.pure [] (fun v => v = (Pt b39 3)),
    Fact.pure [29] (fun v => v = (.slice p36 el1.nums.length q37)),
    Fact.pure [30] (fun v => v = (.string (fltS el1.nums el1.nums.length))),
    Fact.pure [28, 31] (fun v => v = (.string ((((wordS el1.kind (1 : Int).toNat) ++ (wordS el1.a (1 : Int).toNat)) ++ (wordS el1.b (1 : Int).toNat)) ++ (fltS el1.nums el1.nums.length)))),
    Fact.pure [17, 32] (fun v => v = (.string ((shpS A_s_.nodes k) ++ ((((wordS el1.kind (1 : Int).toNat) ++ (wordS el1.a (1 : Int).toNat)) ++ (wordS el1.b (1 : Int).toNat)) ++ (fltS el1.nums el1.nums.length)))))]) mixed (by kernel_rfl) (by intro _ _ d _ _ h; cases d <;> exact h) ?_
      obtain ⟨w52, hw54⟩ : ∃ w', w' = World.drew w50 := ⟨_, rfl⟩; rw [← hw54]; have E53 : Ext w50 w52 := by rw [hw54]; exact Ext.draw _
      clear hw54
      have X55 := Ext.gr X51 E53
      refine RW_d _ rfl (fun v => by dsimp only [List.set]; try rfl) (fun u hu hF => ?_) (fun v56 => ?_)
      · clear hF
        refine doesG_un rfl ?_
        refine (does_move (u := (.string (shpS A_s_.nodes k))) (ev rfl)).mono ?_; rintro _ _ ⟨rfl, rfl⟩
        exact ⟨rfl, Ext.refl _⟩
      refine RW_d _ rfl (fun v => by dsimp only [List.set]; try rfl) (fun u hu hF => ?_) (fun v57 => ?_)
      · clear hF
        refine doesG_un rfl ?_
        refine (does_fieldAddr (ev rfl) fa102_0).mono ?_; rintro _ _ ⟨rfl, rfl⟩
        exact ⟨rfl, Ext.refl _⟩
      refine RW_d _ rfl (fun v => by dsimp only [List.set]; try rfl) (fun u hu hF => ?_) (fun v58 => ?_)
      · have h18_ : v57 = (Pt b39 0) := hF.1
        clear hF
        refine doesG_un rfl ?_
        obtain rfl := h18_
        refine (does_load (u := (Iv el1.kind)) (ev rfl) Try.isAgg2 (Cells.at (Blk.cells ((hB49.ext E53).ext hu)) 0 rfl)).mono ?_; rintro _ _ ⟨rfl, rfl⟩
        exact ⟨rfl, Ext.refl _⟩
      refine RW_d _ rfl (fun v => by dsimp only [List.set]; try rfl) (fun u hu hF => ?_) (fun v59 => ?_)
      · have h19_ : v58 = (Iv el1.kind) := hF.1
        clear hF
        refine doesG_un rfl ?_
        obtain rfl := h19_
        refine (does_call (args := #[(Iv el1.kind), (Iv 1)]) cal61 (evs rfl) (c_impl_bytesOf el1.kind 1 _ (by omega))).mono ?_; rintro v u' ⟨hx, hv⟩
        exact ⟨hv, hx⟩
      refine RW_d _ rfl (fun v => by dsimp only [List.set]; try rfl) (fun u hu hF => ?_) (fun v60 => ?_)
      · clear hF
        refine doesG_un rfl ?_
        refine (does_fieldAddr (ev rfl) fa102_1).mono ?_; rintro _ _ ⟨rfl, rfl⟩
        exact ⟨rfl, Ext.refl _⟩
      refine RW_d _ rfl (fun v => by dsimp only [List.set]; try rfl) (fun u hu hF => ?_) (fun v61 => ?_)
      · have h21_ : v60 = (Pt b39 1) := hF.1
        clear hF
        refine doesG_un rfl ?_
        obtain rfl := h21_
        refine (does_load (u := (Iv el1.a)) (ev rfl) Try.isAgg2 (Cells.at (Blk.cells ((hB49.ext E53).ext hu)) 1 rfl)).mono ?_; rintro _ _ ⟨rfl, rfl⟩
        exact ⟨rfl, Ext.refl _⟩
      refine RW_d _ rfl (fun v => by dsimp only [List.set]; try rfl) (fun u hu hF => ?_) (fun v62 => ?_)
      · have h22_ : v61 = (Iv el1.a) := hF.1
        clear hF
        refine doesG_un rfl ?_
        obtain rfl := h22_
        refine (does_call (args := #[(Iv el1.a), (Iv 1)]) cal61 (evs rfl) (c_impl_bytesOf el1.a 1 _ (by omega))).mono ?_; rintro v u' ⟨hx, hv⟩
        exact ⟨hv, hx⟩
      refine RW_d _ rfl (fun v => by dsimp only [List.set]; try rfl) (fun u hu hF => ?_) (fun v63 => ?_)
      · have h20_ : v59 = (.string (wordS el1.kind (1 : Int).toNat)) := hF.1
        have h23_ : v62 = (.string (wordS el1.a (1 : Int).toNat)) := hF.2.1
        clear hF
        refine doesG_un rfl ?_
        obtain rfl := h20_
        obtain rfl := h23_
        refine (does_sadd (p := (wordS el1.kind (1 : Int).toNat)) (q := (wordS el1.a (1 : Int).toNat)) (ev rfl) (ev rfl) (by first | omega | (have hn4 := hnu _ (List.mem_of_getElem? hel1); simp only [ByteArray.size_append, wordT1, wordS_size, fltS_size]; omega))).mono ?_; rintro _ _ ⟨rfl, rfl⟩
        exact ⟨rfl, Ext.refl _⟩
      refine RW_d _ rfl (fun v => by dsimp only [List.set]; try rfl) (fun u hu hF => ?_) (fun v64 => ?_)
      · clear hF
        refine doesG_un rfl ?_
        refine (does_fieldAddr (ev rfl) fa102_2).mono ?_; rintro _ _ ⟨rfl, rfl⟩
        exact ⟨rfl, Ext.refl _⟩
      refine RW_d _ rfl (fun v => by dsimp only [List.set]; try rfl) (fun u hu hF => ?_) (fun v65 => ?_)
      · have h25_ : v64 = (Pt b39 2) := hF.1
        clear hF
        refine doesG_un rfl ?_
        obtain rfl := h25_
        refine (does_load (u := (Iv el1.b)) (ev rfl) Try.isAgg2 (Cells.at (Blk.cells ((hB49.ext E53).ext hu)) 2 rfl)).mono ?_; rintro _ _ ⟨rfl, rfl⟩
        exact ⟨rfl, Ext.refl _⟩
      refine RW_d _ rfl (fun v => by dsimp only [List.set]; try rfl) (fun u hu hF => ?_) (fun v66 => ?_)
      · have h26_ : v65 = (Iv el1.b) := hF.1
        clear hF
        refine doesG_un rfl ?_
        obtain rfl := h26_
        refine (does_call (args := #[(Iv el1.b), (Iv 1)]) cal61 (evs rfl) (c_impl_bytesOf el1.b 1 _ (by omega))).mono ?_; rintro v u' ⟨hx, hv⟩
        exact ⟨hv, hx⟩
      refine RW_d _ rfl (fun v => by dsimp only [List.set]; try rfl) (fun u hu hF => ?_) (fun v67 => ?_)
      · have h24_ : v63 = (.string ((wordS el1.kind (1 : Int).toNat) ++ (wordS el1.a (1 : Int).toNat))) := hF.1
        have h27_ : v66 = (.string (wordS el1.b (1 : Int).toNat)) := hF.2.1
        clear hF
        refine doesG_un rfl ?_
        obtain rfl := h24_
        obtain rfl := h27_
        refine (does_sadd (p := ((wordS el1.kind (1 : Int).toNat) ++ (wordS el1.a (1 : Int).toNat))) (q := (wordS el1.b (1 : Int).toNat)) (ev rfl) (ev rfl) (by first | omega | (have hn4 := hnu _ (List.mem_of_getElem? hel1); simp only [ByteArray.size_append, wordT1, wordS_size, fltS_size]; omega))).mono ?_; rintro _ _ ⟨rfl, rfl⟩
        exact ⟨rfl, Ext.refl _⟩
      refine RW_d _ rfl (fun v => by dsimp only [List.set]; try rfl) (fun u hu hF => ?_) (fun v68 => ?_)
      · clear hF
        refine doesG_un rfl ?_
        refine (does_fieldAddr (ev rfl) fa102_3).mono ?_; rintro _ _ ⟨rfl, rfl⟩
        exact ⟨rfl, Ext.refl _⟩
      refine RW_d _ rfl (fun v => by dsimp only [List.set]; try rfl) (fun u hu hF => ?_) (fun v69 => ?_)
      · have h29_ : v68 = (Pt b39 3) := hF.1
        clear hF
        refine doesG_un rfl ?_
        obtain rfl := h29_
        refine (does_load (u := (.slice p36 el1.nums.length q37)) (ev rfl) Try.isAgg97 (Cells.at (Blk.cells ((hB49.ext E53).ext hu)) 3 rfl)).mono ?_; rintro _ _ ⟨rfl, rfl⟩
        exact ⟨rfl, Ext.refl _⟩
      refine RW_d _ rfl (fun v => by dsimp only [List.set]; try rfl) (fun u hu hF => ?_) (fun v70 => ?_)
      · have h30_ : v69 = (.slice p36 el1.nums.length q37) := hF.1
        clear hF
        refine doesG_un rfl ?_
        obtain rfl := h30_
        refine (does_call (args := #[(.slice p36 el1.nums.length q37)]) cal62 (evs rfl) (c_impl_floats (.slice p36 el1.nums.length q37) el1.nums _ (Sl.ext (Sl.ext hs38 RF.mono (Ext.gr (Below.wr (Ext.gr (Ext.refl _) E42) W48 (Nat.le_trans (Below.size (Ext.refl _)) hb40)) E53)) RF.mono hu) (by have hn4 := hnu _ (List.mem_of_getElem? hel1); omega))).mono ?_; rintro v u' ⟨hx, hv⟩
        exact ⟨hv, hx⟩
      refine RW_d _ rfl (fun v => by dsimp only [List.set]; try rfl) (fun u hu hF => ?_) (fun v71 => ?_)
      · have h28_ : v67 = (.string (((wordS el1.kind (1 : Int).toNat) ++ (wordS el1.a (1 : Int).toNat)) ++ (wordS el1.b (1 : Int).toNat))) := hF.1
        have h31_ : v70 = (.string (fltS el1.nums el1.nums.length)) := hF.2.1
        clear hF
        refine doesG_un rfl ?_
        obtain rfl := h28_
        obtain rfl := h31_
        refine (does_sadd (p := (((wordS el1.kind (1 : Int).toNat) ++ (wordS el1.a (1 : Int).toNat)) ++ (wordS el1.b (1 : Int).toNat))) (q := (fltS el1.nums el1.nums.length)) (ev rfl) (ev rfl) (by first | omega | (have hn4 := hnu _ (List.mem_of_getElem? hel1); simp only [ByteArray.size_append, wordT1, wordS_size, fltS_size]; omega))).mono ?_; rintro _ _ ⟨rfl, rfl⟩
        exact ⟨rfl, Ext.refl _⟩
      refine RW_d _ rfl (fun v => by dsimp only [List.set]; try rfl) (fun u hu hF => ?_) (fun v72 => ?_)
      · have h17_ : v56 = (.string (shpS A_s_.nodes k)) := hF.1
        have h32_ : v71 = (.string ((((wordS el1.kind (1 : Int).toNat) ++ (wordS el1.a (1 : Int).toNat)) ++ (wordS el1.b (1 : Int).toNat)) ++ (fltS el1.nums el1.nums.length))) := hF.2.1
        clear hF
        refine doesG_un rfl ?_
        obtain rfl := h17_
        obtain rfl := h32_
        refine (does_sadd (p := (shpS A_s_.nodes k)) (q := ((((wordS el1.kind (1 : Int).toNat) ++ (wordS el1.a (1 : Int).toNat)) ++ (wordS el1.b (1 : Int).toNat)) ++ (fltS el1.nums el1.nums.length))) (ev rfl) (ev rfl) (by first | omega | (have hn4 := hnu _ (List.mem_of_getElem? hel1); simp only [ByteArray.size_append, wordT1, wordS_size, fltS_size]; omega))).mono ?_; rintro _ _ ⟨rfl, rfl⟩
        exact ⟨rfl, Ext.refl _⟩
      refine RW_fin ?_; intro w73 E74 hP75
      obtain ⟨⟨⟨⟨⟨⟨⟨⟨⟨⟨⟨⟨⟨⟨⟨⟨⟨-, -⟩, -⟩, -⟩, -⟩, -⟩, -⟩, -⟩, -⟩, -⟩, -⟩, -⟩, -⟩, -⟩, -⟩, -⟩, -⟩, q76⟩ := hP75
      have X77 := Ext.gr X55 E74
      have q76 : v72 = (.string ((shpS A_s_.nodes k) ++ ((((wordS el1.kind (1 : Int).toNat) ++ (wordS el1.a (1 : Int).toNat)) ++ (wordS el1.b (1 : Int).toNat)) ++ (fltS el1.nums el1.nums.length)))) := q76
      obtain rfl := q76
      show wpList _ _ _ _ (fr [_, _, _, _, _, _, _, _, _, _, _, _, _, _, _, _, _, _, _, _, _, _, _, _, _, _, _, _, _, _, _, _, _, _, _, _]) _
      refine q_is rfl rfl (does_assign (u := (.string ((shpS A_s_.nodes k) ++ ((((wordS el1.kind (1 : Int).toNat) ++ (wordS el1.a (1 : Int).toNat)) ++ (wordS el1.b (1 : Int).toNat)) ++ (fltS el1.nums el1.nums.length))))) (ev rfl)) (by dsimp only [List.set]; try rfl) ?_
      refine wpList_nil (hK28 _ _ ?_)
      refine wp_region_lit ?_
      refine q_is rfl rfl (does_iarith (p := (k : Int)) (q := 1) (r := (k : Int) + 1) (ev rfl) (ev rfl) (.inl ⟨rfl, (in_i64 (by omega) (by omega)).symm⟩)) (by dsimp only [List.set]; try rfl) ?_
      refine q_is rfl rfl (does_move (u := (Iv ((k : Int) + 1))) (ev rfl)) (by dsimp only [List.set]; try rfl) ?_
      refine wpList_nil ?_
      refine ⟨k + 1, ⟨fun t => (([(.agg #[(.slice p3 A_s_.nodes.length q4)]), (Pt b7 0), (.string (⟨#[]⟩)), (.string ((shpS A_s_.nodes k) ++ ((((wordS el1.kind (1 : Int).toNat) ++ (wordS el1.a (1 : Int).toNat)) ++ (wordS el1.b (1 : Int).toNat)) ++ (fltS el1.nums el1.nums.length)))), Ud, (Pt b39 0), (Pt b7 0), (.slice p3 A_s_.nodes.length q4), (Iv (A_s_.nodes.length : Int)), (.string (wordS (A_s_.nodes.length : Int) (1 : Int).toNat)), (Pt b7 0), (.slice p3 A_s_.nodes.length q4), (Iv (A_s_.nodes.length : Int)), (Iv ((k : Int) + 1)), (Bo (icmp .lss (k : Int) (A_s_.nodes.length : Int))), (Pt b30 o31), (.agg #[(Iv el1.kind), (Iv el1.a), (Iv el1.b), (.slice p36 el1.nums.length q37)]), v56, v57, v58, v59, v60, v61, v62, v63, v64, v65, v66, v67, v68, v69, v70, v71, (.string ((shpS A_s_.nodes k) ++ ((((wordS el1.kind (1 : Int).toNat) ++ (wordS el1.a (1 : Int).toNat)) ++ (wordS el1.b (1 : Int).toNat)) ++ (fltS el1.nums el1.nums.length)))), (Iv ((k : Int) + 1)), Ud] : List Value)[t]?).getD undef, ?_, (Ext.gr (Ext.gr (Below.kl (Ext.gr E22 E42) (KpL.of_wr W48) (allS (Nat.le_trans E22.size hb40) all0) (Nat.le_refl _)) E53) E74), ?_⟩, ?_⟩
      · first | rfl | (rw [← shpS_succ hel1]; simp only [wordT1, Int.natCast_add, Int.natCast_one] <;> rfl)
      · omega
      · omega
    have c27' := c27
    (try simp only [icmp, Bool.and_eq_true, Bool.or_eq_true, Bool.and_eq_false_iff, Bool.or_eq_false_iff, Bool.not_eq_true', Bool.not_eq_false', decide_eq_true_eq, decide_eq_false_iff_not, beq_iff_eq, bne_iff_ne, beq_eq_false_iff_ne, bne_eq_false_iff_eq] at c27')
    refine wp_exit ?_
    refine hK18 _ _ ?_
    refine wp_seq_k fun K78 hK78 => ?_
    refine wp_region_lit ?_
    refine q_is rfl rfl (does_move (u := (.string (shpS A_s_.nodes k))) (ev rfl)) (by dsimp only [List.set]; try rfl) ?_
    refine q_is rfl rfl (does_assign (u := (.string (shpS A_s_.nodes k))) (ev rfl)) (by dsimp only [List.set]; try rfl) ?_
    refine wpList_nil (hK78 _ _ ?_)
    refine wp_ret ?_
    refine ret_val (v := (.string (shpS A_s_.nodes k))) (res_T rfl (slot rfl)) X24 ?_
    have x79 : (shpS A_s_.nodes A_s_.nodes.length) = (shpS A_s_.nodes k) := by (rw [show A_s_.nodes.length = k by omega])
    exact (by first | with_reducible rfl | rw [x79] | rfl)

/- impl.ShapeBytes -/
theorem c_impl_ShapeBytes (s_ : List Value) (A_s_ : ShapeT) (w : World) (hv_s_ : RShapeT w A_s_ s_) : Gives Try.prog 9 #[(.agg s_.toArray)] w (fun v w' => v = (.tuple #[(.string (shpB A_s_)), (Bo (isShape A_s_))])) := by
  obtain ⟨y1, rfl, h2⟩ := hv_s_
  have hs5 := h2; have hs5l := Sl.len h2; obtain ⟨p3, q4, rfl⟩ := Sl.shape h2
  refine enter [(.agg #[(.slice p3 A_s_.nodes.length q4)]), Ud, Ud, Ud, Ud, Ud, Ud, Ud, Ud] Try.func9 rfl Try.ntmps9 rfl ?_
  refine wp_seq_k fun K6 hK6 => ?_
  refine wp_region_lit ?_
  refine seqd rfl rfl (does_box (u := (.agg #[(.slice p3 A_s_.nodes.length q4)])) (ev rfl)) ?_; rintro _ w11 ⟨b7, rfl, hb8, hB9, E10⟩
  have g12 : w.heap.size ≤ b7 := Nat.le_trans (Below.size (Ext.refl w)) hb8
  change Blk _ _ [(.slice p3 A_s_.nodes.length q4)] at hB9
  have X13 := Ext.gr (Ext.refl w) E10
  show wpList _ _ _ _ (fr [(.agg #[(.slice p3 A_s_.nodes.length q4)]), (Pt b7 0), Ud, Ud, Ud, Ud, Ud, Ud, Ud]) _
  refine q_is (l' := [(.agg #[(.slice p3 A_s_.nodes.length q4)]), (Pt b7 0), (.string (⟨#[]⟩)), Ud, Ud, Ud, Ud, Ud, Ud]) rfl rfl (does_assign (u := (.string (⟨#[]⟩))) (ev rfl)) rfl ?_
  refine q_is (l' := [(.agg #[(.slice p3 A_s_.nodes.length q4)]), (Pt b7 0), (.string (⟨#[]⟩)), (Bo false), Ud, Ud, Ud, Ud, Ud]) rfl rfl (does_assign (u := (Bo false)) (ev rfl)) rfl ?_
  refine wpList_nil (hK6 _ _ ?_)
  refine wp_seq_k fun K14 hK14 => ?_
  refine wp_seq_k fun K15 hK15 => ?_
  refine wp_region_lit ?_
  refine q_is (l' := [(.agg #[(.slice p3 A_s_.nodes.length q4)]), (Pt b7 0), (.string (⟨#[]⟩)), (Bo false), (.agg #[(.slice p3 A_s_.nodes.length q4)]), Ud, Ud, Ud, Ud]) rfl rfl (does_loadAgg (cs := [(.slice p3 A_s_.nodes.length q4)]) (ev rfl) Try.isAgg30 Try.sizeOf30 (Blk.cells hB9) rfl) rfl ?_
  refine seqd rfl rfl (does_call (args := #[(.agg #[(.slice p3 A_s_.nodes.length q4)])]) cal26 (evs rfl) (c_impl_ValidShape [(.slice p3 A_s_.nodes.length q4)] A_s_ _ ⟨(.slice p3 A_s_.nodes.length q4), rfl, (Sl.ext hs5 RNodeT.mono X13)⟩)) ?_; rintro _ w17 ⟨E16, rfl⟩
  have X18 := Ext.gr X13 E16
  show wpList _ _ _ _ (fr [(.agg #[(.slice p3 A_s_.nodes.length q4)]), (Pt b7 0), (.string (⟨#[]⟩)), (Bo false), (.agg #[(.slice p3 A_s_.nodes.length q4)]), (Bo (isShape A_s_)), Ud, Ud, Ud]) _
  refine q_is (l' := [(.agg #[(.slice p3 A_s_.nodes.length q4)]), (Pt b7 0), (.string (⟨#[]⟩)), (Bo false), (.agg #[(.slice p3 A_s_.nodes.length q4)]), (Bo (isShape A_s_)), (Bo (!(isShape A_s_))), Ud, Ud]) rfl rfl (does_not (ev rfl)) rfl ?_
  refine wpList_nil (hK15 _ _ ?_)
  refine wp_cond_split (t := !(isShape A_s_)) (ev rfl) (fun c19 => ?_) (fun c19 => ?_)
  · rw [Bool.not_eq_true'] at c19
    have c19' := c19
    refine wp_seq_k fun K20 hK20 => ?_
    refine wp_region_lit ?_
    refine q_is (l' := [(.agg #[(.slice p3 A_s_.nodes.length q4)]), (Pt b7 0), (.string (⟨#[]⟩)), (Bo false), (.agg #[(.slice p3 A_s_.nodes.length q4)]), (Bo (isShape A_s_)), (Bo (!(isShape A_s_))), Ud, Ud]) rfl rfl (does_assign (u := (.string (⟨#[]⟩))) (ev rfl)) rfl ?_
    refine q_is (l' := [(.agg #[(.slice p3 A_s_.nodes.length q4)]), (Pt b7 0), (.string (⟨#[]⟩)), (Bo false), (.agg #[(.slice p3 A_s_.nodes.length q4)]), (Bo (isShape A_s_)), (Bo (!(isShape A_s_))), Ud, Ud]) rfl rfl (does_assign (u := (Bo false)) (ev rfl)) rfl ?_
    refine wpList_nil (hK20 _ _ ?_)
    refine wp_ret ?_
    dsimp only [Exit.then, Exit.inBlock]
    refine ret_val (v := (.tuple #[(.string (⟨#[]⟩)), (Bo false)])) (res_TT rfl (slot rfl) (slot rfl)) X18 ?_
    have x21 : (shpB A_s_) = (⟨#[]⟩) := by first | assumption | (rw [shpB_f (by assumption)] <;> rfl) | (rw [shpB_t (by assumption)] <;> rfl)
    have x22 : (isShape A_s_) = false := by first | assumption | (rw [shpB_f (by assumption)] <;> rfl) | (rw [shpB_t (by assumption)] <;> rfl)
    exact (by first | with_reducible rfl | rw [x21, x22] | rw [x22, x21] | rfl)
  rw [Bool.not_eq_false'] at c19
  have c19' := c19
  refine wp_skip (hK14 _ _ ?_)
  refine wp_seq_k fun K23 hK23 => ?_
  refine wp_region_lit ?_
  refine q_is (l' := [(.agg #[(.slice p3 A_s_.nodes.length q4)]), (Pt b7 0), (.string (⟨#[]⟩)), (Bo false), (.agg #[(.slice p3 A_s_.nodes.length q4)]), (Bo (isShape A_s_)), (Bo (!(isShape A_s_))), (.agg #[(.slice p3 A_s_.nodes.length q4)]), Ud]) rfl rfl (does_loadAgg (cs := [(.slice p3 A_s_.nodes.length q4)]) (ev rfl) Try.isAgg30 Try.sizeOf30 (Blk.cells (hB9.ext E16)) rfl) rfl ?_
  refine seqd rfl rfl (does_call (args := #[(.agg #[(.slice p3 A_s_.nodes.length q4)])]) cal27 (evs rfl) (c_impl_shapeBytes [(.slice p3 A_s_.nodes.length q4)] A_s_ _ ⟨(.slice p3 A_s_.nodes.length q4), rfl, (Sl.ext hs5 RNodeT.mono X18)⟩ (by assumption))) ?_; rintro _ w25 ⟨E24, rfl⟩
  have X26 := Ext.gr X18 E24
  show wpList _ _ _ _ (fr [(.agg #[(.slice p3 A_s_.nodes.length q4)]), (Pt b7 0), (.string (⟨#[]⟩)), (Bo false), (.agg #[(.slice p3 A_s_.nodes.length q4)]), (Bo (isShape A_s_)), (Bo (!(isShape A_s_))), (.agg #[(.slice p3 A_s_.nodes.length q4)]), (.string (shpS A_s_.nodes A_s_.nodes.length))]) _
  refine q_is (l' := [(.agg #[(.slice p3 A_s_.nodes.length q4)]), (Pt b7 0), (.string (shpS A_s_.nodes A_s_.nodes.length)), (Bo false), (.agg #[(.slice p3 A_s_.nodes.length q4)]), (Bo (isShape A_s_)), (Bo (!(isShape A_s_))), (.agg #[(.slice p3 A_s_.nodes.length q4)]), (.string (shpS A_s_.nodes A_s_.nodes.length))]) rfl rfl (does_assign (u := (.string (shpS A_s_.nodes A_s_.nodes.length))) (ev rfl)) rfl ?_
  refine q_is (l' := [(.agg #[(.slice p3 A_s_.nodes.length q4)]), (Pt b7 0), (.string (shpS A_s_.nodes A_s_.nodes.length)), (Bo true), (.agg #[(.slice p3 A_s_.nodes.length q4)]), (Bo (isShape A_s_)), (Bo (!(isShape A_s_))), (.agg #[(.slice p3 A_s_.nodes.length q4)]), (.string (shpS A_s_.nodes A_s_.nodes.length))]) rfl rfl (does_assign (u := (Bo true)) (ev rfl)) rfl ?_
  refine wpList_nil (hK23 _ _ ?_)
  refine wp_ret ?_
  refine ret_val (v := (.tuple #[(.string (shpS A_s_.nodes A_s_.nodes.length)), (Bo true)])) (res_TT rfl (slot rfl) (slot rfl)) X26 ?_
  have x27 : (shpB A_s_) = (shpS A_s_.nodes A_s_.nodes.length) := by first | assumption | (rw [shpB_f (by assumption)] <;> rfl) | (rw [shpB_t (by assumption)] <;> rfl)
  have x28 : (isShape A_s_) = true := by first | assumption | (rw [shpB_f (by assumption)] <;> rfl) | (rw [shpB_t (by assumption)] <;> rfl)
  exact (by first | with_reducible rfl | rw [x27, x28] | rw [x28, x27] | rfl)

/- laws.sameFloat -/
theorem c_laws_sameFloat (x : Nat) (y : Nat) (w : World) : Gives Try.prog 37 #[(Fd x), (Fd y)] w (fun v w' => v = (Bo (sameF (cf .f64 x) (cf .f64 y)))) := by
  refine enter [(Fd x), (Fd y), Ud, Ud, Ud, Ud, Ud, Ud, Ud, Ud, Ud, Ud, Ud, Ud, Ud, Ud, Ud, Ud, Ud, Ud, Ud, Ud, Ud, Ud, Ud, Ud, Ud, Ud, Ud, Ud, Ud, Ud, Ud, Ud, Ud, Ud, Ud] Try.func37 rfl Try.ntmps37 rfl ?_
  refine wp_seq_k fun K1 hK1 => ?_
  refine wp_region_lit ?_
  refine q_is rfl rfl (does_assign (u := (Bo false)) (ev rfl)) (by dsimp only [List.set]; try rfl) ?_
  refine wpList_nil (hK1 _ _ ?_)
  refine wp_seq_k fun K2 hK2 => ?_
  refine wp_seq_k fun K3 hK3 => ?_
  obtain ⟨β1, hβ1⟩ : ∃ b : Bool, b = (fcmp .neq (ford .f64 (cf .f64 x) (cf .f64 x))) := ⟨_, rfl⟩
  obtain ⟨β2, hβ2⟩ : ∃ b : Bool, b = (fcmp .neq (ford .f64 (cf .f64 y) (cf .f64 y))) := ⟨_, rfl⟩
  refine region_text (
    [Fact.pure [] (fun v => v = (Fd x)),
    Fact.pure [] (fun v => v = (Fd x)),
    Fact.pure [5, 6] (fun v => v = (Bo β1)),
    Fact.pure [7] (fun v => v = (Bo β1)),
    Fact.pure [8] (fun v => β1 = false → v = (Fd y)),
    Fact.pure [8] (fun v => β1 = false → v = (Fd y)),
    Fact.pure [9, 10, 8] (fun v => β1 = false → v = (Bo β2)),
    Fact.pure [8, 11] (fun v => v = (Bo (β1 || β2)))]) (by simp [Fact.pure, Fact.mem]) ?_
  refine RW_d _ rfl (fun v => by dsimp only [List.set]; try rfl) (fun u hu hF => ?_) (fun v4 => ?_)
  · clear hF
    refine doesG_un rfl ?_
    refine (does_move (u := (Fd x)) (ev rfl)).mono ?_; rintro _ _ ⟨rfl, rfl⟩
    exact ⟨rfl, Ext.refl _⟩
  refine RW_d _ rfl (fun v => by dsimp only [List.set]; try rfl) (fun u hu hF => ?_) (fun v5 => ?_)
  · clear hF
    refine doesG_un rfl ?_
    refine (does_move (u := (Fd x)) (ev rfl)).mono ?_; rintro _ _ ⟨rfl, rfl⟩
    exact ⟨rfl, Ext.refl _⟩
  refine RW_d _ rfl (fun v => by dsimp only [List.set]; try rfl) (fun u hu hF => ?_) (fun v6 => ?_)
  · have h5_ : v4 = (Fd x) := hF.1
    have h6_ : v5 = (Fd x) := hF.2.1
    clear hF
    refine doesG_un rfl ?_
    obtain rfl := h5_
    obtain rfl := h6_
    refine (does_fcmp (.inr (.inl rfl)) (ev rfl) (ev rfl)).mono ?_; rintro _ _ ⟨rfl, rfl⟩
    exact ⟨(by first | rfl | (show _ = _; simp only [hβ1]; done) | (show _ = _; simp only [hβ1]; rfl)), Ext.refl _⟩
  refine RW_d _ rfl (fun v => by dsimp only [List.set]; try rfl) (fun u hu hF => ?_) (fun v7 => ?_)
  · have h7_ : v6 = (Bo β1) := hF.1
    clear hF
    refine doesG_un rfl ?_
    obtain rfl := h7_
    refine (does_move (u := (Bo β1)) (ev rfl)).mono ?_; rintro _ _ ⟨rfl, rfl⟩
    exact ⟨rfl, Ext.refl _⟩
  refine RW_d _ rfl (fun v => by dsimp only [List.set]; try rfl) (fun u hu hF => ?_) (fun v8 => ?_)
  · have h8_ : v7 = (Bo β1) := hF.1
    clear hF
    obtain rfl := h8_
    refine doesG_g (b := β1) rfl (yld rfl rfl) (fun hg1 => ?_) (fun hc => ⟨fun hg1 => absurd hg1 hc, Ext.refl _⟩)
    refine (does_move (u := (Fd y)) (ev rfl)).mono ?_; rintro _ _ ⟨rfl, rfl⟩
    exact ⟨fun _ => rfl, Ext.refl _⟩
  refine RW_d _ rfl (fun v => by dsimp only [List.set]; try rfl) (fun u hu hF => ?_) (fun v9 => ?_)
  · have h8_ : v7 = (Bo β1) := hF.1
    clear hF
    obtain rfl := h8_
    refine doesG_g (b := β1) rfl (yld rfl rfl) (fun hg1 => ?_) (fun hc => ⟨fun hg1 => absurd hg1 hc, Ext.refl _⟩)
    refine (does_move (u := (Fd y)) (ev rfl)).mono ?_; rintro _ _ ⟨rfl, rfl⟩
    exact ⟨fun _ => rfl, Ext.refl _⟩
  refine RW_d _ rfl (fun v => by dsimp only [List.set]; try rfl) (fun u hu hF => ?_) (fun v10 => ?_)
  · have h9_ : β1 = false → v8 = (Fd y) := hF.1
    have h10_ : β1 = false → v9 = (Fd y) := hF.2.1
    have h8_ : v7 = (Bo β1) := hF.2.2.1
    clear hF
    obtain rfl := h8_
    refine doesG_g (b := β1) rfl (yld rfl rfl) (fun hg1 => ?_) (fun hc => ⟨fun hg1 => absurd hg1 hc, Ext.refl _⟩)
    obtain rfl := h9_ hg1
    obtain rfl := h10_ hg1
    refine (does_fcmp (.inr (.inl rfl)) (ev rfl) (ev rfl)).mono ?_; rintro _ _ ⟨rfl, rfl⟩
    exact ⟨fun _ => (by first | rfl | (show _ = _; simp only [hβ2]; done) | (show _ = _; simp only [hβ2]; rfl)), Ext.refl _⟩
  refine RW_d _ rfl (fun v => by dsimp only [List.set]; try rfl) (fun u hu hF => ?_) (fun v11 => ?_)
  · have h8_ : v7 = (Bo β1) := hF.1
    have h11_ : β1 = false → v10 = (Bo β2) := hF.2.1
    clear hF
    refine doesG_un rfl ?_
    skip
    obtain rfl := h8_
    refine (does_pick (b := β1) (u := (Bo true)) (v := v10) (ev rfl) (ev rfl) (ev rfl)).mono ?_; rintro _ _ ⟨rfl, rfl⟩; refine ⟨?_, Ext.refl _⟩; skip
    cases hbb : β1
    all_goals first | (show _ = _; simp only [↓reduceIte, Bool.true_and, Bool.false_and, Bool.true_or, Bool.false_or, Bool.false_eq_true]; done) | (have e_ := h11_ hbb; subst e_; show _ = _; simp only [↓reduceIte, Bool.true_and, Bool.false_and, Bool.true_or, Bool.false_or, Bool.false_eq_true]; done) | rfl | (have e_ := h11_ hbb; subst e_; rfl) | (simp [hbb] at h11_ ⊢; first | done | rfl | (subst h11_; rfl) | simp_all) | (simp [hbb] at h11_ ⊢; done)
  refine RW_fin ?_; intro w12 E13 hP14
  obtain ⟨⟨⟨⟨⟨⟨⟨⟨-, -⟩, -⟩, -⟩, -⟩, -⟩, -⟩, -⟩, q15⟩ := hP14
  have X16 := Ext.gr (Ext.refl w) E13
  have q15 : v11 = (Bo (β1 || β2)) := q15
  obtain rfl := q15
  show wpList _ _ _ _ (fr [_, _, _, _, _, _, _, _, _, _, _, _, _, _, _, _, _, _, _, _, _, _, _, _, _, _, _, _, _, _, _, _, _, _, _, _, _]) _
  refine wpList_nil (hK3 _ _ ?_)
  refine wp_cond_split (t := β1 || β2) (ev rfl) (fun c17 => ?_) (fun c17 => ?_)
  · have c17' := c17
    (try simp only [hβ1, hβ2] at c17')
    (try simp only [icmp, Bool.and_eq_true, Bool.or_eq_true, Bool.and_eq_false_iff, Bool.or_eq_false_iff, Bool.not_eq_true', Bool.not_eq_false', decide_eq_true_eq, decide_eq_false_iff_not, beq_iff_eq, bne_iff_ne, beq_eq_false_iff_ne, bne_eq_false_iff_eq] at c17')
    refine wp_seq_k fun K18 hK18 => ?_
    obtain ⟨β3, hβ3⟩ : ∃ b : Bool, b = (fcmp .neq (ford .f64 (cf .f64 x) (cf .f64 x))) := ⟨_, rfl⟩
    obtain ⟨β4, hβ4⟩ : ∃ b : Bool, b = (fcmp .neq (ford .f64 (cf .f64 y) (cf .f64 y))) := ⟨_, rfl⟩
    refine region_text (
      [Fact.pure [] (fun v => v = (Fd x)),
    Fact.pure [] (fun v => v = (Fd x)),
    Fact.pure [13, 14] (fun v => v = (Bo β3)),
    Fact.pure [15] (fun v => v = (Bo β3)),
    Fact.pure [16] (fun v => β3 = true → v = (Fd y)),
    Fact.pure [16] (fun v => β3 = true → v = (Fd y)),
    Fact.pure [17, 18, 16] (fun v => β3 = true → v = (Bo β4)),
    Fact.pure [16, 19] (fun v => v = (Bo (β3 && β4)))]) (by simp [Fact.pure, Fact.mem]) ?_
    refine RW_d _ rfl (fun v => by dsimp only [List.set]; try rfl) (fun u hu hF => ?_) (fun v19 => ?_)
    · clear hF
      refine doesG_un rfl ?_
      refine (does_move (u := (Fd x)) (ev rfl)).mono ?_; rintro _ _ ⟨rfl, rfl⟩
      exact ⟨rfl, Ext.refl _⟩
    refine RW_d _ rfl (fun v => by dsimp only [List.set]; try rfl) (fun u hu hF => ?_) (fun v20 => ?_)
    · clear hF
      refine doesG_un rfl ?_
      refine (does_move (u := (Fd x)) (ev rfl)).mono ?_; rintro _ _ ⟨rfl, rfl⟩
      exact ⟨rfl, Ext.refl _⟩
    refine RW_d _ rfl (fun v => by dsimp only [List.set]; try rfl) (fun u hu hF => ?_) (fun v21 => ?_)
    · have h13_ : v19 = (Fd x) := hF.1
      have h14_ : v20 = (Fd x) := hF.2.1
      clear hF
      refine doesG_un rfl ?_
      obtain rfl := h13_
      obtain rfl := h14_
      refine (does_fcmp (.inr (.inl rfl)) (ev rfl) (ev rfl)).mono ?_; rintro _ _ ⟨rfl, rfl⟩
      exact ⟨(by first | rfl | (show _ = _; simp only [hβ3]; done) | (show _ = _; simp only [hβ3]; rfl)), Ext.refl _⟩
    refine RW_d _ rfl (fun v => by dsimp only [List.set]; try rfl) (fun u hu hF => ?_) (fun v22 => ?_)
    · have h15_ : v21 = (Bo β3) := hF.1
      clear hF
      refine doesG_un rfl ?_
      obtain rfl := h15_
      refine (does_move (u := (Bo β3)) (ev rfl)).mono ?_; rintro _ _ ⟨rfl, rfl⟩
      exact ⟨rfl, Ext.refl _⟩
    refine RW_d _ rfl (fun v => by dsimp only [List.set]; try rfl) (fun u hu hF => ?_) (fun v23 => ?_)
    · have h16_ : v22 = (Bo β3) := hF.1
      clear hF
      obtain rfl := h16_
      refine doesG_g (b := β3) rfl (yld rfl rfl) (fun hg1 => ?_) (fun hc => ⟨fun hg1 => absurd hg1 hc, Ext.refl _⟩)
      refine (does_move (u := (Fd y)) (ev rfl)).mono ?_; rintro _ _ ⟨rfl, rfl⟩
      exact ⟨fun _ => rfl, Ext.refl _⟩
    refine RW_d _ rfl (fun v => by dsimp only [List.set]; try rfl) (fun u hu hF => ?_) (fun v24 => ?_)
    · have h16_ : v22 = (Bo β3) := hF.1
      clear hF
      obtain rfl := h16_
      refine doesG_g (b := β3) rfl (yld rfl rfl) (fun hg1 => ?_) (fun hc => ⟨fun hg1 => absurd hg1 hc, Ext.refl _⟩)
      refine (does_move (u := (Fd y)) (ev rfl)).mono ?_; rintro _ _ ⟨rfl, rfl⟩
      exact ⟨fun _ => rfl, Ext.refl _⟩
    refine RW_d _ rfl (fun v => by dsimp only [List.set]; try rfl) (fun u hu hF => ?_) (fun v25 => ?_)
    · have h17_ : β3 = true → v23 = (Fd y) := hF.1
      have h18_ : β3 = true → v24 = (Fd y) := hF.2.1
      have h16_ : v22 = (Bo β3) := hF.2.2.1
      clear hF
      obtain rfl := h16_
      refine doesG_g (b := β3) rfl (yld rfl rfl) (fun hg1 => ?_) (fun hc => ⟨fun hg1 => absurd hg1 hc, Ext.refl _⟩)
      obtain rfl := h17_ hg1
      obtain rfl := h18_ hg1
      refine (does_fcmp (.inr (.inl rfl)) (ev rfl) (ev rfl)).mono ?_; rintro _ _ ⟨rfl, rfl⟩
      exact ⟨fun _ => (by first | rfl | (show _ = _; simp only [hβ4]; done) | (show _ = _; simp only [hβ4]; rfl)), Ext.refl _⟩
    refine RW_d _ rfl (fun v => by dsimp only [List.set]; try rfl) (fun u hu hF => ?_) (fun v26 => ?_)
    · have h16_ : v22 = (Bo β3) := hF.1
      have h19_ : β3 = true → v25 = (Bo β4) := hF.2.1
      clear hF
      refine doesG_un rfl ?_
      skip
      obtain rfl := h16_
      refine (does_pick (b := β3) (u := v25) (v := (Bo false)) (ev rfl) (ev rfl) (ev rfl)).mono ?_; rintro _ _ ⟨rfl, rfl⟩; refine ⟨?_, Ext.refl _⟩; skip
      cases hbb : β3
      all_goals first | (show _ = _; simp only [↓reduceIte, Bool.true_and, Bool.false_and, Bool.true_or, Bool.false_or, Bool.false_eq_true]; done) | (have e_ := h19_ hbb; subst e_; show _ = _; simp only [↓reduceIte, Bool.true_and, Bool.false_and, Bool.true_or, Bool.false_or, Bool.false_eq_true]; done) | rfl | (have e_ := h19_ hbb; subst e_; rfl) | (simp [hbb] at h19_ ⊢; first | done | rfl | (subst h19_; rfl) | simp_all) | (simp [hbb] at h19_ ⊢; done)
    refine RW_fin ?_; intro w27 E28 hP29
    obtain ⟨⟨⟨⟨⟨⟨⟨⟨-, -⟩, -⟩, -⟩, -⟩, -⟩, -⟩, -⟩, q30⟩ := hP29
    have X31 := Ext.gr X16 E28
    have q30 : v26 = (Bo (β3 && β4)) := q30
    obtain rfl := q30
    show wpList _ _ _ _ (fr [_, _, _, _, _, _, _, _, _, _, _, _, _, _, _, _, _, _, _, _, _, _, _, _, _, _, _, _, _, _, _, _, _, _, _, _, _]) _
    refine q_is rfl rfl (does_assign (u := (Bo (β3 && β4))) (ev rfl)) (by dsimp only [List.set]; try rfl) ?_
    refine wpList_nil (hK18 _ _ ?_)
    refine wp_ret ?_
    dsimp only [Exit.then, Exit.inBlock]
    refine ret_val (v := (Bo (β3 && β4))) (res_T rfl (slot rfl)) X31 ?_
    try simp only [hβ1, hβ2, hβ3, hβ4] at c17
    have x32 : (sameF (cf .f64 x) (cf .f64 y)) = (β3 && β4) := by first | with_reducible rfl | (simp only [sameF, hβ1, hβ2, hβ3, hβ4, c17]; done) | (simp [sameF, hβ1, hβ2, hβ3, hβ4, c17]; done) | (revert c17; simp +contextual [sameF, hβ1, hβ2, hβ3, hβ4]; done) | (rcases c17' with hh | hh <;> simp only [hh, sameF, hβ1, hβ2, hβ3, hβ4, c17]; done) | (rcases c17' with hh | hh <;> simp_all [sameF]; done) | (rcases c17' with hh | hh | hh <;> simp_all [sameF]; done) | (rcases c17' with hh | hh | hh | hh <;> simp_all [sameF]; done) | (simp_all [sameF]; done) | rfl
    exact (by first | with_reducible rfl | rw [x32] | rfl)
  have c17' := c17
  (try simp only [hβ1, hβ2] at c17')
  (try simp only [icmp, Bool.and_eq_true, Bool.or_eq_true, Bool.and_eq_false_iff, Bool.or_eq_false_iff, Bool.not_eq_true', Bool.not_eq_false', decide_eq_true_eq, decide_eq_false_iff_not, beq_iff_eq, bne_iff_ne, beq_eq_false_iff_ne, bne_eq_false_iff_eq] at c17')
  refine wp_skip (hK2 _ _ ?_)
  refine wp_seq_k fun K33 hK33 => ?_
  refine wp_seq_k fun K34 hK34 => ?_
  obtain ⟨β5, hβ5⟩ : ∃ b : Bool, b = (fcmp .eql (ford .f64 (cf .f64 x) (cf .f64 0))) := ⟨_, rfl⟩
  obtain ⟨β6, hβ6⟩ : ∃ b : Bool, b = (fcmp .eql (ford .f64 (cf .f64 y) (cf .f64 0))) := ⟨_, rfl⟩
  refine region_text (
    [Fact.pure [] (fun v => v = (Fd x)),
    Fact.pure [21] (fun v => v = (Bo β5)),
    Fact.pure [22] (fun v => v = (Bo β5)),
    Fact.pure [23] (fun v => β5 = true → v = (Fd y)),
    Fact.pure [24, 23] (fun v => β5 = true → v = (Bo β6)),
    Fact.pure [23, 25] (fun v => v = (Bo (β5 && β6)))]) (by simp [Fact.pure, Fact.mem]) ?_
  refine RW_d _ rfl (fun v => by dsimp only [List.set]; try rfl) (fun u hu hF => ?_) (fun v35 => ?_)
  · clear hF
    refine doesG_un rfl ?_
    refine (does_move (u := (Fd x)) (ev rfl)).mono ?_; rintro _ _ ⟨rfl, rfl⟩
    exact ⟨rfl, Ext.refl _⟩
  refine RW_d _ rfl (fun v => by dsimp only [List.set]; try rfl) (fun u hu hF => ?_) (fun v36 => ?_)
  · have h21_ : v35 = (Fd x) := hF.1
    clear hF
    refine doesG_un rfl ?_
    obtain rfl := h21_
    refine (does_fcmp (.inl rfl) (ev rfl) (ev rfl)).mono ?_; rintro _ _ ⟨rfl, rfl⟩
    exact ⟨(by first | rfl | (show _ = _; simp only [hβ5]; done) | (show _ = _; simp only [hβ5]; rfl)), Ext.refl _⟩
  refine RW_d _ rfl (fun v => by dsimp only [List.set]; try rfl) (fun u hu hF => ?_) (fun v37 => ?_)
  · have h22_ : v36 = (Bo β5) := hF.1
    clear hF
    refine doesG_un rfl ?_
    obtain rfl := h22_
    refine (does_move (u := (Bo β5)) (ev rfl)).mono ?_; rintro _ _ ⟨rfl, rfl⟩
    exact ⟨rfl, Ext.refl _⟩
  refine RW_d _ rfl (fun v => by dsimp only [List.set]; try rfl) (fun u hu hF => ?_) (fun v38 => ?_)
  · have h23_ : v37 = (Bo β5) := hF.1
    clear hF
    obtain rfl := h23_
    refine doesG_g (b := β5) rfl (yld rfl rfl) (fun hg1 => ?_) (fun hc => ⟨fun hg1 => absurd hg1 hc, Ext.refl _⟩)
    refine (does_move (u := (Fd y)) (ev rfl)).mono ?_; rintro _ _ ⟨rfl, rfl⟩
    exact ⟨fun _ => rfl, Ext.refl _⟩
  refine RW_d _ rfl (fun v => by dsimp only [List.set]; try rfl) (fun u hu hF => ?_) (fun v39 => ?_)
  · have h24_ : β5 = true → v38 = (Fd y) := hF.1
    have h23_ : v37 = (Bo β5) := hF.2.1
    clear hF
    obtain rfl := h23_
    refine doesG_g (b := β5) rfl (yld rfl rfl) (fun hg1 => ?_) (fun hc => ⟨fun hg1 => absurd hg1 hc, Ext.refl _⟩)
    obtain rfl := h24_ hg1
    refine (does_fcmp (.inl rfl) (ev rfl) (ev rfl)).mono ?_; rintro _ _ ⟨rfl, rfl⟩
    exact ⟨fun _ => (by first | rfl | (show _ = _; simp only [hβ6]; done) | (show _ = _; simp only [hβ6]; rfl)), Ext.refl _⟩
  refine RW_d _ rfl (fun v => by dsimp only [List.set]; try rfl) (fun u hu hF => ?_) (fun v40 => ?_)
  · have h23_ : v37 = (Bo β5) := hF.1
    have h25_ : β5 = true → v39 = (Bo β6) := hF.2.1
    clear hF
    refine doesG_un rfl ?_
    skip
    obtain rfl := h23_
    refine (does_pick (b := β5) (u := v39) (v := (Bo false)) (ev rfl) (ev rfl) (ev rfl)).mono ?_; rintro _ _ ⟨rfl, rfl⟩; refine ⟨?_, Ext.refl _⟩; skip
    cases hbb : β5
    all_goals first | (show _ = _; simp only [↓reduceIte, Bool.true_and, Bool.false_and, Bool.true_or, Bool.false_or, Bool.false_eq_true]; done) | (have e_ := h25_ hbb; subst e_; show _ = _; simp only [↓reduceIte, Bool.true_and, Bool.false_and, Bool.true_or, Bool.false_or, Bool.false_eq_true]; done) | rfl | (have e_ := h25_ hbb; subst e_; rfl) | (simp [hbb] at h25_ ⊢; first | done | rfl | (subst h25_; rfl) | simp_all) | (simp [hbb] at h25_ ⊢; done)
  refine RW_fin ?_; intro w41 E42 hP43
  obtain ⟨⟨⟨⟨⟨⟨-, -⟩, -⟩, -⟩, -⟩, -⟩, q44⟩ := hP43
  have X45 := Ext.gr X16 E42
  have q44 : v40 = (Bo (β5 && β6)) := q44
  obtain rfl := q44
  show wpList _ _ _ _ (fr [_, _, _, _, _, _, _, _, _, _, _, _, _, _, _, _, _, _, _, _, _, _, _, _, _, _, _, _, _, _, _, _, _, _, _, _, _]) _
  refine wpList_nil (hK34 _ _ ?_)
  refine wp_cond_split (t := β5 && β6) (ev rfl) (fun c46 => ?_) (fun c46 => ?_)
  · have c46' := c46
    (try simp only [hβ1, hβ2, hβ5, hβ6] at c46')
    (try simp only [icmp, Bool.and_eq_true, Bool.or_eq_true, Bool.and_eq_false_iff, Bool.or_eq_false_iff, Bool.not_eq_true', Bool.not_eq_false', decide_eq_true_eq, decide_eq_false_iff_not, beq_iff_eq, bne_iff_ne, beq_eq_false_iff_ne, bne_eq_false_iff_eq] at c46')
    refine wp_seq_k fun K47 hK47 => ?_
    refine wp_region_lit ?_
    refine q_is rfl rfl (does_move (u := (Fd x)) (ev rfl)) (by dsimp only [List.set]; try rfl) ?_
    refine seqd rfl rfl (does_float (.inr (.inr (.inr rfl))) (ev rfl) (ev rfl)) ?_; rintro _ w51 ⟨r48, rfl, h49, E50⟩
    have X52 := Ext.gr X45 E50
    show wpList _ _ _ _ (fr [_, _, _, _, _, _, _, _, _, _, _, _, _, _, _, _, _, _, _, _, _, _, _, _, _, _, _, _, _, _, _, _, _, _, _, _, _]) _
    refine q_is rfl rfl (does_fcmp (.inr (.inr (.inr (.inr (.inl rfl))))) (ev rfl) (ev rfl)) (by dsimp only [List.set]; try rfl) ?_
    refine q_is rfl rfl (does_move (u := (Fd y)) (ev rfl)) (by dsimp only [List.set]; try rfl) ?_
    refine seqd rfl rfl (does_float (.inr (.inr (.inr rfl))) (ev rfl) (ev rfl)) ?_; rintro _ w56 ⟨r53, rfl, h54, E55⟩
    have X57 := Ext.gr X52 E55
    show wpList _ _ _ _ (fr [_, _, _, _, _, _, _, _, _, _, _, _, _, _, _, _, _, _, _, _, _, _, _, _, _, _, _, _, _, _, _, _, _, _, _, _, _]) _
    refine q_is rfl rfl (does_fcmp (.inr (.inr (.inr (.inr (.inl rfl))))) (ev rfl) (ev rfl)) (by dsimp only [List.set]; try rfl) ?_
    refine q_is rfl rfl (does_beq (p := (fcmp .gtr (ford .f64 (cf .f64 r48) (cf .f64 0)))) (q := (fcmp .gtr (ford .f64 (cf .f64 r53) (cf .f64 0)))) Try.underlying4 (ev rfl) (ev rfl)) (by dsimp only [List.set]; try rfl) ?_
    refine q_is rfl rfl (does_assign (u := (Bo ((fcmp .gtr (ford .f64 (cf .f64 r48) (cf .f64 0))) == (fcmp .gtr (ford .f64 (cf .f64 r53) (cf .f64 0)))))) (ev rfl)) (by dsimp only [List.set]; try rfl) ?_
    refine wpList_nil (hK47 _ _ ?_)
    refine wp_ret ?_
    dsimp only [Exit.then, Exit.inBlock]
    refine ret_val (v := (Bo ((fcmp .gtr (ford .f64 (cf .f64 r48) (cf .f64 0))) == (fcmp .gtr (ford .f64 (cf .f64 r53) (cf .f64 0)))))) (res_T rfl (slot rfl)) X57 ?_
    try simp only [hβ1, hβ2, hβ5, hβ6, h49, h54] at c17 c46
    have x58 : (sameF (cf .f64 x) (cf .f64 y)) = ((fcmp .gtr (ford .f64 (cf .f64 r48) (cf .f64 0))) == (fcmp .gtr (ford .f64 (cf .f64 r53) (cf .f64 0)))) := by first | with_reducible rfl | (simp only [sameF, hβ1, hβ2, hβ5, hβ6, h49, h54, c17, c46]; done) | (simp [sameF, hβ1, hβ2, hβ5, hβ6, h49, h54, c17, c46]; done) | (revert c17 c46; simp +contextual [sameF, hβ1, hβ2, hβ5, hβ6, h49, h54]; done) | (rcases c17' with hh | hh <;> simp only [hh, sameF, hβ1, hβ2, hβ5, hβ6, h49, h54, c17, c46]; done) | (rcases c46' with hh | hh <;> simp only [hh, sameF, hβ1, hβ2, hβ5, hβ6, h49, h54, c17, c46]; done) | (rcases c46' with hh | hh <;> simp_all [sameF]; done) | (rcases c46' with hh | hh | hh <;> simp_all [sameF]; done) | (rcases c46' with hh | hh | hh | hh <;> simp_all [sameF]; done) | (simp_all [sameF]; done) | rfl
    exact (by first | with_reducible rfl | rw [x58] | rfl)
  have c46' := c46
  (try simp only [hβ1, hβ2, hβ5, hβ6] at c46')
  (try simp only [icmp, Bool.and_eq_true, Bool.or_eq_true, Bool.and_eq_false_iff, Bool.or_eq_false_iff, Bool.not_eq_true', Bool.not_eq_false', decide_eq_true_eq, decide_eq_false_iff_not, beq_iff_eq, bne_iff_ne, beq_eq_false_iff_ne, bne_eq_false_iff_eq] at c46')
  refine wp_skip (hK33 _ _ ?_)
  refine wp_seq_k fun K59 hK59 => ?_
  refine wp_region_lit ?_
  refine q_is rfl rfl (does_move (u := (Fd x)) (ev rfl)) (by dsimp only [List.set]; try rfl) ?_
  refine q_is rfl rfl (does_move (u := (Fd y)) (ev rfl)) (by dsimp only [List.set]; try rfl) ?_
  refine q_is rfl rfl (does_fcmp (.inl rfl) (ev rfl) (ev rfl)) (by dsimp only [List.set]; try rfl) ?_
  refine q_is rfl rfl (does_assign (u := (Bo (fcmp .eql (ford .f64 (cf .f64 x) (cf .f64 y))))) (ev rfl)) (by dsimp only [List.set]; try rfl) ?_
  refine wpList_nil (hK59 _ _ ?_)
  refine wp_ret ?_
  refine ret_val (v := (Bo (fcmp .eql (ford .f64 (cf .f64 x) (cf .f64 y))))) (res_T rfl (slot rfl)) X45 ?_
  try simp only [hβ1, hβ2, hβ5, hβ6] at c17 c46
  have x60 : (sameF (cf .f64 x) (cf .f64 y)) = (fcmp .eql (ford .f64 (cf .f64 x) (cf .f64 y))) := by first | with_reducible rfl | (simp only [sameF, hβ1, hβ2, hβ5, hβ6, c17, c46]; done) | (simp [sameF, hβ1, hβ2, hβ5, hβ6, c17, c46]; done) | (revert c17 c46; simp +contextual [sameF, hβ1, hβ2, hβ5, hβ6]; done) | (rcases c17' with hh | hh <;> simp only [hh, sameF, hβ1, hβ2, hβ5, hβ6, c17, c46]; done) | (rcases c46' with hh | hh <;> simp only [hh, sameF, hβ1, hβ2, hβ5, hβ6, c17, c46]; done) | (rcases c46' with hh | hh <;> simp_all [sameF]; done) | (rcases c46' with hh | hh | hh <;> simp_all [sameF]; done) | (rcases c46' with hh | hh | hh | hh <;> simp_all [sameF]; done) | (simp_all [sameF]; done) | rfl
  exact (by first | with_reducible rfl | rw [x60] | rfl)

/- laws.eqFloat32S -/
theorem c_laws_eqFloat32S (a : Value) (L_a : List Nat) (b : Value) (L_b : List Nat) (w : World) (hv_a : Sl RF 1 w a L_a) (hv_b : Sl RF 1 w b L_b) : Gives Try.prog 90 #[a, b] w (fun v w' => v = (Bo (sameL L_a L_b))) := by
  have hlen_a := Sl.len hv_a; obtain ⟨p_a, q_a, rfl⟩ := Sl.shape hv_a
  have hlen_b := Sl.len hv_b; obtain ⟨p_b, q_b, rfl⟩ := Sl.shape hv_b
  refine enter [(.slice p_a L_a.length q_a), (.slice p_b L_b.length q_b), Ud, Ud, Ud, Ud, Ud, Ud, Ud, Ud, Ud, Ud, Ud, Ud, Ud, Ud, Ud, Ud, Ud, Ud, Ud, Ud, Ud, Ud, Ud, Ud, Ud, Ud, Ud] Try.func90 rfl Try.ntmps90 rfl ?_
  refine wp_seq_k fun K1 hK1 => ?_
  refine wp_region_lit ?_
  refine q_is rfl rfl (does_assign (u := (Bo false)) (ev rfl)) (by dsimp only [List.set]; try rfl) ?_
  refine wpList_nil (hK1 _ _ ?_)
  refine wp_seq_k fun K2 hK2 => ?_
  refine wp_seq_k fun K3 hK3 => ?_
  refine wp_region_lit ?_
  refine q_is rfl rfl (does_move (u := (.slice p_a L_a.length q_a)) (ev rfl)) (by dsimp only [List.set]; try rfl) ?_
  refine q_is rfl rfl (does_len_slice Try.underlying97 (ev rfl)) (by dsimp only [List.set]; try rfl) ?_
  refine q_is rfl rfl (does_move (u := (.slice p_b L_b.length q_b)) (ev rfl)) (by dsimp only [List.set]; try rfl) ?_
  refine q_is rfl rfl (does_len_slice Try.underlying97 (ev rfl)) (by dsimp only [List.set]; try rfl) ?_
  refine q_is rfl rfl (does_icmp (p := (L_a.length : Int)) (q := (L_b.length : Int)) (.inr (.inl rfl)) (ev rfl) (ev rfl)) (by dsimp only [List.set]; try rfl) ?_
  refine wpList_nil (hK3 _ _ ?_)
  refine wp_cond_split (t := icmp .neq (L_a.length : Int) (L_b.length : Int)) (ev rfl) (fun c4 => ?_) (fun c4 => ?_)
  · have c4' := c4
    (try simp only [icmp, Bool.and_eq_true, Bool.or_eq_true, Bool.and_eq_false_iff, Bool.or_eq_false_iff, Bool.not_eq_true', Bool.not_eq_false', decide_eq_true_eq, decide_eq_false_iff_not, beq_iff_eq, bne_iff_ne, beq_eq_false_iff_ne, bne_eq_false_iff_eq] at c4')
    refine wp_seq_k fun K5 hK5 => ?_
    refine wp_region_lit ?_
    refine q_is rfl rfl (does_assign (u := (Bo false)) (ev rfl)) (by dsimp only [List.set]; try rfl) ?_
    refine wpList_nil (hK5 _ _ ?_)
    refine wp_ret ?_
    dsimp only [Exit.then, Exit.inBlock]
    refine ret_val (v := (Bo false)) (res_T rfl (slot rfl)) (Ext.refl w) ?_
    have x6 : (sameL L_a L_b) = false := by first | exact (sameL_len (by omega)) | exact (sameL_not (by omega) (by assumption) (by assumption) (by simp_all)) | exact (sameL_all (by omega) (by omega) hs)
    exact (by first | with_reducible rfl | rw [x6] | rfl)
  have c4' := c4
  (try simp only [icmp, Bool.and_eq_true, Bool.or_eq_true, Bool.and_eq_false_iff, Bool.or_eq_false_iff, Bool.not_eq_true', Bool.not_eq_false', decide_eq_true_eq, decide_eq_false_iff_not, beq_iff_eq, bne_iff_ne, beq_eq_false_iff_ne, bne_eq_false_iff_eq] at c4')
  refine wp_skip (hK2 _ _ ?_)
  refine wp_seq_k fun K7 hK7 => ?_
  refine wp_seq_k fun K8 hK8 => ?_
  refine wp_region_lit ?_
  refine q_is rfl rfl (does_assign (u := (Iv 0)) (ev rfl)) (by dsimp only [List.set]; try rfl) ?_
  refine wpList_nil (hK8 _ _ ?_)
  refine wp_block ?_
  refine loop_ghost (σ := Nat) (fun k a w' => ∃ u9 : Nat → Value, a = fr [(.slice p_a L_a.length q_a), (.slice p_b L_b.length q_b), Ud, Ud, (u9 4), (Iv (k : Int)), (.slice p_a L_a.length q_a), (Iv (L_a.length : Int)), (.slice p_b L_b.length q_b), (Iv (L_b.length : Int)), (Bo (icmp .neq (L_a.length : Int) (L_b.length : Int))), (u9 11), (u9 12), (u9 13), (u9 14), (u9 15), (u9 16), (u9 17), (u9 18), (u9 19), (u9 20), (u9 21), (u9 22), (u9 23), (u9 24), (u9 25), (u9 26), (u9 27), (u9 28)] ∧ Ext w w' ∧ (k ≤ L_a.length ∧ SameTo L_a L_b k)) (fun k => L_a.length - k) 0 ?_ ?_
  · refine ⟨fun t => (([(.slice p_a L_a.length q_a), (.slice p_b L_b.length q_b), Ud, Ud, (Bo false), (Iv 0), (.slice p_a L_a.length q_a), (Iv (L_a.length : Int)), (.slice p_b L_b.length q_b), (Iv (L_b.length : Int)), (Bo (icmp .neq (L_a.length : Int) (L_b.length : Int))), Ud, Ud, Ud, Ud, Ud, Ud, Ud, Ud, Ud, Ud, Ud, Ud, Ud, Ud, Ud, Ud, Ud, Ud] : List Value)[t]?).getD undef, rfl, Ext.refl _, ?_⟩
    exact ⟨Nat.zero_le _, SameTo.zero⟩
  · rintro k a w10 ⟨u9, rfl, E11, ⟨hk, hs⟩⟩
    have X13 := Ext.gr (Ext.refl w) E11
    refine wp_seq_k fun K14 hK14 => ?_
    refine wp_seq_k fun K15 hK15 => ?_
    refine wp_region_lit ?_
    refine q_is rfl rfl (does_move (u := (Iv (k : Int))) (ev rfl)) (by dsimp only [List.set]; try rfl) ?_
    refine q_is rfl rfl (does_move (u := (.slice p_a L_a.length q_a)) (ev rfl)) (by dsimp only [List.set]; try rfl) ?_
    refine q_is rfl rfl (does_len_slice Try.underlying97 (ev rfl)) (by dsimp only [List.set]; try rfl) ?_
    refine q_is rfl rfl (does_icmp (p := (k : Int)) (q := (L_a.length : Int)) (.inr (.inr (.inl rfl))) (ev rfl) (ev rfl)) (by dsimp only [List.set]; try rfl) ?_
    refine wpList_nil (hK15 _ _ ?_)
    refine wp_cond_split (t := icmp .lss (k : Int) (L_a.length : Int)) (ev rfl) (fun c16 => ?_) (fun c16 => ?_)
    · have c16' := c16
      (try simp only [icmp, Bool.and_eq_true, Bool.or_eq_true, Bool.and_eq_false_iff, Bool.or_eq_false_iff, Bool.not_eq_true', Bool.not_eq_false', decide_eq_true_eq, decide_eq_false_iff_not, beq_iff_eq, bne_iff_ne, beq_eq_false_iff_ne, bne_eq_false_iff_eq] at c16')
      refine wp_skip (hK14 _ _ ?_)
      refine wp_seq_k fun K17 hK17 => ?_
      refine wp_block ?_
      refine wp_seq_k fun K18 hK18 => ?_
      obtain ⟨el1, hel1⟩ : ∃ e, L_a[k]? = some e := ⟨_, List.getElem?_eq_getElem (by omega)⟩
      obtain ⟨el2, hel2⟩ : ∃ e, L_b[k]? = some e := ⟨_, List.getElem?_eq_getElem (by omega)⟩
      obtain ⟨β1, hβ1⟩ : ∃ b : Bool, b = (sameF (fwid el1) (fwid el2)) := ⟨_, rfl⟩
      refine region_draw (
        [Fact.pure [] (fun v => v = (.slice p_a L_a.length q_a)),
    Fact.pure [] (fun v => v = (Iv (k : Int))),
    Fact.mem [17, 18] (fun v w' => PtrR RF w' v el1) (by intro v w1 w2 hx h; exact h.ext RF.mono hx),
    Fact.pure [19] (fun v => ∃ r_1 : Nat, v = (Fl r_1) ∧ cf .f32 r_1 = el1),
    Fact.pure [20] (fun v => ∃ r_1 : Nat, v = (Fd r_1) ∧ cf .f64 r_1 = fwid el1),
    Fact.pure [] (fun v => v = (.slice p_b L_b.length q_b)),
    Fact.pure [] (fun v => v = (Iv (k : Int))),
    Fact.mem [22, 23] (fun v w' => PtrR RF w' v el2) (by intro v w1 w2 hx h; exact h.ext RF.mono hx),
    Fact.pure [24] (fun v => ∃ r_1 : Nat, v = (Fl r_1) ∧ cf .f32 r_1 = el2),
    Fact.pure [25] (fun v => ∃ r_1 : Nat, v = (Fd r_1) ∧ cf .f64 r_1 = fwid el2),
    Fact.pure [21, 26] (fun v => v = (Bo β1)),
    Fact.pure [27] (fun v => v = (Bo (!β1)))]) mixed (by kernel_rfl) (by intro _ _ d _ _ h; cases d <;> exact h) ?_
      obtain ⟨w19, hw21⟩ : ∃ w', w' = World.drew w10 := ⟨_, rfl⟩; rw [← hw21]; have E20 : Ext w10 w19 := by rw [hw21]; exact Ext.draw _
      clear hw21
      have X22 := Ext.gr X13 E20
      refine RW_d _ rfl (fun v => by dsimp only [List.set]; try rfl) (fun u hu hF => ?_) (fun v23 => ?_)
      · clear hF
        refine doesG_un rfl ?_
        refine (does_move (u := (.slice p_a L_a.length q_a)) (ev rfl)).mono ?_; rintro _ _ ⟨rfl, rfl⟩
        exact ⟨rfl, Ext.refl _⟩
      refine RW_d _ rfl (fun v => by dsimp only [List.set]; try rfl) (fun u hu hF => ?_) (fun v24 => ?_)
      · clear hF
        refine doesG_un rfl ?_
        refine (does_move (u := (Iv (k : Int))) (ev rfl)).mono ?_; rintro _ _ ⟨rfl, rfl⟩
        exact ⟨rfl, Ext.refl _⟩
      refine RW_d _ rfl (fun v => by dsimp only [List.set]; try rfl) (fun u hu hF => ?_) (fun v25 => ?_)
      · have h17_ : v23 = (.slice p_a L_a.length q_a) := hF.1
        have h18_ : v24 = (Iv (k : Int)) := hF.2.1
        clear hF
        refine doesG_un rfl ?_
        obtain rfl := h17_
        obtain rfl := h18_
        refine (does_indexSl (R := RF) (i := (k : Int)) (xs := L_a) (e := el1) Try.underlying97 Try.sizeOf38 (ev rfl) (ev rfl) (Sl.ext (Sl.ext hv_a RF.mono (Ext.gr X13 E20)) RF.mono hu) (by omega) hel1).mono ?_; rintro v u' ⟨b, of, cs, hv, hc, hR, hu'⟩; subst hu'
        exact ⟨⟨b, of, cs, hv, hc, hR⟩, Ext.refl _⟩
      refine RW_d _ rfl (fun v => by dsimp only [List.set]; try rfl) (fun u hu hF => ?_) (fun v26 => ?_)
      · have h19_ : PtrR RF u v25 el1 := hF.1
        clear hF
        refine doesG_un rfl ?_
        obtain ⟨b19_, o19_, _, rfl, hc19_, ⟨r19_1, rfl, h19_2⟩⟩ := h19_
        refine (does_load (u := (Fl r19_1)) (ev rfl) Try.isAgg38 (Cells.at hc19_ 0 rfl)).mono ?_; rintro _ _ ⟨rfl, rfl⟩
        exact ⟨⟨r19_1, rfl, (by simp only [h19_2])⟩, Ext.refl _⟩
      refine RW_d _ rfl (fun v => by dsimp only [List.set]; try rfl) (fun u hu hF => ?_) (fun v27 => ?_)
      · have h20_ : ∃ r_1 : Nat, v26 = (Fl r_1) ∧ cf .f32 r_1 = el1 := hF.1
        clear hF
        refine doesG_un rfl ?_
        obtain ⟨r20_1, rfl, h20_2⟩ := h20_
        refine (does_widen Try.underlying38 Try.underlying84 (ev rfl)).mono ?_; rintro _ _ ⟨r, rfl, hr, hx⟩
        exact ⟨⟨r, rfl, (by simp only [hr, h20_2])⟩, hx⟩
      refine RW_d _ rfl (fun v => by dsimp only [List.set]; try rfl) (fun u hu hF => ?_) (fun v28 => ?_)
      · clear hF
        refine doesG_un rfl ?_
        refine (does_move (u := (.slice p_b L_b.length q_b)) (ev rfl)).mono ?_; rintro _ _ ⟨rfl, rfl⟩
        exact ⟨rfl, Ext.refl _⟩
      refine RW_d _ rfl (fun v => by dsimp only [List.set]; try rfl) (fun u hu hF => ?_) (fun v29 => ?_)
      · clear hF
        refine doesG_un rfl ?_
        refine (does_move (u := (Iv (k : Int))) (ev rfl)).mono ?_; rintro _ _ ⟨rfl, rfl⟩
        exact ⟨rfl, Ext.refl _⟩
      refine RW_d _ rfl (fun v => by dsimp only [List.set]; try rfl) (fun u hu hF => ?_) (fun v30 => ?_)
      · have h22_ : v28 = (.slice p_b L_b.length q_b) := hF.1
        have h23_ : v29 = (Iv (k : Int)) := hF.2.1
        clear hF
        refine doesG_un rfl ?_
        obtain rfl := h22_
        obtain rfl := h23_
        refine (does_indexSl (R := RF) (i := (k : Int)) (xs := L_b) (e := el2) Try.underlying97 Try.sizeOf38 (ev rfl) (ev rfl) (Sl.ext (Sl.ext hv_b RF.mono (Ext.gr X13 E20)) RF.mono hu) (by omega) hel2).mono ?_; rintro v u' ⟨b, of, cs, hv, hc, hR, hu'⟩; subst hu'
        exact ⟨⟨b, of, cs, hv, hc, hR⟩, Ext.refl _⟩
      refine RW_d _ rfl (fun v => by dsimp only [List.set]; try rfl) (fun u hu hF => ?_) (fun v31 => ?_)
      · have h24_ : PtrR RF u v30 el2 := hF.1
        clear hF
        refine doesG_un rfl ?_
        obtain ⟨b24_, o24_, _, rfl, hc24_, ⟨r24_1, rfl, h24_2⟩⟩ := h24_
        refine (does_load (u := (Fl r24_1)) (ev rfl) Try.isAgg38 (Cells.at hc24_ 0 rfl)).mono ?_; rintro _ _ ⟨rfl, rfl⟩
        exact ⟨⟨r24_1, rfl, (by simp only [h24_2])⟩, Ext.refl _⟩
      refine RW_d _ rfl (fun v => by dsimp only [List.set]; try rfl) (fun u hu hF => ?_) (fun v32 => ?_)
      · have h25_ : ∃ r_1 : Nat, v31 = (Fl r_1) ∧ cf .f32 r_1 = el2 := hF.1
        clear hF
        refine doesG_un rfl ?_
        obtain ⟨r25_1, rfl, h25_2⟩ := h25_
        refine (does_widen Try.underlying38 Try.underlying84 (ev rfl)).mono ?_; rintro _ _ ⟨r, rfl, hr, hx⟩
        exact ⟨⟨r, rfl, (by simp only [hr, h25_2])⟩, hx⟩
      refine RW_d _ rfl (fun v => by dsimp only [List.set]; try rfl) (fun u hu hF => ?_) (fun v33 => ?_)
      · have h21_ : ∃ r_1 : Nat, v27 = (Fd r_1) ∧ cf .f64 r_1 = fwid el1 := hF.1
        have h26_ : ∃ r_1 : Nat, v32 = (Fd r_1) ∧ cf .f64 r_1 = fwid el2 := hF.2.1
        clear hF
        refine doesG_un rfl ?_
        obtain ⟨r21_1, rfl, h21_2⟩ := h21_
        obtain ⟨r26_1, rfl, h26_2⟩ := h26_
        refine (does_call (args := #[(Fd r21_1), (Fd r26_1)]) cal37 (evs rfl) (c_laws_sameFloat r21_1 r26_1 _)).mono ?_; rintro v u' ⟨hx, hv⟩
        exact ⟨hv.trans (by simp only [hβ1, h21_2, h26_2]), hx⟩
      refine RW_d _ rfl (fun v => by dsimp only [List.set]; try rfl) (fun u hu hF => ?_) (fun v34 => ?_)
      · have h27_ : v33 = (Bo β1) := hF.1
        clear hF
        refine doesG_un rfl ?_
        obtain rfl := h27_
        refine (does_not (ev rfl)).mono ?_; rintro _ _ ⟨rfl, rfl⟩
        exact ⟨rfl, Ext.refl _⟩
      refine RW_fin ?_; intro w35 E36 hP37
      obtain ⟨⟨⟨⟨⟨⟨⟨⟨⟨⟨⟨⟨-, -⟩, -⟩, -⟩, -⟩, -⟩, -⟩, -⟩, -⟩, -⟩, -⟩, -⟩, q38⟩ := hP37
      have X39 := Ext.gr X22 E36
      have q38 : v34 = (Bo (!β1)) := q38
      obtain rfl := q38
      show wpList _ _ _ _ (fr [_, _, _, _, _, _, _, _, _, _, _, _, _, _, _, _, _, _, _, _, _, _, _, _, _, _, _, _, _]) _
      refine wpList_nil (hK18 _ _ ?_)
      refine wp_cond_split (t := !β1) (ev rfl) (fun c40 => ?_) (fun c40 => ?_)
      · rw [Bool.not_eq_true'] at c40
        have c40' := c40
        (try simp only [hβ1] at c40')
        (try simp only [icmp, Bool.and_eq_true, Bool.or_eq_true, Bool.and_eq_false_iff, Bool.or_eq_false_iff, Bool.not_eq_true', Bool.not_eq_false', decide_eq_true_eq, decide_eq_false_iff_not, beq_iff_eq, bne_iff_ne, beq_eq_false_iff_ne, bne_eq_false_iff_eq] at c40')
        refine wp_seq_k fun K41 hK41 => ?_
        refine wp_region_lit ?_
        refine q_is rfl rfl (does_assign (u := (Bo false)) (ev rfl)) (by dsimp only [List.set]; try rfl) ?_
        refine wpList_nil (hK41 _ _ ?_)
        refine wp_ret ?_
        dsimp only [Exit.then, Exit.inBlock]
        refine ret_val (v := (Bo false)) (res_T rfl (slot rfl)) X39 ?_
        try simp only [hβ1, hel1, hel2] at c4 c16 c40
        have x42 : (sameL L_a L_b) = false := by first | exact (sameL_len (by omega)) | exact (sameL_not (by omega) (by assumption) (by assumption) (by simp_all)) | exact (sameL_all (by omega) (by omega) hs)
        exact (by first | with_reducible rfl | rw [x42] | rfl)
      rw [Bool.not_eq_false'] at c40
      have c40' := c40
      (try simp only [hβ1] at c40')
      (try simp only [icmp, Bool.and_eq_true, Bool.or_eq_true, Bool.and_eq_false_iff, Bool.or_eq_false_iff, Bool.not_eq_true', Bool.not_eq_false', decide_eq_true_eq, decide_eq_false_iff_not, beq_iff_eq, bne_iff_ne, beq_eq_false_iff_ne, bne_eq_false_iff_eq] at c40')
      refine wp_skip (hK17 _ _ ?_)
      refine wp_region_lit ?_
      refine q_is rfl rfl (does_move (u := (Iv (k : Int))) (ev rfl)) (by dsimp only [List.set]; try rfl) ?_
      refine q_is rfl rfl (does_iarith (p := (k : Int)) (q := 1) (r := (k : Int) + 1) (ev rfl) (ev rfl) (.inl ⟨rfl, (in_i64 (by omega) (by omega)).symm⟩)) (by dsimp only [List.set]; try rfl) ?_
      refine q_is rfl rfl (does_assign (u := (Iv ((k : Int) + 1))) (ev rfl)) (by dsimp only [List.set]; try rfl) ?_
      refine wpList_nil ?_
      refine ⟨k + 1, ⟨fun t => (([(.slice p_a L_a.length q_a), (.slice p_b L_b.length q_b), Ud, Ud, (u9 4), (Iv ((k : Int) + 1)), (.slice p_a L_a.length q_a), (Iv (L_a.length : Int)), (.slice p_b L_b.length q_b), (Iv (L_b.length : Int)), (Bo (icmp .neq (L_a.length : Int) (L_b.length : Int))), (Iv (k : Int)), (.slice p_a L_a.length q_a), (Iv (L_a.length : Int)), (Bo (icmp .lss (k : Int) (L_a.length : Int))), (Iv (k : Int)), (Iv ((k : Int) + 1)), v23, v24, v25, v26, v27, v28, v29, v30, v31, v32, v33, (Bo (!β1))] : List Value)[t]?).getD undef, ?_, (Ext.gr (Ext.gr E11 E20) E36), ?_⟩, ?_⟩
      · first | rfl | (simp only [Int.natCast_add, Int.natCast_one]; rfl)
      · exact ⟨by omega, SameTo.step hs (by assumption) (by assumption) (by simp_all)⟩
      · omega
    have c16' := c16
    (try simp only [icmp, Bool.and_eq_true, Bool.or_eq_true, Bool.and_eq_false_iff, Bool.or_eq_false_iff, Bool.not_eq_true', Bool.not_eq_false', decide_eq_true_eq, decide_eq_false_iff_not, beq_iff_eq, bne_iff_ne, beq_eq_false_iff_ne, bne_eq_false_iff_eq] at c16')
    refine wp_exit ?_
    refine hK7 _ _ ?_
    refine wp_seq_k fun K43 hK43 => ?_
    refine wp_region_lit ?_
    refine q_is rfl rfl (does_assign (u := (Bo true)) (ev rfl)) (by dsimp only [List.set]; try rfl) ?_
    refine wpList_nil (hK43 _ _ ?_)
    refine wp_ret ?_
    refine ret_val (v := (Bo true)) (res_T rfl (slot rfl)) X13 ?_
    have x44 : (sameL L_a L_b) = true := by first | exact (sameL_len (by omega)) | exact (sameL_not (by omega) (by assumption) (by assumption) (by simp_all)) | exact (sameL_all (by omega) (by omega) hs)
    exact (by first | with_reducible rfl | rw [x44] | rfl)

/- laws.eqNode -/
theorem c_laws_eqNode (a : List Value) (A_a : NodeT) (b : List Value) (A_b : NodeT) (w : World) (hv_a : RNodeT w A_a a) (hv_b : RNodeT w A_b b) : Gives Try.prog 63 #[(.agg a.toArray), (.agg b.toArray)] w (fun v w' => v = (Bo (sameNd A_a A_b))) := by
  obtain ⟨y1, rfl, h2⟩ := hv_a
  obtain ⟨y3, rfl, h4⟩ := hv_b
  have hs7 := h2; have hs7l := Sl.len h2; obtain ⟨p5, q6, rfl⟩ := Sl.shape h2
  have hs10 := h4; have hs10l := Sl.len h4; obtain ⟨p8, q9, rfl⟩ := Sl.shape h4
  refine enter [(.agg #[(Iv A_a.kind), (Iv A_a.a), (Iv A_a.b), (.slice p5 A_a.nums.length q6)]), (.agg #[(Iv A_b.kind), (Iv A_b.a), (Iv A_b.b), (.slice p8 A_b.nums.length q9)]), Ud, Ud, Ud, Ud, Ud, Ud, Ud, Ud, Ud, Ud, Ud, Ud, Ud, Ud, Ud, Ud, Ud, Ud, Ud, Ud, Ud, Ud, Ud, Ud] Try.func63 rfl Try.ntmps63 rfl ?_
  refine wp_seq_k fun K11 hK11 => ?_
  refine wp_region_lit ?_
  refine seqd rfl rfl (does_box (u := (.agg #[(Iv A_a.kind), (Iv A_a.a), (Iv A_a.b), (.slice p5 A_a.nums.length q6)])) (ev rfl)) ?_; rintro _ w16 ⟨b12, rfl, hb13, hB14, E15⟩
  have g17 : w.heap.size ≤ b12 := Nat.le_trans (Below.size (Ext.refl w)) hb13
  change Blk _ _ [(Iv A_a.kind), (Iv A_a.a), (Iv A_a.b), (.slice p5 A_a.nums.length q6)] at hB14
  have X18 := Ext.gr (Ext.refl w) E15
  show wpList _ _ _ _ (fr [_, _, _, _, _, _, _, _, _, _, _, _, _, _, _, _, _, _, _, _, _, _, _, _, _, _]) _
  refine seqd rfl rfl (does_box (u := (.agg #[(Iv A_b.kind), (Iv A_b.a), (Iv A_b.b), (.slice p8 A_b.nums.length q9)])) (ev rfl)) ?_; rintro _ w23 ⟨b19, rfl, hb20, hB21, E22⟩
  have n24 : b12 < b19 := Nat.lt_of_lt_of_le (Blk.lt hB14) hb20
  have g25 : w.heap.size ≤ b19 := Nat.le_trans (Below.size X18) hb20
  change Blk _ _ [(Iv A_b.kind), (Iv A_b.a), (Iv A_b.b), (.slice p8 A_b.nums.length q9)] at hB21
  have X26 := Ext.gr X18 E22
  show wpList _ _ _ _ (fr [_, _, _, _, _, _, _, _, _, _, _, _, _, _, _, _, _, _, _, _, _, _, _, _, _, _]) _
  refine q_is rfl rfl (does_assign (u := (Bo false)) (ev rfl)) (by dsimp only [List.set]; try rfl) ?_
  refine wpList_nil (hK11 _ _ ?_)
  refine wp_seq_k fun K27 hK27 => ?_
  refine wp_seq_k fun K28 hK28 => ?_
  refine wp_region_lit ?_
  refine q_is rfl rfl (does_fieldAddr (ev rfl) fa102_0) (by dsimp only [List.set]; try rfl) ?_
  refine q_is rfl rfl (does_load (u := (Iv A_a.kind)) (ev rfl) Try.isAgg2 (Cells.at (Blk.cells (hB14.ext E22)) 0 rfl)) (by dsimp only [List.set]; try rfl) ?_
  refine q_is rfl rfl (does_fieldAddr (ev rfl) fa102_0) (by dsimp only [List.set]; try rfl) ?_
  refine q_is rfl rfl (does_load (u := (Iv A_b.kind)) (ev rfl) Try.isAgg2 (Cells.at (Blk.cells hB21) 0 rfl)) (by dsimp only [List.set]; try rfl) ?_
  refine q_is rfl rfl (does_icmp (p := A_a.kind) (q := A_b.kind) (.inr (.inl rfl)) (ev rfl) (ev rfl)) (by dsimp only [List.set]; try rfl) ?_
  refine wpList_nil (hK28 _ _ ?_)
  refine wp_cond_split (t := icmp .neq A_a.kind A_b.kind) (ev rfl) (fun c29 => ?_) (fun c29 => ?_)
  · have c29' := c29
    (try simp only [icmp, Bool.and_eq_true, Bool.or_eq_true, Bool.and_eq_false_iff, Bool.or_eq_false_iff, Bool.not_eq_true', Bool.not_eq_false', decide_eq_true_eq, decide_eq_false_iff_not, beq_iff_eq, bne_iff_ne, beq_eq_false_iff_ne, bne_eq_false_iff_eq] at c29')
    refine wp_seq_k fun K30 hK30 => ?_
    refine wp_region_lit ?_
    refine q_is rfl rfl (does_assign (u := (Bo false)) (ev rfl)) (by dsimp only [List.set]; try rfl) ?_
    refine wpList_nil (hK30 _ _ ?_)
    refine wp_ret ?_
    dsimp only [Exit.then, Exit.inBlock]
    refine ret_val (v := (Bo false)) (res_T rfl (slot rfl)) X26 ?_
    have x31 : (sameNd A_a A_b) = false := by first | with_reducible rfl | (simp only [sameNd, icmp, c29]; done) | (simp [sameNd, icmp, c29]; done) | (revert c29; simp +contextual [sameNd, icmp]; done) | (rcases c29' with hh | hh <;> simp only [hh, sameNd, icmp, c29]; done) | (rcases c29' with hh | hh <;> simp_all [sameNd, icmp]; done) | (rcases c29' with hh | hh | hh <;> simp_all [sameNd, icmp]; done) | (rcases c29' with hh | hh | hh | hh <;> simp_all [sameNd, icmp]; done) | (simp_all [sameNd, icmp]; done) | rfl
    exact (by first | with_reducible rfl | rw [x31] | rfl)
  have c29' := c29
  (try simp only [icmp, Bool.and_eq_true, Bool.or_eq_true, Bool.and_eq_false_iff, Bool.or_eq_false_iff, Bool.not_eq_true', Bool.not_eq_false', decide_eq_true_eq, decide_eq_false_iff_not, beq_iff_eq, bne_iff_ne, beq_eq_false_iff_ne, bne_eq_false_iff_eq] at c29')
  refine wp_skip (hK27 _ _ ?_)
  refine wp_seq_k fun K32 hK32 => ?_
  refine wp_seq_k fun K33 hK33 => ?_
  refine wp_region_lit ?_
  refine q_is rfl rfl (does_fieldAddr (ev rfl) fa102_1) (by dsimp only [List.set]; try rfl) ?_
  refine q_is rfl rfl (does_load (u := (Iv A_a.a)) (ev rfl) Try.isAgg2 (Cells.at (Blk.cells (hB14.ext E22)) 1 rfl)) (by dsimp only [List.set]; try rfl) ?_
  refine q_is rfl rfl (does_fieldAddr (ev rfl) fa102_1) (by dsimp only [List.set]; try rfl) ?_
  refine q_is rfl rfl (does_load (u := (Iv A_b.a)) (ev rfl) Try.isAgg2 (Cells.at (Blk.cells hB21) 1 rfl)) (by dsimp only [List.set]; try rfl) ?_
  refine q_is rfl rfl (does_icmp (p := A_a.a) (q := A_b.a) (.inr (.inl rfl)) (ev rfl) (ev rfl)) (by dsimp only [List.set]; try rfl) ?_
  refine wpList_nil (hK33 _ _ ?_)
  refine wp_cond_split (t := icmp .neq A_a.a A_b.a) (ev rfl) (fun c34 => ?_) (fun c34 => ?_)
  · have c34' := c34
    (try simp only [icmp, Bool.and_eq_true, Bool.or_eq_true, Bool.and_eq_false_iff, Bool.or_eq_false_iff, Bool.not_eq_true', Bool.not_eq_false', decide_eq_true_eq, decide_eq_false_iff_not, beq_iff_eq, bne_iff_ne, beq_eq_false_iff_ne, bne_eq_false_iff_eq] at c34')
    refine wp_seq_k fun K35 hK35 => ?_
    refine wp_region_lit ?_
    refine q_is rfl rfl (does_assign (u := (Bo false)) (ev rfl)) (by dsimp only [List.set]; try rfl) ?_
    refine wpList_nil (hK35 _ _ ?_)
    refine wp_ret ?_
    dsimp only [Exit.then, Exit.inBlock]
    refine ret_val (v := (Bo false)) (res_T rfl (slot rfl)) X26 ?_
    have x36 : (sameNd A_a A_b) = false := by first | with_reducible rfl | (simp only [sameNd, icmp, c29, c34]; done) | (simp [sameNd, icmp, c29, c34]; done) | (revert c29 c34; simp +contextual [sameNd, icmp]; done) | (rcases c29' with hh | hh <;> simp only [hh, sameNd, icmp, c29, c34]; done) | (rcases c34' with hh | hh <;> simp only [hh, sameNd, icmp, c29, c34]; done) | (rcases c34' with hh | hh <;> simp_all [sameNd, icmp]; done) | (rcases c34' with hh | hh | hh <;> simp_all [sameNd, icmp]; done) | (rcases c34' with hh | hh | hh | hh <;> simp_all [sameNd, icmp]; done) | (simp_all [sameNd, icmp]; done) | rfl
    exact (by first | with_reducible rfl | rw [x36] | rfl)
  have c34' := c34
  (try simp only [icmp, Bool.and_eq_true, Bool.or_eq_true, Bool.and_eq_false_iff, Bool.or_eq_false_iff, Bool.not_eq_true', Bool.not_eq_false', decide_eq_true_eq, decide_eq_false_iff_not, beq_iff_eq, bne_iff_ne, beq_eq_false_iff_ne, bne_eq_false_iff_eq] at c34')
  refine wp_skip (hK32 _ _ ?_)
  refine wp_seq_k fun K37 hK37 => ?_
  refine wp_seq_k fun K38 hK38 => ?_
  refine wp_region_lit ?_
  refine q_is rfl rfl (does_fieldAddr (ev rfl) fa102_2) (by dsimp only [List.set]; try rfl) ?_
  refine q_is rfl rfl (does_load (u := (Iv A_a.b)) (ev rfl) Try.isAgg2 (Cells.at (Blk.cells (hB14.ext E22)) 2 rfl)) (by dsimp only [List.set]; try rfl) ?_
  refine q_is rfl rfl (does_fieldAddr (ev rfl) fa102_2) (by dsimp only [List.set]; try rfl) ?_
  refine q_is rfl rfl (does_load (u := (Iv A_b.b)) (ev rfl) Try.isAgg2 (Cells.at (Blk.cells hB21) 2 rfl)) (by dsimp only [List.set]; try rfl) ?_
  refine q_is rfl rfl (does_icmp (p := A_a.b) (q := A_b.b) (.inr (.inl rfl)) (ev rfl) (ev rfl)) (by dsimp only [List.set]; try rfl) ?_
  refine wpList_nil (hK38 _ _ ?_)
  refine wp_cond_split (t := icmp .neq A_a.b A_b.b) (ev rfl) (fun c39 => ?_) (fun c39 => ?_)
  · have c39' := c39
    (try simp only [icmp, Bool.and_eq_true, Bool.or_eq_true, Bool.and_eq_false_iff, Bool.or_eq_false_iff, Bool.not_eq_true', Bool.not_eq_false', decide_eq_true_eq, decide_eq_false_iff_not, beq_iff_eq, bne_iff_ne, beq_eq_false_iff_ne, bne_eq_false_iff_eq] at c39')
    refine wp_seq_k fun K40 hK40 => ?_
    refine wp_region_lit ?_
    refine q_is rfl rfl (does_assign (u := (Bo false)) (ev rfl)) (by dsimp only [List.set]; try rfl) ?_
    refine wpList_nil (hK40 _ _ ?_)
    refine wp_ret ?_
    dsimp only [Exit.then, Exit.inBlock]
    refine ret_val (v := (Bo false)) (res_T rfl (slot rfl)) X26 ?_
    have x41 : (sameNd A_a A_b) = false := by first | with_reducible rfl | (simp only [sameNd, icmp, c29, c34, c39]; done) | (simp [sameNd, icmp, c29, c34, c39]; done) | (revert c29 c34 c39; simp +contextual [sameNd, icmp]; done) | (rcases c29' with hh | hh <;> simp only [hh, sameNd, icmp, c29, c34, c39]; done) | (rcases c34' with hh | hh <;> simp only [hh, sameNd, icmp, c29, c34, c39]; done) | (rcases c39' with hh | hh <;> simp only [hh, sameNd, icmp, c29, c34, c39]; done) | (rcases c39' with hh | hh <;> simp_all [sameNd, icmp]; done) | (rcases c39' with hh | hh | hh <;> simp_all [sameNd, icmp]; done) | (rcases c39' with hh | hh | hh | hh <;> simp_all [sameNd, icmp]; done) | (simp_all [sameNd, icmp]; done) | rfl
    exact (by first | with_reducible rfl | rw [x41] | rfl)
  have c39' := c39
  (try simp only [icmp, Bool.and_eq_true, Bool.or_eq_true, Bool.and_eq_false_iff, Bool.or_eq_false_iff, Bool.not_eq_true', Bool.not_eq_false', decide_eq_true_eq, decide_eq_false_iff_not, beq_iff_eq, bne_iff_ne, beq_eq_false_iff_ne, bne_eq_false_iff_eq] at c39')
  refine wp_skip (hK37 _ _ ?_)
  refine wp_seq_k fun K42 hK42 => ?_
  refine wp_seq_k fun K43 hK43 => ?_
  refine wp_region_lit ?_
  refine q_is rfl rfl (does_fieldAddr (ev rfl) fa102_3) (by dsimp only [List.set]; try rfl) ?_
  refine q_is rfl rfl (does_load (u := (.slice p5 A_a.nums.length q6)) (ev rfl) Try.isAgg97 (Cells.at (Blk.cells (hB14.ext E22)) 3 rfl)) (by dsimp only [List.set]; try rfl) ?_
  refine q_is rfl rfl (does_fieldAddr (ev rfl) fa102_3) (by dsimp only [List.set]; try rfl) ?_
  refine q_is rfl rfl (does_load (u := (.slice p8 A_b.nums.length q9)) (ev rfl) Try.isAgg97 (Cells.at (Blk.cells hB21) 3 rfl)) (by dsimp only [List.set]; try rfl) ?_
  refine seqd rfl rfl (does_call (args := #[(.slice p5 A_a.nums.length q6), (.slice p8 A_b.nums.length q9)]) cal90 (evs rfl) (c_laws_eqFloat32S (.slice p5 A_a.nums.length q6) A_a.nums (.slice p8 A_b.nums.length q9) A_b.nums _ (Sl.ext hs7 RF.mono X26) (Sl.ext hs10 RF.mono X26))) ?_; rintro _ w45 ⟨E44, rfl⟩
  have X46 := Ext.gr X26 E44
  show wpList _ _ _ _ (fr [_, _, _, _, _, _, _, _, _, _, _, _, _, _, _, _, _, _, _, _, _, _, _, _, _, _]) _
  refine q_is rfl rfl (does_not (ev rfl)) (by dsimp only [List.set]; try rfl) ?_
  refine wpList_nil (hK43 _ _ ?_)
  refine wp_cond_split (t := !(sameL A_a.nums A_b.nums)) (ev rfl) (fun c47 => ?_) (fun c47 => ?_)
  · rw [Bool.not_eq_true'] at c47
    have c47' := c47
    refine wp_seq_k fun K48 hK48 => ?_
    refine wp_region_lit ?_
    refine q_is rfl rfl (does_assign (u := (Bo false)) (ev rfl)) (by dsimp only [List.set]; try rfl) ?_
    refine wpList_nil (hK48 _ _ ?_)
    refine wp_ret ?_
    dsimp only [Exit.then, Exit.inBlock]
    refine ret_val (v := (Bo false)) (res_T rfl (slot rfl)) X46 ?_
    have x49 : (sameNd A_a A_b) = false := by first | with_reducible rfl | (simp only [sameNd, icmp, c29, c34, c39, c47]; done) | (simp [sameNd, icmp, c29, c34, c39, c47]; done) | (revert c29 c34 c39 c47; simp +contextual [sameNd, icmp]; done) | (rcases c29' with hh | hh <;> simp only [hh, sameNd, icmp, c29, c34, c39, c47]; done) | (rcases c34' with hh | hh <;> simp only [hh, sameNd, icmp, c29, c34, c39, c47]; done) | (rcases c39' with hh | hh <;> simp only [hh, sameNd, icmp, c29, c34, c39, c47]; done) | (rcases c47' with hh | hh <;> simp only [hh, sameNd, icmp, c29, c34, c39, c47]; done) | (rcases c47' with hh | hh <;> simp_all [sameNd, icmp]; done) | (rcases c47' with hh | hh | hh <;> simp_all [sameNd, icmp]; done) | (rcases c47' with hh | hh | hh | hh <;> simp_all [sameNd, icmp]; done) | (simp_all [sameNd, icmp]; done) | rfl
    exact (by first | with_reducible rfl | rw [x49] | rfl)
  rw [Bool.not_eq_false'] at c47
  have c47' := c47
  refine wp_skip (hK42 _ _ ?_)
  refine wp_seq_k fun K50 hK50 => ?_
  refine wp_region_lit ?_
  refine q_is rfl rfl (does_assign (u := (Bo true)) (ev rfl)) (by dsimp only [List.set]; try rfl) ?_
  refine wpList_nil (hK50 _ _ ?_)
  refine wp_ret ?_
  refine ret_val (v := (Bo true)) (res_T rfl (slot rfl)) X46 ?_
  have x51 : (sameNd A_a A_b) = true := by first | with_reducible rfl | (simp only [sameNd, icmp, c29, c34, c39, c47]; done) | (simp [sameNd, icmp, c29, c34, c39, c47]; done) | (revert c29 c34 c39 c47; simp +contextual [sameNd, icmp]; done) | (rcases c29' with hh | hh <;> simp only [hh, sameNd, icmp, c29, c34, c39, c47]; done) | (rcases c34' with hh | hh <;> simp only [hh, sameNd, icmp, c29, c34, c39, c47]; done) | (rcases c39' with hh | hh <;> simp only [hh, sameNd, icmp, c29, c34, c39, c47]; done) | (rcases c47' with hh | hh <;> simp only [hh, sameNd, icmp, c29, c34, c39, c47]; done) | (rcases c47' with hh | hh <;> simp_all [sameNd, icmp]; done) | (rcases c47' with hh | hh | hh <;> simp_all [sameNd, icmp]; done) | (rcases c47' with hh | hh | hh | hh <;> simp_all [sameNd, icmp]; done) | (simp_all [sameNd, icmp]; done) | rfl
  exact (by first | with_reducible rfl | rw [x51] | rfl)

/- laws.eqNodeS -/
theorem c_laws_eqNodeS (a : Value) (L_a : List NodeT) (b : Value) (L_b : List NodeT) (w : World) (hv_a : Sl RNodeT 4 w a L_a) (hv_b : Sl RNodeT 4 w b L_b) : Gives Try.prog 28 #[a, b] w (fun v w' => v = (Bo (sameX sameNd L_a L_b))) := by
  have hlen_a := Sl.len hv_a; obtain ⟨p_a, q_a, rfl⟩ := Sl.shape hv_a
  have hlen_b := Sl.len hv_b; obtain ⟨p_b, q_b, rfl⟩ := Sl.shape hv_b
  refine enter [(.slice p_a L_a.length q_a), (.slice p_b L_b.length q_b), Ud, Ud, Ud, Ud, Ud, Ud, Ud, Ud, Ud, Ud, Ud, Ud, Ud, Ud, Ud, Ud, Ud, Ud, Ud, Ud, Ud, Ud, Ud, Ud, Ud] Try.func28 rfl Try.ntmps28 rfl ?_
  refine wp_seq_k fun K1 hK1 => ?_
  refine wp_region_lit ?_
  refine q_is rfl rfl (does_assign (u := (Bo false)) (ev rfl)) (by dsimp only [List.set]; try rfl) ?_
  refine wpList_nil (hK1 _ _ ?_)
  refine wp_seq_k fun K2 hK2 => ?_
  refine wp_seq_k fun K3 hK3 => ?_
  refine wp_region_lit ?_
  refine q_is rfl rfl (does_move (u := (.slice p_a L_a.length q_a)) (ev rfl)) (by dsimp only [List.set]; try rfl) ?_
  refine q_is rfl rfl (does_len_slice Try.underlying28 (ev rfl)) (by dsimp only [List.set]; try rfl) ?_
  refine q_is rfl rfl (does_move (u := (.slice p_b L_b.length q_b)) (ev rfl)) (by dsimp only [List.set]; try rfl) ?_
  refine q_is rfl rfl (does_len_slice Try.underlying28 (ev rfl)) (by dsimp only [List.set]; try rfl) ?_
  refine q_is rfl rfl (does_icmp (p := (L_a.length : Int)) (q := (L_b.length : Int)) (.inr (.inl rfl)) (ev rfl) (ev rfl)) (by dsimp only [List.set]; try rfl) ?_
  refine wpList_nil (hK3 _ _ ?_)
  refine wp_cond_split (t := icmp .neq (L_a.length : Int) (L_b.length : Int)) (ev rfl) (fun c4 => ?_) (fun c4 => ?_)
  · have c4' := c4
    (try simp only [icmp, Bool.and_eq_true, Bool.or_eq_true, Bool.and_eq_false_iff, Bool.or_eq_false_iff, Bool.not_eq_true', Bool.not_eq_false', decide_eq_true_eq, decide_eq_false_iff_not, beq_iff_eq, bne_iff_ne, beq_eq_false_iff_ne, bne_eq_false_iff_eq] at c4')
    refine wp_seq_k fun K5 hK5 => ?_
    refine wp_region_lit ?_
    refine q_is rfl rfl (does_assign (u := (Bo false)) (ev rfl)) (by dsimp only [List.set]; try rfl) ?_
    refine wpList_nil (hK5 _ _ ?_)
    refine wp_ret ?_
    dsimp only [Exit.then, Exit.inBlock]
    refine ret_val (v := (Bo false)) (res_T rfl (slot rfl)) (Ext.refl w) ?_
    have x6 : (sameX sameNd L_a L_b) = false := by first | exact (sameX_len (by omega)) | exact (sameX_not (by omega) (by assumption) (by assumption) (by simp_all)) | exact (sameX_all (by omega) (by omega) hs)
    exact (by first | with_reducible rfl | rw [x6] | rfl)
  have c4' := c4
  (try simp only [icmp, Bool.and_eq_true, Bool.or_eq_true, Bool.and_eq_false_iff, Bool.or_eq_false_iff, Bool.not_eq_true', Bool.not_eq_false', decide_eq_true_eq, decide_eq_false_iff_not, beq_iff_eq, bne_iff_ne, beq_eq_false_iff_ne, bne_eq_false_iff_eq] at c4')
  refine wp_skip (hK2 _ _ ?_)
  refine wp_seq_k fun K7 hK7 => ?_
  refine wp_seq_k fun K8 hK8 => ?_
  refine wp_region_lit ?_
  refine q_is rfl rfl (does_assign (u := (Iv 0)) (ev rfl)) (by dsimp only [List.set]; try rfl) ?_
  refine wpList_nil (hK8 _ _ ?_)
  refine wp_block ?_
  refine loop_ghost (σ := Nat) (fun k a w' => ∃ u9 : Nat → Value, a = fr [(.slice p_a L_a.length q_a), (.slice p_b L_b.length q_b), Ud, Ud, (u9 4), (Iv (k : Int)), (.slice p_a L_a.length q_a), (Iv (L_a.length : Int)), (.slice p_b L_b.length q_b), (Iv (L_b.length : Int)), (Bo (icmp .neq (L_a.length : Int) (L_b.length : Int))), (u9 11), (u9 12), (u9 13), (u9 14), (u9 15), (u9 16), (u9 17), (u9 18), (u9 19), (u9 20), (u9 21), (u9 22), (u9 23), (u9 24), (u9 25), (u9 26)] ∧ Ext w w' ∧ (k ≤ L_a.length ∧ SameXTo sameNd L_a L_b k)) (fun k => L_a.length - k) 0 ?_ ?_
  · refine ⟨fun t => (([(.slice p_a L_a.length q_a), (.slice p_b L_b.length q_b), Ud, Ud, (Bo false), (Iv 0), (.slice p_a L_a.length q_a), (Iv (L_a.length : Int)), (.slice p_b L_b.length q_b), (Iv (L_b.length : Int)), (Bo (icmp .neq (L_a.length : Int) (L_b.length : Int))), Ud, Ud, Ud, Ud, Ud, Ud, Ud, Ud, Ud, Ud, Ud, Ud, Ud, Ud, Ud, Ud] : List Value)[t]?).getD undef, rfl, Ext.refl _, ?_⟩
    exact ⟨Nat.zero_le _, SameXTo.zero⟩
  · rintro k a w10 ⟨u9, rfl, E11, ⟨hk, hs⟩⟩
    have X13 := Ext.gr (Ext.refl w) E11
    refine wp_seq_k fun K14 hK14 => ?_
    refine wp_seq_k fun K15 hK15 => ?_
    refine wp_region_lit ?_
    refine q_is rfl rfl (does_move (u := (Iv (k : Int))) (ev rfl)) (by dsimp only [List.set]; try rfl) ?_
    refine q_is rfl rfl (does_move (u := (.slice p_a L_a.length q_a)) (ev rfl)) (by dsimp only [List.set]; try rfl) ?_
    refine q_is rfl rfl (does_len_slice Try.underlying28 (ev rfl)) (by dsimp only [List.set]; try rfl) ?_
    refine q_is rfl rfl (does_icmp (p := (k : Int)) (q := (L_a.length : Int)) (.inr (.inr (.inl rfl))) (ev rfl) (ev rfl)) (by dsimp only [List.set]; try rfl) ?_
    refine wpList_nil (hK15 _ _ ?_)
    refine wp_cond_split (t := icmp .lss (k : Int) (L_a.length : Int)) (ev rfl) (fun c16 => ?_) (fun c16 => ?_)
    · have c16' := c16
      (try simp only [icmp, Bool.and_eq_true, Bool.or_eq_true, Bool.and_eq_false_iff, Bool.or_eq_false_iff, Bool.not_eq_true', Bool.not_eq_false', decide_eq_true_eq, decide_eq_false_iff_not, beq_iff_eq, bne_iff_ne, beq_eq_false_iff_ne, bne_eq_false_iff_eq] at c16')
      refine wp_skip (hK14 _ _ ?_)
      refine wp_seq_k fun K17 hK17 => ?_
      refine wp_block ?_
      refine wp_seq_k fun K18 hK18 => ?_
      obtain ⟨el1, hel1⟩ : ∃ e, L_a[k]? = some e := ⟨_, List.getElem?_eq_getElem (by omega)⟩
      obtain ⟨el2, hel2⟩ : ∃ e, L_b[k]? = some e := ⟨_, List.getElem?_eq_getElem (by omega)⟩
      refine region_draw (
        [Fact.pure [] (fun v => v = (.slice p_a L_a.length q_a)),
    Fact.pure [] (fun v => v = (Iv (k : Int))),
    Fact.mem [17, 18] (fun v w' => PtrR RNodeT w' v el1) (by intro v w1 w2 hx h; exact h.ext RNodeT.mono hx),
    Fact.mem [19] (fun v w' => ∃ cs_1 : List Value, v = (.agg cs_1.toArray) ∧ RNodeT w' el1 cs_1) (by rintro v w1 w2 hx ⟨z1, rfl, k0⟩; exact ⟨_, rfl, (RNodeT.mono _ _ _ _ hx k0)⟩),
    Fact.pure [] (fun v => v = (.slice p_b L_b.length q_b)),
    Fact.pure [] (fun v => v = (Iv (k : Int))),
    Fact.mem [21, 22] (fun v w' => PtrR RNodeT w' v el2) (by intro v w1 w2 hx h; exact h.ext RNodeT.mono hx),
    Fact.mem [23] (fun v w' => ∃ cs_1 : List Value, v = (.agg cs_1.toArray) ∧ RNodeT w' el2 cs_1) (by rintro v w1 w2 hx ⟨z1, rfl, k0⟩; exact ⟨_, rfl, (RNodeT.mono _ _ _ _ hx k0)⟩),
    Fact.pure [20, 24] (fun v => v = (Bo (sameNd el1 el2))),
    Fact.pure [25] (fun v => v = (Bo (!(sameNd el1 el2))))]) mixed (by kernel_rfl) (by intro _ _ d _ _ h; cases d <;> exact h) ?_
      obtain ⟨w19, hw21⟩ : ∃ w', w' = World.drew w10 := ⟨_, rfl⟩; rw [← hw21]; have E20 : Ext w10 w19 := by rw [hw21]; exact Ext.draw _
      clear hw21
      have X22 := Ext.gr X13 E20
      refine RW_d _ rfl (fun v => by dsimp only [List.set]; try rfl) (fun u hu hF => ?_) (fun v23 => ?_)
      · clear hF
        refine doesG_un rfl ?_
        refine (does_move (u := (.slice p_a L_a.length q_a)) (ev rfl)).mono ?_; rintro _ _ ⟨rfl, rfl⟩
        exact ⟨rfl, Ext.refl _⟩
      refine RW_d _ rfl (fun v => by dsimp only [List.set]; try rfl) (fun u hu hF => ?_) (fun v24 => ?_)
      · clear hF
        refine doesG_un rfl ?_
        refine (does_move (u := (Iv (k : Int))) (ev rfl)).mono ?_; rintro _ _ ⟨rfl, rfl⟩
        exact ⟨rfl, Ext.refl _⟩
      refine RW_d _ rfl (fun v => by dsimp only [List.set]; try rfl) (fun u hu hF => ?_) (fun v25 => ?_)
      · have h17_ : v23 = (.slice p_a L_a.length q_a) := hF.1
        have h18_ : v24 = (Iv (k : Int)) := hF.2.1
        clear hF
        refine doesG_un rfl ?_
        obtain rfl := h17_
        obtain rfl := h18_
        refine (does_indexSl (R := RNodeT) (i := (k : Int)) (xs := L_a) (e := el1) Try.underlying28 Try.sizeOf102 (ev rfl) (ev rfl) (Sl.ext (Sl.ext hv_a RNodeT.mono (Ext.gr X13 E20)) RNodeT.mono hu) (by omega) hel1).mono ?_; rintro v u' ⟨b, of, cs, hv, hc, hR, hu'⟩; subst hu'
        exact ⟨⟨b, of, cs, hv, hc, hR⟩, Ext.refl _⟩
      refine RW_d _ rfl (fun v => by dsimp only [List.set]; try rfl) (fun u hu hF => ?_) (fun v26 => ?_)
      · have h19_ : PtrR RNodeT u v25 el1 := hF.1
        clear hF
        refine doesG_un rfl ?_
        obtain ⟨b19_, o19_, _, rfl, hc19_, ⟨y19_1, rfl, h19_2⟩⟩ := h19_
        have hh19_2 := h19_2; obtain ⟨p19_3, q19_4, rfl⟩ := Sl.shape h19_2
        refine (does_loadAgg (cs := [(Iv el1.kind), (Iv el1.a), (Iv el1.b), (.slice p19_3 el1.nums.length q19_4)]) (ev rfl) Try.isAgg102 Try.sizeOf102 hc19_ rfl).mono ?_; rintro _ _ ⟨rfl, rfl⟩
        exact ⟨⟨[(Iv el1.kind), (Iv el1.a), (Iv el1.b), (.slice p19_3 el1.nums.length q19_4)], rfl, ⟨(.slice p19_3 el1.nums.length q19_4), rfl, (by assumption)⟩⟩, Ext.refl _⟩
      refine RW_d _ rfl (fun v => by dsimp only [List.set]; try rfl) (fun u hu hF => ?_) (fun v27 => ?_)
      · clear hF
        refine doesG_un rfl ?_
        refine (does_move (u := (.slice p_b L_b.length q_b)) (ev rfl)).mono ?_; rintro _ _ ⟨rfl, rfl⟩
        exact ⟨rfl, Ext.refl _⟩
      refine RW_d _ rfl (fun v => by dsimp only [List.set]; try rfl) (fun u hu hF => ?_) (fun v28 => ?_)
      · clear hF
        refine doesG_un rfl ?_
        refine (does_move (u := (Iv (k : Int))) (ev rfl)).mono ?_; rintro _ _ ⟨rfl, rfl⟩
        exact ⟨rfl, Ext.refl _⟩
      refine RW_d _ rfl (fun v => by dsimp only [List.set]; try rfl) (fun u hu hF => ?_) (fun v29 => ?_)
      · have h21_ : v27 = (.slice p_b L_b.length q_b) := hF.1
        have h22_ : v28 = (Iv (k : Int)) := hF.2.1
        clear hF
        refine doesG_un rfl ?_
        obtain rfl := h21_
        obtain rfl := h22_
        refine (does_indexSl (R := RNodeT) (i := (k : Int)) (xs := L_b) (e := el2) Try.underlying28 Try.sizeOf102 (ev rfl) (ev rfl) (Sl.ext (Sl.ext hv_b RNodeT.mono (Ext.gr X13 E20)) RNodeT.mono hu) (by omega) hel2).mono ?_; rintro v u' ⟨b, of, cs, hv, hc, hR, hu'⟩; subst hu'
        exact ⟨⟨b, of, cs, hv, hc, hR⟩, Ext.refl _⟩
      refine RW_d _ rfl (fun v => by dsimp only [List.set]; try rfl) (fun u hu hF => ?_) (fun v30 => ?_)
      · have h23_ : PtrR RNodeT u v29 el2 := hF.1
        clear hF
        refine doesG_un rfl ?_
        obtain ⟨b23_, o23_, _, rfl, hc23_, ⟨y23_1, rfl, h23_2⟩⟩ := h23_
        have hh23_2 := h23_2; obtain ⟨p23_3, q23_4, rfl⟩ := Sl.shape h23_2
        refine (does_loadAgg (cs := [(Iv el2.kind), (Iv el2.a), (Iv el2.b), (.slice p23_3 el2.nums.length q23_4)]) (ev rfl) Try.isAgg102 Try.sizeOf102 hc23_ rfl).mono ?_; rintro _ _ ⟨rfl, rfl⟩
        exact ⟨⟨[(Iv el2.kind), (Iv el2.a), (Iv el2.b), (.slice p23_3 el2.nums.length q23_4)], rfl, ⟨(.slice p23_3 el2.nums.length q23_4), rfl, (by assumption)⟩⟩, Ext.refl _⟩
      refine RW_d _ rfl (fun v => by dsimp only [List.set]; try rfl) (fun u hu hF => ?_) (fun v31 => ?_)
      · have h20_ : ∃ cs_1 : List Value, v26 = (.agg cs_1.toArray) ∧ RNodeT u el1 cs_1 := hF.1
        have h24_ : ∃ cs_1 : List Value, v30 = (.agg cs_1.toArray) ∧ RNodeT u el2 cs_1 := hF.2.1
        clear hF
        refine doesG_un rfl ?_
        obtain ⟨_, rfl, ⟨y20_1, rfl, h20_2⟩⟩ := h20_
        have hh20_2 := h20_2; obtain ⟨p20_3, q20_4, rfl⟩ := Sl.shape h20_2
        obtain ⟨_, rfl, ⟨y24_1, rfl, h24_2⟩⟩ := h24_
        have hh24_2 := h24_2; obtain ⟨p24_3, q24_4, rfl⟩ := Sl.shape h24_2
        refine (does_call (args := #[(.agg #[(Iv el1.kind), (Iv el1.a), (Iv el1.b), (.slice p20_3 el1.nums.length q20_4)]), (.agg #[(Iv el2.kind), (Iv el2.a), (Iv el2.b), (.slice p24_3 el2.nums.length q24_4)])]) cal63 (evs rfl) (c_laws_eqNode [(Iv el1.kind), (Iv el1.a), (Iv el1.b), (.slice p20_3 el1.nums.length q20_4)] el1 [(Iv el2.kind), (Iv el2.a), (Iv el2.b), (.slice p24_3 el2.nums.length q24_4)] el2 _ ⟨(.slice p20_3 el1.nums.length q20_4), rfl, hh20_2⟩ ⟨(.slice p24_3 el2.nums.length q24_4), rfl, hh24_2⟩)).mono ?_; rintro v u' ⟨hx, hv⟩
        exact ⟨hv, hx⟩
      refine RW_d _ rfl (fun v => by dsimp only [List.set]; try rfl) (fun u hu hF => ?_) (fun v32 => ?_)
      · have h25_ : v31 = (Bo (sameNd el1 el2)) := hF.1
        clear hF
        refine doesG_un rfl ?_
        obtain rfl := h25_
        refine (does_not (ev rfl)).mono ?_; rintro _ _ ⟨rfl, rfl⟩
        exact ⟨rfl, Ext.refl _⟩
      refine RW_fin ?_; intro w33 E34 hP35
      obtain ⟨⟨⟨⟨⟨⟨⟨⟨⟨⟨-, -⟩, -⟩, -⟩, -⟩, -⟩, -⟩, -⟩, -⟩, -⟩, q36⟩ := hP35
      have X37 := Ext.gr X22 E34
      have q36 : v32 = (Bo (!(sameNd el1 el2))) := q36
      obtain rfl := q36
      show wpList _ _ _ _ (fr [_, _, _, _, _, _, _, _, _, _, _, _, _, _, _, _, _, _, _, _, _, _, _, _, _, _, _]) _
      refine wpList_nil (hK18 _ _ ?_)
      refine wp_cond_split (t := !(sameNd el1 el2)) (ev rfl) (fun c38 => ?_) (fun c38 => ?_)
      · rw [Bool.not_eq_true'] at c38
        have c38' := c38
        refine wp_seq_k fun K39 hK39 => ?_
        refine wp_region_lit ?_
        refine q_is rfl rfl (does_assign (u := (Bo false)) (ev rfl)) (by dsimp only [List.set]; try rfl) ?_
        refine wpList_nil (hK39 _ _ ?_)
        refine wp_ret ?_
        dsimp only [Exit.then, Exit.inBlock]
        refine ret_val (v := (Bo false)) (res_T rfl (slot rfl)) X37 ?_
        try simp only [hel1, hel2] at c4 c16 c38
        have x40 : (sameX sameNd L_a L_b) = false := by first | exact (sameX_len (by omega)) | exact (sameX_not (by omega) (by assumption) (by assumption) (by simp_all)) | exact (sameX_all (by omega) (by omega) hs)
        exact (by first | with_reducible rfl | rw [x40] | rfl)
      rw [Bool.not_eq_false'] at c38
      have c38' := c38
      refine wp_skip (hK17 _ _ ?_)
      refine wp_region_lit ?_
      refine q_is rfl rfl (does_move (u := (Iv (k : Int))) (ev rfl)) (by dsimp only [List.set]; try rfl) ?_
      refine q_is rfl rfl (does_iarith (p := (k : Int)) (q := 1) (r := (k : Int) + 1) (ev rfl) (ev rfl) (.inl ⟨rfl, (in_i64 (by omega) (by omega)).symm⟩)) (by dsimp only [List.set]; try rfl) ?_
      refine q_is rfl rfl (does_assign (u := (Iv ((k : Int) + 1))) (ev rfl)) (by dsimp only [List.set]; try rfl) ?_
      refine wpList_nil ?_
      refine ⟨k + 1, ⟨fun t => (([(.slice p_a L_a.length q_a), (.slice p_b L_b.length q_b), Ud, Ud, (u9 4), (Iv ((k : Int) + 1)), (.slice p_a L_a.length q_a), (Iv (L_a.length : Int)), (.slice p_b L_b.length q_b), (Iv (L_b.length : Int)), (Bo (icmp .neq (L_a.length : Int) (L_b.length : Int))), (Iv (k : Int)), (.slice p_a L_a.length q_a), (Iv (L_a.length : Int)), (Bo (icmp .lss (k : Int) (L_a.length : Int))), (Iv (k : Int)), (Iv ((k : Int) + 1)), v23, v24, v25, v26, v27, v28, v29, v30, v31, (Bo (!(sameNd el1 el2)))] : List Value)[t]?).getD undef, ?_, (Ext.gr (Ext.gr E11 E20) E34), ?_⟩, ?_⟩
      · first | rfl | (simp only [Int.natCast_add, Int.natCast_one]; rfl)
      · exact ⟨by omega, SameXTo.step hs (by assumption) (by assumption) (by simp_all)⟩
      · omega
    have c16' := c16
    (try simp only [icmp, Bool.and_eq_true, Bool.or_eq_true, Bool.and_eq_false_iff, Bool.or_eq_false_iff, Bool.not_eq_true', Bool.not_eq_false', decide_eq_true_eq, decide_eq_false_iff_not, beq_iff_eq, bne_iff_ne, beq_eq_false_iff_ne, bne_eq_false_iff_eq] at c16')
    refine wp_exit ?_
    refine hK7 _ _ ?_
    refine wp_seq_k fun K41 hK41 => ?_
    refine wp_region_lit ?_
    refine q_is rfl rfl (does_assign (u := (Bo true)) (ev rfl)) (by dsimp only [List.set]; try rfl) ?_
    refine wpList_nil (hK41 _ _ ?_)
    refine wp_ret ?_
    refine ret_val (v := (Bo true)) (res_T rfl (slot rfl)) X13 ?_
    have x42 : (sameX sameNd L_a L_b) = true := by first | exact (sameX_len (by omega)) | exact (sameX_not (by omega) (by assumption) (by assumption) (by simp_all)) | exact (sameX_all (by omega) (by omega) hs)
    exact (by first | with_reducible rfl | rw [x42] | rfl)

/- laws.eqShape -/
theorem c_laws_eqShape (a : List Value) (A_a : ShapeT) (b : List Value) (A_b : ShapeT) (w : World) (hv_a : RShapeT w A_a a) (hv_b : RShapeT w A_b b) : Gives Try.prog 10 #[(.agg a.toArray), (.agg b.toArray)] w (fun v w' => v = (Bo (sameShp A_a A_b))) := by
  obtain ⟨y1, rfl, h2⟩ := hv_a
  obtain ⟨y3, rfl, h4⟩ := hv_b
  have hs7 := h2; have hs7l := Sl.len h2; obtain ⟨p5, q6, rfl⟩ := Sl.shape h2
  have hs10 := h4; have hs10l := Sl.len h4; obtain ⟨p8, q9, rfl⟩ := Sl.shape h4
  refine enter [(.agg #[(.slice p5 A_a.nodes.length q6)]), (.agg #[(.slice p8 A_b.nodes.length q9)]), Ud, Ud, Ud, Ud, Ud, Ud, Ud, Ud, Ud] Try.func10 rfl Try.ntmps10 rfl ?_
  refine wp_seq_k fun K11 hK11 => ?_
  refine wp_region_lit ?_
  refine seqd rfl rfl (does_box (u := (.agg #[(.slice p5 A_a.nodes.length q6)])) (ev rfl)) ?_; rintro _ w16 ⟨b12, rfl, hb13, hB14, E15⟩
  have g17 : w.heap.size ≤ b12 := Nat.le_trans (Below.size (Ext.refl w)) hb13
  change Blk _ _ [(.slice p5 A_a.nodes.length q6)] at hB14
  have X18 := Ext.gr (Ext.refl w) E15
  show wpList _ _ _ _ (fr [(.agg #[(.slice p5 A_a.nodes.length q6)]), (.agg #[(.slice p8 A_b.nodes.length q9)]), (Pt b12 0), Ud, Ud, Ud, Ud, Ud, Ud, Ud, Ud]) _
  refine seqd rfl rfl (does_box (u := (.agg #[(.slice p8 A_b.nodes.length q9)])) (ev rfl)) ?_; rintro _ w23 ⟨b19, rfl, hb20, hB21, E22⟩
  have n24 : b12 < b19 := Nat.lt_of_lt_of_le (Blk.lt hB14) hb20
  have g25 : w.heap.size ≤ b19 := Nat.le_trans (Below.size X18) hb20
  change Blk _ _ [(.slice p8 A_b.nodes.length q9)] at hB21
  have X26 := Ext.gr X18 E22
  show wpList _ _ _ _ (fr [(.agg #[(.slice p5 A_a.nodes.length q6)]), (.agg #[(.slice p8 A_b.nodes.length q9)]), (Pt b12 0), (Pt b19 0), Ud, Ud, Ud, Ud, Ud, Ud, Ud]) _
  refine q_is (l' := [(.agg #[(.slice p5 A_a.nodes.length q6)]), (.agg #[(.slice p8 A_b.nodes.length q9)]), (Pt b12 0), (Pt b19 0), (Bo false), Ud, Ud, Ud, Ud, Ud, Ud]) rfl rfl (does_assign (u := (Bo false)) (ev rfl)) rfl ?_
  refine wpList_nil (hK11 _ _ ?_)
  refine wp_seq_k fun K27 hK27 => ?_
  refine wp_seq_k fun K28 hK28 => ?_
  refine wp_region_lit ?_
  refine q_is (l' := [(.agg #[(.slice p5 A_a.nodes.length q6)]), (.agg #[(.slice p8 A_b.nodes.length q9)]), (Pt b12 0), (Pt b19 0), (Bo false), (Pt b12 0), Ud, Ud, Ud, Ud, Ud]) rfl rfl (does_fieldAddr (ev rfl) fa30_0) rfl ?_
  refine q_is (l' := [(.agg #[(.slice p5 A_a.nodes.length q6)]), (.agg #[(.slice p8 A_b.nodes.length q9)]), (Pt b12 0), (Pt b19 0), (Bo false), (Pt b12 0), (.slice p5 A_a.nodes.length q6), Ud, Ud, Ud, Ud]) rfl rfl (does_load (u := (.slice p5 A_a.nodes.length q6)) (ev rfl) Try.isAgg28 (Cells.at (Blk.cells (hB14.ext E22)) 0 rfl)) rfl ?_
  refine q_is (l' := [(.agg #[(.slice p5 A_a.nodes.length q6)]), (.agg #[(.slice p8 A_b.nodes.length q9)]), (Pt b12 0), (Pt b19 0), (Bo false), (Pt b12 0), (.slice p5 A_a.nodes.length q6), (Pt b19 0), Ud, Ud, Ud]) rfl rfl (does_fieldAddr (ev rfl) fa30_0) rfl ?_
  refine q_is (l' := [(.agg #[(.slice p5 A_a.nodes.length q6)]), (.agg #[(.slice p8 A_b.nodes.length q9)]), (Pt b12 0), (Pt b19 0), (Bo false), (Pt b12 0), (.slice p5 A_a.nodes.length q6), (Pt b19 0), (.slice p8 A_b.nodes.length q9), Ud, Ud]) rfl rfl (does_load (u := (.slice p8 A_b.nodes.length q9)) (ev rfl) Try.isAgg28 (Cells.at (Blk.cells hB21) 0 rfl)) rfl ?_
  refine seqd rfl rfl (does_call (args := #[(.slice p5 A_a.nodes.length q6), (.slice p8 A_b.nodes.length q9)]) cal28 (evs rfl) (c_laws_eqNodeS (.slice p5 A_a.nodes.length q6) A_a.nodes (.slice p8 A_b.nodes.length q9) A_b.nodes _ (Sl.ext hs7 RNodeT.mono X26) (Sl.ext hs10 RNodeT.mono X26))) ?_; rintro _ w30 ⟨E29, rfl⟩
  have X31 := Ext.gr X26 E29
  show wpList _ _ _ _ (fr [(.agg #[(.slice p5 A_a.nodes.length q6)]), (.agg #[(.slice p8 A_b.nodes.length q9)]), (Pt b12 0), (Pt b19 0), (Bo false), (Pt b12 0), (.slice p5 A_a.nodes.length q6), (Pt b19 0), (.slice p8 A_b.nodes.length q9), (Bo (sameX sameNd A_a.nodes A_b.nodes)), Ud]) _
  refine q_is (l' := [(.agg #[(.slice p5 A_a.nodes.length q6)]), (.agg #[(.slice p8 A_b.nodes.length q9)]), (Pt b12 0), (Pt b19 0), (Bo false), (Pt b12 0), (.slice p5 A_a.nodes.length q6), (Pt b19 0), (.slice p8 A_b.nodes.length q9), (Bo (sameX sameNd A_a.nodes A_b.nodes)), (Bo (!(sameX sameNd A_a.nodes A_b.nodes)))]) rfl rfl (does_not (ev rfl)) rfl ?_
  refine wpList_nil (hK28 _ _ ?_)
  refine wp_cond_split (t := !(sameX sameNd A_a.nodes A_b.nodes)) (ev rfl) (fun c32 => ?_) (fun c32 => ?_)
  · rw [Bool.not_eq_true'] at c32
    have c32' := c32
    refine wp_seq_k fun K33 hK33 => ?_
    refine wp_region_lit ?_
    refine q_is (l' := [(.agg #[(.slice p5 A_a.nodes.length q6)]), (.agg #[(.slice p8 A_b.nodes.length q9)]), (Pt b12 0), (Pt b19 0), (Bo false), (Pt b12 0), (.slice p5 A_a.nodes.length q6), (Pt b19 0), (.slice p8 A_b.nodes.length q9), (Bo (sameX sameNd A_a.nodes A_b.nodes)), (Bo (!(sameX sameNd A_a.nodes A_b.nodes)))]) rfl rfl (does_assign (u := (Bo false)) (ev rfl)) rfl ?_
    refine wpList_nil (hK33 _ _ ?_)
    refine wp_ret ?_
    dsimp only [Exit.then, Exit.inBlock]
    refine ret_val (v := (Bo false)) (res_T rfl (slot rfl)) X31 ?_
    have x34 : (sameShp A_a A_b) = false := by first | with_reducible rfl | (simp only [sameShp, c32]; done) | (simp [sameShp, c32]; done) | (revert c32; simp +contextual [sameShp]; done) | (rcases c32' with hh | hh <;> simp only [hh, sameShp, c32]; done) | (rcases c32' with hh | hh <;> simp_all [sameShp]; done) | (rcases c32' with hh | hh | hh <;> simp_all [sameShp]; done) | (rcases c32' with hh | hh | hh | hh <;> simp_all [sameShp]; done) | (simp_all [sameShp]; done) | rfl
    exact (by first | with_reducible rfl | rw [x34] | rfl)
  rw [Bool.not_eq_false'] at c32
  have c32' := c32
  refine wp_skip (hK27 _ _ ?_)
  refine wp_seq_k fun K35 hK35 => ?_
  refine wp_region_lit ?_
  refine q_is (l' := [(.agg #[(.slice p5 A_a.nodes.length q6)]), (.agg #[(.slice p8 A_b.nodes.length q9)]), (Pt b12 0), (Pt b19 0), (Bo true), (Pt b12 0), (.slice p5 A_a.nodes.length q6), (Pt b19 0), (.slice p8 A_b.nodes.length q9), (Bo (sameX sameNd A_a.nodes A_b.nodes)), (Bo (!(sameX sameNd A_a.nodes A_b.nodes)))]) rfl rfl (does_assign (u := (Bo true)) (ev rfl)) rfl ?_
  refine wpList_nil (hK35 _ _ ?_)
  refine wp_ret ?_
  refine ret_val (v := (Bo true)) (res_T rfl (slot rfl)) X31 ?_
  have x36 : (sameShp A_a A_b) = true := by first | with_reducible rfl | (simp only [sameShp, c32]; done) | (simp [sameShp, c32]; done) | (revert c32; simp +contextual [sameShp]; done) | (rcases c32' with hh | hh <;> simp only [hh, sameShp, c32]; done) | (rcases c32' with hh | hh <;> simp_all [sameShp]; done) | (rcases c32' with hh | hh | hh <;> simp_all [sameShp]; done) | (rcases c32' with hh | hh | hh | hh <;> simp_all [sameShp]; done) | (simp_all [sameShp]; done) | rfl
  exact (by first | with_reducible rfl | rw [x36] | rfl)

/- laws.FnExactShapeBytes -/
theorem c_laws_FnExactShapeBytes (a : List Value) (A_a : ShapeT) (w : World) (hv_a : RShapeT w A_a a) : Gives Try.prog 3 #[(.agg a.toArray)] w (fun v w' => v = (Bo true)) := by
  obtain ⟨y1, rfl, h2⟩ := hv_a
  have hs5 := h2; have hs5l := Sl.len h2; obtain ⟨p3, q4, rfl⟩ := Sl.shape h2
  refine enter [(.agg #[(.slice p3 A_a.nodes.length q4)]), Ud, Ud, Ud, Ud, Ud, Ud, Ud, Ud, Ud, Ud, Ud, Ud, Ud, Ud, Ud, Ud, Ud, Ud, Ud, Ud, Ud, Ud, Ud, Ud, Ud, Ud, Ud, Ud, Ud, Ud, Ud, Ud, Ud, Ud, Ud, Ud, Ud, Ud, Ud] Try.func3 rfl Try.ntmps3 rfl ?_
  refine wp_seq_k fun K6 hK6 => ?_
  refine wp_region_lit ?_
  refine seqd rfl rfl (does_box (u := (.agg #[(.slice p3 A_a.nodes.length q4)])) (ev rfl)) ?_; rintro _ w11 ⟨b7, rfl, hb8, hB9, E10⟩
  have g12 : w.heap.size ≤ b7 := Nat.le_trans (Below.size (Ext.refl w)) hb8
  change Blk _ _ [(.slice p3 A_a.nodes.length q4)] at hB9
  have X13 := Ext.gr (Ext.refl w) E10
  show wpList _ _ _ _ (fr [_, _, _, _, _, _, _, _, _, _, _, _, _, _, _, _, _, _, _, _, _, _, _, _, _, _, _, _, _, _, _, _, _, _, _, _, _, _, _, _]) _
  refine q_is rfl rfl (does_assign (u := (Bo false)) (ev rfl)) (by dsimp only [List.set]; try rfl) ?_
  refine wpList_nil (hK6 _ _ ?_)
  refine wp_seq_k fun K14 hK14 => ?_
  refine wp_region_lit ?_
  refine q_is rfl rfl (does_assign (u := (Iv 1048576)) (ev rfl)) (by dsimp only [List.set]; try rfl) ?_
  refine wpList_nil (hK14 _ _ ?_)
  refine wp_seq_k fun K15 hK15 => ?_
  refine wp_region_lit ?_
  refine q_is rfl rfl (does_loadAgg (cs := [(.slice p3 A_a.nodes.length q4)]) (ev rfl) Try.isAgg24 Try.sizeOf24 (Blk.cells hB9) rfl) (by dsimp only [List.set]; try rfl) ?_
  refine q_is rfl rfl (does_move (u := (Iv 1048576)) (ev rfl)) (by dsimp only [List.set]; try rfl) ?_
  refine seqd rfl rfl (does_call (args := #[(.agg #[(.slice p3 A_a.nodes.length q4)]), (Iv 1048576)]) cal6 (evs rfl) (c_laws_szShape [(.slice p3 A_a.nodes.length q4)] A_a 1048576 _ ⟨(.slice p3 A_a.nodes.length q4), rfl, (Sl.ext hs5 RNodeT.mono X13)⟩ (by omega) (by omega))) ?_; rintro _ w17 ⟨E16, ⟨i18, rfl, h19⟩⟩
  have X20 := Ext.gr X13 E16
  show wpList _ _ _ _ (fr [_, _, _, _, _, _, _, _, _, _, _, _, _, _, _, _, _, _, _, _, _, _, _, _, _, _, _, _, _, _, _, _, _, _, _, _, _, _, _, _]) _
  refine q_is rfl rfl (does_assign (u := (Iv i18)) (ev rfl)) (by dsimp only [List.set]; try rfl) ?_
  refine wpList_nil (hK15 _ _ ?_)
  refine wp_seq_k fun K21 hK21 => ?_
  refine wp_seq_k fun K22 hK22 => ?_
  refine wp_region_lit ?_
  refine q_is rfl rfl (does_move (u := (Iv i18)) (ev rfl)) (by dsimp only [List.set]; try rfl) ?_
  refine q_is rfl rfl (does_icmp (p := i18) (q := 0) (.inr (.inr (.inl rfl))) (ev rfl) (ev rfl)) (by dsimp only [List.set]; try rfl) ?_
  refine wpList_nil (hK22 _ _ ?_)
  refine wp_cond_split (t := icmp .lss i18 0) (ev rfl) (fun c23 => ?_) (fun c23 => ?_)
  · have c23' := c23
    (try simp only [icmp, Bool.and_eq_true, Bool.or_eq_true, Bool.and_eq_false_iff, Bool.or_eq_false_iff, Bool.not_eq_true', Bool.not_eq_false', decide_eq_true_eq, decide_eq_false_iff_not, beq_iff_eq, bne_iff_ne, beq_eq_false_iff_ne, bne_eq_false_iff_eq] at c23')
    refine wp_seq_k fun K24 hK24 => ?_
    refine wp_region_lit ?_
    refine q_is rfl rfl (does_assign (u := (Bo true)) (ev rfl)) (by dsimp only [List.set]; try rfl) ?_
    refine wpList_nil (hK24 _ _ ?_)
    refine wp_ret ?_
    dsimp only [Exit.then, Exit.inBlock]
    refine ret_val (v := (Bo true)) (res_T rfl (slot rfl)) X20 ?_
    exact rfl
  have c23' := c23
  (try simp only [icmp, Bool.and_eq_true, Bool.or_eq_true, Bool.and_eq_false_iff, Bool.or_eq_false_iff, Bool.not_eq_true', Bool.not_eq_false', decide_eq_true_eq, decide_eq_false_iff_not, beq_iff_eq, bne_iff_ne, beq_eq_false_iff_ne, bne_eq_false_iff_eq] at c23')
  refine wp_skip (hK21 _ _ ?_)
  refine wp_seq_k fun K25 hK25 => ?_
  refine wp_region_lit ?_
  refine q_is rfl rfl (does_loadAgg (cs := [(.slice p3 A_a.nodes.length q4)]) (ev rfl) Try.isAgg24 Try.sizeOf24 (Blk.cells (hB9.ext E16)) rfl) (by dsimp only [List.set]; try rfl) ?_
  refine seqd rfl rfl (does_call (args := #[(.agg #[(.slice p3 A_a.nodes.length q4)])]) cal8 (evs rfl) (c_laws_toShape [(.slice p3 A_a.nodes.length q4)] A_a _ ⟨(.slice p3 A_a.nodes.length q4), rfl, (Sl.ext hs5 RNodeT.mono X20)⟩ (by omega))) ?_; rintro _ w27 ⟨E26, ⟨cs29, rfl, hh28⟩⟩
  have X30 := Ext.gr X20 E26
  have n31 : b7 < w17.heap.size := Blk.lt (hB9.ext E16)
  obtain ⟨y32, rfl, h33⟩ := hh28.get
  have h33l := Sl.len h33; obtain ⟨p34, q35, rfl⟩ := Sl.shape h33
  have hh36 : Hang w17.heap.size w27 (fun u => Sl RNodeT 4 u (.slice p34 A_a.nodes.length q35) A_a.nodes) := fun u hu => by obtain ⟨_, hq, _⟩ := hh28 u hu; cases hq; assumption
  show wpList _ _ _ _ (fr [_, _, _, _, _, _, _, _, _, _, _, _, _, _, _, _, _, _, _, _, _, _, _, _, _, _, _, _, _, _, _, _, _, _, _, _, _, _, _, _]) _
  refine seqd rfl rfl (does_call (args := #[(.agg #[(.slice p34 A_a.nodes.length q35)])]) cal7 (evs rfl) (c_spec_ShapeBytes [(.slice p34 A_a.nodes.length q35)] A_a _ ⟨(.slice p34 A_a.nodes.length q35), rfl, hh36.get⟩)) ?_; rintro _ w38 ⟨E37, rfl⟩
  have X39 := Ext.gr X30 E37
  show wpList _ _ _ _ (fr [_, _, _, _, _, _, _, _, _, _, _, _, _, _, _, _, _, _, _, _, _, _, _, _, _, _, _, _, _, _, _, _, _, _, _, _, _, _, _, _]) _
  refine q_is rfl rfl (does_move (u := (.tuple #[(.string (shpB A_a)), (Bo (isShape A_a))])) (ev rfl)) (by dsimp only [List.set]; try rfl) ?_
  refine q_is rfl rfl (does_extract (vs := #[(.string (shpB A_a)), (Bo (isShape A_a))]) (u := (.string (shpB A_a))) (ev rfl) rfl) (by dsimp only [List.set]; try rfl) ?_
  refine q_is rfl rfl (does_extract (vs := #[(.string (shpB A_a)), (Bo (isShape A_a))]) (u := (Bo (isShape A_a))) (ev rfl) rfl) (by dsimp only [List.set]; try rfl) ?_
  refine q_is rfl rfl (does_assign (u := (.string (shpB A_a))) (ev rfl)) (by dsimp only [List.set]; try rfl) ?_
  refine q_is rfl rfl (does_assign (u := (Bo (isShape A_a))) (ev rfl)) (by dsimp only [List.set]; try rfl) ?_
  refine wpList_nil (hK25 _ _ ?_)
  refine wp_seq_k fun K40 hK40 => ?_
  refine wp_region_lit ?_
  refine q_is rfl rfl (does_loadAgg (cs := [(.slice p3 A_a.nodes.length q4)]) (ev rfl) Try.isAgg24 Try.sizeOf24 (Blk.cells (((hB9.ext E16).ext E26).ext E37)) rfl) (by dsimp only [List.set]; try rfl) ?_
  refine seqd rfl rfl (does_call (args := #[(.agg #[(.slice p3 A_a.nodes.length q4)])]) cal8 (evs rfl) (c_laws_toShape [(.slice p3 A_a.nodes.length q4)] A_a _ ⟨(.slice p3 A_a.nodes.length q4), rfl, (Sl.ext hs5 RNodeT.mono X39)⟩ (by omega))) ?_; rintro _ w42 ⟨E41, ⟨cs44, rfl, hh43⟩⟩
  have X45 := Ext.gr X39 E41
  have n46 : b7 < w38.heap.size := Blk.lt (((hB9.ext E16).ext E26).ext E37)
  obtain ⟨y47, rfl, h48⟩ := hh43.get
  have h48l := Sl.len h48; obtain ⟨p49, q50, rfl⟩ := Sl.shape h48
  have hh51 : Hang w38.heap.size w42 (fun u => Sl RNodeT 4 u (.slice p49 A_a.nodes.length q50) A_a.nodes) := fun u hu => by obtain ⟨_, hq, _⟩ := hh43 u hu; cases hq; assumption
  show wpList _ _ _ _ (fr [_, _, _, _, _, _, _, _, _, _, _, _, _, _, _, _, _, _, _, _, _, _, _, _, _, _, _, _, _, _, _, _, _, _, _, _, _, _, _, _]) _
  refine seqd rfl rfl (does_alloc z30) ?_; rintro _ w56 ⟨b52, rfl, hb53, hB54, E55⟩
  have n57 : b7 < b52 := Nat.lt_of_lt_of_le (Blk.lt ((((hB9.ext E16).ext E26).ext E37).ext E41)) hb53
  have g58 : w.heap.size ≤ b52 := Nat.le_trans (Below.size X45) hb53
  change Blk _ _ [(.slice none 0 0)] at hB54
  have X59 := Ext.gr X45 E55
  show wpList _ _ _ _ (fr [_, _, _, _, _, _, _, _, _, _, _, _, _, _, _, _, _, _, _, _, _, _, _, _, _, _, _, _, _, _, _, _, _, _, _, _, _, _, _, _]) _
  refine seqn rfl rfl (does_store (n := 1) (cs := [(.slice none 0 0)]) (u := (.agg #[(.slice p49 A_a.nodes.length q50)])) (ev rfl) (ev rfl) Try.sizeOf30 rfl hB54 (Nat.le_of_ble_eq_true rfl) rfl) ?_; rintro _ w62 ⟨rfl, W60, hB61⟩
  change Blk _ _ [(.slice p49 A_a.nodes.length q50)] at hB61
  have X63 := Below.wr X59 W60 g58
  refine wpList_nil (hK40 _ _ ?_)
  refine wp_seq_k fun K64 hK64 => ?_
  refine wp_region_lit ?_
  refine q_is rfl rfl (does_loadAgg (cs := [(.slice p49 A_a.nodes.length q50)]) (ev rfl) Try.isAgg30 Try.sizeOf30 (Blk.cells hB61) rfl) (by dsimp only [List.set]; try rfl) ?_
  refine seqd rfl rfl (does_call (args := #[(.agg #[(.slice p49 A_a.nodes.length q50)])]) cal9 (evs rfl) (c_impl_ShapeBytes [(.slice p49 A_a.nodes.length q50)] A_a _ ⟨(.slice p49 A_a.nodes.length q50), rfl, (hh51 _ (((Same.refl _ _).ext E55).wr W60 (.inr (Nat.le_trans (Nat.le_refl _) hb53))))⟩)) ?_; rintro _ w66 ⟨E65, rfl⟩
  have X67 := Ext.gr X63 E65
  show wpList _ _ _ _ (fr [_, _, _, _, _, _, _, _, _, _, _, _, _, _, _, _, _, _, _, _, _, _, _, _, _, _, _, _, _, _, _, _, _, _, _, _, _, _, _, _]) _
  refine q_is rfl rfl (does_move (u := (.tuple #[(.string (shpB A_a)), (Bo (isShape A_a))])) (ev rfl)) (by dsimp only [List.set]; try rfl) ?_
  refine q_is rfl rfl (does_extract (vs := #[(.string (shpB A_a)), (Bo (isShape A_a))]) (u := (.string (shpB A_a))) (ev rfl) rfl) (by dsimp only [List.set]; try rfl) ?_
  refine q_is rfl rfl (does_extract (vs := #[(.string (shpB A_a)), (Bo (isShape A_a))]) (u := (Bo (isShape A_a))) (ev rfl) rfl) (by dsimp only [List.set]; try rfl) ?_
  refine q_is rfl rfl (does_assign (u := (.string (shpB A_a))) (ev rfl)) (by dsimp only [List.set]; try rfl) ?_
  refine q_is rfl rfl (does_assign (u := (Bo (isShape A_a))) (ev rfl)) (by dsimp only [List.set]; try rfl) ?_
  refine wpList_nil (hK64 _ _ ?_)
  refine wp_seq_k fun K68 hK68 => ?_
  refine wp_seq_k fun K69 hK69 => ?_
  obtain ⟨β1, hβ1⟩ : ∃ b : Bool, b = ((shpB A_a).toList != (shpB A_a).toList) := ⟨_, rfl⟩
  obtain ⟨β2, hβ2⟩ : ∃ b : Bool, b = ((isShape A_a) != (isShape A_a)) := ⟨_, rfl⟩
  refine region_text (
    [Fact.pure [] (fun v => v = (.string (shpB A_a))),
    Fact.pure [] (fun v => v = (.string (shpB A_a))),
    Fact.pure [27, 28] (fun v => v = (Bo β1)),
    Fact.pure [29] (fun v => v = (Bo β1)),
    Fact.pure [30] (fun v => β1 = false → v = (Bo (isShape A_a))),
    Fact.pure [30] (fun v => β1 = false → v = (Bo (isShape A_a))),
    Fact.pure [31, 32, 30] (fun v => β1 = false → v = (Bo β2)),
    Fact.pure [30, 33] (fun v => v = (Bo (β1 || β2)))]) (by simp [Fact.pure, Fact.mem]) ?_
  refine RW_d _ rfl (fun v => by dsimp only [List.set]; try rfl) (fun u hu hF => ?_) (fun v70 => ?_)
  · clear hF
    refine doesG_un rfl ?_
    refine (does_move (u := (.string (shpB A_a))) (ev rfl)).mono ?_; rintro _ _ ⟨rfl, rfl⟩
    exact ⟨rfl, Ext.refl _⟩
  refine RW_d _ rfl (fun v => by dsimp only [List.set]; try rfl) (fun u hu hF => ?_) (fun v71 => ?_)
  · clear hF
    refine doesG_un rfl ?_
    refine (does_move (u := (.string (shpB A_a))) (ev rfl)).mono ?_; rintro _ _ ⟨rfl, rfl⟩
    exact ⟨rfl, Ext.refl _⟩
  refine RW_d _ rfl (fun v => by dsimp only [List.set]; try rfl) (fun u hu hF => ?_) (fun v72 => ?_)
  · have h27_ : v70 = (.string (shpB A_a)) := hF.1
    have h28_ : v71 = (.string (shpB A_a)) := hF.2.1
    clear hF
    refine doesG_un rfl ?_
    obtain rfl := h27_
    obtain rfl := h28_
    refine (does_sne (p := (shpB A_a)) (q := (shpB A_a)) Try.underlying9 (ev rfl) (ev rfl)).mono ?_; rintro _ _ ⟨rfl, rfl⟩
    exact ⟨(by first | rfl | (show _ = _; simp only [hβ1]; done) | (show _ = _; simp only [hβ1]; rfl)), Ext.refl _⟩
  refine RW_d _ rfl (fun v => by dsimp only [List.set]; try rfl) (fun u hu hF => ?_) (fun v73 => ?_)
  · have h29_ : v72 = (Bo β1) := hF.1
    clear hF
    refine doesG_un rfl ?_
    obtain rfl := h29_
    refine (does_move (u := (Bo β1)) (ev rfl)).mono ?_; rintro _ _ ⟨rfl, rfl⟩
    exact ⟨rfl, Ext.refl _⟩
  refine RW_d _ rfl (fun v => by dsimp only [List.set]; try rfl) (fun u hu hF => ?_) (fun v74 => ?_)
  · have h30_ : v73 = (Bo β1) := hF.1
    clear hF
    obtain rfl := h30_
    refine doesG_g (b := β1) rfl (yld rfl rfl) (fun hg1 => ?_) (fun hc => ⟨fun hg1 => absurd hg1 hc, Ext.refl _⟩)
    refine (does_move (u := (Bo (isShape A_a))) (ev rfl)).mono ?_; rintro _ _ ⟨rfl, rfl⟩
    exact ⟨fun _ => rfl, Ext.refl _⟩
  refine RW_d _ rfl (fun v => by dsimp only [List.set]; try rfl) (fun u hu hF => ?_) (fun v75 => ?_)
  · have h30_ : v73 = (Bo β1) := hF.1
    clear hF
    obtain rfl := h30_
    refine doesG_g (b := β1) rfl (yld rfl rfl) (fun hg1 => ?_) (fun hc => ⟨fun hg1 => absurd hg1 hc, Ext.refl _⟩)
    refine (does_move (u := (Bo (isShape A_a))) (ev rfl)).mono ?_; rintro _ _ ⟨rfl, rfl⟩
    exact ⟨fun _ => rfl, Ext.refl _⟩
  refine RW_d _ rfl (fun v => by dsimp only [List.set]; try rfl) (fun u hu hF => ?_) (fun v76 => ?_)
  · have h31_ : β1 = false → v74 = (Bo (isShape A_a)) := hF.1
    have h32_ : β1 = false → v75 = (Bo (isShape A_a)) := hF.2.1
    have h30_ : v73 = (Bo β1) := hF.2.2.1
    clear hF
    obtain rfl := h30_
    refine doesG_g (b := β1) rfl (yld rfl rfl) (fun hg1 => ?_) (fun hc => ⟨fun hg1 => absurd hg1 hc, Ext.refl _⟩)
    obtain rfl := h31_ hg1
    obtain rfl := h32_ hg1
    refine (does_bne (p := (isShape A_a)) (q := (isShape A_a)) Try.underlying4 (ev rfl) (ev rfl)).mono ?_; rintro _ _ ⟨rfl, rfl⟩
    exact ⟨fun _ => (by first | rfl | (show _ = _; simp only [hβ2]; done) | (show _ = _; simp only [hβ2]; rfl)), Ext.refl _⟩
  refine RW_d _ rfl (fun v => by dsimp only [List.set]; try rfl) (fun u hu hF => ?_) (fun v77 => ?_)
  · have h30_ : v73 = (Bo β1) := hF.1
    have h33_ : β1 = false → v76 = (Bo β2) := hF.2.1
    clear hF
    refine doesG_un rfl ?_
    skip
    obtain rfl := h30_
    refine (does_pick (b := β1) (u := (Bo true)) (v := v76) (ev rfl) (ev rfl) (ev rfl)).mono ?_; rintro _ _ ⟨rfl, rfl⟩; refine ⟨?_, Ext.refl _⟩; skip
    cases hbb : β1
    all_goals first | (show _ = _; simp only [↓reduceIte, Bool.true_and, Bool.false_and, Bool.true_or, Bool.false_or, Bool.false_eq_true]; done) | (have e_ := h33_ hbb; subst e_; show _ = _; simp only [↓reduceIte, Bool.true_and, Bool.false_and, Bool.true_or, Bool.false_or, Bool.false_eq_true]; done) | rfl | (have e_ := h33_ hbb; subst e_; rfl) | (simp [hbb] at h33_ ⊢; first | done | rfl | (subst h33_; rfl) | simp_all) | (simp [hbb] at h33_ ⊢; done)
  refine RW_fin ?_; intro w78 E79 hP80
  obtain ⟨⟨⟨⟨⟨⟨⟨⟨-, -⟩, -⟩, -⟩, -⟩, -⟩, -⟩, -⟩, q81⟩ := hP80
  have X82 := Ext.gr X67 E79
  have q81 : v77 = (Bo (β1 || β2)) := q81
  obtain rfl := q81
  show wpList _ _ _ _ (fr [_, _, _, _, _, _, _, _, _, _, _, _, _, _, _, _, _, _, _, _, _, _, _, _, _, _, _, _, _, _, _, _, _, _, _, _, _, _, _, _]) _
  refine wpList_nil (hK69 _ _ ?_)
  refine wp_cond_split (t := β1 || β2) (ev rfl) (fun c83 => ?_) (fun c83 => ?_)
  · have c83' := c83
    (try simp only [hβ1, hβ2] at c83')
    (try simp only [icmp, Bool.and_eq_true, Bool.or_eq_true, Bool.and_eq_false_iff, Bool.or_eq_false_iff, Bool.not_eq_true', Bool.not_eq_false', decide_eq_true_eq, decide_eq_false_iff_not, beq_iff_eq, bne_iff_ne, beq_eq_false_iff_ne, bne_eq_false_iff_eq] at c83')
    refine wp_seq_k fun K84 hK84 => ?_
    refine wp_region_lit ?_
    refine q_is rfl rfl (does_assign (u := (Bo false)) (ev rfl)) (by dsimp only [List.set]; try rfl) ?_
    refine wpList_nil (hK84 _ _ ?_)
    refine wp_ret ?_
    dsimp only [Exit.then, Exit.inBlock]
    refine ret_val (v := (Bo false)) (res_T rfl (slot rfl)) X82 ?_
    try simp only [hβ1, hβ2] at c23 c83
    have x85 : true = false := by first | with_reducible rfl | (simp only [sameShp_self, bne_self_eq_false, hβ1, hβ2, c23, c83]; done) | (simp [sameShp_self, bne_self_eq_false, hβ1, hβ2, c23, c83]; done) | (revert c23 c83; simp +contextual [sameShp_self, bne_self_eq_false, hβ1, hβ2]; done) | (rcases c23' with hh | hh <;> simp only [hh, sameShp_self, bne_self_eq_false, hβ1, hβ2, c23, c83]; done) | (rcases c83' with hh | hh <;> simp only [hh, sameShp_self, bne_self_eq_false, hβ1, hβ2, c23, c83]; done) | (rcases c83' with hh | hh <;> simp_all [sameShp_self, bne_self_eq_false]; done) | (rcases c83' with hh | hh | hh <;> simp_all [sameShp_self, bne_self_eq_false]; done) | (rcases c83' with hh | hh | hh | hh <;> simp_all [sameShp_self, bne_self_eq_false]; done) | (simp_all [sameShp_self, bne_self_eq_false]; done) | rfl
    exact (by first | with_reducible rfl | rw [x85] | rfl)
  have c83' := c83
  (try simp only [hβ1, hβ2] at c83')
  (try simp only [icmp, Bool.and_eq_true, Bool.or_eq_true, Bool.and_eq_false_iff, Bool.or_eq_false_iff, Bool.not_eq_true', Bool.not_eq_false', decide_eq_true_eq, decide_eq_false_iff_not, beq_iff_eq, bne_iff_ne, beq_eq_false_iff_ne, bne_eq_false_iff_eq] at c83')
  refine wp_skip (hK68 _ _ ?_)
  refine wp_seq_k fun K86 hK86 => ?_
  refine wp_seq_k fun K87 hK87 => ?_
  refine region_draw (
    [Fact.pure [] (fun v => v = (.agg #[(.slice p49 A_a.nodes.length q50)])),
    Fact.pure [] (fun v => v = (.agg #[(.slice p3 A_a.nodes.length q4)])),
    Fact.mem [36] (fun v w' => ∃ cs_1 : List Value, v = (.agg cs_1.toArray) ∧ Hang w78.heap.size w' (fun u => RShapeT u A_a cs_1)) (by rintro v w1 w2 hx ⟨z1, rfl, k0⟩; exact ⟨_, rfl, (k0.ext hx)⟩),
    Fact.pure [35, 37] (fun v => v = (Bo (sameShp A_a A_a))),
    Fact.pure [38] (fun v => v = (Bo (!(sameShp A_a A_a))))]) mixed (by kernel_rfl) (by intro _ _ d _ _ h; cases d <;> exact h) ?_
  obtain ⟨w88, hw90⟩ : ∃ w', w' = World.drew w78 := ⟨_, rfl⟩; rw [← hw90]; have E89 : Ext w78 w88 := by rw [hw90]; exact Ext.draw _
  clear hw90
  have X91 := Ext.gr X82 E89
  refine RW_d _ rfl (fun v => by dsimp only [List.set]; try rfl) (fun u hu hF => ?_) (fun v92 => ?_)
  · clear hF
    refine doesG_un rfl ?_
    refine (does_loadAgg (cs := [(.slice p49 A_a.nodes.length q50)]) (ev rfl) Try.isAgg30 Try.sizeOf30 (Blk.cells ((((hB61.ext E65).ext E79).ext E89).ext hu)) rfl).mono ?_; rintro _ _ ⟨rfl, rfl⟩
    exact ⟨rfl, Ext.refl _⟩
  refine RW_d _ rfl (fun v => by dsimp only [List.set]; try rfl) (fun u hu hF => ?_) (fun v93 => ?_)
  · clear hF
    refine doesG_un rfl ?_
    refine (does_loadAgg (cs := [(.slice p3 A_a.nodes.length q4)]) (ev rfl) Try.isAgg24 Try.sizeOf24 (Blk.cells ((((((((((hB9.ext E16).ext E26).ext E37).ext E41).ext E55).wr W60 (Nat.ne_of_lt n57)).ext E65).ext E79).ext E89).ext hu)) rfl).mono ?_; rintro _ _ ⟨rfl, rfl⟩
    exact ⟨rfl, Ext.refl _⟩
  refine RW_d _ rfl (fun v => by dsimp only [List.set]; try rfl) (fun u hu hF => ?_) (fun v94 => ?_)
  · have h36_ : v93 = (.agg #[(.slice p3 A_a.nodes.length q4)]) := hF.1
    clear hF
    refine doesG_un rfl ?_
    obtain rfl := h36_
    refine (does_call (args := #[(.agg #[(.slice p3 A_a.nodes.length q4)])]) cal8 (evs rfl) (c_laws_toShape [(.slice p3 A_a.nodes.length q4)] A_a _ ⟨(.slice p3 A_a.nodes.length q4), rfl, (Sl.ext (Sl.ext hs5 RNodeT.mono (Ext.gr X82 E89)) RNodeT.mono hu)⟩ (by omega))).mono ?_; rintro v u' ⟨hx, ⟨csn1, hv, k0⟩⟩
    exact ⟨⟨csn1, hv, (Hang.le k0 (Nat.le_trans (Below.size E89) (Below.size hu)))⟩, hx⟩
  refine RW_d _ rfl (fun v => by dsimp only [List.set]; try rfl) (fun u hu hF => ?_) (fun v95 => ?_)
  · have h35_ : v92 = (.agg #[(.slice p49 A_a.nodes.length q50)]) := hF.1
    have h37_ : ∃ cs_1 : List Value, v94 = (.agg cs_1.toArray) ∧ Hang w78.heap.size u (fun u => RShapeT u A_a cs_1) := hF.2.1
    clear hF
    refine doesG_un rfl ?_
    obtain rfl := h35_
    obtain ⟨cs37_2, rfl, hh37_1⟩ := h37_
    obtain ⟨y37_3, rfl, h37_4⟩ := hh37_1.get
    have hh37_4 := h37_4; obtain ⟨p37_5, q37_6, rfl⟩ := Sl.shape h37_4
    refine (does_call (args := #[(.agg #[(.slice p49 A_a.nodes.length q50)]), (.agg #[(.slice p37_5 A_a.nodes.length q37_6)])]) cal10 (evs rfl) (c_laws_eqShape [(.slice p49 A_a.nodes.length q50)] A_a [(.slice p37_5 A_a.nodes.length q37_6)] A_a _ ⟨(.slice p49 A_a.nodes.length q50), rfl, (Sl.ext (hh51 _ ((((((Same.refl _ _).ext E55).wr W60 (.inr (Nat.le_trans (Nat.le_refl _) hb53))).ext E65).ext E79).ext E89)) RNodeT.mono hu)⟩ ⟨(.slice p37_5 A_a.nodes.length q37_6), rfl, hh37_4⟩)).mono ?_; rintro v u' ⟨hx, hv⟩
    exact ⟨hv, hx⟩
  refine RW_d _ rfl (fun v => by dsimp only [List.set]; try rfl) (fun u hu hF => ?_) (fun v96 => ?_)
  · have h38_ : v95 = (Bo (sameShp A_a A_a)) := hF.1
    clear hF
    refine doesG_un rfl ?_
    obtain rfl := h38_
    refine (does_not (ev rfl)).mono ?_; rintro _ _ ⟨rfl, rfl⟩
    exact ⟨rfl, Ext.refl _⟩
  refine RW_fin ?_; intro w97 E98 hP99
  obtain ⟨⟨⟨⟨⟨-, -⟩, -⟩, -⟩, -⟩, q100⟩ := hP99
  have X101 := Ext.gr X91 E98
  have q100 : v96 = (Bo (!(sameShp A_a A_a))) := q100
  obtain rfl := q100
  show wpList _ _ _ _ (fr [_, _, _, _, _, _, _, _, _, _, _, _, _, _, _, _, _, _, _, _, _, _, _, _, _, _, _, _, _, _, _, _, _, _, _, _, _, _, _, _]) _
  refine wpList_nil (hK87 _ _ ?_)
  refine wp_cond_split (t := !(sameShp A_a A_a)) (ev rfl) (fun c102 => ?_) (fun c102 => ?_)
  · rw [Bool.not_eq_true'] at c102
    have c102' := c102
    (try simp only [hβ1, hβ2] at c102')
    (try simp only [icmp, Bool.and_eq_true, Bool.or_eq_true, Bool.and_eq_false_iff, Bool.or_eq_false_iff, Bool.not_eq_true', Bool.not_eq_false', decide_eq_true_eq, decide_eq_false_iff_not, beq_iff_eq, bne_iff_ne, beq_eq_false_iff_ne, bne_eq_false_iff_eq] at c102')
    refine wp_seq_k fun K103 hK103 => ?_
    refine wp_region_lit ?_
    refine q_is rfl rfl (does_assign (u := (Bo false)) (ev rfl)) (by dsimp only [List.set]; try rfl) ?_
    refine wpList_nil (hK103 _ _ ?_)
    refine wp_ret ?_
    dsimp only [Exit.then, Exit.inBlock]
    refine ret_val (v := (Bo false)) (res_T rfl (slot rfl)) X101 ?_
    try simp only [hβ1, hβ2] at c23 c83 c102
    have x104 : true = false := by first | with_reducible rfl | (simp only [sameShp_self, bne_self_eq_false, hβ1, hβ2, c23, c83, c102]; done) | (simp [sameShp_self, bne_self_eq_false, hβ1, hβ2, c23, c83, c102]; done) | (revert c23 c83 c102; simp +contextual [sameShp_self, bne_self_eq_false, hβ1, hβ2]; done) | (rcases c23' with hh | hh <;> simp only [hh, sameShp_self, bne_self_eq_false, hβ1, hβ2, c23, c83, c102]; done) | (rcases c83' with hh | hh <;> simp only [hh, sameShp_self, bne_self_eq_false, hβ1, hβ2, c23, c83, c102]; done) | (rcases c102' with hh | hh <;> simp only [hh, sameShp_self, bne_self_eq_false, hβ1, hβ2, c23, c83, c102]; done) | (rcases c102' with hh | hh <;> simp_all [sameShp_self, bne_self_eq_false]; done) | (rcases c102' with hh | hh | hh <;> simp_all [sameShp_self, bne_self_eq_false]; done) | (rcases c102' with hh | hh | hh | hh <;> simp_all [sameShp_self, bne_self_eq_false]; done) | (simp_all [sameShp_self, bne_self_eq_false]; done) | rfl
    exact (by first | with_reducible rfl | rw [x104] | rfl)
  rw [Bool.not_eq_false'] at c102
  have c102' := c102
  (try simp only [hβ1, hβ2] at c102')
  (try simp only [icmp, Bool.and_eq_true, Bool.or_eq_true, Bool.and_eq_false_iff, Bool.or_eq_false_iff, Bool.not_eq_true', Bool.not_eq_false', decide_eq_true_eq, decide_eq_false_iff_not, beq_iff_eq, bne_iff_ne, beq_eq_false_iff_ne, bne_eq_false_iff_eq] at c102')
  refine wp_skip (hK86 _ _ ?_)
  refine wp_seq_k fun K105 hK105 => ?_
  refine wp_region_lit ?_
  refine q_is rfl rfl (does_assign (u := (Bo true)) (ev rfl)) (by dsimp only [List.set]; try rfl) ?_
  refine wpList_nil (hK105 _ _ ?_)
  refine wp_ret ?_
  refine ret_val (v := (Bo true)) (res_T rfl (slot rfl)) X101 ?_
  try simp only [hβ1, hβ2] at c23 c83 c102
  exact rfl

end Go.Proofs.Ytiagimgdjngnfaa
