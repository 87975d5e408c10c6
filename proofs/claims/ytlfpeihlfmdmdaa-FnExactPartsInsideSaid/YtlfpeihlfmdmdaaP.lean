/- contracts of functions, each walked once -/
import Derived.Test.YtlfpeihlfmdmdaaTy
import Derived.Test.YtlfpeihlfmdmdaaUni
import Derived.Test.YtlfpeihlfmdmdaaOwn
import Derived.Test.YtlfpeihlfmdmdaaFlp
import Derived.Test.YtlfpeihlfmdmdaaNrm
import Derived.Test.YtlfpeihlfmdmdaaGph
import Derived.Test.YtlfpeihlfmdmdaaQue
import Derived.Test.YtlfpeihlfmdmdaaRwa
import Derived.Test.YtlfpeihlfmdmdaaRep
import Derived.Test.YtlfpeihlfmdmdaaMul
import Derived.Test.YtlfpeihlfmdmdaaPrg
namespace Go.Proofs.Ytlfpeihlfmdmdaa
open Go Go.RowKit
set_option maxRecDepth 100000
set_option maxHeartbeats 3200000
set_option linter.unusedVariables false
set_option linter.unusedSimpArgs false

/- laws.eqInt64S -/
theorem c_laws_eqInt64S (a : Value) (L_a : List Int) (b : Value) (L_b : List Int) (w : World) (hv_a : Sl RI 1 w a L_a) (hv_b : Sl RI 1 w b L_b) : Gives Try.prog 9 #[a, b] w (fun v w' => v = (Bo (sameX eqI L_a L_b))) := by
  have hlen_a := Sl.len hv_a; obtain ⟨p_a, q_a, rfl⟩ := Sl.shape hv_a
  have hlen_b := Sl.len hv_b; obtain ⟨p_b, q_b, rfl⟩ := Sl.shape hv_b
  refine enter [(.slice p_a L_a.length q_a), (.slice p_b L_b.length q_b), Ud, Ud, Ud, Ud, Ud, Ud, Ud, Ud, Ud, Ud, Ud, Ud, Ud, Ud, Ud, Ud, Ud, Ud, Ud, Ud, Ud, Ud, Ud, Ud] Try.func9 rfl Try.ntmps9 rfl ?_
  refine wp_seq_k fun K1 hK1 => ?_
  refine wp_region_lit ?_
  refine q_is rfl rfl (does_assign (u := (Bo false)) (ev rfl)) (by dsimp only [List.set]; try rfl) ?_
  refine wpList_nil (hK1 _ _ ?_)
  refine wp_seq_k fun K2 hK2 => ?_
  refine wp_seq_k fun K3 hK3 => ?_
  refine wp_region_lit ?_
  refine q_is rfl rfl (does_move (u := (.slice p_a L_a.length q_a)) (ev rfl)) (by dsimp only [List.set]; try rfl) ?_
  refine q_is rfl rfl (does_len_slice Try.underlying27 (ev rfl)) (by dsimp only [List.set]; try rfl) ?_
  refine q_is rfl rfl (does_move (u := (.slice p_b L_b.length q_b)) (ev rfl)) (by dsimp only [List.set]; try rfl) ?_
  refine q_is rfl rfl (does_len_slice Try.underlying27 (ev rfl)) (by dsimp only [List.set]; try rfl) ?_
  refine q_is rfl rfl (does_icmp (p := (L_a.length : Int)) (q := (L_b.length : Int)) (.inr (.inl rfl)) (ev rfl) (ev rfl)) (by dsimp only [List.set]; try rfl) ?_
  refine wpList_nil (hK3 _ _ ?_)
  refine wp_cond_split (t := icmp .neq (L_a.length : Int) (L_b.length : Int)) (ev rfl) (fun c4 => ?_) (fun c4 => ?_)
  · have c4' := c4
    (try simp only [icmp, Bool.and_eq_true, Bool.or_eq_true, Bool.and_eq_false_iff, Bool.or_eq_false_iff, Bool.not_eq_true', Bool.not_eq_false', decide_eq_true_eq, decide_eq_false_iff_not, beq_iff_eq, bne_iff_ne, beq_eq_false_iff_ne, bne_eq_false_iff_eq] at c4')
    refine wp_seq_k fun K5 hK5 => ?_
    refine wp_region_lit ?_
    refine q_is rfl rfl (does_assign (u := (Bo false)) (ev rfl)) (by dsimp only [List.set]; try rfl) ?_
    refine wpList_nil (hK5 _ _ ?_)
    refine wp_ret ?_
    dsimp only [Exit.then, Exit.inBlock]
    refine ret_val (v := (Bo false)) (res_T rfl (slot rfl)) (Ext.refl w) ?_
    have x6 : (sameX eqI L_a L_b) = false := by first | exact (sameX_len (by omega)) | exact (sameX_not (by omega) (by assumption) (by assumption) (by simp only [eqI, icmp] at *; simp_all)) | exact (sameX_all (by omega) (by omega) hs)
    exact (by first | with_reducible rfl | rw [x6] | rfl)
  have c4' := c4
  (try simp only [icmp, Bool.and_eq_true, Bool.or_eq_true, Bool.and_eq_false_iff, Bool.or_eq_false_iff, Bool.not_eq_true', Bool.not_eq_false', decide_eq_true_eq, decide_eq_false_iff_not, beq_iff_eq, bne_iff_ne, beq_eq_false_iff_ne, bne_eq_false_iff_eq] at c4')
  refine wp_skip (hK2 _ _ ?_)
  refine wp_seq_k fun K7 hK7 => ?_
  refine wp_seq_k fun K8 hK8 => ?_
  refine wp_region_lit ?_
  refine q_is rfl rfl (does_assign (u := (Iv 0)) (ev rfl)) (by dsimp only [List.set]; try rfl) ?_
  refine wpList_nil (hK8 _ _ ?_)
  refine wp_block ?_
  refine loop_ghost (σ := Nat) (fun k a w' => ∃ u9 : Nat → Value, a = fr [(.slice p_a L_a.length q_a), (.slice p_b L_b.length q_b), Ud, Ud, (u9 4), (Iv (k : Int)), (.slice p_a L_a.length q_a), (Iv (L_a.length : Int)), (.slice p_b L_b.length q_b), (Iv (L_b.length : Int)), (Bo (icmp .neq (L_a.length : Int) (L_b.length : Int))), (u9 11), (u9 12), (u9 13), (u9 14), (u9 15), (u9 16), (u9 17), (u9 18), (u9 19), (u9 20), (u9 21), (u9 22), (u9 23), (u9 24), (u9 25)] ∧ Ext w w' ∧ (k ≤ L_a.length ∧ SameXTo eqI L_a L_b k)) (fun k => L_a.length - k) 0 ?_ ?_
  · refine ⟨fun t => (([(.slice p_a L_a.length q_a), (.slice p_b L_b.length q_b), Ud, Ud, (Bo false), (Iv 0), (.slice p_a L_a.length q_a), (Iv (L_a.length : Int)), (.slice p_b L_b.length q_b), (Iv (L_b.length : Int)), (Bo (icmp .neq (L_a.length : Int) (L_b.length : Int))), Ud, Ud, Ud, Ud, Ud, Ud, Ud, Ud, Ud, Ud, Ud, Ud, Ud, Ud, Ud] : List Value)[t]?).getD undef, rfl, Ext.refl _, ?_⟩
    exact ⟨Nat.zero_le _, SameXTo.zero⟩
  · rintro k a w10 ⟨u9, rfl, E11, ⟨hk, hs⟩⟩
    have X13 := Ext.gr (Ext.refl w) E11
    refine wp_seq_k fun K14 hK14 => ?_
    refine wp_seq_k fun K15 hK15 => ?_
    refine wp_region_lit ?_
    refine q_is rfl rfl (does_move (u := (Iv (k : Int))) (ev rfl)) (by dsimp only [List.set]; try rfl) ?_
    refine q_is rfl rfl (does_move (u := (.slice p_a L_a.length q_a)) (ev rfl)) (by dsimp only [List.set]; try rfl) ?_
    refine q_is rfl rfl (does_len_slice Try.underlying27 (ev rfl)) (by dsimp only [List.set]; try rfl) ?_
    refine q_is rfl rfl (does_icmp (p := (k : Int)) (q := (L_a.length : Int)) (.inr (.inr (.inl rfl))) (ev rfl) (ev rfl)) (by dsimp only [List.set]; try rfl) ?_
    refine wpList_nil (hK15 _ _ ?_)
    refine wp_cond_split (t := icmp .lss (k : Int) (L_a.length : Int)) (ev rfl) (fun c16 => ?_) (fun c16 => ?_)
    · have c16' := c16
      (try simp only [icmp, Bool.and_eq_true, Bool.or_eq_true, Bool.and_eq_false_iff, Bool.or_eq_false_iff, Bool.not_eq_true', Bool.not_eq_false', decide_eq_true_eq, decide_eq_false_iff_not, beq_iff_eq, bne_iff_ne, beq_eq_false_iff_ne, bne_eq_false_iff_eq] at c16')
      refine wp_skip (hK14 _ _ ?_)
      refine wp_seq_k fun K17 hK17 => ?_
      refine wp_block ?_
      refine wp_seq_k fun K18 hK18 => ?_
      obtain ⟨el1, hel1⟩ : ∃ e, L_a[k]? = some e := ⟨_, List.getElem?_eq_getElem (by omega)⟩
      obtain ⟨el2, hel2⟩ : ∃ e, L_b[k]? = some e := ⟨_, List.getElem?_eq_getElem (by omega)⟩
      refine region_draw (
        [Fact.pure [] (fun v => v = (.slice p_a L_a.length q_a)),
    Fact.pure [] (fun v => v = (Iv (k : Int))),
    Fact.mem [17, 18] (fun v w' => PtrR RI w' v el1) (by intro v w1 w2 hx h; exact h.ext RI.mono hx),
    Fact.pure [19] (fun v => v = (Iv el1)),
    Fact.pure [] (fun v => v = (.slice p_b L_b.length q_b)),
    Fact.pure [] (fun v => v = (Iv (k : Int))),
    Fact.mem [21, 22] (fun v w' => PtrR RI w' v el2) (by intro v w1 w2 hx h; exact h.ext RI.mono hx),
    Fact.pure [23] (fun v => v = (Iv el2)),
    Fact.pure [20, 24] (fun v => v = (Bo (icmp .neq el1 el2)))]) mixed (by kernel_rfl) (by intro _ _ d _ _ h; cases d <;> exact h) ?_
      obtain ⟨w19, hw21⟩ : ∃ w', w' = World.drew w10 := ⟨_, rfl⟩; rw [← hw21]; have E20 : Ext w10 w19 := by rw [hw21]; exact Ext.draw _
      clear hw21
      have X22 := Ext.gr X13 E20
      refine RW_d _ rfl (fun v => by dsimp only [List.set]; try rfl) (fun u hu hF => ?_) (fun v23 => ?_)
      · clear hF
        refine doesG_un rfl ?_
        refine (does_move (u := (.slice p_a L_a.length q_a)) (ev rfl)).mono ?_; rintro _ _ ⟨rfl, rfl⟩
        exact ⟨rfl, Ext.refl _⟩
      refine RW_d _ rfl (fun v => by dsimp only [List.set]; try rfl) (fun u hu hF => ?_) (fun v24 => ?_)
      · clear hF
        refine doesG_un rfl ?_
        refine (does_move (u := (Iv (k : Int))) (ev rfl)).mono ?_; rintro _ _ ⟨rfl, rfl⟩
        exact ⟨rfl, Ext.refl _⟩
      refine RW_d _ rfl (fun v => by dsimp only [List.set]; try rfl) (fun u hu hF => ?_) (fun v25 => ?_)
      · have h17_ : v23 = (.slice p_a L_a.length q_a) := hF.1
        have h18_ : v24 = (Iv (k : Int)) := hF.2.1
        clear hF
        refine doesG_un rfl ?_
        obtain rfl := h17_
        obtain rfl := h18_
        refine (does_indexSl (R := RI) (i := (k : Int)) (xs := L_a) (e := el1) Try.underlying27 Try.sizeOf2 (ev rfl) (ev rfl) (Sl.ext (Sl.ext hv_a RI.mono (Ext.gr X13 E20)) RI.mono hu) (by omega) hel1).mono ?_; rintro v u' ⟨b, of, cs, hv, hc, hR, hu'⟩; subst hu'
        exact ⟨⟨b, of, cs, hv, hc, hR⟩, Ext.refl _⟩
      refine RW_d _ rfl (fun v => by dsimp only [List.set]; try rfl) (fun u hu hF => ?_) (fun v26 => ?_)
      · have h19_ : PtrR RI u v25 el1 := hF.1
        clear hF
        refine doesG_un rfl ?_
        obtain ⟨b19_, o19_, _, rfl, hc19_, rfl⟩ := h19_
        refine (does_load (u := (Iv el1)) (ev rfl) Try.isAgg2 (Cells.at hc19_ 0 rfl)).mono ?_; rintro _ _ ⟨rfl, rfl⟩
        exact ⟨rfl, Ext.refl _⟩
      refine RW_d _ rfl (fun v => by dsimp only [List.set]; try rfl) (fun u hu hF => ?_) (fun v27 => ?_)
      · clear hF
        refine doesG_un rfl ?_
        refine (does_move (u := (.slice p_b L_b.length q_b)) (ev rfl)).mono ?_; rintro _ _ ⟨rfl, rfl⟩
        exact ⟨rfl, Ext.refl _⟩
      refine RW_d _ rfl (fun v => by dsimp only [List.set]; try rfl) (fun u hu hF => ?_) (fun v28 => ?_)
      · clear hF
        refine doesG_un rfl ?_
        refine (does_move (u := (Iv (k : Int))) (ev rfl)).mono ?_; rintro _ _ ⟨rfl, rfl⟩
        exact ⟨rfl, Ext.refl _⟩
      refine RW_d _ rfl (fun v => by dsimp only [List.set]; try rfl) (fun u hu hF => ?_) (fun v29 => ?_)
      · have h21_ : v27 = (.slice p_b L_b.length q_b) := hF.1
        have h22_ : v28 = (Iv (k : Int)) := hF.2.1
        clear hF
        refine doesG_un rfl ?_
        obtain rfl := h21_
        obtain rfl := h22_
        refine (does_indexSl (R := RI) (i := (k : Int)) (xs := L_b) (e := el2) Try.underlying27 Try.sizeOf2 (ev rfl) (ev rfl) (Sl.ext (Sl.ext hv_b RI.mono (Ext.gr X13 E20)) RI.mono hu) (by omega) hel2).mono ?_; rintro v u' ⟨b, of, cs, hv, hc, hR, hu'⟩; subst hu'
        exact ⟨⟨b, of, cs, hv, hc, hR⟩, Ext.refl _⟩
      refine RW_d _ rfl (fun v => by dsimp only [List.set]; try rfl) (fun u hu hF => ?_) (fun v30 => ?_)
      · have h23_ : PtrR RI u v29 el2 := hF.1
        clear hF
        refine doesG_un rfl ?_
        obtain ⟨b23_, o23_, _, rfl, hc23_, rfl⟩ := h23_
        refine (does_load (u := (Iv el2)) (ev rfl) Try.isAgg2 (Cells.at hc23_ 0 rfl)).mono ?_; rintro _ _ ⟨rfl, rfl⟩
        exact ⟨rfl, Ext.refl _⟩
      refine RW_d _ rfl (fun v => by dsimp only [List.set]; try rfl) (fun u hu hF => ?_) (fun v31 => ?_)
      · have h20_ : v26 = (Iv el1) := hF.1
        have h24_ : v30 = (Iv el2) := hF.2.1
        clear hF
        refine doesG_un rfl ?_
        obtain rfl := h20_
        obtain rfl := h24_
        refine (does_icmp (p := el1) (q := el2) (.inr (.inl rfl)) (ev rfl) (ev rfl)).mono ?_; rintro _ _ ⟨rfl, rfl⟩
        exact ⟨rfl, Ext.refl _⟩
      refine RW_fin ?_; intro w32 E33 hP34
      obtain ⟨⟨⟨⟨⟨⟨⟨⟨⟨-, -⟩, -⟩, -⟩, -⟩, -⟩, -⟩, -⟩, -⟩, q35⟩ := hP34
      have X36 := Ext.gr X22 E33
      have q35 : v31 = (Bo (icmp .neq el1 el2)) := q35
      obtain rfl := q35
      show wpList _ _ _ _ (fr [_, _, _, _, _, _, _, _, _, _, _, _, _, _, _, _, _, _, _, _, _, _, _, _, _, _]) _
      refine wpList_nil (hK18 _ _ ?_)
      refine wp_cond_split (t := icmp .neq el1 el2) (ev rfl) (fun c37 => ?_) (fun c37 => ?_)
      · have c37' := c37
        (try simp only [icmp, Bool.and_eq_true, Bool.or_eq_true, Bool.and_eq_false_iff, Bool.or_eq_false_iff, Bool.not_eq_true', Bool.not_eq_false', decide_eq_true_eq, decide_eq_false_iff_not, beq_iff_eq, bne_iff_ne, beq_eq_false_iff_ne, bne_eq_false_iff_eq] at c37')
        refine wp_seq_k fun K38 hK38 => ?_
        refine wp_region_lit ?_
        refine q_is rfl rfl (does_assign (u := (Bo false)) (ev rfl)) (by dsimp only [List.set]; try rfl) ?_
        refine wpList_nil (hK38 _ _ ?_)
        refine wp_ret ?_
        dsimp only [Exit.then, Exit.inBlock]
        refine ret_val (v := (Bo false)) (res_T rfl (slot rfl)) X36 ?_
        try simp only [hel1, hel2] at c4 c16 c37
        have x39 : (sameX eqI L_a L_b) = false := by first | exact (sameX_len (by omega)) | exact (sameX_not (by omega) (by assumption) (by assumption) (by simp only [eqI, icmp] at *; simp_all)) | exact (sameX_all (by omega) (by omega) hs)
        exact (by first | with_reducible rfl | rw [x39] | rfl)
      have c37' := c37
      (try simp only [icmp, Bool.and_eq_true, Bool.or_eq_true, Bool.and_eq_false_iff, Bool.or_eq_false_iff, Bool.not_eq_true', Bool.not_eq_false', decide_eq_true_eq, decide_eq_false_iff_not, beq_iff_eq, bne_iff_ne, beq_eq_false_iff_ne, bne_eq_false_iff_eq] at c37')
      refine wp_skip (hK17 _ _ ?_)
      refine wp_region_lit ?_
      refine q_is rfl rfl (does_move (u := (Iv (k : Int))) (ev rfl)) (by dsimp only [List.set]; try rfl) ?_
      refine q_is rfl rfl (does_iarith (p := (k : Int)) (q := 1) (r := (k : Int) + 1) (ev rfl) (ev rfl) (.inl ⟨rfl, (in_i64 (by omega) (by omega)).symm⟩)) (by dsimp only [List.set]; try rfl) ?_
      refine q_is rfl rfl (does_assign (u := (Iv ((k : Int) + 1))) (ev rfl)) (by dsimp only [List.set]; try rfl) ?_
      refine wpList_nil ?_
      refine ⟨k + 1, ⟨fun t => (([(.slice p_a L_a.length q_a), (.slice p_b L_b.length q_b), Ud, Ud, (u9 4), (Iv ((k : Int) + 1)), (.slice p_a L_a.length q_a), (Iv (L_a.length : Int)), (.slice p_b L_b.length q_b), (Iv (L_b.length : Int)), (Bo (icmp .neq (L_a.length : Int) (L_b.length : Int))), (Iv (k : Int)), (.slice p_a L_a.length q_a), (Iv (L_a.length : Int)), (Bo (icmp .lss (k : Int) (L_a.length : Int))), (Iv (k : Int)), (Iv ((k : Int) + 1)), v23, v24, v25, v26, v27, v28, v29, v30, (Bo (icmp .neq el1 el2))] : List Value)[t]?).getD undef, ?_, (Ext.gr (Ext.gr E11 E20) E33), ?_⟩, ?_⟩
      · first | rfl | (simp only [Int.natCast_add, Int.natCast_one]; rfl)
      · exact ⟨by omega, SameXTo.step hs (by assumption) (by assumption) (by simp only [eqI, icmp] at *; simp_all)⟩
      · omega
    have c16' := c16
    (try simp only [icmp, Bool.and_eq_true, Bool.or_eq_true, Bool.and_eq_false_iff, Bool.or_eq_false_iff, Bool.not_eq_true', Bool.not_eq_false', decide_eq_true_eq, decide_eq_false_iff_not, beq_iff_eq, bne_iff_ne, beq_eq_false_iff_ne, bne_eq_false_iff_eq] at c16')
    refine wp_exit ?_
    refine hK7 _ _ ?_
    refine wp_seq_k fun K40 hK40 => ?_
    refine wp_region_lit ?_
    refine q_is rfl rfl (does_assign (u := (Bo true)) (ev rfl)) (by dsimp only [List.set]; try rfl) ?_
    refine wpList_nil (hK40 _ _ ?_)
    refine wp_ret ?_
    refine ret_val (v := (Bo true)) (res_T rfl (slot rfl)) X13 ?_
    have x41 : (sameX eqI L_a L_b) = true := by first | exact (sameX_len (by omega)) | exact (sameX_not (by omega) (by assumption) (by assumption) (by simp only [eqI, icmp] at *; simp_all)) | exact (sameX_all (by omega) (by omega) hs)
    exact (by first | with_reducible rfl | rw [x41] | rfl)

theorem c_laws_markInt64S_nil (k : Int) (w : World) : Gives Try.prog 12 #[.slice none 0 0, Iv k] w (fun v _ => v = Iv k) := by
  refine enter [(.slice none 0 0), (Iv k), Ud, Ud, Ud, Ud, Ud, Ud, Ud, Ud, Ud, Ud, Ud, Ud, Ud, Ud, Ud, Ud, Ud] Try.func12 rfl Try.ntmps12 rfl ?_
  refine wp_seq_k fun K1 hK1 => ?_
  refine wp_region_lit ?_
  refine q_is (l' := [(.slice none 0 0), (Iv k), Ud, Ud, (Iv 0), Ud, Ud, Ud, Ud, Ud, Ud, Ud, Ud, Ud, Ud, Ud, Ud, Ud, Ud]) rfl rfl (does_assign (u := (Iv 0)) (ev rfl)) rfl ?_
  refine wpList_nil (hK1 _ _ ?_)
  refine wp_seq_k fun K2 hK2 => ?_
  refine wp_seq_k fun K3 hK3 => ?_
  refine wp_region_lit ?_
  refine q_is (l' := [(.slice none 0 0), (Iv k), Ud, Ud, (Iv 0), (Iv 0), Ud, Ud, Ud, Ud, Ud, Ud, Ud, Ud, Ud, Ud, Ud, Ud, Ud]) rfl rfl (does_assign (u := (Iv 0)) (ev rfl)) rfl ?_
  refine wpList_nil (hK3 _ _ ?_)
  refine wp_block ?_
  refine loop_unroll 1 ?_
  refine un_step ?_
  refine wp_seq_k fun K4 hK4 => ?_
  refine wp_seq_k fun K5 hK5 => ?_
  refine wp_region_lit ?_
  refine q_is (l' := [(.slice none 0 0), (Iv k), Ud, Ud, (Iv 0), (Iv 0), (Iv 0), Ud, Ud, Ud, Ud, Ud, Ud, Ud, Ud, Ud, Ud, Ud, Ud]) rfl rfl (does_move (u := (Iv 0)) (ev rfl)) rfl ?_
  refine q_is (l' := [(.slice none 0 0), (Iv k), Ud, Ud, (Iv 0), (Iv 0), (Iv 0), (.slice none 0 0), Ud, Ud, Ud, Ud, Ud, Ud, Ud, Ud, Ud, Ud, Ud]) rfl rfl (does_move (u := (.slice none 0 0)) (ev rfl)) rfl ?_
  refine q_is (l' := [(.slice none 0 0), (Iv k), Ud, Ud, (Iv 0), (Iv 0), (Iv 0), (.slice none 0 0), (Iv 0), Ud, Ud, Ud, Ud, Ud, Ud, Ud, Ud, Ud, Ud]) rfl rfl (does_len_slice Try.underlying27 (ev rfl)) rfl ?_
  refine q_is (l' := [(.slice none 0 0), (Iv k), Ud, Ud, (Iv 0), (Iv 0), (Iv 0), (.slice none 0 0), (Iv 0), (Bo false), Ud, Ud, Ud, Ud, Ud, Ud, Ud, Ud, Ud]) rfl rfl (does_icmp (p := 0) (q := 0) (.inr (.inr (.inl rfl))) (ev rfl) (ev rfl)) rfl ?_
  refine wpList_nil (hK5 _ _ ?_)
  refine wp_cond_false (ev rfl) ?_
  refine wp_exit ?_
  refine hK2 _ _ ?_
  refine wp_seq_k fun K6 hK6 => ?_
  refine wp_region_lit ?_
  refine q_is (l' := [(.slice none 0 0), (Iv k), Ud, Ud, (Iv 0), (Iv 0), (Iv 0), (.slice none 0 0), (Iv 0), (Bo false), Ud, Ud, Ud, Ud, Ud, Ud, Ud, Ud, (Iv k)]) rfl rfl (does_move (u := (Iv k)) (ev rfl)) rfl ?_
  refine q_is (l' := [(.slice none 0 0), (Iv k), Ud, Ud, (Iv k), (Iv 0), (Iv 0), (.slice none 0 0), (Iv 0), (Bo false), Ud, Ud, Ud, Ud, Ud, Ud, Ud, Ud, (Iv k)]) rfl rfl (does_assign (u := (Iv k)) (ev rfl)) rfl ?_
  refine wpList_nil (hK6 _ _ ?_)
  refine wp_ret ?_
  refine ret_val (v := (Iv k)) (res_T rfl (slot rfl)) (Ext.refl w) ?_
  have x7 : (k : Int) = k := by first | with_reducible rfl | (simp only []; done) | (simp []; done) | rfl
  exact (by first | with_reducible rfl | rw [x7] | rfl)

theorem c_laws_markInt64S_blk (g N n cap : Nat) (k : Int) (w : World) (hM : Mk false k w g N 0) (hn : n * 1 ≤ N) (h0 : 0 ≤ k) (h1 : k + (n : Int) * 1 ≤ 4611686018427387904) : GivesK [g] Try.prog 12 #[.slice (some ⟨g, 0, none⟩) n cap, Iv k] w (fun v w' => v = Iv (k + (n : Int) * 1) ∧ Mk false k w' g N (n * 1)) := by
  refine enterK [(.slice (some ⟨g, 0, none⟩) n cap), (Iv k), Ud, Ud, Ud, Ud, Ud, Ud, Ud, Ud, Ud, Ud, Ud, Ud, Ud, Ud, Ud, Ud, Ud] Try.func12 rfl Try.ntmps12 rfl ?_
  refine wp_seq_k fun K1 hK1 => ?_
  refine wp_region_lit ?_
  refine q_is (l' := [(.slice (some ⟨g, 0, none⟩) n cap), (Iv k), Ud, Ud, (Iv 0), Ud, Ud, Ud, Ud, Ud, Ud, Ud, Ud, Ud, Ud, Ud, Ud, Ud, Ud]) rfl rfl (does_assign (u := (Iv 0)) (ev rfl)) rfl ?_
  refine wpList_nil (hK1 _ _ ?_)
  refine wp_seq_k fun K2 hK2 => ?_
  refine wp_seq_k fun K3 hK3 => ?_
  refine wp_region_lit ?_
  refine q_is (l' := [(.slice (some ⟨g, 0, none⟩) n cap), (Iv k), Ud, Ud, (Iv 0), (Iv 0), Ud, Ud, Ud, Ud, Ud, Ud, Ud, Ud, Ud, Ud, Ud, Ud, Ud]) rfl rfl (does_assign (u := (Iv 0)) (ev rfl)) rfl ?_
  refine wpList_nil (hK3 _ _ ?_)
  refine wp_block ?_
  refine loop_ghost (σ := Nat × Int) (fun s a w' => ∃ u4 : Nat → Value, a = fr [(.slice (some ⟨g, 0, none⟩) n cap), (Iv s.2), Ud, Ud, (Iv 0), (Iv (s.1 : Int)), (u4 6), (u4 7), (u4 8), (u4 9), (u4 10), (u4 11), (u4 12), (u4 13), (u4 14), (u4 15), (u4 16), (u4 17), Ud] ∧ KpL [g] w w' ∧ Mk false k w' g N (s.1 * 1) ∧ (s.1 ≤ n ∧ s.2 = k + (s.1 : Int) * 1)) (fun s => n - s.1) (0, k) ?_ ?_
  · refine ⟨fun t => (([(.slice (some ⟨g, 0, none⟩) n cap), (Iv k), Ud, Ud, (Iv 0), (Iv 0), Ud, Ud, Ud, Ud, Ud, Ud, Ud, Ud, Ud, Ud, Ud, Ud, Ud] : List Value)[t]?).getD undef, rfl, KpL.refl _ _, (Mk.cast hM (by simp)), ?_⟩
    exact ⟨Nat.zero_le _, by simp⟩
  · rintro s a w5 ⟨u4, rfl, E6, hF7, ⟨hk, hn2⟩⟩
    have X8 := KpL.more (KpL.refl [g] w) E6 (allS (.inl (by simp)) all0)
    refine wp_seq_k fun K9 hK9 => ?_
    refine wp_seq_k fun K10 hK10 => ?_
    refine wp_region_lit ?_
    refine q_is (l' := [(.slice (some ⟨g, 0, none⟩) n cap), (Iv s.2), Ud, Ud, (Iv 0), (Iv (s.1 : Int)), (Iv (s.1 : Int)), (u4 7), (u4 8), (u4 9), (u4 10), (u4 11), (u4 12), (u4 13), (u4 14), (u4 15), (u4 16), (u4 17), Ud]) rfl rfl (does_move (u := (Iv (s.1 : Int))) (ev rfl)) rfl ?_
    refine q_is (l' := [(.slice (some ⟨g, 0, none⟩) n cap), (Iv s.2), Ud, Ud, (Iv 0), (Iv (s.1 : Int)), (Iv (s.1 : Int)), (.slice (some ⟨g, 0, none⟩) n cap), (u4 8), (u4 9), (u4 10), (u4 11), (u4 12), (u4 13), (u4 14), (u4 15), (u4 16), (u4 17), Ud]) rfl rfl (does_move (u := (.slice (some ⟨g, 0, none⟩) n cap)) (ev rfl)) rfl ?_
    refine q_is (l' := [(.slice (some ⟨g, 0, none⟩) n cap), (Iv s.2), Ud, Ud, (Iv 0), (Iv (s.1 : Int)), (Iv (s.1 : Int)), (.slice (some ⟨g, 0, none⟩) n cap), (Iv (n : Int)), (u4 9), (u4 10), (u4 11), (u4 12), (u4 13), (u4 14), (u4 15), (u4 16), (u4 17), Ud]) rfl rfl (does_len_slice Try.underlying27 (ev rfl)) rfl ?_
    refine q_is (l' := [(.slice (some ⟨g, 0, none⟩) n cap), (Iv s.2), Ud, Ud, (Iv 0), (Iv (s.1 : Int)), (Iv (s.1 : Int)), (.slice (some ⟨g, 0, none⟩) n cap), (Iv (n : Int)), (Bo (icmp .lss (s.1 : Int) (n : Int))), (u4 10), (u4 11), (u4 12), (u4 13), (u4 14), (u4 15), (u4 16), (u4 17), Ud]) rfl rfl (does_icmp (p := (s.1 : Int)) (q := (n : Int)) (.inr (.inr (.inl rfl))) (ev rfl) (ev rfl)) rfl ?_
    refine wpList_nil (hK10 _ _ ?_)
    refine wp_cond_split (t := icmp .lss (s.1 : Int) (n : Int)) (ev rfl) (fun c11 => ?_) (fun c11 => ?_)
    · have c11' := c11
      (try simp only [icmp, Bool.and_eq_true, Bool.or_eq_true, Bool.and_eq_false_iff, Bool.or_eq_false_iff, Bool.not_eq_true', Bool.not_eq_false', decide_eq_true_eq, decide_eq_false_iff_not, beq_iff_eq, bne_iff_ne, beq_eq_false_iff_ne, bne_eq_false_iff_eq] at c11')
      refine wp_skip (hK9 _ _ ?_)
      refine wp_seq_k fun K12 hK12 => ?_
      refine wp_block ?_
      refine wp_seq_k fun K13 hK13 => ?_
      refine wp_region_lit ?_
      refine q_is (l' := [(.slice (some ⟨g, 0, none⟩) n cap), (Iv s.2), Ud, Ud, (Iv 0), (Iv (s.1 : Int)), (Iv (s.1 : Int)), (.slice (some ⟨g, 0, none⟩) n cap), (Iv (n : Int)), (Bo (icmp .lss (s.1 : Int) (n : Int))), (u4 10), (u4 11), (.slice (some ⟨g, 0, none⟩) n cap), (u4 13), (u4 14), (u4 15), (u4 16), (u4 17), Ud]) rfl rfl (does_move (u := (.slice (some ⟨g, 0, none⟩) n cap)) (ev rfl)) rfl ?_
      refine q_is (l' := [(.slice (some ⟨g, 0, none⟩) n cap), (Iv s.2), Ud, Ud, (Iv 0), (Iv (s.1 : Int)), (Iv (s.1 : Int)), (.slice (some ⟨g, 0, none⟩) n cap), (Iv (n : Int)), (Bo (icmp .lss (s.1 : Int) (n : Int))), (u4 10), (u4 11), (.slice (some ⟨g, 0, none⟩) n cap), (Iv (s.1 : Int)), (u4 14), (u4 15), (u4 16), (u4 17), Ud]) rfl rfl (does_move (u := (Iv (s.1 : Int))) (ev rfl)) rfl ?_
      refine q_is (l' := [(.slice (some ⟨g, 0, none⟩) n cap), (Iv s.2), Ud, Ud, (Iv 0), (Iv (s.1 : Int)), (Iv (s.1 : Int)), (.slice (some ⟨g, 0, none⟩) n cap), (Iv (n : Int)), (Bo (icmp .lss (s.1 : Int) (n : Int))), (u4 10), (u4 11), (.slice (some ⟨g, 0, none⟩) n cap), (Iv (s.1 : Int)), (Iv s.2), (u4 15), (u4 16), (u4 17), Ud]) rfl rfl (does_move (u := (Iv s.2)) (ev rfl)) rfl ?_
      refine q_is (l' := [(.slice (some ⟨g, 0, none⟩) n cap), (Iv s.2), Ud, Ud, (Iv 0), (Iv (s.1 : Int)), (Iv (s.1 : Int)), (.slice (some ⟨g, 0, none⟩) n cap), (Iv (n : Int)), (Bo (icmp .lss (s.1 : Int) (n : Int))), (u4 10), (u4 11), (.slice (some ⟨g, 0, none⟩) n cap), (Iv (s.1 : Int)), (Iv s.2), (Pt g (s.1 * 1)), (u4 16), (u4 17), Ud]) rfl rfl (does_indexOwn (b := g) (n := n) (i := (s.1 : Int)) Try.underlying27 Try.sizeOf2 (ev rfl) (ev rfl) (by omega) (by omega)) rfl ?_
      refine seqn rfl rfl (does_mark (fl := false) (k := k) (N := N) (off := s.1 * 1) (j := s.1 * 1) (u := (Iv s.2)) (ev rfl) (ev rfl) Try.sizeOf2 (mkc_i (by omega)) (by omega) (by omega) hF7) ?_; rintro _ w16 ⟨rfl, W14, hM15⟩
      have X17 := KpL.more X8 (KpL.of_wr W14) (allS (.inl (by simp)) all0)
      refine wpList_nil (hK13 _ _ ?_)
      refine wp_region_lit ?_
      refine q_is (l' := [(.slice (some ⟨g, 0, none⟩) n cap), (Iv s.2), Ud, Ud, (Iv 0), (Iv (s.1 : Int)), (Iv (s.1 : Int)), (.slice (some ⟨g, 0, none⟩) n cap), (Iv (n : Int)), (Bo (icmp .lss (s.1 : Int) (n : Int))), (u4 10), (u4 11), (.slice (some ⟨g, 0, none⟩) n cap), (Iv (s.1 : Int)), (Iv s.2), (Pt g (s.1 * 1)), (Iv s.2), (u4 17), Ud]) rfl rfl (does_move (u := (Iv s.2)) (ev rfl)) rfl ?_
      refine q_is (l' := [(.slice (some ⟨g, 0, none⟩) n cap), (Iv s.2), Ud, Ud, (Iv 0), (Iv (s.1 : Int)), (Iv (s.1 : Int)), (.slice (some ⟨g, 0, none⟩) n cap), (Iv (n : Int)), (Bo (icmp .lss (s.1 : Int) (n : Int))), (u4 10), (u4 11), (.slice (some ⟨g, 0, none⟩) n cap), (Iv (s.1 : Int)), (Iv s.2), (Pt g (s.1 * 1)), (Iv s.2), (Iv (s.2 + 1)), Ud]) rfl rfl (does_iarith (p := s.2) (q := 1) (r := s.2 + 1) (ev rfl) (ev rfl) (.inl ⟨rfl, (in_i64 (by omega) (by omega)).symm⟩)) rfl ?_
      refine q_is (l' := [(.slice (some ⟨g, 0, none⟩) n cap), (Iv (s.2 + 1)), Ud, Ud, (Iv 0), (Iv (s.1 : Int)), (Iv (s.1 : Int)), (.slice (some ⟨g, 0, none⟩) n cap), (Iv (n : Int)), (Bo (icmp .lss (s.1 : Int) (n : Int))), (u4 10), (u4 11), (.slice (some ⟨g, 0, none⟩) n cap), (Iv (s.1 : Int)), (Iv s.2), (Pt g (s.1 * 1)), (Iv s.2), (Iv (s.2 + 1)), Ud]) rfl rfl (does_assign (u := (Iv (s.2 + 1))) (ev rfl)) rfl ?_
      refine wpList_nil (hK12 _ _ ?_)
      refine wp_region_lit ?_
      refine q_is (l' := [(.slice (some ⟨g, 0, none⟩) n cap), (Iv (s.2 + 1)), Ud, Ud, (Iv 0), (Iv (s.1 : Int)), (Iv (s.1 : Int)), (.slice (some ⟨g, 0, none⟩) n cap), (Iv (n : Int)), (Bo (icmp .lss (s.1 : Int) (n : Int))), (Iv (s.1 : Int)), (u4 11), (.slice (some ⟨g, 0, none⟩) n cap), (Iv (s.1 : Int)), (Iv s.2), (Pt g (s.1 * 1)), (Iv s.2), (Iv (s.2 + 1)), Ud]) rfl rfl (does_move (u := (Iv (s.1 : Int))) (ev rfl)) rfl ?_
      refine q_is (l' := [(.slice (some ⟨g, 0, none⟩) n cap), (Iv (s.2 + 1)), Ud, Ud, (Iv 0), (Iv (s.1 : Int)), (Iv (s.1 : Int)), (.slice (some ⟨g, 0, none⟩) n cap), (Iv (n : Int)), (Bo (icmp .lss (s.1 : Int) (n : Int))), (Iv (s.1 : Int)), (Iv ((s.1 : Int) + 1)), (.slice (some ⟨g, 0, none⟩) n cap), (Iv (s.1 : Int)), (Iv s.2), (Pt g (s.1 * 1)), (Iv s.2), (Iv (s.2 + 1)), Ud]) rfl rfl (does_iarith (p := (s.1 : Int)) (q := 1) (r := (s.1 : Int) + 1) (ev rfl) (ev rfl) (.inl ⟨rfl, (in_i64 (by omega) (by omega)).symm⟩)) rfl ?_
      refine q_is (l' := [(.slice (some ⟨g, 0, none⟩) n cap), (Iv (s.2 + 1)), Ud, Ud, (Iv 0), (Iv ((s.1 : Int) + 1)), (Iv (s.1 : Int)), (.slice (some ⟨g, 0, none⟩) n cap), (Iv (n : Int)), (Bo (icmp .lss (s.1 : Int) (n : Int))), (Iv (s.1 : Int)), (Iv ((s.1 : Int) + 1)), (.slice (some ⟨g, 0, none⟩) n cap), (Iv (s.1 : Int)), (Iv s.2), (Pt g (s.1 * 1)), (Iv s.2), (Iv (s.2 + 1)), Ud]) rfl rfl (does_assign (u := (Iv ((s.1 : Int) + 1))) (ev rfl)) rfl ?_
      refine wpList_nil ?_
      refine ⟨(s.1 + 1, s.2 + 1), ⟨fun t => (([(.slice (some ⟨g, 0, none⟩) n cap), (Iv (s.2 + 1)), Ud, Ud, (Iv 0), (Iv ((s.1 : Int) + 1)), (Iv (s.1 : Int)), (.slice (some ⟨g, 0, none⟩) n cap), (Iv (n : Int)), (Bo (icmp .lss (s.1 : Int) (n : Int))), (Iv (s.1 : Int)), (Iv ((s.1 : Int) + 1)), (.slice (some ⟨g, 0, none⟩) n cap), (Iv (s.1 : Int)), (Iv s.2), (Pt g (s.1 * 1)), (Iv s.2), (Iv (s.2 + 1)), Ud] : List Value)[t]?).getD undef, ?_, (KpL.more E6 (KpL.of_wr W14) (allS (.inl (by simp)) all0)), (Mk.cast hM15 (by (try dsimp only); omega)), ?_⟩, ?_⟩
      · first | rfl | (simp only [Int.natCast_add, Int.natCast_one]; rfl)
      · (try dsimp only); exact ⟨by omega, by omega⟩
      · (try dsimp only); omega
    have c11' := c11
    (try simp only [icmp, Bool.and_eq_true, Bool.or_eq_true, Bool.and_eq_false_iff, Bool.or_eq_false_iff, Bool.not_eq_true', Bool.not_eq_false', decide_eq_true_eq, decide_eq_false_iff_not, beq_iff_eq, bne_iff_ne, beq_eq_false_iff_ne, bne_eq_false_iff_eq] at c11')
    refine wp_exit ?_
    refine hK2 _ _ ?_
    refine wp_seq_k fun K18 hK18 => ?_
    refine wp_region_lit ?_
    refine q_is (l' := [(.slice (some ⟨g, 0, none⟩) n cap), (Iv s.2), Ud, Ud, (Iv 0), (Iv (s.1 : Int)), (Iv (s.1 : Int)), (.slice (some ⟨g, 0, none⟩) n cap), (Iv (n : Int)), (Bo (icmp .lss (s.1 : Int) (n : Int))), (u4 10), (u4 11), (u4 12), (u4 13), (u4 14), (u4 15), (u4 16), (u4 17), (Iv s.2)]) rfl rfl (does_move (u := (Iv s.2)) (ev rfl)) rfl ?_
    refine q_is (l' := [(.slice (some ⟨g, 0, none⟩) n cap), (Iv s.2), Ud, Ud, (Iv s.2), (Iv (s.1 : Int)), (Iv (s.1 : Int)), (.slice (some ⟨g, 0, none⟩) n cap), (Iv (n : Int)), (Bo (icmp .lss (s.1 : Int) (n : Int))), (u4 10), (u4 11), (u4 12), (u4 13), (u4 14), (u4 15), (u4 16), (u4 17), (Iv s.2)]) rfl rfl (does_assign (u := (Iv s.2)) (ev rfl)) rfl ?_
    refine wpList_nil (hK18 _ _ ?_)
    refine wp_ret ?_
    refine ret_valK (v := (Iv s.2)) (res_T rfl (slot rfl)) X8 ?_
    have hj : s.1 = n := by omega
    exact ⟨by first | rfl | (show Value.int _ _ = Value.int _ _; congr 1; omega), Mk.cast hF7 (by rw [hj])⟩

theorem c_laws_markInt64S (a : Value) (n : Nat) (L : List Nat) (B : Nat) (k : Int) (w : World) (ha : WL 1 B w L a n) (h0 : 0 ≤ k) (h1 : k + (n : Int) * 1 ≤ 4611686018427387904) : GivesK L Try.prog 12 #[a, Iv k] w (fun v w' => v = Iv (k + (n : Int) * 1) ∧ Hang B w' (fun u => Sl RI 1 u a (mkL fI 1 k n))) := by
  obtain ⟨hL, ⟨rfl, rfl, rfl⟩ | ⟨g, cap, cs, rfl, rfl, hB, hn, hc⟩⟩ := ha
  · exact (Gives.toK (c_laws_markInt64S_nil k w)).mono fun v w' hv => ⟨by rw [hv]; simp, fun u _ => Sl_mk0 u⟩
  · exact (c_laws_markInt64S_blk g cs.length n cap k w (Mk.zero hB rfl) hn h0 h1).mono fun v w' ⟨hv, hM⟩ => ⟨hv, Mk.hang hM (hL g (by simp)).1 hc (by decide) (by omega) rI⟩

theorem c_laws_markInt64S_mk (a : Value) (n : Nat) (L : List Nat) (B : Nat) (k : Int) (w : World) (ha : WL 1 B w L a n) (h0 : 0 ≤ k) (h1 : k + (n : Int) * 1 ≤ 4611686018427387904) : GivesK L Try.prog 12 #[a, Iv k] w (fun v w' => v = Iv (k + (n : Int) * 1) ∧ MkS false 1 k w' L a n) := by
  obtain ⟨hL, ⟨rfl, rfl, rfl⟩ | ⟨g, cap, cs, rfl, rfl, hB, hn, hc⟩⟩ := ha
  · exact (Gives.toK (c_laws_markInt64S_nil k w)).mono fun v w' hv => ⟨by rw [hv]; simp, .inl ⟨rfl, rfl, rfl⟩⟩
  · exact (c_laws_markInt64S_blk g cs.length n cap k w (Mk.zero hB rfl) hn h0 h1).mono fun v w' ⟨hv, hM⟩ => ⟨hv, .inr ⟨g, cap, cs.length, rfl, rfl, hM, hc⟩⟩

/- laws.heldInt64S -/
theorem c_laws_heldInt64S (a : Value) (L_a : List Int) (k : Int) (w : World) (hv_a : Sl RI 1 w a L_a) (hm : L_a = mkL fI 1 k L_a.length) (h0 : 0 ≤ k) (h1 : k + (L_a.length : Int) * 1 ≤ 4611686018427387904) : Gives Try.prog 13 #[a, (Iv k)] w (fun v w' => v = (Iv (k + (L_a.length : Int) * 1))) := by
  have hlen_a := Sl.len hv_a; obtain ⟨p_a, q_a, rfl⟩ := Sl.shape hv_a
  refine enter [(.slice p_a L_a.length q_a), (Iv k), Ud, Ud, Ud, Ud, Ud, Ud, Ud, Ud, Ud, Ud, Ud, Ud, Ud, Ud, Ud, Ud, Ud, Ud, Ud] Try.func13 rfl Try.ntmps13 rfl ?_
  refine wp_seq_k fun K1 hK1 => ?_
  refine wp_region_lit ?_
  refine q_is (l' := [(.slice p_a L_a.length q_a), (Iv k), Ud, Ud, (Iv 0), Ud, Ud, Ud, Ud, Ud, Ud, Ud, Ud, Ud, Ud, Ud, Ud, Ud, Ud, Ud, Ud]) rfl rfl (does_assign (u := (Iv 0)) (ev rfl)) rfl ?_
  refine wpList_nil (hK1 _ _ ?_)
  refine wp_seq_k fun K2 hK2 => ?_
  refine wp_seq_k fun K3 hK3 => ?_
  refine wp_region_lit ?_
  refine q_is (l' := [(.slice p_a L_a.length q_a), (Iv k), Ud, Ud, (Iv 0), (Iv 0), Ud, Ud, Ud, Ud, Ud, Ud, Ud, Ud, Ud, Ud, Ud, Ud, Ud, Ud, Ud]) rfl rfl (does_assign (u := (Iv 0)) (ev rfl)) rfl ?_
  refine wpList_nil (hK3 _ _ ?_)
  refine wp_block ?_
  refine loop_ghost (σ := Nat × Int) (fun s a w' => ∃ u4 : Nat → Value, a = fr [(.slice p_a L_a.length q_a), (Iv s.2), Ud, Ud, (u4 4), (Iv (s.1 : Int)), (u4 6), (u4 7), (u4 8), (u4 9), (u4 10), (u4 11), (u4 12), (u4 13), (u4 14), (u4 15), (u4 16), (u4 17), (u4 18), (u4 19), Ud] ∧ Ext w w' ∧ (s.1 ≤ L_a.length ∧ s.2 = k + (s.1 : Int) * 1)) (fun s => L_a.length - s.1) (0, k) ?_ ?_
  · refine ⟨fun t => (([(.slice p_a L_a.length q_a), (Iv k), Ud, Ud, (Iv 0), (Iv 0), Ud, Ud, Ud, Ud, Ud, Ud, Ud, Ud, Ud, Ud, Ud, Ud, Ud, Ud, Ud] : List Value)[t]?).getD undef, rfl, Ext.refl _, ?_⟩
    exact ⟨Nat.zero_le _, by simp⟩
  · rintro s a w5 ⟨u4, rfl, E6, ⟨hk, hn2⟩⟩
    have X8 := Ext.gr (Ext.refl w) E6
    refine wp_seq_k fun K9 hK9 => ?_
    refine wp_seq_k fun K10 hK10 => ?_
    refine wp_region_lit ?_
    refine q_is (l' := [(.slice p_a L_a.length q_a), (Iv s.2), Ud, Ud, (u4 4), (Iv (s.1 : Int)), (Iv (s.1 : Int)), (u4 7), (u4 8), (u4 9), (u4 10), (u4 11), (u4 12), (u4 13), (u4 14), (u4 15), (u4 16), (u4 17), (u4 18), (u4 19), Ud]) rfl rfl (does_move (u := (Iv (s.1 : Int))) (ev rfl)) rfl ?_
    refine q_is (l' := [(.slice p_a L_a.length q_a), (Iv s.2), Ud, Ud, (u4 4), (Iv (s.1 : Int)), (Iv (s.1 : Int)), (.slice p_a L_a.length q_a), (u4 8), (u4 9), (u4 10), (u4 11), (u4 12), (u4 13), (u4 14), (u4 15), (u4 16), (u4 17), (u4 18), (u4 19), Ud]) rfl rfl (does_move (u := (.slice p_a L_a.length q_a)) (ev rfl)) rfl ?_
    refine q_is (l' := [(.slice p_a L_a.length q_a), (Iv s.2), Ud, Ud, (u4 4), (Iv (s.1 : Int)), (Iv (s.1 : Int)), (.slice p_a L_a.length q_a), (Iv (L_a.length : Int)), (u4 9), (u4 10), (u4 11), (u4 12), (u4 13), (u4 14), (u4 15), (u4 16), (u4 17), (u4 18), (u4 19), Ud]) rfl rfl (does_len_slice Try.underlying27 (ev rfl)) rfl ?_
    refine q_is (l' := [(.slice p_a L_a.length q_a), (Iv s.2), Ud, Ud, (u4 4), (Iv (s.1 : Int)), (Iv (s.1 : Int)), (.slice p_a L_a.length q_a), (Iv (L_a.length : Int)), (Bo (icmp .lss (s.1 : Int) (L_a.length : Int))), (u4 10), (u4 11), (u4 12), (u4 13), (u4 14), (u4 15), (u4 16), (u4 17), (u4 18), (u4 19), Ud]) rfl rfl (does_icmp (p := (s.1 : Int)) (q := (L_a.length : Int)) (.inr (.inr (.inl rfl))) (ev rfl) (ev rfl)) rfl ?_
    refine wpList_nil (hK10 _ _ ?_)
    refine wp_cond_split (t := icmp .lss (s.1 : Int) (L_a.length : Int)) (ev rfl) (fun c11 => ?_) (fun c11 => ?_)
    · have c11' := c11
      (try simp only [icmp, Bool.and_eq_true, Bool.or_eq_true, Bool.and_eq_false_iff, Bool.or_eq_false_iff, Bool.not_eq_true', Bool.not_eq_false', decide_eq_true_eq, decide_eq_false_iff_not, beq_iff_eq, bne_iff_ne, beq_eq_false_iff_ne, bne_eq_false_iff_eq] at c11')
      refine wp_skip (hK9 _ _ ?_)
      refine wp_seq_k fun K12 hK12 => ?_
      refine wp_block ?_
      refine wp_seq_k fun K13 hK13 => ?_
      refine wp_seq_k fun K14 hK14 => ?_
      refine wp_region_lit ?_
      refine q_is (l' := [(.slice p_a L_a.length q_a), (Iv s.2), Ud, Ud, (u4 4), (Iv (s.1 : Int)), (Iv (s.1 : Int)), (.slice p_a L_a.length q_a), (Iv (L_a.length : Int)), (Bo (icmp .lss (s.1 : Int) (L_a.length : Int))), (u4 10), (u4 11), (.slice p_a L_a.length q_a), (u4 13), (u4 14), (u4 15), (u4 16), (u4 17), (u4 18), (u4 19), Ud]) rfl rfl (does_move (u := (.slice p_a L_a.length q_a)) (ev rfl)) rfl ?_
      refine q_is (l' := [(.slice p_a L_a.length q_a), (Iv s.2), Ud, Ud, (u4 4), (Iv (s.1 : Int)), (Iv (s.1 : Int)), (.slice p_a L_a.length q_a), (Iv (L_a.length : Int)), (Bo (icmp .lss (s.1 : Int) (L_a.length : Int))), (u4 10), (u4 11), (.slice p_a L_a.length q_a), (Iv (s.1 : Int)), (u4 14), (u4 15), (u4 16), (u4 17), (u4 18), (u4 19), Ud]) rfl rfl (does_move (u := (Iv (s.1 : Int))) (ev rfl)) rfl ?_
      obtain ⟨el1, hel1⟩ : ∃ e, L_a[s.1]? = some e := ⟨_, List.getElem?_eq_getElem (by omega)⟩
      refine seqd rfl rfl (does_indexSl (R := RI) (i := (s.1 : Int)) (xs := L_a) (e := el1) Try.underlying27 Try.sizeOf2 (ev rfl) (ev rfl) (Sl.ext hv_a RI.mono X8) (by omega) hel1) ?_; rintro _ w5 ⟨b15, o16, _, rfl, hc18, rfl, rfl⟩
      show wpList _ _ _ _ (fr [(.slice p_a L_a.length q_a), (Iv s.2), Ud, Ud, (u4 4), (Iv (s.1 : Int)), (Iv (s.1 : Int)), (.slice p_a L_a.length q_a), (Iv (L_a.length : Int)), (Bo (icmp .lss (s.1 : Int) (L_a.length : Int))), (u4 10), (u4 11), (.slice p_a L_a.length q_a), (Iv (s.1 : Int)), (Pt b15 o16), (u4 15), (u4 16), (u4 17), (u4 18), (u4 19), Ud]) _
      refine q_is (l' := [(.slice p_a L_a.length q_a), (Iv s.2), Ud, Ud, (u4 4), (Iv (s.1 : Int)), (Iv (s.1 : Int)), (.slice p_a L_a.length q_a), (Iv (L_a.length : Int)), (Bo (icmp .lss (s.1 : Int) (L_a.length : Int))), (u4 10), (u4 11), (.slice p_a L_a.length q_a), (Iv (s.1 : Int)), (Pt b15 o16), (Iv el1), (u4 16), (u4 17), (u4 18), (u4 19), Ud]) rfl rfl (does_load (u := (Iv el1)) (ev rfl) Try.isAgg2 (Cells.at hc18 0 rfl)) rfl ?_
      refine q_is (l' := [(.slice p_a L_a.length q_a), (Iv s.2), Ud, Ud, (u4 4), (Iv (s.1 : Int)), (Iv (s.1 : Int)), (.slice p_a L_a.length q_a), (Iv (L_a.length : Int)), (Bo (icmp .lss (s.1 : Int) (L_a.length : Int))), (u4 10), (u4 11), (.slice p_a L_a.length q_a), (Iv (s.1 : Int)), (Pt b15 o16), (Iv el1), (Iv s.2), (u4 17), (u4 18), (u4 19), Ud]) rfl rfl (does_move (u := (Iv s.2)) (ev rfl)) rfl ?_
      refine q_is (l' := [(.slice p_a L_a.length q_a), (Iv s.2), Ud, Ud, (u4 4), (Iv (s.1 : Int)), (Iv (s.1 : Int)), (.slice p_a L_a.length q_a), (Iv (L_a.length : Int)), (Bo (icmp .lss (s.1 : Int) (L_a.length : Int))), (u4 10), (u4 11), (.slice p_a L_a.length q_a), (Iv (s.1 : Int)), (Pt b15 o16), (Iv el1), (Iv s.2), (Bo (icmp .neq el1 s.2)), (u4 18), (u4 19), Ud]) rfl rfl (does_icmp (p := el1) (q := s.2) (.inr (.inl rfl)) (ev rfl) (ev rfl)) rfl ?_
      refine wpList_nil (hK14 _ _ ?_)
      refine wp_cond_split (t := icmp .neq el1 s.2) (ev rfl) (fun c19 => ?_) (fun c19 => ?_)
      · have c19' := c19
        (try simp only [icmp, Bool.and_eq_true, Bool.or_eq_true, Bool.and_eq_false_iff, Bool.or_eq_false_iff, Bool.not_eq_true', Bool.not_eq_false', decide_eq_true_eq, decide_eq_false_iff_not, beq_iff_eq, bne_iff_ne, beq_eq_false_iff_ne, bne_eq_false_iff_eq] at c19')
        exfalso; have he := mkL_at hm hel1; subst he; simp only [fI, icmp, bne_iff_ne, ne_eq] at c19; omega
      have c19' := c19
      (try simp only [icmp, Bool.and_eq_true, Bool.or_eq_true, Bool.and_eq_false_iff, Bool.or_eq_false_iff, Bool.not_eq_true', Bool.not_eq_false', decide_eq_true_eq, decide_eq_false_iff_not, beq_iff_eq, bne_iff_ne, beq_eq_false_iff_ne, bne_eq_false_iff_eq] at c19')
      refine wp_skip (hK13 _ _ ?_)
      refine wp_region_lit ?_
      refine q_is (l' := [(.slice p_a L_a.length q_a), (Iv s.2), Ud, Ud, (u4 4), (Iv (s.1 : Int)), (Iv (s.1 : Int)), (.slice p_a L_a.length q_a), (Iv (L_a.length : Int)), (Bo (icmp .lss (s.1 : Int) (L_a.length : Int))), (u4 10), (u4 11), (.slice p_a L_a.length q_a), (Iv (s.1 : Int)), (Pt b15 o16), (Iv el1), (Iv s.2), (Bo (icmp .neq el1 s.2)), (Iv s.2), (u4 19), Ud]) rfl rfl (does_move (u := (Iv s.2)) (ev rfl)) rfl ?_
      refine q_is (l' := [(.slice p_a L_a.length q_a), (Iv s.2), Ud, Ud, (u4 4), (Iv (s.1 : Int)), (Iv (s.1 : Int)), (.slice p_a L_a.length q_a), (Iv (L_a.length : Int)), (Bo (icmp .lss (s.1 : Int) (L_a.length : Int))), (u4 10), (u4 11), (.slice p_a L_a.length q_a), (Iv (s.1 : Int)), (Pt b15 o16), (Iv el1), (Iv s.2), (Bo (icmp .neq el1 s.2)), (Iv s.2), (Iv (s.2 + 1)), Ud]) rfl rfl (does_iarith (p := s.2) (q := 1) (r := s.2 + 1) (ev rfl) (ev rfl) (.inl ⟨rfl, (in_i64 (by omega) (by omega)).symm⟩)) rfl ?_
      refine q_is (l' := [(.slice p_a L_a.length q_a), (Iv (s.2 + 1)), Ud, Ud, (u4 4), (Iv (s.1 : Int)), (Iv (s.1 : Int)), (.slice p_a L_a.length q_a), (Iv (L_a.length : Int)), (Bo (icmp .lss (s.1 : Int) (L_a.length : Int))), (u4 10), (u4 11), (.slice p_a L_a.length q_a), (Iv (s.1 : Int)), (Pt b15 o16), (Iv el1), (Iv s.2), (Bo (icmp .neq el1 s.2)), (Iv s.2), (Iv (s.2 + 1)), Ud]) rfl rfl (does_assign (u := (Iv (s.2 + 1))) (ev rfl)) rfl ?_
      refine wpList_nil (hK12 _ _ ?_)
      refine wp_region_lit ?_
      refine q_is (l' := [(.slice p_a L_a.length q_a), (Iv (s.2 + 1)), Ud, Ud, (u4 4), (Iv (s.1 : Int)), (Iv (s.1 : Int)), (.slice p_a L_a.length q_a), (Iv (L_a.length : Int)), (Bo (icmp .lss (s.1 : Int) (L_a.length : Int))), (Iv (s.1 : Int)), (u4 11), (.slice p_a L_a.length q_a), (Iv (s.1 : Int)), (Pt b15 o16), (Iv el1), (Iv s.2), (Bo (icmp .neq el1 s.2)), (Iv s.2), (Iv (s.2 + 1)), Ud]) rfl rfl (does_move (u := (Iv (s.1 : Int))) (ev rfl)) rfl ?_
      refine q_is (l' := [(.slice p_a L_a.length q_a), (Iv (s.2 + 1)), Ud, Ud, (u4 4), (Iv (s.1 : Int)), (Iv (s.1 : Int)), (.slice p_a L_a.length q_a), (Iv (L_a.length : Int)), (Bo (icmp .lss (s.1 : Int) (L_a.length : Int))), (Iv (s.1 : Int)), (Iv ((s.1 : Int) + 1)), (.slice p_a L_a.length q_a), (Iv (s.1 : Int)), (Pt b15 o16), (Iv el1), (Iv s.2), (Bo (icmp .neq el1 s.2)), (Iv s.2), (Iv (s.2 + 1)), Ud]) rfl rfl (does_iarith (p := (s.1 : Int)) (q := 1) (r := (s.1 : Int) + 1) (ev rfl) (ev rfl) (.inl ⟨rfl, (in_i64 (by omega) (by omega)).symm⟩)) rfl ?_
      refine q_is (l' := [(.slice p_a L_a.length q_a), (Iv (s.2 + 1)), Ud, Ud, (u4 4), (Iv ((s.1 : Int) + 1)), (Iv (s.1 : Int)), (.slice p_a L_a.length q_a), (Iv (L_a.length : Int)), (Bo (icmp .lss (s.1 : Int) (L_a.length : Int))), (Iv (s.1 : Int)), (Iv ((s.1 : Int) + 1)), (.slice p_a L_a.length q_a), (Iv (s.1 : Int)), (Pt b15 o16), (Iv el1), (Iv s.2), (Bo (icmp .neq el1 s.2)), (Iv s.2), (Iv (s.2 + 1)), Ud]) rfl rfl (does_assign (u := (Iv ((s.1 : Int) + 1))) (ev rfl)) rfl ?_
      refine wpList_nil ?_
      refine ⟨(s.1 + 1, s.2 + 1), ⟨fun t => (([(.slice p_a L_a.length q_a), (Iv (s.2 + 1)), Ud, Ud, (u4 4), (Iv ((s.1 : Int) + 1)), (Iv (s.1 : Int)), (.slice p_a L_a.length q_a), (Iv (L_a.length : Int)), (Bo (icmp .lss (s.1 : Int) (L_a.length : Int))), (Iv (s.1 : Int)), (Iv ((s.1 : Int) + 1)), (.slice p_a L_a.length q_a), (Iv (s.1 : Int)), (Pt b15 o16), (Iv el1), (Iv s.2), (Bo (icmp .neq el1 s.2)), (Iv s.2), (Iv (s.2 + 1)), Ud] : List Value)[t]?).getD undef, ?_, E6, ?_⟩, ?_⟩
      · first | rfl | (simp only [Int.natCast_add, Int.natCast_one]; rfl)
      · (try dsimp only); exact ⟨by omega, by (try dsimp only); omega⟩
      · (try dsimp only); omega
    have c11' := c11
    (try simp only [icmp, Bool.and_eq_true, Bool.or_eq_true, Bool.and_eq_false_iff, Bool.or_eq_false_iff, Bool.not_eq_true', Bool.not_eq_false', decide_eq_true_eq, decide_eq_false_iff_not, beq_iff_eq, bne_iff_ne, beq_eq_false_iff_ne, bne_eq_false_iff_eq] at c11')
    refine wp_exit ?_
    refine hK2 _ _ ?_
    refine wp_seq_k fun K20 hK20 => ?_
    refine wp_region_lit ?_
    refine q_is (l' := [(.slice p_a L_a.length q_a), (Iv s.2), Ud, Ud, (u4 4), (Iv (s.1 : Int)), (Iv (s.1 : Int)), (.slice p_a L_a.length q_a), (Iv (L_a.length : Int)), (Bo (icmp .lss (s.1 : Int) (L_a.length : Int))), (u4 10), (u4 11), (u4 12), (u4 13), (u4 14), (u4 15), (u4 16), (u4 17), (u4 18), (u4 19), (Iv s.2)]) rfl rfl (does_move (u := (Iv s.2)) (ev rfl)) rfl ?_
    refine q_is (l' := [(.slice p_a L_a.length q_a), (Iv s.2), Ud, Ud, (Iv s.2), (Iv (s.1 : Int)), (Iv (s.1 : Int)), (.slice p_a L_a.length q_a), (Iv (L_a.length : Int)), (Bo (icmp .lss (s.1 : Int) (L_a.length : Int))), (u4 10), (u4 11), (u4 12), (u4 13), (u4 14), (u4 15), (u4 16), (u4 17), (u4 18), (u4 19), (Iv s.2)]) rfl rfl (does_assign (u := (Iv s.2)) (ev rfl)) rfl ?_
    refine wpList_nil (hK20 _ _ ?_)
    refine wp_ret ?_
    refine ret_val (v := (Iv s.2)) (res_T rfl (slot rfl)) X8 ?_
    have x21 : (k + (L_a.length : Int) * 1 : Int) = s.2 := by first | omega | (rw [hn2, show s.1 = L_a.length by omega])
    exact (by first | with_reducible rfl | rw [x21] | rfl)

/- laws.szFloat32S -/
theorem c_laws_szFloat32S (a : Value) (L_a : List Nat) (left : Int) (w : World) (hv_a : Sl RF 1 w a L_a) (hle : left ≤ 1048576) (hge : 0 ≤ left) : Gives Try.prog 34 #[a, (Iv left)] w (fun v w' => ∃ i_1 : Int, v = (Iv i_1) ∧ (i_1 < 0 ∨ ((L_a.length : Int) ≤ left ∧ i_1 = left - L_a.length ∧ 0 ≤ i_1))) := by
  have hlen_a := Sl.len hv_a; obtain ⟨p_a, q_a, rfl⟩ := Sl.shape hv_a
  refine enter [(.slice p_a L_a.length q_a), (Iv left), Ud, Ud, Ud, Ud, Ud, Ud, Ud, Ud, Ud, Ud] Try.func34 rfl Try.ntmps34 rfl ?_
  refine wp_seq_k fun K1 hK1 => ?_
  refine wp_region_lit ?_
  refine q_is (l' := [(.slice p_a L_a.length q_a), (Iv left), Ud, Ud, (Iv 0), Ud, Ud, Ud, Ud, Ud, Ud, Ud]) rfl rfl (does_assign (u := (Iv 0)) (ev rfl)) rfl ?_
  refine wpList_nil (hK1 _ _ ?_)
  refine wp_seq_k fun K2 hK2 => ?_
  refine wp_region_lit ?_
  refine q_is (l' := [(.slice p_a L_a.length q_a), (Iv left), Ud, Ud, (Iv 0), (Iv left), Ud, Ud, Ud, Ud, Ud, Ud]) rfl rfl (does_move (u := (Iv left)) (ev rfl)) rfl ?_
  refine q_is (l' := [(.slice p_a L_a.length q_a), (Iv left), Ud, Ud, (Iv 0), (Iv left), (.slice p_a L_a.length q_a), Ud, Ud, Ud, Ud, Ud]) rfl rfl (does_move (u := (.slice p_a L_a.length q_a)) (ev rfl)) rfl ?_
  refine q_is (l' := [(.slice p_a L_a.length q_a), (Iv left), Ud, Ud, (Iv 0), (Iv left), (.slice p_a L_a.length q_a), (Iv (L_a.length : Int)), Ud, Ud, Ud, Ud]) rfl rfl (does_len_slice Try.underlying42 (ev rfl)) rfl ?_
  refine q_is (l' := [(.slice p_a L_a.length q_a), (Iv left), Ud, Ud, (Iv 0), (Iv left), (.slice p_a L_a.length q_a), (Iv (L_a.length : Int)), (Iv (left - (L_a.length : Int))), Ud, Ud, Ud]) rfl rfl (does_iarith (p := left) (q := (L_a.length : Int)) (r := left - (L_a.length : Int)) (ev rfl) (ev rfl) (.inr (.inl ⟨rfl, (in_i64 (by omega) (by omega)).symm⟩))) rfl ?_
  refine q_is (l' := [(.slice p_a L_a.length q_a), (Iv (left - (L_a.length : Int))), Ud, Ud, (Iv 0), (Iv left), (.slice p_a L_a.length q_a), (Iv (L_a.length : Int)), (Iv (left - (L_a.length : Int))), Ud, Ud, Ud]) rfl rfl (does_assign (u := (Iv (left - (L_a.length : Int)))) (ev rfl)) rfl ?_
  refine wpList_nil (hK2 _ _ ?_)
  refine wp_seq_k fun K3 hK3 => ?_
  refine wp_seq_k fun K4 hK4 => ?_
  refine wp_region_lit ?_
  refine q_is (l' := [(.slice p_a L_a.length q_a), (Iv (left - (L_a.length : Int))), Ud, Ud, (Iv 0), (Iv left), (.slice p_a L_a.length q_a), (Iv (L_a.length : Int)), (Iv (left - (L_a.length : Int))), (Iv (left - (L_a.length : Int))), Ud, Ud]) rfl rfl (does_move (u := (Iv (left - (L_a.length : Int)))) (ev rfl)) rfl ?_
  refine q_is (l' := [(.slice p_a L_a.length q_a), (Iv (left - (L_a.length : Int))), Ud, Ud, (Iv 0), (Iv left), (.slice p_a L_a.length q_a), (Iv (L_a.length : Int)), (Iv (left - (L_a.length : Int))), (Iv (left - (L_a.length : Int))), (Bo (icmp .lss (left - (L_a.length : Int)) 0)), Ud]) rfl rfl (does_icmp (p := left - (L_a.length : Int)) (q := 0) (.inr (.inr (.inl rfl))) (ev rfl) (ev rfl)) rfl ?_
  refine wpList_nil (hK4 _ _ ?_)
  refine wp_cond_split (t := icmp .lss (left - (L_a.length : Int)) 0) (ev rfl) (fun c5 => ?_) (fun c5 => ?_)
  · have c5' := c5
    (try simp only [icmp, Bool.and_eq_true, Bool.or_eq_true, Bool.and_eq_false_iff, Bool.or_eq_false_iff, Bool.not_eq_true', Bool.not_eq_false', decide_eq_true_eq, decide_eq_false_iff_not, beq_iff_eq, bne_iff_ne, beq_eq_false_iff_ne, bne_eq_false_iff_eq] at c5')
    refine wp_seq_k fun K6 hK6 => ?_
    refine wp_region_lit ?_
    refine q_is (l' := [(.slice p_a L_a.length q_a), (Iv (left - (L_a.length : Int))), Ud, Ud, (Iv (-1)), (Iv left), (.slice p_a L_a.length q_a), (Iv (L_a.length : Int)), (Iv (left - (L_a.length : Int))), (Iv (left - (L_a.length : Int))), (Bo (icmp .lss (left - (L_a.length : Int)) 0)), Ud]) rfl rfl (does_assign (u := (Iv (-1))) (ev rfl)) rfl ?_
    refine wpList_nil (hK6 _ _ ?_)
    refine wp_ret ?_
    dsimp only [Exit.then, Exit.inBlock]
    refine ret_val (v := (Iv (-1))) (res_T rfl (slot rfl)) (Ext.refl w) ?_
    have x7 : (-1) < 0 ∨ ((L_a.length : Int) ≤ left ∧ (-1) = left - L_a.length ∧ 0 ≤ (-1)) := by omega
    exact ⟨(-1), rfl, x7⟩
  have c5' := c5
  (try simp only [icmp, Bool.and_eq_true, Bool.or_eq_true, Bool.and_eq_false_iff, Bool.or_eq_false_iff, Bool.not_eq_true', Bool.not_eq_false', decide_eq_true_eq, decide_eq_false_iff_not, beq_iff_eq, bne_iff_ne, beq_eq_false_iff_ne, bne_eq_false_iff_eq] at c5')
  refine wp_skip (hK3 _ _ ?_)
  refine wp_seq_k fun K8 hK8 => ?_
  refine wp_region_lit ?_
  refine q_is (l' := [(.slice p_a L_a.length q_a), (Iv (left - (L_a.length : Int))), Ud, Ud, (Iv 0), (Iv left), (.slice p_a L_a.length q_a), (Iv (L_a.length : Int)), (Iv (left - (L_a.length : Int))), (Iv (left - (L_a.length : Int))), (Bo (icmp .lss (left - (L_a.length : Int)) 0)), (Iv (left - (L_a.length : Int)))]) rfl rfl (does_move (u := (Iv (left - (L_a.length : Int)))) (ev rfl)) rfl ?_
  refine q_is (l' := [(.slice p_a L_a.length q_a), (Iv (left - (L_a.length : Int))), Ud, Ud, (Iv (left - (L_a.length : Int))), (Iv left), (.slice p_a L_a.length q_a), (Iv (L_a.length : Int)), (Iv (left - (L_a.length : Int))), (Iv (left - (L_a.length : Int))), (Bo (icmp .lss (left - (L_a.length : Int)) 0)), (Iv (left - (L_a.length : Int)))]) rfl rfl (does_assign (u := (Iv (left - (L_a.length : Int)))) (ev rfl)) rfl ?_
  refine wpList_nil (hK8 _ _ ?_)
  refine wp_ret ?_
  refine ret_val (v := (Iv (left - (L_a.length : Int)))) (res_T rfl (slot rfl)) (Ext.refl w) ?_
  have x9 : (left - (L_a.length : Int)) < 0 ∨ ((L_a.length : Int) ≤ left ∧ (left - (L_a.length : Int)) = left - L_a.length ∧ 0 ≤ (left - (L_a.length : Int))) := by omega
  exact ⟨(left - (L_a.length : Int)), rfl, x9⟩

/- laws.szGrid -/
theorem c_laws_szGrid (a : List Value) (A_a : GridT) (left : Int) (w : World) (hv_a : RGridT w A_a a) (hle : left ≤ 1048576) (hge : 0 ≤ left) : Gives Try.prog 14 #[(.agg a.toArray), (Iv left)] w (fun v w' => ∃ i_1 : Int, v = (Iv i_1) ∧ (i_1 < 0 ∨ ((A_a.vals.length : Int) ≤ left ∧ i_1 = left - A_a.vals.length ∧ 0 ≤ i_1))) := by
  obtain ⟨r1, r3, r5, r7, y9, rfl, h2, h4, h6, h8, h10⟩ := hv_a
  have hs13 := h10; have hs13l := Sl.len h10; obtain ⟨p11, q12, rfl⟩ := Sl.shape h10
  refine enter [(.agg #[(Fl r1), (Fl r3), (Fl r5), (Fl r7), (Iv A_a.x), (Iv A_a.y), (Iv A_a.z), (.slice p11 A_a.vals.length q12)]), (Iv left), Ud, Ud, Ud, Ud, Ud, Ud, Ud, Ud, Ud, Ud] Try.func14 rfl Try.ntmps14 rfl ?_
  refine wp_seq_k fun K14 hK14 => ?_
  refine wp_region_lit ?_
  refine seqd rfl rfl (does_box (u := (.agg #[(Fl r1), (Fl r3), (Fl r5), (Fl r7), (Iv A_a.x), (Iv A_a.y), (Iv A_a.z), (.slice p11 A_a.vals.length q12)])) (ev rfl)) ?_; rintro _ w19 ⟨b15, rfl, hb16, hB17, E18⟩
  have g20 : w.heap.size ≤ b15 := Nat.le_trans (Below.size (Ext.refl w)) hb16
  change Blk _ _ [(Fl r1), (Fl r3), (Fl r5), (Fl r7), (Iv A_a.x), (Iv A_a.y), (Iv A_a.z), (.slice p11 A_a.vals.length q12)] at hB17
  have X21 := Ext.gr (Ext.refl w) E18
  show wpList _ _ _ _ (fr [(.agg #[(Fl r1), (Fl r3), (Fl r5), (Fl r7), (Iv A_a.x), (Iv A_a.y), (Iv A_a.z), (.slice p11 A_a.vals.length q12)]), (Iv left), (Pt b15 0), Ud, Ud, Ud, Ud, Ud, Ud, Ud, Ud, Ud]) _
  refine q_is (l' := [(.agg #[(Fl r1), (Fl r3), (Fl r5), (Fl r7), (Iv A_a.x), (Iv A_a.y), (Iv A_a.z), (.slice p11 A_a.vals.length q12)]), (Iv left), (Pt b15 0), Ud, (Iv 0), Ud, Ud, Ud, Ud, Ud, Ud, Ud]) rfl rfl (does_assign (u := (Iv 0)) (ev rfl)) rfl ?_
  refine wpList_nil (hK14 _ _ ?_)
  refine wp_seq_k fun K22 hK22 => ?_
  refine wp_region_lit ?_
  refine q_is (l' := [(.agg #[(Fl r1), (Fl r3), (Fl r5), (Fl r7), (Iv A_a.x), (Iv A_a.y), (Iv A_a.z), (.slice p11 A_a.vals.length q12)]), (Iv left), (Pt b15 0), Ud, (Iv 0), (Pt b15 7), Ud, Ud, Ud, Ud, Ud, Ud]) rfl rfl (does_fieldAddr (ev rfl) fa44_5) rfl ?_
  refine q_is (l' := [(.agg #[(Fl r1), (Fl r3), (Fl r5), (Fl r7), (Iv A_a.x), (Iv A_a.y), (Iv A_a.z), (.slice p11 A_a.vals.length q12)]), (Iv left), (Pt b15 0), Ud, (Iv 0), (Pt b15 7), (.slice p11 A_a.vals.length q12), Ud, Ud, Ud, Ud, Ud]) rfl rfl (does_load (u := (.slice p11 A_a.vals.length q12)) (ev rfl) Try.isAgg42 (Cells.at (Blk.cells hB17) 7 rfl)) rfl ?_
  refine q_is (l' := [(.agg #[(Fl r1), (Fl r3), (Fl r5), (Fl r7), (Iv A_a.x), (Iv A_a.y), (Iv A_a.z), (.slice p11 A_a.vals.length q12)]), (Iv left), (Pt b15 0), Ud, (Iv 0), (Pt b15 7), (.slice p11 A_a.vals.length q12), (Iv left), Ud, Ud, Ud, Ud]) rfl rfl (does_move (u := (Iv left)) (ev rfl)) rfl ?_
  refine seqd rfl rfl (does_call (args := #[(.slice p11 A_a.vals.length q12), (Iv left)]) cal34 (evs rfl) (c_laws_szFloat32S (.slice p11 A_a.vals.length q12) A_a.vals left _ (Sl.ext hs13 RF.mono X21) (by omega) (by omega))) ?_; rintro _ w24 ⟨E23, ⟨i25, rfl, h26⟩⟩
  have X27 := Ext.gr X21 E23
  show wpList _ _ _ _ (fr [(.agg #[(Fl r1), (Fl r3), (Fl r5), (Fl r7), (Iv A_a.x), (Iv A_a.y), (Iv A_a.z), (.slice p11 A_a.vals.length q12)]), (Iv left), (Pt b15 0), Ud, (Iv 0), (Pt b15 7), (.slice p11 A_a.vals.length q12), (Iv left), (Iv i25), Ud, Ud, Ud]) _
  refine q_is (l' := [(.agg #[(Fl r1), (Fl r3), (Fl r5), (Fl r7), (Iv A_a.x), (Iv A_a.y), (Iv A_a.z), (.slice p11 A_a.vals.length q12)]), (Iv i25), (Pt b15 0), Ud, (Iv 0), (Pt b15 7), (.slice p11 A_a.vals.length q12), (Iv left), (Iv i25), Ud, Ud, Ud]) rfl rfl (does_assign (u := (Iv i25)) (ev rfl)) rfl ?_
  refine wpList_nil (hK22 _ _ ?_)
  refine wp_seq_k fun K28 hK28 => ?_
  refine wp_seq_k fun K29 hK29 => ?_
  refine wp_region_lit ?_
  refine q_is (l' := [(.agg #[(Fl r1), (Fl r3), (Fl r5), (Fl r7), (Iv A_a.x), (Iv A_a.y), (Iv A_a.z), (.slice p11 A_a.vals.length q12)]), (Iv i25), (Pt b15 0), Ud, (Iv 0), (Pt b15 7), (.slice p11 A_a.vals.length q12), (Iv left), (Iv i25), (Iv i25), Ud, Ud]) rfl rfl (does_move (u := (Iv i25)) (ev rfl)) rfl ?_
  refine q_is (l' := [(.agg #[(Fl r1), (Fl r3), (Fl r5), (Fl r7), (Iv A_a.x), (Iv A_a.y), (Iv A_a.z), (.slice p11 A_a.vals.length q12)]), (Iv i25), (Pt b15 0), Ud, (Iv 0), (Pt b15 7), (.slice p11 A_a.vals.length q12), (Iv left), (Iv i25), (Iv i25), (Bo (icmp .lss i25 0)), Ud]) rfl rfl (does_icmp (p := i25) (q := 0) (.inr (.inr (.inl rfl))) (ev rfl) (ev rfl)) rfl ?_
  refine wpList_nil (hK29 _ _ ?_)
  refine wp_cond_split (t := icmp .lss i25 0) (ev rfl) (fun c30 => ?_) (fun c30 => ?_)
  · have c30' := c30
    (try simp only [icmp, Bool.and_eq_true, Bool.or_eq_true, Bool.and_eq_false_iff, Bool.or_eq_false_iff, Bool.not_eq_true', Bool.not_eq_false', decide_eq_true_eq, decide_eq_false_iff_not, beq_iff_eq, bne_iff_ne, beq_eq_false_iff_ne, bne_eq_false_iff_eq] at c30')
    refine wp_seq_k fun K31 hK31 => ?_
    refine wp_region_lit ?_
    refine q_is (l' := [(.agg #[(Fl r1), (Fl r3), (Fl r5), (Fl r7), (Iv A_a.x), (Iv A_a.y), (Iv A_a.z), (.slice p11 A_a.vals.length q12)]), (Iv i25), (Pt b15 0), Ud, (Iv (-1)), (Pt b15 7), (.slice p11 A_a.vals.length q12), (Iv left), (Iv i25), (Iv i25), (Bo (icmp .lss i25 0)), Ud]) rfl rfl (does_assign (u := (Iv (-1))) (ev rfl)) rfl ?_
    refine wpList_nil (hK31 _ _ ?_)
    refine wp_ret ?_
    dsimp only [Exit.then, Exit.inBlock]
    refine ret_val (v := (Iv (-1))) (res_T rfl (slot rfl)) X27 ?_
    try simp only [h2, h4, h6, h8] at c30
    have x32 : (-1) < 0 ∨ ((A_a.vals.length : Int) ≤ left ∧ (-1) = left - A_a.vals.length ∧ 0 ≤ (-1)) := by omega
    exact ⟨(-1), rfl, x32⟩
  have c30' := c30
  (try simp only [icmp, Bool.and_eq_true, Bool.or_eq_true, Bool.and_eq_false_iff, Bool.or_eq_false_iff, Bool.not_eq_true', Bool.not_eq_false', decide_eq_true_eq, decide_eq_false_iff_not, beq_iff_eq, bne_iff_ne, beq_eq_false_iff_ne, bne_eq_false_iff_eq] at c30')
  refine wp_skip (hK28 _ _ ?_)
  refine wp_seq_k fun K33 hK33 => ?_
  refine wp_region_lit ?_
  refine q_is (l' := [(.agg #[(Fl r1), (Fl r3), (Fl r5), (Fl r7), (Iv A_a.x), (Iv A_a.y), (Iv A_a.z), (.slice p11 A_a.vals.length q12)]), (Iv i25), (Pt b15 0), Ud, (Iv 0), (Pt b15 7), (.slice p11 A_a.vals.length q12), (Iv left), (Iv i25), (Iv i25), (Bo (icmp .lss i25 0)), (Iv i25)]) rfl rfl (does_move (u := (Iv i25)) (ev rfl)) rfl ?_
  refine q_is (l' := [(.agg #[(Fl r1), (Fl r3), (Fl r5), (Fl r7), (Iv A_a.x), (Iv A_a.y), (Iv A_a.z), (.slice p11 A_a.vals.length q12)]), (Iv i25), (Pt b15 0), Ud, (Iv i25), (Pt b15 7), (.slice p11 A_a.vals.length q12), (Iv left), (Iv i25), (Iv i25), (Bo (icmp .lss i25 0)), (Iv i25)]) rfl rfl (does_assign (u := (Iv i25)) (ev rfl)) rfl ?_
  refine wpList_nil (hK33 _ _ ?_)
  refine wp_ret ?_
  refine ret_val (v := (Iv i25)) (res_T rfl (slot rfl)) X27 ?_
  try simp only [h2, h4, h6, h8] at c30
  have x34 : i25 < 0 ∨ ((A_a.vals.length : Int) ≤ left ∧ i25 = left - A_a.vals.length ∧ 0 ≤ i25) := by omega
  exact ⟨i25, rfl, x34⟩

/- spec.l01Finite -/
theorem c_spec_l01Finite (x : Nat) (w : World) : Gives Try.prog 54 #[(Fl x)] w (fun v w' => v = (Bo (finF (cf .f32 x)))) := by
  refine enter [(Fl x), Ud, Ud, Ud, Ud, Ud, Ud] Try.func54 rfl Try.ntmps54 rfl ?_
  refine wp_seq_k fun K1 hK1 => ?_
  refine wp_region_lit ?_
  refine q_is (l' := [(Fl x), Ud, (Bo false), Ud, Ud, Ud, Ud]) rfl rfl (does_assign (u := (Bo false)) (ev rfl)) rfl ?_
  refine wpList_nil (hK1 _ _ ?_)
  refine wp_seq_k fun K2 hK2 => ?_
  refine wp_region_lit ?_
  refine q_is (l' := [(Fl x), Ud, (Bo false), (Fl x), Ud, Ud, Ud]) rfl rfl (does_move (u := (Fl x)) (ev rfl)) rfl ?_
  refine q_is (l' := [(Fl x), Ud, (Bo false), (Fl x), (Fl x), Ud, Ud]) rfl rfl (does_move (u := (Fl x)) (ev rfl)) rfl ?_
  refine seqd rfl rfl (does_float (.inr (.inl rfl)) (ev rfl) (ev rfl)) ?_; rintro _ w6 ⟨r3, rfl, h4, E5⟩
  have X7 := Ext.gr (Ext.refl w) E5
  show wpList _ _ _ _ (fr [(Fl x), Ud, (Bo false), (Fl x), (Fl x), (Fl r3), Ud]) _
  refine q_is (l' := [(Fl x), Ud, (Bo false), (Fl x), (Fl x), (Fl r3), (Bo (fcmp .eql (ford .f32 (cf .f32 r3) (cf .f32 0))))]) rfl rfl (does_fcmp (.inl rfl) (ev rfl) (ev rfl)) rfl ?_
  refine q_is (l' := [(Fl x), Ud, (Bo (fcmp .eql (ford .f32 (cf .f32 r3) (cf .f32 0)))), (Fl x), (Fl x), (Fl r3), (Bo (fcmp .eql (ford .f32 (cf .f32 r3) (cf .f32 0))))]) rfl rfl (does_assign (u := (Bo (fcmp .eql (ford .f32 (cf .f32 r3) (cf .f32 0))))) (ev rfl)) rfl ?_
  refine wpList_nil (hK2 _ _ ?_)
  refine wp_ret ?_
  refine ret_val (v := (Bo (fcmp .eql (ford .f32 (cf .f32 r3) (cf .f32 0))))) (res_T rfl (slot rfl)) X7 ?_
  have x8 : (finF (cf .f32 x)) = (fcmp .eql (ford .f32 (cf .f32 r3) (cf .f32 0))) := by first | with_reducible rfl | (simp only [finF, h4]; done) | (simp [finF, h4]; done) | rfl
  exact (by first | with_reducible rfl | rw [x8] | rfl)

/- spec.l01VFinite -/
theorem c_spec_l01VFinite (v : List Value) (A_v : V3) (w : World) (hv_v : RV3 w A_v v) : Gives Try.prog 53 #[(.agg v.toArray)] w (fun v w' => v = (Bo (finV A_v))) := by
  obtain ⟨r1, r3, r5, rfl, h2, h4, h6⟩ := hv_v
  refine enter [(.agg #[(Fl r1), (Fl r3), (Fl r5)]), Ud, Ud, Ud, Ud, Ud, Ud, Ud, Ud, Ud, Ud, Ud, Ud, Ud, Ud, Ud] Try.func53 rfl Try.ntmps53 rfl ?_
  refine wp_seq_k fun K7 hK7 => ?_
  refine wp_region_lit ?_
  refine seqd rfl rfl (does_box (u := (.agg #[(Fl r1), (Fl r3), (Fl r5)])) (ev rfl)) ?_; rintro _ w12 ⟨b8, rfl, hb9, hB10, E11⟩
  have g13 : w.heap.size ≤ b8 := Nat.le_trans (Below.size (Ext.refl w)) hb9
  change Blk _ _ [(Fl r1), (Fl r3), (Fl r5)] at hB10
  have X14 := Ext.gr (Ext.refl w) E11
  show wpList _ _ _ _ (fr [(.agg #[(Fl r1), (Fl r3), (Fl r5)]), (Pt b8 0), Ud, Ud, Ud, Ud, Ud, Ud, Ud, Ud, Ud, Ud, Ud, Ud, Ud, Ud]) _
  refine q_is (l' := [(.agg #[(Fl r1), (Fl r3), (Fl r5)]), (Pt b8 0), (Bo false), Ud, Ud, Ud, Ud, Ud, Ud, Ud, Ud, Ud, Ud, Ud, Ud, Ud]) rfl rfl (does_assign (u := (Bo false)) (ev rfl)) rfl ?_
  refine wpList_nil (hK7 _ _ ?_)
  refine wp_seq_k fun K15 hK15 => ?_
  obtain ⟨β1, hβ1⟩ : ∃ b : Bool, b = ((finF (cf .f32 r1)) && (finF (cf .f32 r3))) := ⟨_, rfl⟩
  obtain ⟨β2, hβ2⟩ : ∃ b : Bool, b = (β1 && (finF (cf .f32 r5))) := ⟨_, rfl⟩
  refine region_text (
    [Fact.pure [] (fun v => v = (Pt b8 0)),
    Fact.pure [3] (fun v => v = (Fl r1)),
    Fact.pure [4] (fun v => v = (Bo (finF (cf .f32 r1)))),
    Fact.pure [5] (fun v => v = (Bo (finF (cf .f32 r1)))),
    Fact.pure [6] (fun v => (finF (cf .f32 r1)) = true → v = (Pt b8 1)),
    Fact.pure [7, 6] (fun v => (finF (cf .f32 r1)) = true → v = (Fl r3)),
    Fact.pure [8, 6] (fun v => (finF (cf .f32 r1)) = true → v = (Bo (finF (cf .f32 r3)))),
    Fact.pure [6, 9] (fun v => v = (Bo β1)),
    Fact.pure [10] (fun v => v = (Bo β1)),
    Fact.pure [11] (fun v => β1 = true → v = (Pt b8 2)),
    Fact.pure [12, 11] (fun v => β1 = true → v = (Fl r5)),
    Fact.pure [13, 11] (fun v => β1 = true → v = (Bo (finF (cf .f32 r5)))),
    Fact.pure [11, 14] (fun v => v = (Bo β2))]) (by simp [Fact.pure, Fact.mem]) ?_
  refine RW_d (fun v16 => [(.agg #[(Fl r1), (Fl r3), (Fl r5)]), (Pt b8 0), (Bo false), v16, Ud, Ud, Ud, Ud, Ud, Ud, Ud, Ud, Ud, Ud, Ud, Ud]) rfl (fun _ => rfl) (fun u hu hF => ?_) (fun v16 => ?_)
  · clear hF
    refine doesG_un rfl ?_
    refine (does_fieldAddr (ev rfl) fa47_0).mono ?_; rintro _ _ ⟨rfl, rfl⟩
    exact ⟨rfl, Ext.refl _⟩
  refine RW_d (fun v17 => [(.agg #[(Fl r1), (Fl r3), (Fl r5)]), (Pt b8 0), (Bo false), v16, v17, Ud, Ud, Ud, Ud, Ud, Ud, Ud, Ud, Ud, Ud, Ud]) rfl (fun _ => rfl) (fun u hu hF => ?_) (fun v17 => ?_)
  · have h3_ : v16 = (Pt b8 0) := hF.1
    clear hF
    refine doesG_un rfl ?_
    obtain rfl := h3_
    refine (does_load (u := (Fl r1)) (ev rfl) Try.isAgg39 (Cells.at (Blk.cells (hB10.ext hu)) 0 rfl)).mono ?_; rintro _ _ ⟨rfl, rfl⟩
    exact ⟨rfl, Ext.refl _⟩
  refine RW_d (fun v18 => [(.agg #[(Fl r1), (Fl r3), (Fl r5)]), (Pt b8 0), (Bo false), v16, v17, v18, Ud, Ud, Ud, Ud, Ud, Ud, Ud, Ud, Ud, Ud]) rfl (fun _ => rfl) (fun u hu hF => ?_) (fun v18 => ?_)
  · have h4_ : v17 = (Fl r1) := hF.1
    clear hF
    refine doesG_un rfl ?_
    obtain rfl := h4_
    refine (does_call (args := #[(Fl r1)]) cal54 (evs rfl) (c_spec_l01Finite r1 _)).mono ?_; rintro v u' ⟨hx, hv⟩
    exact ⟨hv, hx⟩
  refine RW_d (fun v19 => [(.agg #[(Fl r1), (Fl r3), (Fl r5)]), (Pt b8 0), (Bo false), v16, v17, v18, v19, Ud, Ud, Ud, Ud, Ud, Ud, Ud, Ud, Ud]) rfl (fun _ => rfl) (fun u hu hF => ?_) (fun v19 => ?_)
  · have h5_ : v18 = (Bo (finF (cf .f32 r1))) := hF.1
    clear hF
    refine doesG_un rfl ?_
    obtain rfl := h5_
    refine (does_move (u := (Bo (finF (cf .f32 r1)))) (ev rfl)).mono ?_; rintro _ _ ⟨rfl, rfl⟩
    exact ⟨rfl, Ext.refl _⟩
  refine RW_d (fun v20 => [(.agg #[(Fl r1), (Fl r3), (Fl r5)]), (Pt b8 0), (Bo false), v16, v17, v18, v19, v20, Ud, Ud, Ud, Ud, Ud, Ud, Ud, Ud]) rfl (fun _ => rfl) (fun u hu hF => ?_) (fun v20 => ?_)
  · have h6_ : v19 = (Bo (finF (cf .f32 r1))) := hF.1
    clear hF
    obtain rfl := h6_
    refine doesG_g (b := (finF (cf .f32 r1))) rfl (yld rfl rfl) (fun hg1 => ?_) (fun hc => ⟨fun hg1 => absurd hg1 hc, Ext.refl _⟩)
    refine (does_fieldAddr (ev rfl) fa47_1).mono ?_; rintro _ _ ⟨rfl, rfl⟩
    exact ⟨fun _ => rfl, Ext.refl _⟩
  refine RW_d (fun v21 => [(.agg #[(Fl r1), (Fl r3), (Fl r5)]), (Pt b8 0), (Bo false), v16, v17, v18, v19, v20, v21, Ud, Ud, Ud, Ud, Ud, Ud, Ud]) rfl (fun _ => rfl) (fun u hu hF => ?_) (fun v21 => ?_)
  · have h7_ : (finF (cf .f32 r1)) = true → v20 = (Pt b8 1) := hF.1
    have h6_ : v19 = (Bo (finF (cf .f32 r1))) := hF.2.1
    clear hF
    obtain rfl := h6_
    refine doesG_g (b := (finF (cf .f32 r1))) rfl (yld rfl rfl) (fun hg1 => ?_) (fun hc => ⟨fun hg1 => absurd hg1 hc, Ext.refl _⟩)
    obtain rfl := h7_ hg1
    refine (does_load (u := (Fl r3)) (ev rfl) Try.isAgg39 (Cells.at (Blk.cells (hB10.ext hu)) 1 rfl)).mono ?_; rintro _ _ ⟨rfl, rfl⟩
    exact ⟨fun _ => rfl, Ext.refl _⟩
  refine RW_d (fun v22 => [(.agg #[(Fl r1), (Fl r3), (Fl r5)]), (Pt b8 0), (Bo false), v16, v17, v18, v19, v20, v21, v22, Ud, Ud, Ud, Ud, Ud, Ud]) rfl (fun _ => rfl) (fun u hu hF => ?_) (fun v22 => ?_)
  · have h8_ : (finF (cf .f32 r1)) = true → v21 = (Fl r3) := hF.1
    have h6_ : v19 = (Bo (finF (cf .f32 r1))) := hF.2.1
    clear hF
    obtain rfl := h6_
    refine doesG_g (b := (finF (cf .f32 r1))) rfl (yld rfl rfl) (fun hg1 => ?_) (fun hc => ⟨fun hg1 => absurd hg1 hc, Ext.refl _⟩)
    obtain rfl := h8_ hg1
    refine (does_call (args := #[(Fl r3)]) cal54 (evs rfl) (c_spec_l01Finite r3 _)).mono ?_; rintro v u' ⟨hx, hv⟩
    exact ⟨fun _ => hv, hx⟩
  refine RW_d (fun v23 => [(.agg #[(Fl r1), (Fl r3), (Fl r5)]), (Pt b8 0), (Bo false), v16, v17, v18, v19, v20, v21, v22, v23, Ud, Ud, Ud, Ud, Ud]) rfl (fun _ => rfl) (fun u hu hF => ?_) (fun v23 => ?_)
  · have h6_ : v19 = (Bo (finF (cf .f32 r1))) := hF.1
    have h9_ : (finF (cf .f32 r1)) = true → v22 = (Bo (finF (cf .f32 r3))) := hF.2.1
    clear hF
    refine doesG_un rfl ?_
    skip
    obtain rfl := h6_
    refine (does_pick (b := (finF (cf .f32 r1))) (u := v22) (v := (Bo false)) (ev rfl) (ev rfl) (ev rfl)).mono ?_; rintro _ _ ⟨rfl, rfl⟩; refine ⟨?_, Ext.refl _⟩; rw [hβ1]; skip
    cases hbb : (finF (cf .f32 r1))
    all_goals first | (show _ = _; simp only [↓reduceIte, Bool.true_and, Bool.false_and, Bool.true_or, Bool.false_or, Bool.false_eq_true]; done) | (have e_ := h9_ hbb; subst e_; show _ = _; simp only [↓reduceIte, Bool.true_and, Bool.false_and, Bool.true_or, Bool.false_or, Bool.false_eq_true]; done) | rfl | (have e_ := h9_ hbb; subst e_; rfl) | (simp [hbb] at h9_ ⊢; first | done | rfl | (subst h9_; rfl) | simp_all) | (simp [hbb] at h9_ ⊢; done)
  refine RW_d (fun v24 => [(.agg #[(Fl r1), (Fl r3), (Fl r5)]), (Pt b8 0), (Bo false), v16, v17, v18, v19, v20, v21, v22, v23, v24, Ud, Ud, Ud, Ud]) rfl (fun _ => rfl) (fun u hu hF => ?_) (fun v24 => ?_)
  · have h10_ : v23 = (Bo β1) := hF.1
    clear hF
    refine doesG_un rfl ?_
    obtain rfl := h10_
    refine (does_move (u := (Bo β1)) (ev rfl)).mono ?_; rintro _ _ ⟨rfl, rfl⟩
    exact ⟨rfl, Ext.refl _⟩
  refine RW_d (fun v25 => [(.agg #[(Fl r1), (Fl r3), (Fl r5)]), (Pt b8 0), (Bo false), v16, v17, v18, v19, v20, v21, v22, v23, v24, v25, Ud, Ud, Ud]) rfl (fun _ => rfl) (fun u hu hF => ?_) (fun v25 => ?_)
  · have h11_ : v24 = (Bo β1) := hF.1
    clear hF
    obtain rfl := h11_
    refine doesG_g (b := β1) rfl (yld rfl rfl) (fun hg1 => ?_) (fun hc => ⟨fun hg1 => absurd hg1 hc, Ext.refl _⟩)
    refine (does_fieldAddr (ev rfl) fa47_2).mono ?_; rintro _ _ ⟨rfl, rfl⟩
    exact ⟨fun _ => rfl, Ext.refl _⟩
  refine RW_d (fun v26 => [(.agg #[(Fl r1), (Fl r3), (Fl r5)]), (Pt b8 0), (Bo false), v16, v17, v18, v19, v20, v21, v22, v23, v24, v25, v26, Ud, Ud]) rfl (fun _ => rfl) (fun u hu hF => ?_) (fun v26 => ?_)
  · have h12_ : β1 = true → v25 = (Pt b8 2) := hF.1
    have h11_ : v24 = (Bo β1) := hF.2.1
    clear hF
    obtain rfl := h11_
    refine doesG_g (b := β1) rfl (yld rfl rfl) (fun hg1 => ?_) (fun hc => ⟨fun hg1 => absurd hg1 hc, Ext.refl _⟩)
    obtain rfl := h12_ hg1
    refine (does_load (u := (Fl r5)) (ev rfl) Try.isAgg39 (Cells.at (Blk.cells (hB10.ext hu)) 2 rfl)).mono ?_; rintro _ _ ⟨rfl, rfl⟩
    exact ⟨fun _ => rfl, Ext.refl _⟩
  refine RW_d (fun v27 => [(.agg #[(Fl r1), (Fl r3), (Fl r5)]), (Pt b8 0), (Bo false), v16, v17, v18, v19, v20, v21, v22, v23, v24, v25, v26, v27, Ud]) rfl (fun _ => rfl) (fun u hu hF => ?_) (fun v27 => ?_)
  · have h13_ : β1 = true → v26 = (Fl r5) := hF.1
    have h11_ : v24 = (Bo β1) := hF.2.1
    clear hF
    obtain rfl := h11_
    refine doesG_g (b := β1) rfl (yld rfl rfl) (fun hg1 => ?_) (fun hc => ⟨fun hg1 => absurd hg1 hc, Ext.refl _⟩)
    obtain rfl := h13_ hg1
    refine (does_call (args := #[(Fl r5)]) cal54 (evs rfl) (c_spec_l01Finite r5 _)).mono ?_; rintro v u' ⟨hx, hv⟩
    exact ⟨fun _ => hv, hx⟩
  refine RW_d (fun v28 => [(.agg #[(Fl r1), (Fl r3), (Fl r5)]), (Pt b8 0), (Bo false), v16, v17, v18, v19, v20, v21, v22, v23, v24, v25, v26, v27, v28]) rfl (fun _ => rfl) (fun u hu hF => ?_) (fun v28 => ?_)
  · have h11_ : v24 = (Bo β1) := hF.1
    have h14_ : β1 = true → v27 = (Bo (finF (cf .f32 r5))) := hF.2.1
    clear hF
    refine doesG_un rfl ?_
    skip
    obtain rfl := h11_
    refine (does_pick (b := β1) (u := v27) (v := (Bo false)) (ev rfl) (ev rfl) (ev rfl)).mono ?_; rintro _ _ ⟨rfl, rfl⟩; refine ⟨?_, Ext.refl _⟩; rw [hβ2]; skip
    cases hbb : β1
    all_goals first | (show _ = _; simp only [↓reduceIte, Bool.true_and, Bool.false_and, Bool.true_or, Bool.false_or, Bool.false_eq_true]; done) | (have e_ := h14_ hbb; subst e_; show _ = _; simp only [↓reduceIte, Bool.true_and, Bool.false_and, Bool.true_or, Bool.false_or, Bool.false_eq_true]; done) | rfl | (have e_ := h14_ hbb; subst e_; rfl) | (simp [hbb] at h14_ ⊢; first | done | rfl | (subst h14_; rfl) | simp_all) | (simp [hbb] at h14_ ⊢; done)
  refine RW_fin ?_; intro w29 E30 hP31
  obtain ⟨⟨⟨⟨⟨⟨⟨⟨⟨⟨⟨⟨⟨-, -⟩, -⟩, -⟩, -⟩, -⟩, -⟩, -⟩, -⟩, -⟩, -⟩, -⟩, -⟩, q32⟩ := hP31
  have X33 := Ext.gr X14 E30
  have q32 : v28 = (Bo β2) := q32
  obtain rfl := q32
  show wpList _ _ _ _ (fr [(.agg #[(Fl r1), (Fl r3), (Fl r5)]), (Pt b8 0), (Bo false), v16, v17, v18, v19, v20, v21, v22, v23, v24, v25, v26, v27, (Bo β2)]) _
  refine q_is (l' := [(.agg #[(Fl r1), (Fl r3), (Fl r5)]), (Pt b8 0), (Bo β2), v16, v17, v18, v19, v20, v21, v22, v23, v24, v25, v26, v27, (Bo β2)]) rfl rfl (does_assign (u := (Bo β2)) (ev rfl)) rfl ?_
  refine wpList_nil (hK15 _ _ ?_)
  refine wp_ret ?_
  refine ret_val (v := (Bo β2)) (res_T rfl (slot rfl)) X33 ?_
  have x34 : (finV A_v) = β2 := by first | with_reducible rfl | (simp only [finV, h2, h4, h6, hβ1, hβ2]; done) | (simp [finV, h2, h4, h6, hβ1, hβ2]; done) | rfl
  exact (by first | with_reducible rfl | rw [x34] | rfl)

/- spec.l00In -/
theorem c_spec_l00In (n : Int) (low : Int) (high : Int) (w : World) : Gives Try.prog 47 #[(Iv n), (Iv low), (Iv high)] w (fun v w' => v = (Bo (inI n low high))) := by
  refine enter [(Iv n), (Iv low), (Iv high), Ud, Ud, Ud, Ud, Ud, Ud, Ud, Ud, Ud, Ud, Ud, Ud] Try.func47 rfl Try.ntmps47 rfl ?_
  refine wp_seq_k fun K1 hK1 => ?_
  refine wp_region_lit ?_
  refine q_is (l' := [(Iv n), (Iv low), (Iv high), Ud, Ud, Ud, (Bo false), Ud, Ud, Ud, Ud, Ud, Ud, Ud, Ud]) rfl rfl (does_assign (u := (Bo false)) (ev rfl)) rfl ?_
  refine wpList_nil (hK1 _ _ ?_)
  refine wp_seq_k fun K2 hK2 => ?_
  obtain ⟨β1, hβ1⟩ : ∃ b : Bool, b = ((icmp .geq n low) && (icmp .leq n high)) := ⟨_, rfl⟩
  refine region_text (
    [Fact.pure [] (fun v => v = (Iv n)),
    Fact.pure [] (fun v => v = (Iv low)),
    Fact.pure [7, 8] (fun v => v = (Bo (icmp .geq n low))),
    Fact.pure [9] (fun v => v = (Bo (icmp .geq n low))),
    Fact.pure [10] (fun v => (icmp .geq n low) = true → v = (Iv n)),
    Fact.pure [10] (fun v => (icmp .geq n low) = true → v = (Iv high)),
    Fact.pure [11, 12, 10] (fun v => (icmp .geq n low) = true → v = (Bo (icmp .leq n high))),
    Fact.pure [10, 13] (fun v => v = (Bo β1))]) (by simp [Fact.pure, Fact.mem]) ?_
  refine RW_d (fun v3 => [(Iv n), (Iv low), (Iv high), Ud, Ud, Ud, (Bo false), v3, Ud, Ud, Ud, Ud, Ud, Ud, Ud]) rfl (fun _ => rfl) (fun u hu hF => ?_) (fun v3 => ?_)
  · clear hF
    refine doesG_un rfl ?_
    refine (does_move (u := (Iv n)) (ev rfl)).mono ?_; rintro _ _ ⟨rfl, rfl⟩
    exact ⟨rfl, Ext.refl _⟩
  refine RW_d (fun v4 => [(Iv n), (Iv low), (Iv high), Ud, Ud, Ud, (Bo false), v3, v4, Ud, Ud, Ud, Ud, Ud, Ud]) rfl (fun _ => rfl) (fun u hu hF => ?_) (fun v4 => ?_)
  · clear hF
    refine doesG_un rfl ?_
    refine (does_move (u := (Iv low)) (ev rfl)).mono ?_; rintro _ _ ⟨rfl, rfl⟩
    exact ⟨rfl, Ext.refl _⟩
  refine RW_d (fun v5 => [(Iv n), (Iv low), (Iv high), Ud, Ud, Ud, (Bo false), v3, v4, v5, Ud, Ud, Ud, Ud, Ud]) rfl (fun _ => rfl) (fun u hu hF => ?_) (fun v5 => ?_)
  · have h7_ : v3 = (Iv n) := hF.1
    have h8_ : v4 = (Iv low) := hF.2.1
    clear hF
    refine doesG_un rfl ?_
    obtain rfl := h7_
    obtain rfl := h8_
    refine (does_icmp (p := n) (q := low) (.inr (.inr (.inr (.inr (.inr rfl))))) (ev rfl) (ev rfl)).mono ?_; rintro _ _ ⟨rfl, rfl⟩
    exact ⟨rfl, Ext.refl _⟩
  refine RW_d (fun v6 => [(Iv n), (Iv low), (Iv high), Ud, Ud, Ud, (Bo false), v3, v4, v5, v6, Ud, Ud, Ud, Ud]) rfl (fun _ => rfl) (fun u hu hF => ?_) (fun v6 => ?_)
  · have h9_ : v5 = (Bo (icmp .geq n low)) := hF.1
    clear hF
    refine doesG_un rfl ?_
    obtain rfl := h9_
    refine (does_move (u := (Bo (icmp .geq n low))) (ev rfl)).mono ?_; rintro _ _ ⟨rfl, rfl⟩
    exact ⟨rfl, Ext.refl _⟩
  refine RW_d (fun v7 => [(Iv n), (Iv low), (Iv high), Ud, Ud, Ud, (Bo false), v3, v4, v5, v6, v7, Ud, Ud, Ud]) rfl (fun _ => rfl) (fun u hu hF => ?_) (fun v7 => ?_)
  · have h10_ : v6 = (Bo (icmp .geq n low)) := hF.1
    clear hF
    obtain rfl := h10_
    refine doesG_g (b := (icmp .geq n low)) rfl (yld rfl rfl) (fun hg1 => ?_) (fun hc => ⟨fun hg1 => absurd hg1 hc, Ext.refl _⟩)
    refine (does_move (u := (Iv n)) (ev rfl)).mono ?_; rintro _ _ ⟨rfl, rfl⟩
    exact ⟨fun _ => rfl, Ext.refl _⟩
  refine RW_d (fun v8 => [(Iv n), (Iv low), (Iv high), Ud, Ud, Ud, (Bo false), v3, v4, v5, v6, v7, v8, Ud, Ud]) rfl (fun _ => rfl) (fun u hu hF => ?_) (fun v8 => ?_)
  · have h10_ : v6 = (Bo (icmp .geq n low)) := hF.1
    clear hF
    obtain rfl := h10_
    refine doesG_g (b := (icmp .geq n low)) rfl (yld rfl rfl) (fun hg1 => ?_) (fun hc => ⟨fun hg1 => absurd hg1 hc, Ext.refl _⟩)
    refine (does_move (u := (Iv high)) (ev rfl)).mono ?_; rintro _ _ ⟨rfl, rfl⟩
    exact ⟨fun _ => rfl, Ext.refl _⟩
  refine RW_d (fun v9 => [(Iv n), (Iv low), (Iv high), Ud, Ud, Ud, (Bo false), v3, v4, v5, v6, v7, v8, v9, Ud]) rfl (fun _ => rfl) (fun u hu hF => ?_) (fun v9 => ?_)
  · have h11_ : (icmp .geq n low) = true → v7 = (Iv n) := hF.1
    have h12_ : (icmp .geq n low) = true → v8 = (Iv high) := hF.2.1
    have h10_ : v6 = (Bo (icmp .geq n low)) := hF.2.2.1
    clear hF
    obtain rfl := h10_
    refine doesG_g (b := (icmp .geq n low)) rfl (yld rfl rfl) (fun hg1 => ?_) (fun hc => ⟨fun hg1 => absurd hg1 hc, Ext.refl _⟩)
    obtain rfl := h11_ hg1
    obtain rfl := h12_ hg1
    refine (does_icmp (p := n) (q := high) (.inr (.inr (.inr (.inl rfl)))) (ev rfl) (ev rfl)).mono ?_; rintro _ _ ⟨rfl, rfl⟩
    exact ⟨fun _ => rfl, Ext.refl _⟩
  refine RW_d (fun v10 => [(Iv n), (Iv low), (Iv high), Ud, Ud, Ud, (Bo false), v3, v4, v5, v6, v7, v8, v9, v10]) rfl (fun _ => rfl) (fun u hu hF => ?_) (fun v10 => ?_)
  · have h10_ : v6 = (Bo (icmp .geq n low)) := hF.1
    have h13_ : (icmp .geq n low) = true → v9 = (Bo (icmp .leq n high)) := hF.2.1
    clear hF
    refine doesG_un rfl ?_
    skip
    obtain rfl := h10_
    refine (does_pick (b := (icmp .geq n low)) (u := v9) (v := (Bo false)) (ev rfl) (ev rfl) (ev rfl)).mono ?_; rintro _ _ ⟨rfl, rfl⟩; refine ⟨?_, Ext.refl _⟩; rw [hβ1]; skip
    cases hbb : (icmp .geq n low)
    all_goals first | (show _ = _; simp only [↓reduceIte, Bool.true_and, Bool.false_and, Bool.true_or, Bool.false_or, Bool.false_eq_true]; done) | (have e_ := h13_ hbb; subst e_; show _ = _; simp only [↓reduceIte, Bool.true_and, Bool.false_and, Bool.true_or, Bool.false_or, Bool.false_eq_true]; done) | rfl | (have e_ := h13_ hbb; subst e_; rfl) | (simp [hbb] at h13_ ⊢; first | done | rfl | (subst h13_; rfl) | simp_all) | (simp [hbb] at h13_ ⊢; done)
  refine RW_fin ?_; intro w11 E12 hP13
  obtain ⟨⟨⟨⟨⟨⟨⟨⟨-, -⟩, -⟩, -⟩, -⟩, -⟩, -⟩, -⟩, q14⟩ := hP13
  have X15 := Ext.gr (Ext.refl w) E12
  have q14 : v10 = (Bo β1) := q14
  obtain rfl := q14
  show wpList _ _ _ _ (fr [(Iv n), (Iv low), (Iv high), Ud, Ud, Ud, (Bo false), v3, v4, v5, v6, v7, v8, v9, (Bo β1)]) _
  refine q_is (l' := [(Iv n), (Iv low), (Iv high), Ud, Ud, Ud, (Bo β1), v3, v4, v5, v6, v7, v8, v9, (Bo β1)]) rfl rfl (does_assign (u := (Bo β1)) (ev rfl)) rfl ?_
  refine wpList_nil (hK2 _ _ ?_)
  refine wp_ret ?_
  refine ret_val (v := (Bo β1)) (res_T rfl (slot rfl)) X15 ?_
  have x16 : (inI n low high) = β1 := by first | with_reducible rfl | (simp only [inI, hβ1]; done) | (simp [inI, hβ1]; done) | rfl
  exact (by first | with_reducible rfl | rw [x16] | rfl)

/- spec.l06Counts -/
theorem c_spec_l06Counts (x : Int) (y : Int) (z : Int) (w : World) : Gives Try.prog 55 #[(Iv x), (Iv y), (Iv z)] w (fun v w' => v = (Bo (cntOk x y z))) := by
  refine enter [(Iv x), (Iv y), (Iv z), Ud, Ud, Ud, Ud, Ud, Ud, Ud, Ud, Ud, Ud, Ud, Ud, Ud, Ud, Ud, Ud, Ud, Ud, Ud, Ud, Ud, Ud] Try.func55 rfl Try.ntmps55 rfl ?_
  refine wp_seq_k fun K1 hK1 => ?_
  refine wp_region_lit ?_
  refine q_is rfl rfl (does_assign (u := (Bo false)) (ev rfl)) (by dsimp only [List.set]; try rfl) ?_
  refine wpList_nil (hK1 _ _ ?_)
  refine wp_seq_k fun K2 hK2 => ?_
  obtain ⟨β1, hβ1⟩ : ∃ b : Bool, b = ((inI x 1 16) && (inI y 1 16)) := ⟨_, rfl⟩
  obtain ⟨β2, hβ2⟩ : ∃ b : Bool, b = (icmp .leq (IntKind.i64.wrap ((IntKind.i64.wrap (x * y)) * z)) 1024) := ⟨_, rfl⟩
  obtain ⟨β3, hβ3⟩ : ∃ b : Bool, b = ((β1 && (inI z 1 16)) && β2) := ⟨_, rfl⟩
  refine region_text (
    [Fact.pure [] (fun v => v = (Iv x)),
    Fact.pure [7] (fun v => v = (Bo (inI x 1 16))),
    Fact.pure [8] (fun v => v = (Bo (inI x 1 16))),
    Fact.pure [9] (fun v => (inI x 1 16) = true → v = (Iv y)),
    Fact.pure [10, 9] (fun v => (inI x 1 16) = true → v = (Bo (inI y 1 16))),
    Fact.pure [9, 11] (fun v => v = (Bo β1)),
    Fact.pure [12] (fun v => v = (Bo β1)),
    Fact.pure [13] (fun v => β1 = true → v = (Iv z)),
    Fact.pure [14, 13] (fun v => β1 = true → v = (Bo (inI z 1 16))),
    Fact.pure [13, 15] (fun v => v = (Bo (β1 && (inI z 1 16)))),
    Fact.pure [16] (fun v => v = (Bo (β1 && (inI z 1 16)))),
    Fact.pure [17] (fun v => (β1 && (inI z 1 16)) = true → v = (Iv x)),
    Fact.pure [17] (fun v => (β1 && (inI z 1 16)) = true → v = (Iv y)),
    Fact.pure [18, 19, 17] (fun v => (β1 && (inI z 1 16)) = true → v = (Iv (IntKind.i64.wrap (x * y)))),
    Fact.pure [17] (fun v => (β1 && (inI z 1 16)) = true → v = (Iv z)),
    Fact.pure [20, 21, 17] (fun v => (β1 && (inI z 1 16)) = true → v = (Iv (IntKind.i64.wrap ((IntKind.i64.wrap (x * y)) * z)))),
    Fact.pure [22, 17] (fun v => (β1 && (inI z 1 16)) = true → v = (Bo β2)),
    Fact.pure [17, 23] (fun v => v = (Bo β3))]) (by simp [Fact.pure, Fact.mem]) ?_
  refine RW_d _ rfl (fun v => by dsimp only [List.set]; try rfl) (fun u hu hF => ?_) (fun v3 => ?_)
  · clear hF
    refine doesG_un rfl ?_
    refine (does_move (u := (Iv x)) (ev rfl)).mono ?_; rintro _ _ ⟨rfl, rfl⟩
    exact ⟨rfl, Ext.refl _⟩
  refine RW_d _ rfl (fun v => by dsimp only [List.set]; try rfl) (fun u hu hF => ?_) (fun v4 => ?_)
  · have h7_ : v3 = (Iv x) := hF.1
    clear hF
    refine doesG_un rfl ?_
    obtain rfl := h7_
    refine (does_call (args := #[(Iv x), (Iv 1), (Iv 16)]) cal47 (evs rfl) (c_spec_l00In x 1 16 _)).mono ?_; rintro v u' ⟨hx, hv⟩
    exact ⟨hv, hx⟩
  refine RW_d _ rfl (fun v => by dsimp only [List.set]; try rfl) (fun u hu hF => ?_) (fun v5 => ?_)
  · have h8_ : v4 = (Bo (inI x 1 16)) := hF.1
    clear hF
    refine doesG_un rfl ?_
    obtain rfl := h8_
    refine (does_move (u := (Bo (inI x 1 16))) (ev rfl)).mono ?_; rintro _ _ ⟨rfl, rfl⟩
    exact ⟨rfl, Ext.refl _⟩
  refine RW_d _ rfl (fun v => by dsimp only [List.set]; try rfl) (fun u hu hF => ?_) (fun v6 => ?_)
  · have h9_ : v5 = (Bo (inI x 1 16)) := hF.1
    clear hF
    obtain rfl := h9_
    refine doesG_g (b := (inI x 1 16)) rfl (yld rfl rfl) (fun hg1 => ?_) (fun hc => ⟨fun hg1 => absurd hg1 hc, Ext.refl _⟩)
    refine (does_move (u := (Iv y)) (ev rfl)).mono ?_; rintro _ _ ⟨rfl, rfl⟩
    exact ⟨fun _ => rfl, Ext.refl _⟩
  refine RW_d _ rfl (fun v => by dsimp only [List.set]; try rfl) (fun u hu hF => ?_) (fun v7 => ?_)
  · have h10_ : (inI x 1 16) = true → v6 = (Iv y) := hF.1
    have h9_ : v5 = (Bo (inI x 1 16)) := hF.2.1
    clear hF
    obtain rfl := h9_
    refine doesG_g (b := (inI x 1 16)) rfl (yld rfl rfl) (fun hg1 => ?_) (fun hc => ⟨fun hg1 => absurd hg1 hc, Ext.refl _⟩)
    obtain rfl := h10_ hg1
    refine (does_call (args := #[(Iv y), (Iv 1), (Iv 16)]) cal47 (evs rfl) (c_spec_l00In y 1 16 _)).mono ?_; rintro v u' ⟨hx, hv⟩
    exact ⟨fun _ => hv, hx⟩
  refine RW_d _ rfl (fun v => by dsimp only [List.set]; try rfl) (fun u hu hF => ?_) (fun v8 => ?_)
  · have h9_ : v5 = (Bo (inI x 1 16)) := hF.1
    have h11_ : (inI x 1 16) = true → v7 = (Bo (inI y 1 16)) := hF.2.1
    clear hF
    refine doesG_un rfl ?_
    skip
    obtain rfl := h9_
    refine (does_pick (b := (inI x 1 16)) (u := v7) (v := (Bo false)) (ev rfl) (ev rfl) (ev rfl)).mono ?_; rintro _ _ ⟨rfl, rfl⟩; refine ⟨?_, Ext.refl _⟩; rw [hβ1]; skip
    cases hbb : (inI x 1 16)
    all_goals first | (show _ = _; simp only [↓reduceIte, Bool.true_and, Bool.false_and, Bool.true_or, Bool.false_or, Bool.false_eq_true]; done) | (have e_ := h11_ hbb; subst e_; show _ = _; simp only [↓reduceIte, Bool.true_and, Bool.false_and, Bool.true_or, Bool.false_or, Bool.false_eq_true]; done) | rfl | (have e_ := h11_ hbb; subst e_; rfl) | (simp [hbb] at h11_ ⊢; first | done | rfl | (subst h11_; rfl) | simp_all) | (simp [hbb] at h11_ ⊢; done)
  refine RW_d _ rfl (fun v => by dsimp only [List.set]; try rfl) (fun u hu hF => ?_) (fun v9 => ?_)
  · have h12_ : v8 = (Bo β1) := hF.1
    clear hF
    refine doesG_un rfl ?_
    obtain rfl := h12_
    refine (does_move (u := (Bo β1)) (ev rfl)).mono ?_; rintro _ _ ⟨rfl, rfl⟩
    exact ⟨rfl, Ext.refl _⟩
  refine RW_d _ rfl (fun v => by dsimp only [List.set]; try rfl) (fun u hu hF => ?_) (fun v10 => ?_)
  · have h13_ : v9 = (Bo β1) := hF.1
    clear hF
    obtain rfl := h13_
    refine doesG_g (b := β1) rfl (yld rfl rfl) (fun hg1 => ?_) (fun hc => ⟨fun hg1 => absurd hg1 hc, Ext.refl _⟩)
    refine (does_move (u := (Iv z)) (ev rfl)).mono ?_; rintro _ _ ⟨rfl, rfl⟩
    exact ⟨fun _ => rfl, Ext.refl _⟩
  refine RW_d _ rfl (fun v => by dsimp only [List.set]; try rfl) (fun u hu hF => ?_) (fun v11 => ?_)
  · have h14_ : β1 = true → v10 = (Iv z) := hF.1
    have h13_ : v9 = (Bo β1) := hF.2.1
    clear hF
    obtain rfl := h13_
    refine doesG_g (b := β1) rfl (yld rfl rfl) (fun hg1 => ?_) (fun hc => ⟨fun hg1 => absurd hg1 hc, Ext.refl _⟩)
    obtain rfl := h14_ hg1
    refine (does_call (args := #[(Iv z), (Iv 1), (Iv 16)]) cal47 (evs rfl) (c_spec_l00In z 1 16 _)).mono ?_; rintro v u' ⟨hx, hv⟩
    exact ⟨fun _ => hv, hx⟩
  refine RW_d _ rfl (fun v => by dsimp only [List.set]; try rfl) (fun u hu hF => ?_) (fun v12 => ?_)
  · have h13_ : v9 = (Bo β1) := hF.1
    have h15_ : β1 = true → v11 = (Bo (inI z 1 16)) := hF.2.1
    clear hF
    refine doesG_un rfl ?_
    skip
    obtain rfl := h13_
    refine (does_pick (b := β1) (u := v11) (v := (Bo false)) (ev rfl) (ev rfl) (ev rfl)).mono ?_; rintro _ _ ⟨rfl, rfl⟩; refine ⟨?_, Ext.refl _⟩; skip
    cases hbb : β1
    all_goals first | (show _ = _; simp only [↓reduceIte, Bool.true_and, Bool.false_and, Bool.true_or, Bool.false_or, Bool.false_eq_true]; done) | (have e_ := h15_ hbb; subst e_; show _ = _; simp only [↓reduceIte, Bool.true_and, Bool.false_and, Bool.true_or, Bool.false_or, Bool.false_eq_true]; done) | rfl | (have e_ := h15_ hbb; subst e_; rfl) | (simp [hbb] at h15_ ⊢; first | done | rfl | (subst h15_; rfl) | simp_all) | (simp [hbb] at h15_ ⊢; done)
  refine RW_d _ rfl (fun v => by dsimp only [List.set]; try rfl) (fun u hu hF => ?_) (fun v13 => ?_)
  · have h16_ : v12 = (Bo (β1 && (inI z 1 16))) := hF.1
    clear hF
    refine doesG_un rfl ?_
    obtain rfl := h16_
    refine (does_move (u := (Bo (β1 && (inI z 1 16)))) (ev rfl)).mono ?_; rintro _ _ ⟨rfl, rfl⟩
    exact ⟨rfl, Ext.refl _⟩
  refine RW_d _ rfl (fun v => by dsimp only [List.set]; try rfl) (fun u hu hF => ?_) (fun v14 => ?_)
  · have h17_ : v13 = (Bo (β1 && (inI z 1 16))) := hF.1
    clear hF
    obtain rfl := h17_
    refine doesG_g (b := (β1 && (inI z 1 16))) rfl (yld rfl rfl) (fun hg1 => ?_) (fun hc => ⟨fun hg1 => absurd hg1 hc, Ext.refl _⟩)
    refine (does_move (u := (Iv x)) (ev rfl)).mono ?_; rintro _ _ ⟨rfl, rfl⟩
    exact ⟨fun _ => rfl, Ext.refl _⟩
  refine RW_d _ rfl (fun v => by dsimp only [List.set]; try rfl) (fun u hu hF => ?_) (fun v15 => ?_)
  · have h17_ : v13 = (Bo (β1 && (inI z 1 16))) := hF.1
    clear hF
    obtain rfl := h17_
    refine doesG_g (b := (β1 && (inI z 1 16))) rfl (yld rfl rfl) (fun hg1 => ?_) (fun hc => ⟨fun hg1 => absurd hg1 hc, Ext.refl _⟩)
    refine (does_move (u := (Iv y)) (ev rfl)).mono ?_; rintro _ _ ⟨rfl, rfl⟩
    exact ⟨fun _ => rfl, Ext.refl _⟩
  refine RW_d _ rfl (fun v => by dsimp only [List.set]; try rfl) (fun u hu hF => ?_) (fun v16 => ?_)
  · have h18_ : (β1 && (inI z 1 16)) = true → v14 = (Iv x) := hF.1
    have h19_ : (β1 && (inI z 1 16)) = true → v15 = (Iv y) := hF.2.1
    have h17_ : v13 = (Bo (β1 && (inI z 1 16))) := hF.2.2.1
    clear hF
    obtain rfl := h17_
    refine doesG_g (b := (β1 && (inI z 1 16))) rfl (yld rfl rfl) (fun hg1 => ?_) (fun hc => ⟨fun hg1 => absurd hg1 hc, Ext.refl _⟩)
    obtain rfl := h18_ hg1
    obtain rfl := h19_ hg1
    refine (does_iarith (p := x) (q := y) (r := IntKind.i64.wrap (x * y)) (ev rfl) (ev rfl) (.inr (.inr ⟨rfl, rfl⟩))).mono ?_; rintro _ _ ⟨rfl, rfl⟩
    exact ⟨fun _ => rfl, Ext.refl _⟩
  refine RW_d _ rfl (fun v => by dsimp only [List.set]; try rfl) (fun u hu hF => ?_) (fun v17 => ?_)
  · have h17_ : v13 = (Bo (β1 && (inI z 1 16))) := hF.1
    clear hF
    obtain rfl := h17_
    refine doesG_g (b := (β1 && (inI z 1 16))) rfl (yld rfl rfl) (fun hg1 => ?_) (fun hc => ⟨fun hg1 => absurd hg1 hc, Ext.refl _⟩)
    refine (does_move (u := (Iv z)) (ev rfl)).mono ?_; rintro _ _ ⟨rfl, rfl⟩
    exact ⟨fun _ => rfl, Ext.refl _⟩
  refine RW_d _ rfl (fun v => by dsimp only [List.set]; try rfl) (fun u hu hF => ?_) (fun v18 => ?_)
  · have h20_ : (β1 && (inI z 1 16)) = true → v16 = (Iv (IntKind.i64.wrap (x * y))) := hF.1
    have h21_ : (β1 && (inI z 1 16)) = true → v17 = (Iv z) := hF.2.1
    have h17_ : v13 = (Bo (β1 && (inI z 1 16))) := hF.2.2.1
    clear hF
    obtain rfl := h17_
    refine doesG_g (b := (β1 && (inI z 1 16))) rfl (yld rfl rfl) (fun hg1 => ?_) (fun hc => ⟨fun hg1 => absurd hg1 hc, Ext.refl _⟩)
    obtain rfl := h20_ hg1
    obtain rfl := h21_ hg1
    refine (does_iarith (p := IntKind.i64.wrap (x * y)) (q := z) (r := IntKind.i64.wrap ((IntKind.i64.wrap (x * y)) * z)) (ev rfl) (ev rfl) (.inr (.inr ⟨rfl, rfl⟩))).mono ?_; rintro _ _ ⟨rfl, rfl⟩
    exact ⟨fun _ => rfl, Ext.refl _⟩
  refine RW_d _ rfl (fun v => by dsimp only [List.set]; try rfl) (fun u hu hF => ?_) (fun v19 => ?_)
  · have h22_ : (β1 && (inI z 1 16)) = true → v18 = (Iv (IntKind.i64.wrap ((IntKind.i64.wrap (x * y)) * z))) := hF.1
    have h17_ : v13 = (Bo (β1 && (inI z 1 16))) := hF.2.1
    clear hF
    obtain rfl := h17_
    refine doesG_g (b := (β1 && (inI z 1 16))) rfl (yld rfl rfl) (fun hg1 => ?_) (fun hc => ⟨fun hg1 => absurd hg1 hc, Ext.refl _⟩)
    obtain rfl := h22_ hg1
    refine (does_icmp (p := IntKind.i64.wrap ((IntKind.i64.wrap (x * y)) * z)) (q := 1024) (.inr (.inr (.inr (.inl rfl)))) (ev rfl) (ev rfl)).mono ?_; rintro _ _ ⟨rfl, rfl⟩
    exact ⟨fun _ => (by first | rfl | (show _ = _; simp only [hβ2]; done) | (show _ = _; simp only [hβ2]; rfl)), Ext.refl _⟩
  refine RW_d _ rfl (fun v => by dsimp only [List.set]; try rfl) (fun u hu hF => ?_) (fun v20 => ?_)
  · have h17_ : v13 = (Bo (β1 && (inI z 1 16))) := hF.1
    have h23_ : (β1 && (inI z 1 16)) = true → v19 = (Bo β2) := hF.2.1
    clear hF
    refine doesG_un rfl ?_
    skip
    obtain rfl := h17_
    refine (does_pick (b := (β1 && (inI z 1 16))) (u := v19) (v := (Bo false)) (ev rfl) (ev rfl) (ev rfl)).mono ?_; rintro _ _ ⟨rfl, rfl⟩; refine ⟨?_, Ext.refl _⟩; rw [hβ3]; skip
    cases hbb : (β1 && (inI z 1 16))
    all_goals first | (show _ = _; simp only [↓reduceIte, Bool.true_and, Bool.false_and, Bool.true_or, Bool.false_or, Bool.false_eq_true]; done) | (have e_ := h23_ hbb; subst e_; show _ = _; simp only [↓reduceIte, Bool.true_and, Bool.false_and, Bool.true_or, Bool.false_or, Bool.false_eq_true]; done) | rfl | (have e_ := h23_ hbb; subst e_; rfl) | (simp [hbb] at h23_ ⊢; first | done | rfl | (subst h23_; rfl) | simp_all) | (simp [hbb] at h23_ ⊢; done)
  refine RW_fin ?_; intro w21 E22 hP23
  obtain ⟨⟨⟨⟨⟨⟨⟨⟨⟨⟨⟨⟨⟨⟨⟨⟨⟨⟨-, -⟩, -⟩, -⟩, -⟩, -⟩, -⟩, -⟩, -⟩, -⟩, -⟩, -⟩, -⟩, -⟩, -⟩, -⟩, -⟩, -⟩, q24⟩ := hP23
  have X25 := Ext.gr (Ext.refl w) E22
  have q24 : v20 = (Bo β3) := q24
  obtain rfl := q24
  show wpList _ _ _ _ (fr [_, _, _, _, _, _, _, _, _, _, _, _, _, _, _, _, _, _, _, _, _, _, _, _, _]) _
  refine q_is rfl rfl (does_assign (u := (Bo β3)) (ev rfl)) (by dsimp only [List.set]; try rfl) ?_
  refine wpList_nil (hK2 _ _ ?_)
  refine wp_ret ?_
  refine ret_val (v := (Bo β3)) (res_T rfl (slot rfl)) X25 ?_
  have x26 : (cntOk x y z) = β3 := by first | with_reducible rfl | (simp only [cntOk, prod3, hβ1, hβ2, hβ3]; done) | (simp [cntOk, prod3, hβ1, hβ2, hβ3]; done) | rfl
  exact (by first | with_reducible rfl | rw [x26] | rfl)

/- spec.l06Is -/
theorem c_spec_l06Is (g_b : Nat) (g_o : Nat) (g : List Value) (A_g : GridT) (w : World) (hc_g : Cells w g_b g_o g) (hv_g : RGridT w A_g g) : Gives Try.prog 35 #[(Pt g_b g_o)] w (fun v w' => v = (Bo (isGrid A_g))) := by
  obtain ⟨r1, r3, r5, r7, y9, rfl, h2, h4, h6, h8, h10⟩ := hv_g
  have hs13 := h10; have hs13l := Sl.len h10; obtain ⟨p11, q12, rfl⟩ := Sl.shape h10
  refine enter [(Pt g_b g_o), Ud, Ud, Ud, Ud, Ud, Ud, Ud, Ud, Ud, Ud, Ud, Ud, Ud, Ud, Ud, Ud, Ud, Ud, Ud, Ud, Ud, Ud, Ud, Ud, Ud, Ud, Ud, Ud, Ud, Ud, Ud, Ud, Ud, Ud, Ud, Ud, Ud, Ud, Ud, Ud, Ud, Ud, Ud, Ud, Ud, Ud, Ud, Ud, Ud, Ud, Ud, Ud, Ud, Ud, Ud, Ud, Ud, Ud] Try.func35 rfl Try.ntmps35 rfl ?_
  refine wp_seq_k fun K14 hK14 => ?_
  refine wp_region_lit ?_
  refine q_is rfl rfl (does_assign (u := (Bo false)) (ev rfl)) (by dsimp only [List.set]; try rfl) ?_
  refine wpList_nil (hK14 _ _ ?_)
  refine wp_seq_k fun K15 hK15 => ?_
  obtain ⟨β1, hβ1⟩ : ∃ b : Bool, b = ((finV A_g.low) && (finF (cf .f32 r7))) := ⟨_, rfl⟩
  obtain ⟨β2, hβ2⟩ : ∃ b : Bool, b = (fcmp .gtr (ford .f32 (cf .f32 r7) (cf .f32 0))) := ⟨_, rfl⟩
  obtain ⟨β3, hβ3⟩ : ∃ b : Bool, b = ((β1 && β2) && (cntOk A_g.x A_g.y A_g.z)) := ⟨_, rfl⟩
  obtain ⟨β4, hβ4⟩ : ∃ b : Bool, b = (icmp .eql (A_g.vals.length : Int) (IntKind.i64.wrap ((IntKind.i64.wrap (A_g.x * A_g.y)) * A_g.z))) := ⟨_, rfl⟩
  refine region_draw (
    [Fact.pure [] (fun v => v = (Pt g_b g_o)),
    Fact.pure [3] (fun v => v = (Pt g_b g_o)),
    Fact.pure [4] (fun v => v = (Pt g_b g_o)),
    Fact.pure [5] (fun v => v = (.agg #[(Fl r1), (Fl r3), (Fl r5)])),
    Fact.pure [6] (fun v => v = (Bo (finV A_g.low))),
    Fact.pure [7] (fun v => v = (Bo (finV A_g.low))),
    Fact.pure [8] (fun v => (finV A_g.low) = true → v = (Pt g_b g_o)),
    Fact.pure [9, 8] (fun v => (finV A_g.low) = true → v = (Pt g_b g_o)),
    Fact.pure [10, 8] (fun v => (finV A_g.low) = true → v = (Pt g_b (g_o + 3))),
    Fact.pure [11, 8] (fun v => (finV A_g.low) = true → v = (Fl r7)),
    Fact.pure [12, 8] (fun v => (finV A_g.low) = true → v = (Bo (finF (cf .f32 r7)))),
    Fact.pure [8, 13] (fun v => v = (Bo β1)),
    Fact.pure [14] (fun v => v = (Bo β1)),
    Fact.pure [15] (fun v => β1 = true → v = (Pt g_b g_o)),
    Fact.pure [16, 15] (fun v => β1 = true → v = (Pt g_b g_o)),
    Fact.pure [17, 15] (fun v => β1 = true → v = (Pt g_b (g_o + 3))),
    Fact.pure [18, 15] (fun v => β1 = true → v = (Fl r7)),
    Fact.pure [19, 15] (fun v => β1 = true → v = (Bo β2)),
    Fact.pure [15, 20] (fun v => v = (Bo (β1 && β2))),
    Fact.pure [21] (fun v => v = (Bo (β1 && β2))),
    Fact.pure [22] (fun v => (β1 && β2) = true → v = (Pt g_b g_o)),
    Fact.pure [23, 22] (fun v => (β1 && β2) = true → v = (Pt g_b g_o)),
    Fact.pure [24, 22] (fun v => (β1 && β2) = true → v = (Pt g_b (g_o + 4))),
    Fact.pure [25, 22] (fun v => (β1 && β2) = true → v = (Iv A_g.x)),
    Fact.pure [22] (fun v => (β1 && β2) = true → v = (Pt g_b g_o)),
    Fact.pure [27, 22] (fun v => (β1 && β2) = true → v = (Pt g_b g_o)),
    Fact.pure [28, 22] (fun v => (β1 && β2) = true → v = (Pt g_b (g_o + 5))),
    Fact.pure [29, 22] (fun v => (β1 && β2) = true → v = (Iv A_g.y)),
    Fact.pure [22] (fun v => (β1 && β2) = true → v = (Pt g_b g_o)),
    Fact.pure [31, 22] (fun v => (β1 && β2) = true → v = (Pt g_b g_o)),
    Fact.pure [32, 22] (fun v => (β1 && β2) = true → v = (Pt g_b (g_o + 6))),
    Fact.pure [33, 22] (fun v => (β1 && β2) = true → v = (Iv A_g.z)),
    Fact.pure [26, 30, 34, 22] (fun v => (β1 && β2) = true → v = (Bo (cntOk A_g.x A_g.y A_g.z))),
    Fact.pure [22, 35] (fun v => v = (Bo β3)),
    Fact.pure [36] (fun v => v = (Bo β3)),
    Fact.pure [37] (fun v => β3 = true → v = (Pt g_b g_o)),
    Fact.pure [38, 37] (fun v => β3 = true → v = (Pt g_b g_o)),
    Fact.pure [39, 37] (fun v => β3 = true → v = (Pt g_b (g_o + 7))),
    Fact.pure [40, 37] (fun v => β3 = true → v = (.slice p11 A_g.vals.length q12)),
    Fact.pure [41, 37] (fun v => β3 = true → v = (Iv (A_g.vals.length : Int))),
    Fact.pure [37] (fun v => β3 = true → v = (Pt g_b g_o)),
    Fact.pure [43, 37] (fun v => β3 = true → v = (Pt g_b g_o)),
    Fact.pure [44, 37] (fun v => β3 = true → v = (Pt g_b (g_o + 4))),
    Fact.pure [45, 37] (fun v => β3 = true → v = (Iv A_g.x)),
    Fact.pure [37] (fun v => β3 = true → v = (Pt g_b g_o)),
    Fact.pure [47, 37] (fun v => β3 = true → v = (Pt g_b g_o)),
    Fact.pure [48, 37] (fun v => β3 = true → v = (Pt g_b (g_o + 5))),
    Fact.pure [49, 37] (fun v => β3 = true → v = (Iv A_g.y)),
    Fact.pure [46, 50, 37] (fun v => β3 = true → v = (Iv (IntKind.i64.wrap (A_g.x * A_g.y)))),
    Fact.pure [37] (fun v => β3 = true → v = (Pt g_b g_o)),
    Fact.pure [52, 37] (fun v => β3 = true → v = (Pt g_b g_o)),
    Fact.pure [53, 37] (fun v => β3 = true → v = (Pt g_b (g_o + 6))),
    Fact.pure [54, 37] (fun v => β3 = true → v = (Iv A_g.z)),
    Fact.pure [51, 55, 37] (fun v => β3 = true → v = (Iv (IntKind.i64.wrap ((IntKind.i64.wrap (A_g.x * A_g.y)) * A_g.z)))),
    Fact.pure [42, 56, 37] (fun v => β3 = true → v = (Bo β4)),
    Fact.pure [37, 57] (fun v => v = (Bo (β3 && β4)))]) mixed (by kernel_rfl) (by intro _ _ d _ _ h; cases d <;> exact h) ?_
  obtain ⟨w16, hw18⟩ : ∃ w', w' = World.drew w := ⟨_, rfl⟩; rw [← hw18]; have E17 : Ext w w16 := by rw [hw18]; exact Ext.draw _
  clear hw18
  have X19 := Ext.gr (Ext.refl w) E17
  refine RW_d _ rfl (fun v => by dsimp only [List.set]; try rfl) (fun u hu hF => ?_) (fun v20 => ?_)
  · clear hF
    refine doesG_un rfl ?_
    refine (does_move (u := (Pt g_b g_o)) (ev rfl)).mono ?_; rintro _ _ ⟨rfl, rfl⟩
    exact ⟨rfl, Ext.refl _⟩
  refine RW_d _ rfl (fun v => by dsimp only [List.set]; try rfl) (fun u hu hF => ?_) (fun v21 => ?_)
  · have h3_ : v20 = (Pt g_b g_o) := hF.1
    clear hF
    refine doesG_un rfl ?_
    obtain rfl := h3_
    refine (does_nilCheck (ev rfl)).mono ?_; rintro _ _ ⟨rfl, rfl⟩
    exact ⟨rfl, Ext.refl _⟩
  refine RW_d _ rfl (fun v => by dsimp only [List.set]; try rfl) (fun u hu hF => ?_) (fun v22 => ?_)
  · have h4_ : v21 = (Pt g_b g_o) := hF.1
    clear hF
    refine doesG_un rfl ?_
    obtain rfl := h4_
    refine (does_fieldAddr (ev rfl) fa49_0).mono ?_; rintro _ _ ⟨rfl, rfl⟩
    exact ⟨rfl, Ext.refl _⟩
  refine RW_d _ rfl (fun v => by dsimp only [List.set]; try rfl) (fun u hu hF => ?_) (fun v23 => ?_)
  · have h5_ : v22 = (Pt g_b g_o) := hF.1
    clear hF
    refine doesG_un rfl ?_
    obtain rfl := h5_
    refine (does_loadAgg (cs := [(Fl r1), (Fl r3), (Fl r5)]) (ev rfl) Try.isAgg47 Try.sizeOf47 (Cells.sub ((hc_g.ext (Ext.gr (Ext.refl w) E17)).ext hu) 0 3) rfl).mono ?_; rintro _ _ ⟨rfl, rfl⟩
    exact ⟨rfl, Ext.refl _⟩
  refine RW_d _ rfl (fun v => by dsimp only [List.set]; try rfl) (fun u hu hF => ?_) (fun v24 => ?_)
  · have h6_ : v23 = (.agg #[(Fl r1), (Fl r3), (Fl r5)]) := hF.1
    clear hF
    refine doesG_un rfl ?_
    obtain rfl := h6_
    refine (does_call (args := #[(.agg #[(Fl r1), (Fl r3), (Fl r5)])]) cal53 (evs rfl) (c_spec_l01VFinite [(Fl r1), (Fl r3), (Fl r5)] A_g.low _ ⟨r1, r3, r5, rfl, h2, h4, h6⟩)).mono ?_; rintro v u' ⟨hx, hv⟩
    exact ⟨hv, hx⟩
  refine RW_d _ rfl (fun v => by dsimp only [List.set]; try rfl) (fun u hu hF => ?_) (fun v25 => ?_)
  · have h7_ : v24 = (Bo (finV A_g.low)) := hF.1
    clear hF
    refine doesG_un rfl ?_
    obtain rfl := h7_
    refine (does_move (u := (Bo (finV A_g.low))) (ev rfl)).mono ?_; rintro _ _ ⟨rfl, rfl⟩
    exact ⟨rfl, Ext.refl _⟩
  refine RW_d _ rfl (fun v => by dsimp only [List.set]; try rfl) (fun u hu hF => ?_) (fun v26 => ?_)
  · have h8_ : v25 = (Bo (finV A_g.low)) := hF.1
    clear hF
    obtain rfl := h8_
    refine doesG_g (b := (finV A_g.low)) rfl (yld rfl rfl) (fun hg1 => ?_) (fun hc => ⟨fun hg1 => absurd hg1 hc, Ext.refl _⟩)
    refine (does_move (u := (Pt g_b g_o)) (ev rfl)).mono ?_; rintro _ _ ⟨rfl, rfl⟩
    exact ⟨fun _ => rfl, Ext.refl _⟩
  refine RW_d _ rfl (fun v => by dsimp only [List.set]; try rfl) (fun u hu hF => ?_) (fun v27 => ?_)
  · have h9_ : (finV A_g.low) = true → v26 = (Pt g_b g_o) := hF.1
    have h8_ : v25 = (Bo (finV A_g.low)) := hF.2.1
    clear hF
    obtain rfl := h8_
    refine doesG_g (b := (finV A_g.low)) rfl (yld rfl rfl) (fun hg1 => ?_) (fun hc => ⟨fun hg1 => absurd hg1 hc, Ext.refl _⟩)
    obtain rfl := h9_ hg1
    refine (does_nilCheck (ev rfl)).mono ?_; rintro _ _ ⟨rfl, rfl⟩
    exact ⟨fun _ => rfl, Ext.refl _⟩
  refine RW_d _ rfl (fun v => by dsimp only [List.set]; try rfl) (fun u hu hF => ?_) (fun v28 => ?_)
  · have h10_ : (finV A_g.low) = true → v27 = (Pt g_b g_o) := hF.1
    have h8_ : v25 = (Bo (finV A_g.low)) := hF.2.1
    clear hF
    obtain rfl := h8_
    refine doesG_g (b := (finV A_g.low)) rfl (yld rfl rfl) (fun hg1 => ?_) (fun hc => ⟨fun hg1 => absurd hg1 hc, Ext.refl _⟩)
    obtain rfl := h10_ hg1
    refine (does_fieldAddr (ev rfl) fa49_1).mono ?_; rintro _ _ ⟨rfl, rfl⟩
    exact ⟨fun _ => rfl, Ext.refl _⟩
  refine RW_d _ rfl (fun v => by dsimp only [List.set]; try rfl) (fun u hu hF => ?_) (fun v29 => ?_)
  · have h11_ : (finV A_g.low) = true → v28 = (Pt g_b (g_o + 3)) := hF.1
    have h8_ : v25 = (Bo (finV A_g.low)) := hF.2.1
    clear hF
    obtain rfl := h8_
    refine doesG_g (b := (finV A_g.low)) rfl (yld rfl rfl) (fun hg1 => ?_) (fun hc => ⟨fun hg1 => absurd hg1 hc, Ext.refl _⟩)
    obtain rfl := h11_ hg1
    refine (does_load (u := (Fl r7)) (ev rfl) Try.isAgg39 (Cells.at ((hc_g.ext (Ext.gr (Ext.refl w) E17)).ext hu) 3 rfl)).mono ?_; rintro _ _ ⟨rfl, rfl⟩
    exact ⟨fun _ => rfl, Ext.refl _⟩
  refine RW_d _ rfl (fun v => by dsimp only [List.set]; try rfl) (fun u hu hF => ?_) (fun v30 => ?_)
  · have h12_ : (finV A_g.low) = true → v29 = (Fl r7) := hF.1
    have h8_ : v25 = (Bo (finV A_g.low)) := hF.2.1
    clear hF
    obtain rfl := h8_
    refine doesG_g (b := (finV A_g.low)) rfl (yld rfl rfl) (fun hg1 => ?_) (fun hc => ⟨fun hg1 => absurd hg1 hc, Ext.refl _⟩)
    obtain rfl := h12_ hg1
    refine (does_call (args := #[(Fl r7)]) cal54 (evs rfl) (c_spec_l01Finite r7 _)).mono ?_; rintro v u' ⟨hx, hv⟩
    exact ⟨fun _ => hv, hx⟩
  refine RW_d _ rfl (fun v => by dsimp only [List.set]; try rfl) (fun u hu hF => ?_) (fun v31 => ?_)
  · have h8_ : v25 = (Bo (finV A_g.low)) := hF.1
    have h13_ : (finV A_g.low) = true → v30 = (Bo (finF (cf .f32 r7))) := hF.2.1
    clear hF
    refine doesG_un rfl ?_
    skip
    obtain rfl := h8_
    refine (does_pick (b := (finV A_g.low)) (u := v30) (v := (Bo false)) (ev rfl) (ev rfl) (ev rfl)).mono ?_; rintro _ _ ⟨rfl, rfl⟩; refine ⟨?_, Ext.refl _⟩; rw [hβ1]; skip
    cases hbb : (finV A_g.low)
    all_goals first | (show _ = _; simp only [↓reduceIte, Bool.true_and, Bool.false_and, Bool.true_or, Bool.false_or, Bool.false_eq_true]; done) | (have e_ := h13_ hbb; subst e_; show _ = _; simp only [↓reduceIte, Bool.true_and, Bool.false_and, Bool.true_or, Bool.false_or, Bool.false_eq_true]; done) | rfl | (have e_ := h13_ hbb; subst e_; rfl) | (simp [hbb] at h13_ ⊢; first | done | rfl | (subst h13_; rfl) | simp_all) | (simp [hbb] at h13_ ⊢; done)
  refine RW_d _ rfl (fun v => by dsimp only [List.set]; try rfl) (fun u hu hF => ?_) (fun v32 => ?_)
  · have h14_ : v31 = (Bo β1) := hF.1
    clear hF
    refine doesG_un rfl ?_
    obtain rfl := h14_
    refine (does_move (u := (Bo β1)) (ev rfl)).mono ?_; rintro _ _ ⟨rfl, rfl⟩
    exact ⟨rfl, Ext.refl _⟩
  refine RW_d _ rfl (fun v => by dsimp only [List.set]; try rfl) (fun u hu hF => ?_) (fun v33 => ?_)
  · have h15_ : v32 = (Bo β1) := hF.1
    clear hF
    obtain rfl := h15_
    refine doesG_g (b := β1) rfl (yld rfl rfl) (fun hg1 => ?_) (fun hc => ⟨fun hg1 => absurd hg1 hc, Ext.refl _⟩)
    refine (does_move (u := (Pt g_b g_o)) (ev rfl)).mono ?_; rintro _ _ ⟨rfl, rfl⟩
    exact ⟨fun _ => rfl, Ext.refl _⟩
  refine RW_d _ rfl (fun v => by dsimp only [List.set]; try rfl) (fun u hu hF => ?_) (fun v34 => ?_)
  · have h16_ : β1 = true → v33 = (Pt g_b g_o) := hF.1
    have h15_ : v32 = (Bo β1) := hF.2.1
    clear hF
    obtain rfl := h15_
    refine doesG_g (b := β1) rfl (yld rfl rfl) (fun hg1 => ?_) (fun hc => ⟨fun hg1 => absurd hg1 hc, Ext.refl _⟩)
    obtain rfl := h16_ hg1
    refine (does_nilCheck (ev rfl)).mono ?_; rintro _ _ ⟨rfl, rfl⟩
    exact ⟨fun _ => rfl, Ext.refl _⟩
  refine RW_d _ rfl (fun v => by dsimp only [List.set]; try rfl) (fun u hu hF => ?_) (fun v35 => ?_)
  · have h17_ : β1 = true → v34 = (Pt g_b g_o) := hF.1
    have h15_ : v32 = (Bo β1) := hF.2.1
    clear hF
    obtain rfl := h15_
    refine doesG_g (b := β1) rfl (yld rfl rfl) (fun hg1 => ?_) (fun hc => ⟨fun hg1 => absurd hg1 hc, Ext.refl _⟩)
    obtain rfl := h17_ hg1
    refine (does_fieldAddr (ev rfl) fa49_1).mono ?_; rintro _ _ ⟨rfl, rfl⟩
    exact ⟨fun _ => rfl, Ext.refl _⟩
  refine RW_d _ rfl (fun v => by dsimp only [List.set]; try rfl) (fun u hu hF => ?_) (fun v36 => ?_)
  · have h18_ : β1 = true → v35 = (Pt g_b (g_o + 3)) := hF.1
    have h15_ : v32 = (Bo β1) := hF.2.1
    clear hF
    obtain rfl := h15_
    refine doesG_g (b := β1) rfl (yld rfl rfl) (fun hg1 => ?_) (fun hc => ⟨fun hg1 => absurd hg1 hc, Ext.refl _⟩)
    obtain rfl := h18_ hg1
    refine (does_load (u := (Fl r7)) (ev rfl) Try.isAgg39 (Cells.at ((hc_g.ext (Ext.gr (Ext.refl w) E17)).ext hu) 3 rfl)).mono ?_; rintro _ _ ⟨rfl, rfl⟩
    exact ⟨fun _ => rfl, Ext.refl _⟩
  refine RW_d _ rfl (fun v => by dsimp only [List.set]; try rfl) (fun u hu hF => ?_) (fun v37 => ?_)
  · have h19_ : β1 = true → v36 = (Fl r7) := hF.1
    have h15_ : v32 = (Bo β1) := hF.2.1
    clear hF
    obtain rfl := h15_
    refine doesG_g (b := β1) rfl (yld rfl rfl) (fun hg1 => ?_) (fun hc => ⟨fun hg1 => absurd hg1 hc, Ext.refl _⟩)
    obtain rfl := h19_ hg1
    refine (does_fcmp (.inr (.inr (.inr (.inr (.inl rfl))))) (ev rfl) (ev rfl)).mono ?_; rintro _ _ ⟨rfl, rfl⟩
    exact ⟨fun _ => (by first | rfl | (show _ = _; simp only [hβ2]; done) | (show _ = _; simp only [hβ2]; rfl)), Ext.refl _⟩
  refine RW_d _ rfl (fun v => by dsimp only [List.set]; try rfl) (fun u hu hF => ?_) (fun v38 => ?_)
  · have h15_ : v32 = (Bo β1) := hF.1
    have h20_ : β1 = true → v37 = (Bo β2) := hF.2.1
    clear hF
    refine doesG_un rfl ?_
    skip
    obtain rfl := h15_
    refine (does_pick (b := β1) (u := v37) (v := (Bo false)) (ev rfl) (ev rfl) (ev rfl)).mono ?_; rintro _ _ ⟨rfl, rfl⟩; refine ⟨?_, Ext.refl _⟩; skip
    cases hbb : β1
    all_goals first | (show _ = _; simp only [↓reduceIte, Bool.true_and, Bool.false_and, Bool.true_or, Bool.false_or, Bool.false_eq_true]; done) | (have e_ := h20_ hbb; subst e_; show _ = _; simp only [↓reduceIte, Bool.true_and, Bool.false_and, Bool.true_or, Bool.false_or, Bool.false_eq_true]; done) | rfl | (have e_ := h20_ hbb; subst e_; rfl) | (simp [hbb] at h20_ ⊢; first | done | rfl | (subst h20_; rfl) | simp_all) | (simp [hbb] at h20_ ⊢; done)
  refine RW_d _ rfl (fun v => by dsimp only [List.set]; try rfl) (fun u hu hF => ?_) (fun v39 => ?_)
  · have h21_ : v38 = (Bo (β1 && β2)) := hF.1
    clear hF
    refine doesG_un rfl ?_
    obtain rfl := h21_
    refine (does_move (u := (Bo (β1 && β2))) (ev rfl)).mono ?_; rintro _ _ ⟨rfl, rfl⟩
    exact ⟨rfl, Ext.refl _⟩
  refine RW_d _ rfl (fun v => by dsimp only [List.set]; try rfl) (fun u hu hF => ?_) (fun v40 => ?_)
  · have h22_ : v39 = (Bo (β1 && β2)) := hF.1
    clear hF
    obtain rfl := h22_
    refine doesG_g (b := (β1 && β2)) rfl (yld rfl rfl) (fun hg1 => ?_) (fun hc => ⟨fun hg1 => absurd hg1 hc, Ext.refl _⟩)
    refine (does_move (u := (Pt g_b g_o)) (ev rfl)).mono ?_; rintro _ _ ⟨rfl, rfl⟩
    exact ⟨fun _ => rfl, Ext.refl _⟩
  refine RW_d _ rfl (fun v => by dsimp only [List.set]; try rfl) (fun u hu hF => ?_) (fun v41 => ?_)
  · have h23_ : (β1 && β2) = true → v40 = (Pt g_b g_o) := hF.1
    have h22_ : v39 = (Bo (β1 && β2)) := hF.2.1
    clear hF
    obtain rfl := h22_
    refine doesG_g (b := (β1 && β2)) rfl (yld rfl rfl) (fun hg1 => ?_) (fun hc => ⟨fun hg1 => absurd hg1 hc, Ext.refl _⟩)
    obtain rfl := h23_ hg1
    refine (does_nilCheck (ev rfl)).mono ?_; rintro _ _ ⟨rfl, rfl⟩
    exact ⟨fun _ => rfl, Ext.refl _⟩
  refine RW_d _ rfl (fun v => by dsimp only [List.set]; try rfl) (fun u hu hF => ?_) (fun v42 => ?_)
  · have h24_ : (β1 && β2) = true → v41 = (Pt g_b g_o) := hF.1
    have h22_ : v39 = (Bo (β1 && β2)) := hF.2.1
    clear hF
    obtain rfl := h22_
    refine doesG_g (b := (β1 && β2)) rfl (yld rfl rfl) (fun hg1 => ?_) (fun hc => ⟨fun hg1 => absurd hg1 hc, Ext.refl _⟩)
    obtain rfl := h24_ hg1
    refine (does_fieldAddr (ev rfl) fa49_2).mono ?_; rintro _ _ ⟨rfl, rfl⟩
    exact ⟨fun _ => rfl, Ext.refl _⟩
  refine RW_d _ rfl (fun v => by dsimp only [List.set]; try rfl) (fun u hu hF => ?_) (fun v43 => ?_)
  · have h25_ : (β1 && β2) = true → v42 = (Pt g_b (g_o + 4)) := hF.1
    have h22_ : v39 = (Bo (β1 && β2)) := hF.2.1
    clear hF
    obtain rfl := h22_
    refine doesG_g (b := (β1 && β2)) rfl (yld rfl rfl) (fun hg1 => ?_) (fun hc => ⟨fun hg1 => absurd hg1 hc, Ext.refl _⟩)
    obtain rfl := h25_ hg1
    refine (does_load (u := (Iv A_g.x)) (ev rfl) Try.isAgg2 (Cells.at ((hc_g.ext (Ext.gr (Ext.refl w) E17)).ext hu) 4 rfl)).mono ?_; rintro _ _ ⟨rfl, rfl⟩
    exact ⟨fun _ => rfl, Ext.refl _⟩
  refine RW_d _ rfl (fun v => by dsimp only [List.set]; try rfl) (fun u hu hF => ?_) (fun v44 => ?_)
  · have h22_ : v39 = (Bo (β1 && β2)) := hF.1
    clear hF
    obtain rfl := h22_
    refine doesG_g (b := (β1 && β2)) rfl (yld rfl rfl) (fun hg1 => ?_) (fun hc => ⟨fun hg1 => absurd hg1 hc, Ext.refl _⟩)
    refine (does_move (u := (Pt g_b g_o)) (ev rfl)).mono ?_; rintro _ _ ⟨rfl, rfl⟩
    exact ⟨fun _ => rfl, Ext.refl _⟩
  refine RW_d _ rfl (fun v => by dsimp only [List.set]; try rfl) (fun u hu hF => ?_) (fun v45 => ?_)
  · have h27_ : (β1 && β2) = true → v44 = (Pt g_b g_o) := hF.1
    have h22_ : v39 = (Bo (β1 && β2)) := hF.2.1
    clear hF
    obtain rfl := h22_
    refine doesG_g (b := (β1 && β2)) rfl (yld rfl rfl) (fun hg1 => ?_) (fun hc => ⟨fun hg1 => absurd hg1 hc, Ext.refl _⟩)
    obtain rfl := h27_ hg1
    refine (does_nilCheck (ev rfl)).mono ?_; rintro _ _ ⟨rfl, rfl⟩
    exact ⟨fun _ => rfl, Ext.refl _⟩
  refine RW_d _ rfl (fun v => by dsimp only [List.set]; try rfl) (fun u hu hF => ?_) (fun v46 => ?_)
  · have h28_ : (β1 && β2) = true → v45 = (Pt g_b g_o) := hF.1
    have h22_ : v39 = (Bo (β1 && β2)) := hF.2.1
    clear hF
    obtain rfl := h22_
    refine doesG_g (b := (β1 && β2)) rfl (yld rfl rfl) (fun hg1 => ?_) (fun hc => ⟨fun hg1 => absurd hg1 hc, Ext.refl _⟩)
    obtain rfl := h28_ hg1
    refine (does_fieldAddr (ev rfl) fa49_3).mono ?_; rintro _ _ ⟨rfl, rfl⟩
    exact ⟨fun _ => rfl, Ext.refl _⟩
  refine RW_d _ rfl (fun v => by dsimp only [List.set]; try rfl) (fun u hu hF => ?_) (fun v47 => ?_)
  · have h29_ : (β1 && β2) = true → v46 = (Pt g_b (g_o + 5)) := hF.1
    have h22_ : v39 = (Bo (β1 && β2)) := hF.2.1
    clear hF
    obtain rfl := h22_
    refine doesG_g (b := (β1 && β2)) rfl (yld rfl rfl) (fun hg1 => ?_) (fun hc => ⟨fun hg1 => absurd hg1 hc, Ext.refl _⟩)
    obtain rfl := h29_ hg1
    refine (does_load (u := (Iv A_g.y)) (ev rfl) Try.isAgg2 (Cells.at ((hc_g.ext (Ext.gr (Ext.refl w) E17)).ext hu) 5 rfl)).mono ?_; rintro _ _ ⟨rfl, rfl⟩
    exact ⟨fun _ => rfl, Ext.refl _⟩
  refine RW_d _ rfl (fun v => by dsimp only [List.set]; try rfl) (fun u hu hF => ?_) (fun v48 => ?_)
  · have h22_ : v39 = (Bo (β1 && β2)) := hF.1
    clear hF
    obtain rfl := h22_
    refine doesG_g (b := (β1 && β2)) rfl (yld rfl rfl) (fun hg1 => ?_) (fun hc => ⟨fun hg1 => absurd hg1 hc, Ext.refl _⟩)
    refine (does_move (u := (Pt g_b g_o)) (ev rfl)).mono ?_; rintro _ _ ⟨rfl, rfl⟩
    exact ⟨fun _ => rfl, Ext.refl _⟩
  refine RW_d _ rfl (fun v => by dsimp only [List.set]; try rfl) (fun u hu hF => ?_) (fun v49 => ?_)
  · have h31_ : (β1 && β2) = true → v48 = (Pt g_b g_o) := hF.1
    have h22_ : v39 = (Bo (β1 && β2)) := hF.2.1
    clear hF
    obtain rfl := h22_
    refine doesG_g (b := (β1 && β2)) rfl (yld rfl rfl) (fun hg1 => ?_) (fun hc => ⟨fun hg1 => absurd hg1 hc, Ext.refl _⟩)
    obtain rfl := h31_ hg1
    refine (does_nilCheck (ev rfl)).mono ?_; rintro _ _ ⟨rfl, rfl⟩
    exact ⟨fun _ => rfl, Ext.refl _⟩
  refine RW_d _ rfl (fun v => by dsimp only [List.set]; try rfl) (fun u hu hF => ?_) (fun v50 => ?_)
  · have h32_ : (β1 && β2) = true → v49 = (Pt g_b g_o) := hF.1
    have h22_ : v39 = (Bo (β1 && β2)) := hF.2.1
    clear hF
    obtain rfl := h22_
    refine doesG_g (b := (β1 && β2)) rfl (yld rfl rfl) (fun hg1 => ?_) (fun hc => ⟨fun hg1 => absurd hg1 hc, Ext.refl _⟩)
    obtain rfl := h32_ hg1
    refine (does_fieldAddr (ev rfl) fa49_4).mono ?_; rintro _ _ ⟨rfl, rfl⟩
    exact ⟨fun _ => rfl, Ext.refl _⟩
  refine RW_d _ rfl (fun v => by dsimp only [List.set]; try rfl) (fun u hu hF => ?_) (fun v51 => ?_)
  · have h33_ : (β1 && β2) = true → v50 = (Pt g_b (g_o + 6)) := hF.1
    have h22_ : v39 = (Bo (β1 && β2)) := hF.2.1
    clear hF
    obtain rfl := h22_
    refine doesG_g (b := (β1 && β2)) rfl (yld rfl rfl) (fun hg1 => ?_) (fun hc => ⟨fun hg1 => absurd hg1 hc, Ext.refl _⟩)
    obtain rfl := h33_ hg1
    refine (does_load (u := (Iv A_g.z)) (ev rfl) Try.isAgg2 (Cells.at ((hc_g.ext (Ext.gr (Ext.refl w) E17)).ext hu) 6 rfl)).mono ?_; rintro _ _ ⟨rfl, rfl⟩
    exact ⟨fun _ => rfl, Ext.refl _⟩
  refine RW_d _ rfl (fun v => by dsimp only [List.set]; try rfl) (fun u hu hF => ?_) (fun v52 => ?_)
  · have h26_ : (β1 && β2) = true → v43 = (Iv A_g.x) := hF.1
    have h30_ : (β1 && β2) = true → v47 = (Iv A_g.y) := hF.2.1
    have h34_ : (β1 && β2) = true → v51 = (Iv A_g.z) := hF.2.2.1
    have h22_ : v39 = (Bo (β1 && β2)) := hF.2.2.2.1
    clear hF
    obtain rfl := h22_
    refine doesG_g (b := (β1 && β2)) rfl (yld rfl rfl) (fun hg1 => ?_) (fun hc => ⟨fun hg1 => absurd hg1 hc, Ext.refl _⟩)
    obtain rfl := h26_ hg1
    obtain rfl := h30_ hg1
    obtain rfl := h34_ hg1
    refine (does_call (args := #[(Iv A_g.x), (Iv A_g.y), (Iv A_g.z)]) cal55 (evs rfl) (c_spec_l06Counts A_g.x A_g.y A_g.z _)).mono ?_; rintro v u' ⟨hx, hv⟩
    exact ⟨fun _ => hv, hx⟩
  refine RW_d _ rfl (fun v => by dsimp only [List.set]; try rfl) (fun u hu hF => ?_) (fun v53 => ?_)
  · have h22_ : v39 = (Bo (β1 && β2)) := hF.1
    have h35_ : (β1 && β2) = true → v52 = (Bo (cntOk A_g.x A_g.y A_g.z)) := hF.2.1
    clear hF
    refine doesG_un rfl ?_
    skip
    obtain rfl := h22_
    refine (does_pick (b := (β1 && β2)) (u := v52) (v := (Bo false)) (ev rfl) (ev rfl) (ev rfl)).mono ?_; rintro _ _ ⟨rfl, rfl⟩; refine ⟨?_, Ext.refl _⟩; rw [hβ3]; skip
    cases hbb : (β1 && β2)
    all_goals first | (show _ = _; simp only [↓reduceIte, Bool.true_and, Bool.false_and, Bool.true_or, Bool.false_or, Bool.false_eq_true]; done) | (have e_ := h35_ hbb; subst e_; show _ = _; simp only [↓reduceIte, Bool.true_and, Bool.false_and, Bool.true_or, Bool.false_or, Bool.false_eq_true]; done) | rfl | (have e_ := h35_ hbb; subst e_; rfl) | (simp [hbb] at h35_ ⊢; first | done | rfl | (subst h35_; rfl) | simp_all) | (simp [hbb] at h35_ ⊢; done)
  refine RW_d _ rfl (fun v => by dsimp only [List.set]; try rfl) (fun u hu hF => ?_) (fun v54 => ?_)
  · have h36_ : v53 = (Bo β3) := hF.1
    clear hF
    refine doesG_un rfl ?_
    obtain rfl := h36_
    refine (does_move (u := (Bo β3)) (ev rfl)).mono ?_; rintro _ _ ⟨rfl, rfl⟩
    exact ⟨rfl, Ext.refl _⟩
  refine RW_d _ rfl (fun v => by dsimp only [List.set]; try rfl) (fun u hu hF => ?_) (fun v55 => ?_)
  · have h37_ : v54 = (Bo β3) := hF.1
    clear hF
    obtain rfl := h37_
    refine doesG_g (b := β3) rfl (yld rfl rfl) (fun hg1 => ?_) (fun hc => ⟨fun hg1 => absurd hg1 hc, Ext.refl _⟩)
    refine (does_move (u := (Pt g_b g_o)) (ev rfl)).mono ?_; rintro _ _ ⟨rfl, rfl⟩
    exact ⟨fun _ => rfl, Ext.refl _⟩
  refine RW_d _ rfl (fun v => by dsimp only [List.set]; try rfl) (fun u hu hF => ?_) (fun v56 => ?_)
  · have h38_ : β3 = true → v55 = (Pt g_b g_o) := hF.1
    have h37_ : v54 = (Bo β3) := hF.2.1
    clear hF
    obtain rfl := h37_
    refine doesG_g (b := β3) rfl (yld rfl rfl) (fun hg1 => ?_) (fun hc => ⟨fun hg1 => absurd hg1 hc, Ext.refl _⟩)
    obtain rfl := h38_ hg1
    refine (does_nilCheck (ev rfl)).mono ?_; rintro _ _ ⟨rfl, rfl⟩
    exact ⟨fun _ => rfl, Ext.refl _⟩
  refine RW_d _ rfl (fun v => by dsimp only [List.set]; try rfl) (fun u hu hF => ?_) (fun v57 => ?_)
  · have h39_ : β3 = true → v56 = (Pt g_b g_o) := hF.1
    have h37_ : v54 = (Bo β3) := hF.2.1
    clear hF
    obtain rfl := h37_
    refine doesG_g (b := β3) rfl (yld rfl rfl) (fun hg1 => ?_) (fun hc => ⟨fun hg1 => absurd hg1 hc, Ext.refl _⟩)
    obtain rfl := h39_ hg1
    refine (does_fieldAddr (ev rfl) fa49_5).mono ?_; rintro _ _ ⟨rfl, rfl⟩
    exact ⟨fun _ => rfl, Ext.refl _⟩
  refine RW_d _ rfl (fun v => by dsimp only [List.set]; try rfl) (fun u hu hF => ?_) (fun v58 => ?_)
  · have h40_ : β3 = true → v57 = (Pt g_b (g_o + 7)) := hF.1
    have h37_ : v54 = (Bo β3) := hF.2.1
    clear hF
    obtain rfl := h37_
    refine doesG_g (b := β3) rfl (yld rfl rfl) (fun hg1 => ?_) (fun hc => ⟨fun hg1 => absurd hg1 hc, Ext.refl _⟩)
    obtain rfl := h40_ hg1
    refine (does_load (u := (.slice p11 A_g.vals.length q12)) (ev rfl) Try.isAgg42 (Cells.at ((hc_g.ext (Ext.gr (Ext.refl w) E17)).ext hu) 7 rfl)).mono ?_; rintro _ _ ⟨rfl, rfl⟩
    exact ⟨fun _ => rfl, Ext.refl _⟩
  refine RW_d _ rfl (fun v => by dsimp only [List.set]; try rfl) (fun u hu hF => ?_) (fun v59 => ?_)
  · have h41_ : β3 = true → v58 = (.slice p11 A_g.vals.length q12) := hF.1
    have h37_ : v54 = (Bo β3) := hF.2.1
    clear hF
    obtain rfl := h37_
    refine doesG_g (b := β3) rfl (yld rfl rfl) (fun hg1 => ?_) (fun hc => ⟨fun hg1 => absurd hg1 hc, Ext.refl _⟩)
    obtain rfl := h41_ hg1
    refine (does_len_slice Try.underlying42 (ev rfl)).mono ?_; rintro _ _ ⟨rfl, rfl⟩
    exact ⟨fun _ => rfl, Ext.refl _⟩
  refine RW_d _ rfl (fun v => by dsimp only [List.set]; try rfl) (fun u hu hF => ?_) (fun v60 => ?_)
  · have h37_ : v54 = (Bo β3) := hF.1
    clear hF
    obtain rfl := h37_
    refine doesG_g (b := β3) rfl (yld rfl rfl) (fun hg1 => ?_) (fun hc => ⟨fun hg1 => absurd hg1 hc, Ext.refl _⟩)
    refine (does_move (u := (Pt g_b g_o)) (ev rfl)).mono ?_; rintro _ _ ⟨rfl, rfl⟩
    exact ⟨fun _ => rfl, Ext.refl _⟩
  refine RW_d _ rfl (fun v => by dsimp only [List.set]; try rfl) (fun u hu hF => ?_) (fun v61 => ?_)
  · have h43_ : β3 = true → v60 = (Pt g_b g_o) := hF.1
    have h37_ : v54 = (Bo β3) := hF.2.1
    clear hF
    obtain rfl := h37_
    refine doesG_g (b := β3) rfl (yld rfl rfl) (fun hg1 => ?_) (fun hc => ⟨fun hg1 => absurd hg1 hc, Ext.refl _⟩)
    obtain rfl := h43_ hg1
    refine (does_nilCheck (ev rfl)).mono ?_; rintro _ _ ⟨rfl, rfl⟩
    exact ⟨fun _ => rfl, Ext.refl _⟩
  refine RW_d _ rfl (fun v => by dsimp only [List.set]; try rfl) (fun u hu hF => ?_) (fun v62 => ?_)
  · have h44_ : β3 = true → v61 = (Pt g_b g_o) := hF.1
    have h37_ : v54 = (Bo β3) := hF.2.1
    clear hF
    obtain rfl := h37_
    refine doesG_g (b := β3) rfl (yld rfl rfl) (fun hg1 => ?_) (fun hc => ⟨fun hg1 => absurd hg1 hc, Ext.refl _⟩)
    obtain rfl := h44_ hg1
    refine (does_fieldAddr (ev rfl) fa49_2).mono ?_; rintro _ _ ⟨rfl, rfl⟩
    exact ⟨fun _ => rfl, Ext.refl _⟩
  refine RW_d _ rfl (fun v => by dsimp only [List.set]; try rfl) (fun u hu hF => ?_) (fun v63 => ?_)
  · have h45_ : β3 = true → v62 = (Pt g_b (g_o + 4)) := hF.1
    have h37_ : v54 = (Bo β3) := hF.2.1
    clear hF
    obtain rfl := h37_
    refine doesG_g (b := β3) rfl (yld rfl rfl) (fun hg1 => ?_) (fun hc => ⟨fun hg1 => absurd hg1 hc, Ext.refl _⟩)
    obtain rfl := h45_ hg1
    refine (does_load (u := (Iv A_g.x)) (ev rfl) Try.isAgg2 (Cells.at ((hc_g.ext (Ext.gr (Ext.refl w) E17)).ext hu) 4 rfl)).mono ?_; rintro _ _ ⟨rfl, rfl⟩
    exact ⟨fun _ => rfl, Ext.refl _⟩
  refine RW_d _ rfl (fun v => by dsimp only [List.set]; try rfl) (fun u hu hF => ?_) (fun v64 => ?_)
  · have h37_ : v54 = (Bo β3) := hF.1
    clear hF
    obtain rfl := h37_
    refine doesG_g (b := β3) rfl (yld rfl rfl) (fun hg1 => ?_) (fun hc => ⟨fun hg1 => absurd hg1 hc, Ext.refl _⟩)
    refine (does_move (u := (Pt g_b g_o)) (ev rfl)).mono ?_; rintro _ _ ⟨rfl, rfl⟩
    exact ⟨fun _ => rfl, Ext.refl _⟩
  refine RW_d _ rfl (fun v => by dsimp only [List.set]; try rfl) (fun u hu hF => ?_) (fun v65 => ?_)
  · have h47_ : β3 = true → v64 = (Pt g_b g_o) := hF.1
    have h37_ : v54 = (Bo β3) := hF.2.1
    clear hF
    obtain rfl := h37_
    refine doesG_g (b := β3) rfl (yld rfl rfl) (fun hg1 => ?_) (fun hc => ⟨fun hg1 => absurd hg1 hc, Ext.refl _⟩)
    obtain rfl := h47_ hg1
    refine (does_nilCheck (ev rfl)).mono ?_; rintro _ _ ⟨rfl, rfl⟩
    exact ⟨fun _ => rfl, Ext.refl _⟩
  refine RW_d _ rfl (fun v => by dsimp only [List.set]; try rfl) (fun u hu hF => ?_) (fun v66 => ?_)
  · have h48_ : β3 = true → v65 = (Pt g_b g_o) := hF.1
    have h37_ : v54 = (Bo β3) := hF.2.1
    clear hF
    obtain rfl := h37_
    refine doesG_g (b := β3) rfl (yld rfl rfl) (fun hg1 => ?_) (fun hc => ⟨fun hg1 => absurd hg1 hc, Ext.refl _⟩)
    obtain rfl := h48_ hg1
    refine (does_fieldAddr (ev rfl) fa49_3).mono ?_; rintro _ _ ⟨rfl, rfl⟩
    exact ⟨fun _ => rfl, Ext.refl _⟩
  refine RW_d _ rfl (fun v => by dsimp only [List.set]; try rfl) (fun u hu hF => ?_) (fun v67 => ?_)
  · have h49_ : β3 = true → v66 = (Pt g_b (g_o + 5)) := hF.1
    have h37_ : v54 = (Bo β3) := hF.2.1
    clear hF
    obtain rfl := h37_
    refine doesG_g (b := β3) rfl (yld rfl rfl) (fun hg1 => ?_) (fun hc => ⟨fun hg1 => absurd hg1 hc, Ext.refl _⟩)
    obtain rfl := h49_ hg1
    refine (does_load (u := (Iv A_g.y)) (ev rfl) Try.isAgg2 (Cells.at ((hc_g.ext (Ext.gr (Ext.refl w) E17)).ext hu) 5 rfl)).mono ?_; rintro _ _ ⟨rfl, rfl⟩
    exact ⟨fun _ => rfl, Ext.refl _⟩
  refine RW_d _ rfl (fun v => by dsimp only [List.set]; try rfl) (fun u hu hF => ?_) (fun v68 => ?_)
  · have h46_ : β3 = true → v63 = (Iv A_g.x) := hF.1
    have h50_ : β3 = true → v67 = (Iv A_g.y) := hF.2.1
    have h37_ : v54 = (Bo β3) := hF.2.2.1
    clear hF
    obtain rfl := h37_
    refine doesG_g (b := β3) rfl (yld rfl rfl) (fun hg1 => ?_) (fun hc => ⟨fun hg1 => absurd hg1 hc, Ext.refl _⟩)
    obtain rfl := h46_ hg1
    obtain rfl := h50_ hg1
    refine (does_iarith (p := A_g.x) (q := A_g.y) (r := IntKind.i64.wrap (A_g.x * A_g.y)) (ev rfl) (ev rfl) (.inr (.inr ⟨rfl, rfl⟩))).mono ?_; rintro _ _ ⟨rfl, rfl⟩
    exact ⟨fun _ => rfl, Ext.refl _⟩
  refine RW_d _ rfl (fun v => by dsimp only [List.set]; try rfl) (fun u hu hF => ?_) (fun v69 => ?_)
  · have h37_ : v54 = (Bo β3) := hF.1
    clear hF
    obtain rfl := h37_
    refine doesG_g (b := β3) rfl (yld rfl rfl) (fun hg1 => ?_) (fun hc => ⟨fun hg1 => absurd hg1 hc, Ext.refl _⟩)
    refine (does_move (u := (Pt g_b g_o)) (ev rfl)).mono ?_; rintro _ _ ⟨rfl, rfl⟩
    exact ⟨fun _ => rfl, Ext.refl _⟩
  refine RW_d _ rfl (fun v => by dsimp only [List.set]; try rfl) (fun u hu hF => ?_) (fun v70 => ?_)
  · have h52_ : β3 = true → v69 = (Pt g_b g_o) := hF.1
    have h37_ : v54 = (Bo β3) := hF.2.1
    clear hF
    obtain rfl := h37_
    refine doesG_g (b := β3) rfl (yld rfl rfl) (fun hg1 => ?_) (fun hc => ⟨fun hg1 => absurd hg1 hc, Ext.refl _⟩)
    obtain rfl := h52_ hg1
    refine (does_nilCheck (ev rfl)).mono ?_; rintro _ _ ⟨rfl, rfl⟩
    exact ⟨fun _ => rfl, Ext.refl _⟩
  refine RW_d _ rfl (fun v => by dsimp only [List.set]; try rfl) (fun u hu hF => ?_) (fun v71 => ?_)
  · have h53_ : β3 = true → v70 = (Pt g_b g_o) := hF.1
    have h37_ : v54 = (Bo β3) := hF.2.1
    clear hF
    obtain rfl := h37_
    refine doesG_g (b := β3) rfl (yld rfl rfl) (fun hg1 => ?_) (fun hc => ⟨fun hg1 => absurd hg1 hc, Ext.refl _⟩)
    obtain rfl := h53_ hg1
    refine (does_fieldAddr (ev rfl) fa49_4).mono ?_; rintro _ _ ⟨rfl, rfl⟩
    exact ⟨fun _ => rfl, Ext.refl _⟩
  refine RW_d _ rfl (fun v => by dsimp only [List.set]; try rfl) (fun u hu hF => ?_) (fun v72 => ?_)
  · have h54_ : β3 = true → v71 = (Pt g_b (g_o + 6)) := hF.1
    have h37_ : v54 = (Bo β3) := hF.2.1
    clear hF
    obtain rfl := h37_
    refine doesG_g (b := β3) rfl (yld rfl rfl) (fun hg1 => ?_) (fun hc => ⟨fun hg1 => absurd hg1 hc, Ext.refl _⟩)
    obtain rfl := h54_ hg1
    refine (does_load (u := (Iv A_g.z)) (ev rfl) Try.isAgg2 (Cells.at ((hc_g.ext (Ext.gr (Ext.refl w) E17)).ext hu) 6 rfl)).mono ?_; rintro _ _ ⟨rfl, rfl⟩
    exact ⟨fun _ => rfl, Ext.refl _⟩
  refine RW_d _ rfl (fun v => by dsimp only [List.set]; try rfl) (fun u hu hF => ?_) (fun v73 => ?_)
  · have h51_ : β3 = true → v68 = (Iv (IntKind.i64.wrap (A_g.x * A_g.y))) := hF.1
    have h55_ : β3 = true → v72 = (Iv A_g.z) := hF.2.1
    have h37_ : v54 = (Bo β3) := hF.2.2.1
    clear hF
    obtain rfl := h37_
    refine doesG_g (b := β3) rfl (yld rfl rfl) (fun hg1 => ?_) (fun hc => ⟨fun hg1 => absurd hg1 hc, Ext.refl _⟩)
    obtain rfl := h51_ hg1
    obtain rfl := h55_ hg1
    refine (does_iarith (p := IntKind.i64.wrap (A_g.x * A_g.y)) (q := A_g.z) (r := IntKind.i64.wrap ((IntKind.i64.wrap (A_g.x * A_g.y)) * A_g.z)) (ev rfl) (ev rfl) (.inr (.inr ⟨rfl, rfl⟩))).mono ?_; rintro _ _ ⟨rfl, rfl⟩
    exact ⟨fun _ => rfl, Ext.refl _⟩
  refine RW_d _ rfl (fun v => by dsimp only [List.set]; try rfl) (fun u hu hF => ?_) (fun v74 => ?_)
  · have h42_ : β3 = true → v59 = (Iv (A_g.vals.length : Int)) := hF.1
    have h56_ : β3 = true → v73 = (Iv (IntKind.i64.wrap ((IntKind.i64.wrap (A_g.x * A_g.y)) * A_g.z))) := hF.2.1
    have h37_ : v54 = (Bo β3) := hF.2.2.1
    clear hF
    obtain rfl := h37_
    refine doesG_g (b := β3) rfl (yld rfl rfl) (fun hg1 => ?_) (fun hc => ⟨fun hg1 => absurd hg1 hc, Ext.refl _⟩)
    obtain rfl := h42_ hg1
    obtain rfl := h56_ hg1
    refine (does_icmp (p := (A_g.vals.length : Int)) (q := IntKind.i64.wrap ((IntKind.i64.wrap (A_g.x * A_g.y)) * A_g.z)) (.inl rfl) (ev rfl) (ev rfl)).mono ?_; rintro _ _ ⟨rfl, rfl⟩
    exact ⟨fun _ => (by first | rfl | (show _ = _; simp only [hβ4]; done) | (show _ = _; simp only [hβ4]; rfl)), Ext.refl _⟩
  refine RW_d _ rfl (fun v => by dsimp only [List.set]; try rfl) (fun u hu hF => ?_) (fun v75 => ?_)
  · have h37_ : v54 = (Bo β3) := hF.1
    have h57_ : β3 = true → v74 = (Bo β4) := hF.2.1
    clear hF
    refine doesG_un rfl ?_
    skip
    obtain rfl := h37_
    refine (does_pick (b := β3) (u := v74) (v := (Bo false)) (ev rfl) (ev rfl) (ev rfl)).mono ?_; rintro _ _ ⟨rfl, rfl⟩; refine ⟨?_, Ext.refl _⟩; skip
    cases hbb : β3
    all_goals first | (show _ = _; simp only [↓reduceIte, Bool.true_and, Bool.false_and, Bool.true_or, Bool.false_or, Bool.false_eq_true]; done) | (have e_ := h57_ hbb; subst e_; show _ = _; simp only [↓reduceIte, Bool.true_and, Bool.false_and, Bool.true_or, Bool.false_or, Bool.false_eq_true]; done) | rfl | (have e_ := h57_ hbb; subst e_; rfl) | (simp [hbb] at h57_ ⊢; first | done | rfl | (subst h57_; rfl) | simp_all) | (simp [hbb] at h57_ ⊢; done)
  refine RW_fin ?_; intro w76 E77 hP78
  obtain ⟨⟨⟨⟨⟨⟨⟨⟨⟨⟨⟨⟨⟨⟨⟨⟨⟨⟨⟨⟨⟨⟨⟨⟨⟨⟨⟨⟨⟨⟨⟨⟨⟨⟨⟨⟨⟨⟨⟨⟨⟨⟨⟨⟨⟨⟨⟨⟨⟨⟨⟨⟨⟨⟨⟨⟨-, -⟩, -⟩, -⟩, -⟩, -⟩, -⟩, -⟩, -⟩, -⟩, -⟩, -⟩, -⟩, -⟩, -⟩, -⟩, -⟩, -⟩, -⟩, -⟩, -⟩, -⟩, -⟩, -⟩, -⟩, -⟩, -⟩, -⟩, -⟩, -⟩, -⟩, -⟩, -⟩, -⟩, -⟩, -⟩, -⟩, -⟩, -⟩, -⟩, -⟩, -⟩, -⟩, -⟩, -⟩, -⟩, -⟩, -⟩, -⟩, -⟩, -⟩, -⟩, -⟩, -⟩, -⟩, -⟩, q79⟩ := hP78
  have X80 := Ext.gr X19 E77
  have q79 : v75 = (Bo (β3 && β4)) := q79
  obtain rfl := q79
  show wpList _ _ _ _ (fr [_, _, _, _, _, _, _, _, _, _, _, _, _, _, _, _, _, _, _, _, _, _, _, _, _, _, _, _, _, _, _, _, _, _, _, _, _, _, _, _, _, _, _, _, _, _, _, _, _, _, _, _, _, _, _, _, _, _, _]) _
  refine q_is rfl rfl (does_assign (u := (Bo (β3 && β4))) (ev rfl)) (by dsimp only [List.set]; try rfl) ?_
  refine wpList_nil (hK15 _ _ ?_)
  refine wp_ret ?_
  refine ret_val (v := (Bo (β3 && β4))) (res_T rfl (slot rfl)) X80 ?_
  have x81 : (isGrid A_g) = (β3 && β4) := by first | with_reducible rfl | (simp only [isGrid, prod3, posF, h2, h4, h6, h8, hβ1, hβ2, hβ3, hβ4]; done) | (simp [isGrid, prod3, posF, h2, h4, h6, h8, hβ1, hβ2, hβ3, hβ4]; done) | rfl
  exact (by first | with_reducible rfl | rw [x81] | rfl)

/- spec.l06Near -/
theorem c_spec_l06Near (g_b : Nat) (g_o : Nat) (g : List Value) (A_g : GridT) (ix : Int) (w : World) (hc_g : Cells w g_b g_o g) (hv_g : RGridT w A_g g) (hgr : isGrid A_g = true) (hix : 0 ≤ ix ∧ ix < A_g.vals.length) : Gives Try.prog 36 #[(Pt g_b g_o), (Iv ix)] w (fun v w' => ∃ y_1 : Value, v = y_1 ∧ Hang w.heap.size w' (fun u => Sl RI 1 u y_1 (nb A_g ix))) := by
  obtain ⟨r1, r3, r5, r7, y9, rfl, h2, h4, h6, h8, h10⟩ := hv_g
  have hs13 := h10; have hs13l := Sl.len h10; obtain ⟨p11, q12, rfl⟩ := Sl.shape h10
  obtain ⟨hnx, hny, hnz, hnxy, hni, hn1, hn2, hn3, hn4⟩ := nb_pre hgr hix
  refine enter [(Pt g_b g_o), (Iv ix), Ud, Ud, Ud, Ud, Ud, Ud, Ud, Ud, Ud, Ud, Ud, Ud, Ud, Ud, Ud, Ud, Ud, Ud, Ud, Ud, Ud, Ud, Ud, Ud, Ud, Ud, Ud, Ud, Ud, Ud, Ud, Ud, Ud, Ud, Ud, Ud, Ud, Ud, Ud, Ud, Ud, Ud, Ud, Ud, Ud, Ud, Ud, Ud, Ud, Ud, Ud, Ud, Ud, Ud, Ud, Ud, Ud, Ud, Ud, Ud, Ud, Ud, Ud, Ud, Ud, Ud, Ud, Ud, Ud, Ud, Ud, Ud, Ud, Ud, Ud, Ud, Ud, Ud, Ud, Ud, Ud, Ud, Ud, Ud, Ud, Ud, Ud, Ud, Ud, Ud, Ud, Ud, Ud, Ud, Ud, Ud, Ud, Ud, Ud, Ud, Ud, Ud, Ud, Ud, Ud, Ud, Ud, Ud, Ud, Ud, Ud, Ud, Ud, Ud, Ud, Ud, Ud, Ud, Ud, Ud] Try.func36 rfl Try.ntmps36 rfl ?_
  refine wp_seq_k fun K14 hK14 => ?_
  refine wp_region_lit ?_
  refine q_is rfl rfl (does_assign (u := (.slice none 0 0)) (ev rfl)) (by dsimp only [List.set]; try rfl) ?_
  refine wpList_nil (hK14 _ _ ?_)
  refine wp_seq_k fun K15 hK15 => ?_
  refine wp_region_lit ?_
  refine q_is rfl rfl (does_move (u := (Iv ix)) (ev rfl)) (by dsimp only [List.set]; try rfl) ?_
  refine q_is rfl rfl (does_move (u := (Pt g_b g_o)) (ev rfl)) (by dsimp only [List.set]; try rfl) ?_
  refine q_is rfl rfl (does_nilCheck (ev rfl)) (by dsimp only [List.set]; try rfl) ?_
  refine q_is rfl rfl (does_fieldAddr (ev rfl) fa49_2) (by dsimp only [List.set]; try rfl) ?_
  refine q_is rfl rfl (does_load (u := (Iv A_g.x)) (ev rfl) Try.isAgg2 (Cells.at hc_g 4 rfl)) (by dsimp only [List.set]; try rfl) ?_
  refine q_is rfl rfl (does_irem (p := ix) (q := A_g.x) (ev rfl) (ev rfl) (by first | omega | assumption) (by first | omega | assumption) (by first | omega | assumption)) (by dsimp only [List.set]; try rfl) ?_
  refine q_is rfl rfl (does_assign (u := (Iv (ix % A_g.x))) (ev rfl)) (by dsimp only [List.set]; try rfl) ?_
  refine wpList_nil (hK15 _ _ ?_)
  refine wp_seq_k fun K16 hK16 => ?_
  refine region_draw (
    [Fact.pure [] (fun v => v = (Iv ix)),
    Fact.pure [] (fun v => v = (Pt g_b g_o)),
    Fact.pure [16] (fun v => v = (Pt g_b g_o)),
    Fact.pure [17] (fun v => v = (Pt g_b (g_o + 4))),
    Fact.pure [18] (fun v => v = (Iv A_g.x)),
    Fact.pure [15, 19] (fun v => v = (Iv (ix / A_g.x))),
    Fact.pure [] (fun v => v = (Pt g_b g_o)),
    Fact.pure [21] (fun v => v = (Pt g_b g_o)),
    Fact.pure [22] (fun v => v = (Pt g_b (g_o + 5))),
    Fact.pure [23] (fun v => v = (Iv A_g.y)),
    Fact.pure [20, 24] (fun v => v = (Iv ((ix / A_g.x) % A_g.y)))]) mixed (by kernel_rfl) (by intro _ _ d _ _ h; cases d <;> exact h) ?_
  obtain ⟨w17, hw19⟩ : ∃ w', w' = World.drew w := ⟨_, rfl⟩; rw [← hw19]; have E18 : Ext w w17 := by rw [hw19]; exact Ext.draw _
  clear hw19
  have X20 := Ext.gr (Ext.refl w) E18
  refine RW_d _ rfl (fun v => by dsimp only [List.set]; try rfl) (fun u hu hF => ?_) (fun v21 => ?_)
  · clear hF
    refine doesG_un rfl ?_
    refine (does_move (u := (Iv ix)) (ev rfl)).mono ?_; rintro _ _ ⟨rfl, rfl⟩
    exact ⟨rfl, Ext.refl _⟩
  refine RW_d _ rfl (fun v => by dsimp only [List.set]; try rfl) (fun u hu hF => ?_) (fun v22 => ?_)
  · clear hF
    refine doesG_un rfl ?_
    refine (does_move (u := (Pt g_b g_o)) (ev rfl)).mono ?_; rintro _ _ ⟨rfl, rfl⟩
    exact ⟨rfl, Ext.refl _⟩
  refine RW_d _ rfl (fun v => by dsimp only [List.set]; try rfl) (fun u hu hF => ?_) (fun v23 => ?_)
  · have h16_ : v22 = (Pt g_b g_o) := hF.1
    clear hF
    refine doesG_un rfl ?_
    obtain rfl := h16_
    refine (does_nilCheck (ev rfl)).mono ?_; rintro _ _ ⟨rfl, rfl⟩
    exact ⟨rfl, Ext.refl _⟩
  refine RW_d _ rfl (fun v => by dsimp only [List.set]; try rfl) (fun u hu hF => ?_) (fun v24 => ?_)
  · have h17_ : v23 = (Pt g_b g_o) := hF.1
    clear hF
    refine doesG_un rfl ?_
    obtain rfl := h17_
    refine (does_fieldAddr (ev rfl) fa49_2).mono ?_; rintro _ _ ⟨rfl, rfl⟩
    exact ⟨rfl, Ext.refl _⟩
  refine RW_d _ rfl (fun v => by dsimp only [List.set]; try rfl) (fun u hu hF => ?_) (fun v25 => ?_)
  · have h18_ : v24 = (Pt g_b (g_o + 4)) := hF.1
    clear hF
    refine doesG_un rfl ?_
    obtain rfl := h18_
    refine (does_load (u := (Iv A_g.x)) (ev rfl) Try.isAgg2 (Cells.at ((hc_g.ext (Ext.gr (Ext.refl w) E18)).ext hu) 4 rfl)).mono ?_; rintro _ _ ⟨rfl, rfl⟩
    exact ⟨rfl, Ext.refl _⟩
  refine RW_d _ rfl (fun v => by dsimp only [List.set]; try rfl) (fun u hu hF => ?_) (fun v26 => ?_)
  · have h15_ : v21 = (Iv ix) := hF.1
    have h19_ : v25 = (Iv A_g.x) := hF.2.1
    clear hF
    refine doesG_un rfl ?_
    obtain rfl := h15_
    obtain rfl := h19_
    refine (does_iquo (p := ix) (q := A_g.x) (ev rfl) (ev rfl) (by first | omega | assumption) (by first | omega | assumption) (by first | omega | assumption)).mono ?_; rintro _ _ ⟨rfl, rfl⟩
    exact ⟨rfl, Ext.refl _⟩
  refine RW_d _ rfl (fun v => by dsimp only [List.set]; try rfl) (fun u hu hF => ?_) (fun v27 => ?_)
  · clear hF
    refine doesG_un rfl ?_
    refine (does_move (u := (Pt g_b g_o)) (ev rfl)).mono ?_; rintro _ _ ⟨rfl, rfl⟩
    exact ⟨rfl, Ext.refl _⟩
  refine RW_d _ rfl (fun v => by dsimp only [List.set]; try rfl) (fun u hu hF => ?_) (fun v28 => ?_)
  · have h21_ : v27 = (Pt g_b g_o) := hF.1
    clear hF
    refine doesG_un rfl ?_
    obtain rfl := h21_
    refine (does_nilCheck (ev rfl)).mono ?_; rintro _ _ ⟨rfl, rfl⟩
    exact ⟨rfl, Ext.refl _⟩
  refine RW_d _ rfl (fun v => by dsimp only [List.set]; try rfl) (fun u hu hF => ?_) (fun v29 => ?_)
  · have h22_ : v28 = (Pt g_b g_o) := hF.1
    clear hF
    refine doesG_un rfl ?_
    obtain rfl := h22_
    refine (does_fieldAddr (ev rfl) fa49_3).mono ?_; rintro _ _ ⟨rfl, rfl⟩
    exact ⟨rfl, Ext.refl _⟩
  refine RW_d _ rfl (fun v => by dsimp only [List.set]; try rfl) (fun u hu hF => ?_) (fun v30 => ?_)
  · have h23_ : v29 = (Pt g_b (g_o + 5)) := hF.1
    clear hF
    refine doesG_un rfl ?_
    obtain rfl := h23_
    refine (does_load (u := (Iv A_g.y)) (ev rfl) Try.isAgg2 (Cells.at ((hc_g.ext (Ext.gr (Ext.refl w) E18)).ext hu) 5 rfl)).mono ?_; rintro _ _ ⟨rfl, rfl⟩
    exact ⟨rfl, Ext.refl _⟩
  refine RW_d _ rfl (fun v => by dsimp only [List.set]; try rfl) (fun u hu hF => ?_) (fun v31 => ?_)
  · have h20_ : v26 = (Iv (ix / A_g.x)) := hF.1
    have h24_ : v30 = (Iv A_g.y) := hF.2.1
    clear hF
    refine doesG_un rfl ?_
    obtain rfl := h20_
    obtain rfl := h24_
    refine (does_irem (p := ix / A_g.x) (q := A_g.y) (ev rfl) (ev rfl) (by first | omega | assumption) (by first | omega | assumption) (by first | omega | assumption)).mono ?_; rintro _ _ ⟨rfl, rfl⟩
    exact ⟨rfl, Ext.refl _⟩
  refine RW_fin ?_; intro w32 E33 hP34
  obtain ⟨⟨⟨⟨⟨⟨⟨⟨⟨⟨⟨-, -⟩, -⟩, -⟩, -⟩, -⟩, -⟩, -⟩, -⟩, -⟩, -⟩, q35⟩ := hP34
  have X36 := Ext.gr X20 E33
  have q35 : v31 = (Iv ((ix / A_g.x) % A_g.y)) := q35
  obtain rfl := q35
  show wpList _ _ _ _ (fr [_, _, _, _, _, _, _, _, _, _, _, _, _, _, _, _, _, _, _, _, _, _, _, _, _, _, _, _, _, _, _, _, _, _, _, _, _, _, _, _, _, _, _, _, _, _, _, _, _, _, _, _, _, _, _, _, _, _, _, _, _, _, _, _, _, _, _, _, _, _, _, _, _, _, _, _, _, _, _, _, _, _, _, _, _, _, _, _, _, _, _, _, _, _, _, _, _, _, _, _, _, _, _, _, _, _, _, _, _, _, _, _, _, _, _, _, _, _, _, _, _, _]) _
  refine q_is rfl rfl (does_assign (u := (Iv ((ix / A_g.x) % A_g.y))) (ev rfl)) (by dsimp only [List.set]; try rfl) ?_
  refine wpList_nil (hK16 _ _ ?_)
  refine wp_seq_k fun K37 hK37 => ?_
  refine region_draw (
    [Fact.pure [] (fun v => v = (Iv ix)),
    Fact.pure [] (fun v => v = (Pt g_b g_o)),
    Fact.pure [27] (fun v => v = (Pt g_b g_o)),
    Fact.pure [28] (fun v => v = (Pt g_b (g_o + 4))),
    Fact.pure [29] (fun v => v = (Iv A_g.x)),
    Fact.pure [26, 30] (fun v => v = (Iv (ix / A_g.x))),
    Fact.pure [] (fun v => v = (Pt g_b g_o)),
    Fact.pure [32] (fun v => v = (Pt g_b g_o)),
    Fact.pure [33] (fun v => v = (Pt g_b (g_o + 5))),
    Fact.pure [34] (fun v => v = (Iv A_g.y)),
    Fact.pure [31, 35] (fun v => v = (Iv ((ix / A_g.x) / A_g.y)))]) mixed (by kernel_rfl) (by intro _ _ d _ _ h; cases d <;> exact h) ?_
  obtain ⟨w38, hw40⟩ : ∃ w', w' = World.drew w32 := ⟨_, rfl⟩; rw [← hw40]; have E39 : Ext w32 w38 := by rw [hw40]; exact Ext.draw _
  clear hw40
  have X41 := Ext.gr X36 E39
  refine RW_d _ rfl (fun v => by dsimp only [List.set]; try rfl) (fun u hu hF => ?_) (fun v42 => ?_)
  · clear hF
    refine doesG_un rfl ?_
    refine (does_move (u := (Iv ix)) (ev rfl)).mono ?_; rintro _ _ ⟨rfl, rfl⟩
    exact ⟨rfl, Ext.refl _⟩
  refine RW_d _ rfl (fun v => by dsimp only [List.set]; try rfl) (fun u hu hF => ?_) (fun v43 => ?_)
  · clear hF
    refine doesG_un rfl ?_
    refine (does_move (u := (Pt g_b g_o)) (ev rfl)).mono ?_; rintro _ _ ⟨rfl, rfl⟩
    exact ⟨rfl, Ext.refl _⟩
  refine RW_d _ rfl (fun v => by dsimp only [List.set]; try rfl) (fun u hu hF => ?_) (fun v44 => ?_)
  · have h27_ : v43 = (Pt g_b g_o) := hF.1
    clear hF
    refine doesG_un rfl ?_
    obtain rfl := h27_
    refine (does_nilCheck (ev rfl)).mono ?_; rintro _ _ ⟨rfl, rfl⟩
    exact ⟨rfl, Ext.refl _⟩
  refine RW_d _ rfl (fun v => by dsimp only [List.set]; try rfl) (fun u hu hF => ?_) (fun v45 => ?_)
  · have h28_ : v44 = (Pt g_b g_o) := hF.1
    clear hF
    refine doesG_un rfl ?_
    obtain rfl := h28_
    refine (does_fieldAddr (ev rfl) fa49_2).mono ?_; rintro _ _ ⟨rfl, rfl⟩
    exact ⟨rfl, Ext.refl _⟩
  refine RW_d _ rfl (fun v => by dsimp only [List.set]; try rfl) (fun u hu hF => ?_) (fun v46 => ?_)
  · have h29_ : v45 = (Pt g_b (g_o + 4)) := hF.1
    clear hF
    refine doesG_un rfl ?_
    obtain rfl := h29_
    refine (does_load (u := (Iv A_g.x)) (ev rfl) Try.isAgg2 (Cells.at ((hc_g.ext (Ext.gr X36 E39)).ext hu) 4 rfl)).mono ?_; rintro _ _ ⟨rfl, rfl⟩
    exact ⟨rfl, Ext.refl _⟩
  refine RW_d _ rfl (fun v => by dsimp only [List.set]; try rfl) (fun u hu hF => ?_) (fun v47 => ?_)
  · have h26_ : v42 = (Iv ix) := hF.1
    have h30_ : v46 = (Iv A_g.x) := hF.2.1
    clear hF
    refine doesG_un rfl ?_
    obtain rfl := h26_
    obtain rfl := h30_
    refine (does_iquo (p := ix) (q := A_g.x) (ev rfl) (ev rfl) (by first | omega | assumption) (by first | omega | assumption) (by first | omega | assumption)).mono ?_; rintro _ _ ⟨rfl, rfl⟩
    exact ⟨rfl, Ext.refl _⟩
  refine RW_d _ rfl (fun v => by dsimp only [List.set]; try rfl) (fun u hu hF => ?_) (fun v48 => ?_)
  · clear hF
    refine doesG_un rfl ?_
    refine (does_move (u := (Pt g_b g_o)) (ev rfl)).mono ?_; rintro _ _ ⟨rfl, rfl⟩
    exact ⟨rfl, Ext.refl _⟩
  refine RW_d _ rfl (fun v => by dsimp only [List.set]; try rfl) (fun u hu hF => ?_) (fun v49 => ?_)
  · have h32_ : v48 = (Pt g_b g_o) := hF.1
    clear hF
    refine doesG_un rfl ?_
    obtain rfl := h32_
    refine (does_nilCheck (ev rfl)).mono ?_; rintro _ _ ⟨rfl, rfl⟩
    exact ⟨rfl, Ext.refl _⟩
  refine RW_d _ rfl (fun v => by dsimp only [List.set]; try rfl) (fun u hu hF => ?_) (fun v50 => ?_)
  · have h33_ : v49 = (Pt g_b g_o) := hF.1
    clear hF
    refine doesG_un rfl ?_
    obtain rfl := h33_
    refine (does_fieldAddr (ev rfl) fa49_3).mono ?_; rintro _ _ ⟨rfl, rfl⟩
    exact ⟨rfl, Ext.refl _⟩
  refine RW_d _ rfl (fun v => by dsimp only [List.set]; try rfl) (fun u hu hF => ?_) (fun v51 => ?_)
  · have h34_ : v50 = (Pt g_b (g_o + 5)) := hF.1
    clear hF
    refine doesG_un rfl ?_
    obtain rfl := h34_
    refine (does_load (u := (Iv A_g.y)) (ev rfl) Try.isAgg2 (Cells.at ((hc_g.ext (Ext.gr X36 E39)).ext hu) 5 rfl)).mono ?_; rintro _ _ ⟨rfl, rfl⟩
    exact ⟨rfl, Ext.refl _⟩
  refine RW_d _ rfl (fun v => by dsimp only [List.set]; try rfl) (fun u hu hF => ?_) (fun v52 => ?_)
  · have h31_ : v47 = (Iv (ix / A_g.x)) := hF.1
    have h35_ : v51 = (Iv A_g.y) := hF.2.1
    clear hF
    refine doesG_un rfl ?_
    obtain rfl := h31_
    obtain rfl := h35_
    refine (does_iquo (p := ix / A_g.x) (q := A_g.y) (ev rfl) (ev rfl) (by first | omega | assumption) (by first | omega | assumption) (by first | omega | assumption)).mono ?_; rintro _ _ ⟨rfl, rfl⟩
    exact ⟨rfl, Ext.refl _⟩
  refine RW_fin ?_; intro w53 E54 hP55
  obtain ⟨⟨⟨⟨⟨⟨⟨⟨⟨⟨⟨-, -⟩, -⟩, -⟩, -⟩, -⟩, -⟩, -⟩, -⟩, -⟩, -⟩, q56⟩ := hP55
  have X57 := Ext.gr X41 E54
  have q56 : v52 = (Iv ((ix / A_g.x) / A_g.y)) := q56
  obtain rfl := q56
  show wpList _ _ _ _ (fr [_, _, _, _, _, _, _, _, _, _, _, _, _, _, _, _, _, _, _, _, _, _, _, _, _, _, _, _, _, _, _, _, _, _, _, _, _, _, _, _, _, _, _, _, _, _, _, _, _, _, _, _, _, _, _, _, _, _, _, _, _, _, _, _, _, _, _, _, _, _, _, _, _, _, _, _, _, _, _, _, _, _, _, _, _, _, _, _, _, _, _, _, _, _, _, _, _, _, _, _, _, _, _, _, _, _, _, _, _, _, _, _, _, _, _, _, _, _, _, _, _, _]) _
  refine q_is rfl rfl (does_assign (u := (Iv ((ix / A_g.x) / A_g.y))) (ev rfl)) (by dsimp only [List.set]; try rfl) ?_
  refine wpList_nil (hK37 _ _ ?_)
  refine wp_seq_k fun K58 hK58 => ?_
  refine wp_region_lit ?_
  have n65 : g_b < w53.heap.size := cell_lt (Cells.at (hc_g.ext X57) 0 rfl)
  refine seqd rfl rfl (does_slice0 (e := 2) (fun _ => by kernel_rfl)) ?_; rintro _ w64 ⟨b59, rfl, hb60, hl61, hO62, E63⟩
  have X66 := Ext.gr X57 E63
  have hO67 := hO62 _ RI 1
  have hH68 : Hang w53.heap.size w64 (fun u => Sl RI 1 u (.slice (some ⟨b59, 0, none⟩) 0 0) ([])) := Own.hang hO67 RI.flat (by decide) hb60 (Below.size E63)
  show wpList _ _ _ _ (fr [_, _, _, _, _, _, _, _, _, _, _, _, _, _, _, _, _, _, _, _, _, _, _, _, _, _, _, _, _, _, _, _, _, _, _, _, _, _, _, _, _, _, _, _, _, _, _, _, _, _, _, _, _, _, _, _, _, _, _, _, _, _, _, _, _, _, _, _, _, _, _, _, _, _, _, _, _, _, _, _, _, _, _, _, _, _, _, _, _, _, _, _, _, _, _, _, _, _, _, _, _, _, _, _, _, _, _, _, _, _, _, _, _, _, _, _, _, _, _, _, _, _]) _
  refine q_is rfl rfl (does_assign (u := (.slice (some ⟨b59, 0, none⟩) 0 0)) (ev rfl)) (by dsimp only [List.set]; try rfl) ?_
  refine wpList_nil (hK58 _ _ ?_)
  refine wp_seq_k fun K69 hK69 => ?_
  refine wp_seq_k fun K70 hK70 => ?_
  refine wp_region_lit ?_
  refine q_is rfl rfl (does_move (u := (Iv ((ix / A_g.x) / A_g.y))) (ev rfl)) (by dsimp only [List.set]; try rfl) ?_
  refine q_is rfl rfl (does_icmp (p := (ix / A_g.x) / A_g.y) (q := 0) (.inr (.inr (.inr (.inr (.inl rfl))))) (ev rfl) (ev rfl)) (by dsimp only [List.set]; try rfl) ?_
  refine wpList_nil (hK70 _ _ ?_)
  have n76 : g_b < w64.heap.size := cell_lt (Cells.at (hc_g.ext X66) 0 rfl)
  obtain ⟨gg72, hg73, hg74, hO75⟩ := Own.start' hO67 hO67
  have hN77 : w53.heap.size ≤ gg72 := by rcases hg73 with h | h; exact h ▸ hb60; exact Nat.le_trans (Below.size E63) h
  have g78 : w.heap.size ≤ gg72 := Nat.le_trans (Nat.le_trans (Nat.le_trans (Nat.le_trans (Below.size E18) (Below.size E33)) (Below.size E39)) (Below.size E54)) hN77
  have hg79 : gg72 < w64.heap.size := by rcases hg74 with h | h; exact h ▸ Nat.lt_of_lt_of_le hl61 (Nat.le_refl _); exact h
  have hH80 : Hang w53.heap.size w64 (fun u => Sl RI 1 u (.slice (some ⟨b59, 0, none⟩) 0 0) ([])) := Own.hang hO75 RI.flat (by decide) hN77 (Below.size E63)
  have J69 : ∀ (u71 : Nat → Value) (y8_ : Value) (w81 : World), (KpL [gg72] w64 w81) → (Own RI 1 2 gg72 w64.heap.size w81 y8_ (nbK A_g ix 1)) → K69 (fr [(Pt g_b g_o), (Iv ix), Ud, Ud, (.slice none 0 0), (Iv (ix % A_g.x)), (Iv ((ix / A_g.x) % A_g.y)), (Iv ((ix / A_g.x) / A_g.y)), y8_, (Iv ix), (Pt g_b g_o), (Pt g_b g_o), (Pt g_b (g_o + 4)), (Iv A_g.x), (Iv (ix % A_g.x)), v21, v22, v23, v24, v25, v26, v27, v28, v29, v30, (Iv ((ix / A_g.x) % A_g.y)), v42, v43, v44, v45, v46, v47, v48, v49, v50, v51, (Iv ((ix / A_g.x) / A_g.y)), (.slice (some ⟨b59, 0, none⟩) 0 0), (Iv ((ix / A_g.x) / A_g.y)), (Bo (icmp .gtr ((ix / A_g.x) / A_g.y) 0)), (u71 40), (u71 41), (u71 42), (u71 43), (u71 44), (u71 45), (u71 46), (u71 47), (u71 48), (u71 49), (u71 50), (u71 51), (u71 52), (u71 53), Ud, Ud, Ud, Ud, Ud, Ud, Ud, Ud, Ud, Ud, Ud, Ud, Ud, Ud, Ud, Ud, Ud, Ud, Ud, Ud, Ud, Ud, Ud, Ud, Ud, Ud, Ud, Ud, Ud, Ud, Ud, Ud, Ud, Ud, Ud, Ud, Ud, Ud, Ud, Ud, Ud, Ud, Ud, Ud, Ud, Ud, Ud, Ud, Ud, Ud, Ud, Ud, Ud, Ud, Ud, Ud, Ud, Ud, Ud, Ud, Ud, Ud, Ud, Ud, Ud, Ud, Ud, Ud]) w81 := by
    intro u71 y8_ w81 E82 hO83
    have X84 := Below.kl X66 E82 (allS g78 all0) (Nat.le_refl _)
    obtain ⟨p85, q86, rfl⟩ := Own.shape hO83
    have hH87 : Hang w53.heap.size w81 (fun u => Sl RI 1 u (.slice p85 ((nbK A_g ix 1).length) q86) (nbK A_g ix 1)) := Own.hang hO83 RI.flat (by decide) hN77 (Below.size E63)
    have hnl := nbK_len A_g ix 1
    refine hK69 _ _ ?_
    refine wp_seq_k fun K88 hK88 => ?_
    refine wp_seq_k fun K89 hK89 => ?_
    refine wp_region_lit ?_
    refine q_is rfl rfl (does_move (u := (Iv ((ix / A_g.x) % A_g.y))) (ev rfl)) (by dsimp only [List.set]; try rfl) ?_
    refine q_is rfl rfl (does_icmp (p := (ix / A_g.x) % A_g.y) (q := 0) (.inr (.inr (.inr (.inr (.inl rfl))))) (ev rfl) (ev rfl)) (by dsimp only [List.set]; try rfl) ?_
    refine wpList_nil (hK89 _ _ ?_)
    have n95 : g_b < w81.heap.size := cell_lt (Cells.at (hc_g.ext X84) 0 rfl)
    obtain ⟨gg91, hg92, hg93, hO94⟩ := Own.start' hO83 hO83
    have hN96 : w53.heap.size ≤ gg91 := by rcases hg92 with h | h; exact h ▸ hN77; exact Nat.le_trans (Below.size E63) h
    have g97 : w.heap.size ≤ gg91 := Nat.le_trans (Nat.le_trans (Nat.le_trans (Nat.le_trans (Below.size E18) (Below.size E33)) (Below.size E39)) (Below.size E54)) hN96
    have n98 : g_b ≠ gg91 := hg92.elim (fun h => by rw [h]; exact (Nat.ne_of_lt (Nat.lt_of_lt_of_le n65 hN77))) (fun h => Nat.ne_of_lt (Nat.lt_of_lt_of_le n76 h))
    have hg99 : gg91 < w81.heap.size := by rcases hg93 with h | h; exact h ▸ Nat.lt_of_lt_of_le hg79 (KpL.size E82); exact h
    have hH100 : Hang w53.heap.size w81 (fun u => Sl RI 1 u (.slice p85 ((nbK A_g ix 1).length) q86) (nbK A_g ix 1)) := Own.hang hO94 RI.flat (by decide) hN96 (Nat.le_trans (Below.size E63) (KpL.size E82))
    have J88 : ∀ (u90 : Nat → Value) (y8_ : Value) (w101 : World), (KpL [gg91] w81 w101) → (Own RI 1 2 gg91 w81.heap.size w101 y8_ (nbK A_g ix 2)) → K88 (fr [(Pt g_b g_o), (Iv ix), Ud, Ud, (.slice none 0 0), (Iv (ix % A_g.x)), (Iv ((ix / A_g.x) % A_g.y)), (Iv ((ix / A_g.x) / A_g.y)), y8_, (Iv ix), (Pt g_b g_o), (Pt g_b g_o), (Pt g_b (g_o + 4)), (Iv A_g.x), (Iv (ix % A_g.x)), v21, v22, v23, v24, v25, v26, v27, v28, v29, v30, (Iv ((ix / A_g.x) % A_g.y)), v42, v43, v44, v45, v46, v47, v48, v49, v50, v51, (Iv ((ix / A_g.x) / A_g.y)), (.slice (some ⟨b59, 0, none⟩) 0 0), (Iv ((ix / A_g.x) / A_g.y)), (Bo (icmp .gtr ((ix / A_g.x) / A_g.y) 0)), (u71 40), (u71 41), (u71 42), (u71 43), (u71 44), (u71 45), (u71 46), (u71 47), (u71 48), (u71 49), (u71 50), (u71 51), (u71 52), (u71 53), (Iv ((ix / A_g.x) % A_g.y)), (Bo (icmp .gtr ((ix / A_g.x) % A_g.y) 0)), (u90 56), (u90 57), (u90 58), (u90 59), (u90 60), (u90 61), (u90 62), (u90 63), (u90 64), Ud, Ud, Ud, Ud, Ud, Ud, Ud, Ud, Ud, Ud, Ud, Ud, Ud, Ud, Ud, Ud, Ud, Ud, Ud, Ud, Ud, Ud, Ud, Ud, Ud, Ud, Ud, Ud, Ud, Ud, Ud, Ud, Ud, Ud, Ud, Ud, Ud, Ud, Ud, Ud, Ud, Ud, Ud, Ud, Ud, Ud, Ud, Ud, Ud, Ud, Ud, Ud, Ud, Ud, Ud, Ud, Ud]) w101 := by
      intro u90 y8_ w101 E102 hO103
      have X104 := Below.kl X84 E102 (allS g97 all0) (Nat.le_refl _)
      obtain ⟨p105, q106, rfl⟩ := Own.shape hO103
      have hH107 : Hang w53.heap.size w101 (fun u => Sl RI 1 u (.slice p105 ((nbK A_g ix 2).length) q106) (nbK A_g ix 2)) := Own.hang hO103 RI.flat (by decide) hN96 (Nat.le_trans (Below.size E63) (KpL.size E82))
      have hnl := nbK_len A_g ix 2
      refine hK88 _ _ ?_
      refine wp_seq_k fun K108 hK108 => ?_
      refine wp_seq_k fun K109 hK109 => ?_
      refine wp_region_lit ?_
      refine q_is rfl rfl (does_move (u := (Iv (ix % A_g.x))) (ev rfl)) (by dsimp only [List.set]; try rfl) ?_
      refine q_is rfl rfl (does_icmp (p := ix % A_g.x) (q := 0) (.inr (.inr (.inr (.inr (.inl rfl))))) (ev rfl) (ev rfl)) (by dsimp only [List.set]; try rfl) ?_
      refine wpList_nil (hK109 _ _ ?_)
      have n115 : g_b < w101.heap.size := cell_lt (Cells.at (hc_g.ext X104) 0 rfl)
      obtain ⟨gg111, hg112, hg113, hO114⟩ := Own.start' hO103 hO103
      have hN116 : w53.heap.size ≤ gg111 := by rcases hg112 with h | h; exact h ▸ hN96; exact Nat.le_trans (Nat.le_trans (Below.size E63) (KpL.size E82)) h
      have g117 : w.heap.size ≤ gg111 := Nat.le_trans (Nat.le_trans (Nat.le_trans (Nat.le_trans (Below.size E18) (Below.size E33)) (Below.size E39)) (Below.size E54)) hN116
      have n118 : g_b ≠ gg111 := hg112.elim (fun h => by rw [h]; exact n98) (fun h => Nat.ne_of_lt (Nat.lt_of_lt_of_le n95 h))
      have hg119 : gg111 < w101.heap.size := by rcases hg113 with h | h; exact h ▸ Nat.lt_of_lt_of_le hg99 (KpL.size E102); exact h
      have hH120 : Hang w53.heap.size w101 (fun u => Sl RI 1 u (.slice p105 ((nbK A_g ix 2).length) q106) (nbK A_g ix 2)) := Own.hang hO114 RI.flat (by decide) hN116 (Nat.le_trans (Nat.le_trans (Below.size E63) (KpL.size E82)) (KpL.size E102))
      have J108 : ∀ (u110 : Nat → Value) (y8_ : Value) (w121 : World), (KpL [gg111] w101 w121) → (Own RI 1 2 gg111 w101.heap.size w121 y8_ (nbK A_g ix 3)) → K108 (fr [(Pt g_b g_o), (Iv ix), Ud, Ud, (.slice none 0 0), (Iv (ix % A_g.x)), (Iv ((ix / A_g.x) % A_g.y)), (Iv ((ix / A_g.x) / A_g.y)), y8_, (Iv ix), (Pt g_b g_o), (Pt g_b g_o), (Pt g_b (g_o + 4)), (Iv A_g.x), (Iv (ix % A_g.x)), v21, v22, v23, v24, v25, v26, v27, v28, v29, v30, (Iv ((ix / A_g.x) % A_g.y)), v42, v43, v44, v45, v46, v47, v48, v49, v50, v51, (Iv ((ix / A_g.x) / A_g.y)), (.slice (some ⟨b59, 0, none⟩) 0 0), (Iv ((ix / A_g.x) / A_g.y)), (Bo (icmp .gtr ((ix / A_g.x) / A_g.y) 0)), (u71 40), (u71 41), (u71 42), (u71 43), (u71 44), (u71 45), (u71 46), (u71 47), (u71 48), (u71 49), (u71 50), (u71 51), (u71 52), (u71 53), (Iv ((ix / A_g.x) % A_g.y)), (Bo (icmp .gtr ((ix / A_g.x) % A_g.y) 0)), (u90 56), (u90 57), (u90 58), (u90 59), (u90 60), (u90 61), (u90 62), (u90 63), (u90 64), (Iv (ix % A_g.x)), (Bo (icmp .gtr (ix % A_g.x) 0)), (u110 67), (u110 68), (u110 69), (u110 70), (u110 71), Ud, Ud, Ud, Ud, Ud, Ud, Ud, Ud, Ud, Ud, Ud, Ud, Ud, Ud, Ud, Ud, Ud, Ud, Ud, Ud, Ud, Ud, Ud, Ud, Ud, Ud, Ud, Ud, Ud, Ud, Ud, Ud, Ud, Ud, Ud, Ud, Ud, Ud, Ud, Ud, Ud, Ud, Ud, Ud, Ud, Ud, Ud, Ud, Ud, Ud]) w121 := by
        intro u110 y8_ w121 E122 hO123
        have X124 := Below.kl X104 E122 (allS g117 all0) (Nat.le_refl _)
        obtain ⟨p125, q126, rfl⟩ := Own.shape hO123
        have hH127 : Hang w53.heap.size w121 (fun u => Sl RI 1 u (.slice p125 ((nbK A_g ix 3).length) q126) (nbK A_g ix 3)) := Own.hang hO123 RI.flat (by decide) hN116 (Nat.le_trans (Nat.le_trans (Below.size E63) (KpL.size E82)) (KpL.size E102))
        have hnl := nbK_len A_g ix 3
        refine hK108 _ _ ?_
        refine wp_seq_k fun K128 hK128 => ?_
        refine wp_seq_k fun K129 hK129 => ?_
        refine wp_region_lit ?_
        refine q_is rfl rfl (does_move (u := (Iv (ix % A_g.x))) (ev rfl)) (by dsimp only [List.set]; try rfl) ?_
        refine q_is rfl rfl (does_move (u := (Pt g_b g_o)) (ev rfl)) (by dsimp only [List.set]; try rfl) ?_
        refine q_is rfl rfl (does_nilCheck (ev rfl)) (by dsimp only [List.set]; try rfl) ?_
        refine q_is rfl rfl (does_fieldAddr (ev rfl) fa49_2) (by dsimp only [List.set]; try rfl) ?_
        refine q_is rfl rfl (does_load (u := (Iv A_g.x)) (ev rfl) Try.isAgg2 (Cells.at (hc_g.ext X124) 4 rfl)) (by dsimp only [List.set]; try rfl) ?_
        refine q_is rfl rfl (does_iarith (p := A_g.x) (q := 1) (r := A_g.x - 1) (ev rfl) (ev rfl) (.inr (.inl ⟨rfl, (in_i64 (by omega) (by omega)).symm⟩))) (by dsimp only [List.set]; try rfl) ?_
        refine q_is rfl rfl (does_icmp (p := ix % A_g.x) (q := A_g.x - 1) (.inr (.inr (.inl rfl))) (ev rfl) (ev rfl)) (by dsimp only [List.set]; try rfl) ?_
        refine wpList_nil (hK129 _ _ ?_)
        have n135 : g_b < w121.heap.size := cell_lt (Cells.at (hc_g.ext X124) 0 rfl)
        obtain ⟨gg131, hg132, hg133, hO134⟩ := Own.start' hO123 hO123
        have hN136 : w53.heap.size ≤ gg131 := by rcases hg132 with h | h; exact h ▸ hN116; exact Nat.le_trans (Nat.le_trans (Nat.le_trans (Below.size E63) (KpL.size E82)) (KpL.size E102)) h
        have g137 : w.heap.size ≤ gg131 := Nat.le_trans (Nat.le_trans (Nat.le_trans (Nat.le_trans (Below.size E18) (Below.size E33)) (Below.size E39)) (Below.size E54)) hN136
        have n138 : g_b ≠ gg131 := hg132.elim (fun h => by rw [h]; exact n118) (fun h => Nat.ne_of_lt (Nat.lt_of_lt_of_le n115 h))
        have hg139 : gg131 < w121.heap.size := by rcases hg133 with h | h; exact h ▸ Nat.lt_of_lt_of_le hg119 (KpL.size E122); exact h
        have hH140 : Hang w53.heap.size w121 (fun u => Sl RI 1 u (.slice p125 ((nbK A_g ix 3).length) q126) (nbK A_g ix 3)) := Own.hang hO134 RI.flat (by decide) hN136 (Nat.le_trans (Nat.le_trans (Nat.le_trans (Below.size E63) (KpL.size E82)) (KpL.size E102)) (KpL.size E122))
        have J128 : ∀ (u130 : Nat → Value) (y8_ : Value) (w141 : World), (KpL [gg131] w121 w141) → (Own RI 1 2 gg131 w121.heap.size w141 y8_ (nbK A_g ix 4)) → K128 (fr [(Pt g_b g_o), (Iv ix), Ud, Ud, (.slice none 0 0), (Iv (ix % A_g.x)), (Iv ((ix / A_g.x) % A_g.y)), (Iv ((ix / A_g.x) / A_g.y)), y8_, (Iv ix), (Pt g_b g_o), (Pt g_b g_o), (Pt g_b (g_o + 4)), (Iv A_g.x), (Iv (ix % A_g.x)), v21, v22, v23, v24, v25, v26, v27, v28, v29, v30, (Iv ((ix / A_g.x) % A_g.y)), v42, v43, v44, v45, v46, v47, v48, v49, v50, v51, (Iv ((ix / A_g.x) / A_g.y)), (.slice (some ⟨b59, 0, none⟩) 0 0), (Iv ((ix / A_g.x) / A_g.y)), (Bo (icmp .gtr ((ix / A_g.x) / A_g.y) 0)), (u71 40), (u71 41), (u71 42), (u71 43), (u71 44), (u71 45), (u71 46), (u71 47), (u71 48), (u71 49), (u71 50), (u71 51), (u71 52), (u71 53), (Iv ((ix / A_g.x) % A_g.y)), (Bo (icmp .gtr ((ix / A_g.x) % A_g.y) 0)), (u90 56), (u90 57), (u90 58), (u90 59), (u90 60), (u90 61), (u90 62), (u90 63), (u90 64), (Iv (ix % A_g.x)), (Bo (icmp .gtr (ix % A_g.x) 0)), (u110 67), (u110 68), (u110 69), (u110 70), (u110 71), (Iv (ix % A_g.x)), (Pt g_b g_o), (Pt g_b g_o), (Pt g_b (g_o + 4)), (Iv A_g.x), (Iv (A_g.x - 1)), (Bo (icmp .lss (ix % A_g.x) (A_g.x - 1))), (u130 79), (u130 80), (u130 81), (u130 82), (u130 83), Ud, Ud, Ud, Ud, Ud, Ud, Ud, Ud, Ud, Ud, Ud, Ud, Ud, Ud, Ud, Ud, Ud, Ud, Ud, Ud, Ud, Ud, Ud, Ud, Ud, Ud, Ud, Ud, Ud, Ud, Ud, Ud, Ud, Ud, Ud, Ud, Ud, Ud]) w141 := by
          intro u130 y8_ w141 E142 hO143
          have X144 := Below.kl X124 E142 (allS g137 all0) (Nat.le_refl _)
          obtain ⟨p145, q146, rfl⟩ := Own.shape hO143
          have hH147 : Hang w53.heap.size w141 (fun u => Sl RI 1 u (.slice p145 ((nbK A_g ix 4).length) q146) (nbK A_g ix 4)) := Own.hang hO143 RI.flat (by decide) hN136 (Nat.le_trans (Nat.le_trans (Nat.le_trans (Below.size E63) (KpL.size E82)) (KpL.size E102)) (KpL.size E122))
          have hnl := nbK_len A_g ix 4
          refine hK128 _ _ ?_
          refine wp_seq_k fun K148 hK148 => ?_
          refine wp_seq_k fun K149 hK149 => ?_
          refine wp_region_lit ?_
          refine q_is rfl rfl (does_move (u := (Iv ((ix / A_g.x) % A_g.y))) (ev rfl)) (by dsimp only [List.set]; try rfl) ?_
          refine q_is rfl rfl (does_move (u := (Pt g_b g_o)) (ev rfl)) (by dsimp only [List.set]; try rfl) ?_
          refine q_is rfl rfl (does_nilCheck (ev rfl)) (by dsimp only [List.set]; try rfl) ?_
          refine q_is rfl rfl (does_fieldAddr (ev rfl) fa49_3) (by dsimp only [List.set]; try rfl) ?_
          refine q_is rfl rfl (does_load (u := (Iv A_g.y)) (ev rfl) Try.isAgg2 (Cells.at (hc_g.ext X144) 5 rfl)) (by dsimp only [List.set]; try rfl) ?_
          refine q_is rfl rfl (does_iarith (p := A_g.y) (q := 1) (r := A_g.y - 1) (ev rfl) (ev rfl) (.inr (.inl ⟨rfl, (in_i64 (by omega) (by omega)).symm⟩))) (by dsimp only [List.set]; try rfl) ?_
          refine q_is rfl rfl (does_icmp (p := (ix / A_g.x) % A_g.y) (q := A_g.y - 1) (.inr (.inr (.inl rfl))) (ev rfl) (ev rfl)) (by dsimp only [List.set]; try rfl) ?_
          refine wpList_nil (hK149 _ _ ?_)
          have n155 : g_b < w141.heap.size := cell_lt (Cells.at (hc_g.ext X144) 0 rfl)
          obtain ⟨gg151, hg152, hg153, hO154⟩ := Own.start' hO143 hO143
          have hN156 : w53.heap.size ≤ gg151 := by rcases hg152 with h | h; exact h ▸ hN136; exact Nat.le_trans (Nat.le_trans (Nat.le_trans (Nat.le_trans (Below.size E63) (KpL.size E82)) (KpL.size E102)) (KpL.size E122)) h
          have g157 : w.heap.size ≤ gg151 := Nat.le_trans (Nat.le_trans (Nat.le_trans (Nat.le_trans (Below.size E18) (Below.size E33)) (Below.size E39)) (Below.size E54)) hN156
          have n158 : g_b ≠ gg151 := hg152.elim (fun h => by rw [h]; exact n138) (fun h => Nat.ne_of_lt (Nat.lt_of_lt_of_le n135 h))
          have hg159 : gg151 < w141.heap.size := by rcases hg153 with h | h; exact h ▸ Nat.lt_of_lt_of_le hg139 (KpL.size E142); exact h
          have hH160 : Hang w53.heap.size w141 (fun u => Sl RI 1 u (.slice p145 ((nbK A_g ix 4).length) q146) (nbK A_g ix 4)) := Own.hang hO154 RI.flat (by decide) hN156 (Nat.le_trans (Nat.le_trans (Nat.le_trans (Nat.le_trans (Below.size E63) (KpL.size E82)) (KpL.size E102)) (KpL.size E122)) (KpL.size E142))
          have J148 : ∀ (u150 : Nat → Value) (y8_ : Value) (w161 : World), (KpL [gg151] w141 w161) → (Own RI 1 2 gg151 w141.heap.size w161 y8_ (nbK A_g ix 5)) → K148 (fr [(Pt g_b g_o), (Iv ix), Ud, Ud, (.slice none 0 0), (Iv (ix % A_g.x)), (Iv ((ix / A_g.x) % A_g.y)), (Iv ((ix / A_g.x) / A_g.y)), y8_, (Iv ix), (Pt g_b g_o), (Pt g_b g_o), (Pt g_b (g_o + 4)), (Iv A_g.x), (Iv (ix % A_g.x)), v21, v22, v23, v24, v25, v26, v27, v28, v29, v30, (Iv ((ix / A_g.x) % A_g.y)), v42, v43, v44, v45, v46, v47, v48, v49, v50, v51, (Iv ((ix / A_g.x) / A_g.y)), (.slice (some ⟨b59, 0, none⟩) 0 0), (Iv ((ix / A_g.x) / A_g.y)), (Bo (icmp .gtr ((ix / A_g.x) / A_g.y) 0)), (u71 40), (u71 41), (u71 42), (u71 43), (u71 44), (u71 45), (u71 46), (u71 47), (u71 48), (u71 49), (u71 50), (u71 51), (u71 52), (u71 53), (Iv ((ix / A_g.x) % A_g.y)), (Bo (icmp .gtr ((ix / A_g.x) % A_g.y) 0)), (u90 56), (u90 57), (u90 58), (u90 59), (u90 60), (u90 61), (u90 62), (u90 63), (u90 64), (Iv (ix % A_g.x)), (Bo (icmp .gtr (ix % A_g.x) 0)), (u110 67), (u110 68), (u110 69), (u110 70), (u110 71), (Iv (ix % A_g.x)), (Pt g_b g_o), (Pt g_b g_o), (Pt g_b (g_o + 4)), (Iv A_g.x), (Iv (A_g.x - 1)), (Bo (icmp .lss (ix % A_g.x) (A_g.x - 1))), (u130 79), (u130 80), (u130 81), (u130 82), (u130 83), (Iv ((ix / A_g.x) % A_g.y)), (Pt g_b g_o), (Pt g_b g_o), (Pt g_b (g_o + 5)), (Iv A_g.y), (Iv (A_g.y - 1)), (Bo (icmp .lss ((ix / A_g.x) % A_g.y) (A_g.y - 1))), (u150 91), (u150 92), (u150 93), (u150 94), (u150 95), (u150 96), (u150 97), (u150 98), (u150 99), Ud, Ud, Ud, Ud, Ud, Ud, Ud, Ud, Ud, Ud, Ud, Ud, Ud, Ud, Ud, Ud, Ud, Ud, Ud, Ud, Ud, Ud]) w161 := by
            intro u150 y8_ w161 E162 hO163
            have X164 := Below.kl X144 E162 (allS g157 all0) (Nat.le_refl _)
            obtain ⟨p165, q166, rfl⟩ := Own.shape hO163
            have hH167 : Hang w53.heap.size w161 (fun u => Sl RI 1 u (.slice p165 ((nbK A_g ix 5).length) q166) (nbK A_g ix 5)) := Own.hang hO163 RI.flat (by decide) hN156 (Nat.le_trans (Nat.le_trans (Nat.le_trans (Nat.le_trans (Below.size E63) (KpL.size E82)) (KpL.size E102)) (KpL.size E122)) (KpL.size E142))
            have hnl := nbK_len A_g ix 5
            refine hK148 _ _ ?_
            refine wp_seq_k fun K168 hK168 => ?_
            refine wp_seq_k fun K169 hK169 => ?_
            refine wp_region_lit ?_
            refine q_is rfl rfl (does_move (u := (Iv ((ix / A_g.x) / A_g.y))) (ev rfl)) (by dsimp only [List.set]; try rfl) ?_
            refine q_is rfl rfl (does_move (u := (Pt g_b g_o)) (ev rfl)) (by dsimp only [List.set]; try rfl) ?_
            refine q_is rfl rfl (does_nilCheck (ev rfl)) (by dsimp only [List.set]; try rfl) ?_
            refine q_is rfl rfl (does_fieldAddr (ev rfl) fa49_4) (by dsimp only [List.set]; try rfl) ?_
            refine q_is rfl rfl (does_load (u := (Iv A_g.z)) (ev rfl) Try.isAgg2 (Cells.at (hc_g.ext X164) 6 rfl)) (by dsimp only [List.set]; try rfl) ?_
            refine q_is rfl rfl (does_iarith (p := A_g.z) (q := 1) (r := A_g.z - 1) (ev rfl) (ev rfl) (.inr (.inl ⟨rfl, (in_i64 (by omega) (by omega)).symm⟩))) (by dsimp only [List.set]; try rfl) ?_
            refine q_is rfl rfl (does_icmp (p := (ix / A_g.x) / A_g.y) (q := A_g.z - 1) (.inr (.inr (.inl rfl))) (ev rfl) (ev rfl)) (by dsimp only [List.set]; try rfl) ?_
            refine wpList_nil (hK169 _ _ ?_)
            have n175 : g_b < w161.heap.size := cell_lt (Cells.at (hc_g.ext X164) 0 rfl)
            obtain ⟨gg171, hg172, hg173, hO174⟩ := Own.start' hO163 hO163
            have hN176 : w53.heap.size ≤ gg171 := by rcases hg172 with h | h; exact h ▸ hN156; exact Nat.le_trans (Nat.le_trans (Nat.le_trans (Nat.le_trans (Nat.le_trans (Below.size E63) (KpL.size E82)) (KpL.size E102)) (KpL.size E122)) (KpL.size E142)) h
            have g177 : w.heap.size ≤ gg171 := Nat.le_trans (Nat.le_trans (Nat.le_trans (Nat.le_trans (Below.size E18) (Below.size E33)) (Below.size E39)) (Below.size E54)) hN176
            have n178 : g_b ≠ gg171 := hg172.elim (fun h => by rw [h]; exact n158) (fun h => Nat.ne_of_lt (Nat.lt_of_lt_of_le n155 h))
            have hg179 : gg171 < w161.heap.size := by rcases hg173 with h | h; exact h ▸ Nat.lt_of_lt_of_le hg159 (KpL.size E162); exact h
            have hH180 : Hang w53.heap.size w161 (fun u => Sl RI 1 u (.slice p165 ((nbK A_g ix 5).length) q166) (nbK A_g ix 5)) := Own.hang hO174 RI.flat (by decide) hN176 (Nat.le_trans (Nat.le_trans (Nat.le_trans (Nat.le_trans (Nat.le_trans (Below.size E63) (KpL.size E82)) (KpL.size E102)) (KpL.size E122)) (KpL.size E142)) (KpL.size E162))
            have J168 : ∀ (u170 : Nat → Value) (y8_ : Value) (w181 : World), (KpL [gg171] w161 w181) → (Own RI 1 2 gg171 w161.heap.size w181 y8_ (nbK A_g ix 6)) → K168 (fr [(Pt g_b g_o), (Iv ix), Ud, Ud, (.slice none 0 0), (Iv (ix % A_g.x)), (Iv ((ix / A_g.x) % A_g.y)), (Iv ((ix / A_g.x) / A_g.y)), y8_, (Iv ix), (Pt g_b g_o), (Pt g_b g_o), (Pt g_b (g_o + 4)), (Iv A_g.x), (Iv (ix % A_g.x)), v21, v22, v23, v24, v25, v26, v27, v28, v29, v30, (Iv ((ix / A_g.x) % A_g.y)), v42, v43, v44, v45, v46, v47, v48, v49, v50, v51, (Iv ((ix / A_g.x) / A_g.y)), (.slice (some ⟨b59, 0, none⟩) 0 0), (Iv ((ix / A_g.x) / A_g.y)), (Bo (icmp .gtr ((ix / A_g.x) / A_g.y) 0)), (u71 40), (u71 41), (u71 42), (u71 43), (u71 44), (u71 45), (u71 46), (u71 47), (u71 48), (u71 49), (u71 50), (u71 51), (u71 52), (u71 53), (Iv ((ix / A_g.x) % A_g.y)), (Bo (icmp .gtr ((ix / A_g.x) % A_g.y) 0)), (u90 56), (u90 57), (u90 58), (u90 59), (u90 60), (u90 61), (u90 62), (u90 63), (u90 64), (Iv (ix % A_g.x)), (Bo (icmp .gtr (ix % A_g.x) 0)), (u110 67), (u110 68), (u110 69), (u110 70), (u110 71), (Iv (ix % A_g.x)), (Pt g_b g_o), (Pt g_b g_o), (Pt g_b (g_o + 4)), (Iv A_g.x), (Iv (A_g.x - 1)), (Bo (icmp .lss (ix % A_g.x) (A_g.x - 1))), (u130 79), (u130 80), (u130 81), (u130 82), (u130 83), (Iv ((ix / A_g.x) % A_g.y)), (Pt g_b g_o), (Pt g_b g_o), (Pt g_b (g_o + 5)), (Iv A_g.y), (Iv (A_g.y - 1)), (Bo (icmp .lss ((ix / A_g.x) % A_g.y) (A_g.y - 1))), (u150 91), (u150 92), (u150 93), (u150 94), (u150 95), (u150 96), (u150 97), (u150 98), (u150 99), (Iv ((ix / A_g.x) / A_g.y)), (Pt g_b g_o), (Pt g_b g_o), (Pt g_b (g_o + 6)), (Iv A_g.z), (Iv (A_g.z - 1)), (Bo (icmp .lss ((ix / A_g.x) / A_g.y) (A_g.z - 1))), (u170 107), (u170 108), (u170 109), (u170 110), (u170 111), (u170 112), (u170 113), (u170 114), (u170 115), (u170 116), (u170 117), (u170 118), (u170 119), (u170 120), Ud]) w181 := by
              intro u170 y8_ w181 E182 hO183
              have X184 := Below.kl X164 E182 (allS g177 all0) (Nat.le_refl _)
              obtain ⟨p185, q186, rfl⟩ := Own.shape hO183
              have hH187 : Hang w53.heap.size w181 (fun u => Sl RI 1 u (.slice p185 ((nbK A_g ix 6).length) q186) (nbK A_g ix 6)) := Own.hang hO183 RI.flat (by decide) hN176 (Nat.le_trans (Nat.le_trans (Nat.le_trans (Nat.le_trans (Nat.le_trans (Below.size E63) (KpL.size E82)) (KpL.size E102)) (KpL.size E122)) (KpL.size E142)) (KpL.size E162))
              have hnl := nbK_len A_g ix 6
              refine hK168 _ _ ?_
              refine wp_seq_k fun K188 hK188 => ?_
              refine wp_region_lit ?_
              refine q_is rfl rfl (does_move (u := (.slice p185 ((nbK A_g ix 6).length) q186)) (ev rfl)) (by dsimp only [List.set]; try rfl) ?_
              refine q_is rfl rfl (does_assign (u := (.slice p185 ((nbK A_g ix 6).length) q186)) (ev rfl)) (by dsimp only [List.set]; try rfl) ?_
              refine wpList_nil (hK188 _ _ ?_)
              refine wp_ret ?_
              refine ret_val (v := (.slice p185 ((nbK A_g ix 6).length) q186)) (res_T rfl (slot rfl)) X184 ?_
              have x189 : (nbK A_g ix 6) = (nb A_g ix) := by rfl
              exact ⟨(.slice p185 ((nbK A_g ix 6).length) q186), rfl, (Hang.castL (Own.hang hO183 RI.flat (by decide) (Nat.le_trans (Nat.le_trans (Nat.le_trans (Nat.le_trans (Below.size E18) (Below.size E33)) (Below.size E39)) (Below.size E54)) hN176) (Nat.le_trans (Nat.le_trans (Nat.le_trans (Nat.le_trans (Below.size E18) (Below.size E33)) (Below.size E39)) (Below.size E54)) (Nat.le_trans (Nat.le_trans (Nat.le_trans (Nat.le_trans (Nat.le_trans (Below.size E63) (KpL.size E82)) (KpL.size E102)) (KpL.size E122)) (KpL.size E142)) (KpL.size E162)))) x189)⟩
            refine wp_cond_split (t := icmp .lss ((ix / A_g.x) / A_g.y) (A_g.z - 1)) (ev rfl) (fun c190 => ?_) (fun c190 => ?_)
            · have c190' := c190
              (try simp only [icmp, Bool.and_eq_true, Bool.or_eq_true, Bool.and_eq_false_iff, Bool.or_eq_false_iff, Bool.not_eq_true', Bool.not_eq_false', decide_eq_true_eq, decide_eq_false_iff_not, beq_iff_eq, bne_iff_ne, beq_eq_false_iff_ne, bne_eq_false_iff_eq] at c190')
              refine region_any2 [] [0, 0, 0, 4, 12, 28, 0, 64, 192, 448, 1020, 2046, 4094, 8191, 16383] [] (
                [FactW.pure [] [] [] true (fun v => v = (.slice p165 ((nbK A_g ix 5).length) q166)),
                  FactW.pure [] [] [] true (fun v => v = (Iv ix)),
                  FactW.pure [] [] [] true (fun v => v = (Pt g_b g_o)),
                  FactW.pure [2] [] [] true (fun v => v = (Pt g_b g_o)),
                  FactW.pure [3] [] [] true (fun v => v = (Pt g_b (g_o + 4))),
                  FactW.pure [4] [] [] true (fun v => v = (Iv A_g.x)),
                  FactW.pure [] [] [] true (fun v => v = (Pt g_b g_o)),
                  FactW.pure [6] [] [] true (fun v => v = (Pt g_b g_o)),
                  FactW.pure [7] [] [] true (fun v => v = (Pt g_b (g_o + 5))),
                  FactW.pure [8] [] [] true (fun v => v = (Iv A_g.y)),
                  FactW.pure [5, 9] [] [] true (fun v => v = (Iv (A_g.x * A_g.y))),
                  FactW.pure [1, 10] [] [] true (fun v => v = (Iv (ix + (A_g.x * A_g.y)))),
                  FactW.mem [11] [] [] [] true (fun v w' => ∃ b : Nat, v = .slice (some ⟨b, 0, none⟩) 1 1 ∧ w161.heap.size ≤ b ∧ Blk w' b [(Iv (ix + (A_g.x * A_g.y)))]) (by rintro v w1 w2 hx' ⟨b, rfl, hb, hB⟩; have hx := KpL.toExt hx'; exact ⟨b, rfl, hb, (hB.ext hx)⟩)]) mixed (by kernel_rfl) ?_
              obtain ⟨w191, hw193⟩ : ∃ w', w' = World.drew w161 := ⟨_, rfl⟩; rw [← hw193]; have E192 : Ext w161 w191 := by rw [hw193]; exact Ext.draw _
              clear hw193
              have X194 := Ext.gr X164 E192
              refine RW2_d _ rfl (fun v => by dsimp only [List.set]; try rfl) (fun u hu hF => ?_) (fun v195 => ?_)
              · replace hu : KpL [] _ _ := hu
                clear hF
                refine doesG_un rfl ?_
                refine (does_move (u := (.slice p165 ((nbK A_g ix 5).length) q166)) (ev rfl)).mono ?_; rintro _ _ ⟨rfl, rfl⟩
                exact ⟨rfl, KpL.refl _ _⟩
              refine RW2_d _ rfl (fun v => by dsimp only [List.set]; try rfl) (fun u hu hF => ?_) (fun v196 => ?_)
              · replace hu : KpL [] _ _ := hu
                clear hF
                refine doesG_un rfl ?_
                refine (does_move (u := (Iv ix)) (ev rfl)).mono ?_; rintro _ _ ⟨rfl, rfl⟩
                exact ⟨rfl, KpL.refl _ _⟩
              refine RW2_d _ rfl (fun v => by dsimp only [List.set]; try rfl) (fun u hu hF => ?_) (fun v197 => ?_)
              · replace hu : KpL [] _ _ := hu
                clear hF
                refine doesG_un rfl ?_
                refine (does_move (u := (Pt g_b g_o)) (ev rfl)).mono ?_; rintro _ _ ⟨rfl, rfl⟩
                exact ⟨rfl, KpL.refl _ _⟩
              refine RW2_d _ rfl (fun v => by dsimp only [List.set]; try rfl) (fun u hu hF => ?_) (fun v198 => ?_)
              · replace hu : KpL [] _ _ := hu
                have h109_ : v197 = (Pt g_b g_o) := hF.1
                clear hF
                refine doesG_un rfl ?_
                obtain rfl := h109_
                refine (does_nilCheck (ev rfl)).mono ?_; rintro _ _ ⟨rfl, rfl⟩
                exact ⟨rfl, KpL.refl _ _⟩
              refine RW2_d _ rfl (fun v => by dsimp only [List.set]; try rfl) (fun u hu hF => ?_) (fun v199 => ?_)
              · replace hu : KpL [] _ _ := hu
                have h110_ : v198 = (Pt g_b g_o) := hF.1
                clear hF
                refine doesG_un rfl ?_
                obtain rfl := h110_
                refine (does_fieldAddr (ev rfl) fa49_2).mono ?_; rintro _ _ ⟨rfl, rfl⟩
                exact ⟨rfl, KpL.refl _ _⟩
              refine RW2_d _ rfl (fun v => by dsimp only [List.set]; try rfl) (fun u hu hF => ?_) (fun v200 => ?_)
              · replace hu : KpL [] _ _ := hu
                have h111_ : v199 = (Pt g_b (g_o + 4)) := hF.1
                clear hF
                refine doesG_un rfl ?_
                obtain rfl := h111_
                refine (does_load (u := (Iv A_g.x)) (ev rfl) Try.isAgg2 (Cells.at (hc_g.ext (Ext.gr (Ext.gr X164 E192) (KpL.toExt hu))) 4 rfl)).mono ?_; rintro _ _ ⟨rfl, rfl⟩
                exact ⟨rfl, KpL.refl _ _⟩
              refine RW2_d _ rfl (fun v => by dsimp only [List.set]; try rfl) (fun u hu hF => ?_) (fun v201 => ?_)
              · replace hu : KpL [] _ _ := hu
                clear hF
                refine doesG_un rfl ?_
                refine (does_move (u := (Pt g_b g_o)) (ev rfl)).mono ?_; rintro _ _ ⟨rfl, rfl⟩
                exact ⟨rfl, KpL.refl _ _⟩
              refine RW2_d _ rfl (fun v => by dsimp only [List.set]; try rfl) (fun u hu hF => ?_) (fun v202 => ?_)
              · replace hu : KpL [] _ _ := hu
                have h113_ : v201 = (Pt g_b g_o) := hF.1
                clear hF
                refine doesG_un rfl ?_
                obtain rfl := h113_
                refine (does_nilCheck (ev rfl)).mono ?_; rintro _ _ ⟨rfl, rfl⟩
                exact ⟨rfl, KpL.refl _ _⟩
              refine RW2_d _ rfl (fun v => by dsimp only [List.set]; try rfl) (fun u hu hF => ?_) (fun v203 => ?_)
              · replace hu : KpL [] _ _ := hu
                have h114_ : v202 = (Pt g_b g_o) := hF.1
                clear hF
                refine doesG_un rfl ?_
                obtain rfl := h114_
                refine (does_fieldAddr (ev rfl) fa49_3).mono ?_; rintro _ _ ⟨rfl, rfl⟩
                exact ⟨rfl, KpL.refl _ _⟩
              refine RW2_d _ rfl (fun v => by dsimp only [List.set]; try rfl) (fun u hu hF => ?_) (fun v204 => ?_)
              · replace hu : KpL [] _ _ := hu
                have h115_ : v203 = (Pt g_b (g_o + 5)) := hF.1
                clear hF
                refine doesG_un rfl ?_
                obtain rfl := h115_
                refine (does_load (u := (Iv A_g.y)) (ev rfl) Try.isAgg2 (Cells.at (hc_g.ext (Ext.gr (Ext.gr X164 E192) (KpL.toExt hu))) 5 rfl)).mono ?_; rintro _ _ ⟨rfl, rfl⟩
                exact ⟨rfl, KpL.refl _ _⟩
              refine RW2_d _ rfl (fun v => by dsimp only [List.set]; try rfl) (fun u hu hF => ?_) (fun v205 => ?_)
              · replace hu : KpL [] _ _ := hu
                have h112_ : v200 = (Iv A_g.x) := hF.1
                have h116_ : v204 = (Iv A_g.y) := hF.2.1
                clear hF
                refine doesG_un rfl ?_
                obtain rfl := h112_
                obtain rfl := h116_
                refine (does_iarith (p := A_g.x) (q := A_g.y) (r := A_g.x * A_g.y) (ev rfl) (ev rfl) (.inr (.inr ⟨rfl, (in_i64 (by omega) (by omega)).symm⟩))).mono ?_; rintro _ _ ⟨rfl, rfl⟩
                exact ⟨rfl, KpL.refl _ _⟩
              refine RW2_d _ rfl (fun v => by dsimp only [List.set]; try rfl) (fun u hu hF => ?_) (fun v206 => ?_)
              · replace hu : KpL [] _ _ := hu
                have h108_ : v196 = (Iv ix) := hF.1
                have h117_ : v205 = (Iv (A_g.x * A_g.y)) := hF.2.1
                clear hF
                refine doesG_un rfl ?_
                obtain rfl := h108_
                obtain rfl := h117_
                refine (does_iarith (p := ix) (q := A_g.x * A_g.y) (r := ix + (A_g.x * A_g.y)) (ev rfl) (ev rfl) (.inl ⟨rfl, (in_i64 (by omega) (by omega)).symm⟩)).mono ?_; rintro _ _ ⟨rfl, rfl⟩
                exact ⟨rfl, KpL.refl _ _⟩
              refine RW2_d _ rfl (fun v => by dsimp only [List.set]; try rfl) (fun u hu hF => ?_) (fun v207 => ?_)
              · replace hu : KpL [] _ _ := hu
                have h118_ : v206 = (Iv (ix + (A_g.x * A_g.y))) := hF.1
                clear hF
                refine doesG_un rfl ?_
                obtain rfl := h118_
                refine (does_buildSlice (e := 2) (parts' := [(0, (Iv (ix + (A_g.x * A_g.y))))]) (cells := [(Iv (ix + (A_g.x * A_g.y)))]) (evp rfl) (fun _ => by kernel_rfl)).mono ?_; rintro _ _ ⟨b, rfl, hb, hB, hx⟩
                exact ⟨⟨b, rfl, Nat.le_trans (Nat.le_trans (Below.size E192) (KpL.size hu)) hb, hB⟩, (KpL.of_ext hx)⟩
              refine RW2_fin ?_; intro w208 E209 hP210; replace E209 : KpL [] _ _ := E209
              obtain ⟨⟨⟨⟨⟨⟨⟨⟨⟨⟨⟨⟨⟨-, q211⟩, -⟩, -⟩, -⟩, -⟩, -⟩, -⟩, -⟩, -⟩, -⟩, -⟩, -⟩, q212⟩ := hP210
              have X213 := Below.kl X194 E209 all0 (Nat.le_refl _)
              have q211 : v195 = (.slice p165 ((nbK A_g ix 5).length) q166) := q211 rfl
              obtain rfl := q211
              have q212 : ∃ b : Nat, v207 = .slice (some ⟨b, 0, none⟩) 1 1 ∧ w161.heap.size ≤ b ∧ Blk w208 b [(Iv (ix + (A_g.x * A_g.y)))] := q212 rfl
              obtain ⟨b214, rfl, hb215, hB216⟩ := q212
              have n217 : g_b < b214 := Nat.lt_of_lt_of_le (cell_lt (Cells.at (hc_g.ext X164) 0 rfl)) hb215
              have g218 : w.heap.size ≤ b214 := Nat.le_trans (Below.size X164) hb215
              show wpList _ _ _ _ (fr [_, _, _, _, _, _, _, _, _, _, _, _, _, _, _, _, _, _, _, _, _, _, _, _, _, _, _, _, _, _, _, _, _, _, _, _, _, _, _, _, _, _, _, _, _, _, _, _, _, _, _, _, _, _, _, _, _, _, _, _, _, _, _, _, _, _, _, _, _, _, _, _, _, _, _, _, _, _, _, _, _, _, _, _, _, _, _, _, _, _, _, _, _, _, _, _, _, _, _, _, _, _, _, _, _, _, _, _, _, _, _, _, _, _, _, _, _, _, _, _, _, _]) _
              refine seqd rfl rfl (does_append (R := RI) (k := 1) (g0 := gg171) (B := w161.heap.size) (xs := (nbK A_g ix 5)) (ys := [ix + (A_g.x * A_g.y)]) Try.underlying27 inf2 rfl (by decide) (ev rfl) (ev rfl) (Own.same hO174 RI.flat (((Same.refl _ _).ext E192).kl E209 all0) hN176 (Nat.le_trans (Nat.le_trans (Nat.le_trans (Nat.le_trans (Nat.le_trans (Below.size E63) (KpL.size E82)) (KpL.size E102)) (KpL.size E122)) (KpL.size E142)) (KpL.size E162))) RI.flat hB216 rfl rfl rfl (fun i x hi => lit1 (R := RI) (cs := [(Iv (ix + (A_g.x * A_g.y)))]) (y := ix + (A_g.x * A_g.y))  rfl i x hi) (by first | (simp only [List.length_append, List.length_cons, List.length_nil]; omega) | omega) (Nat.le_trans (Below.size E192) (KpL.size E209))) ?_; rintro y' w219 ⟨gg220, hg221, K222, hO223⟩
              have hN224 : w53.heap.size ≤ gg220 := by rcases hg221 with h | h; exact h ▸ hN176; exact Nat.le_trans (Nat.le_trans (Nat.le_trans (Nat.le_trans (Nat.le_trans (Nat.le_trans (Below.size E63) (KpL.size E82)) (KpL.size E102)) (KpL.size E122)) (KpL.size E142)) (KpL.size E162)) h
              have g225 : w.heap.size ≤ gg220 := Nat.le_trans (Nat.le_trans (Nat.le_trans (Nat.le_trans (Below.size E18) (Below.size E33)) (Below.size E39)) (Below.size E54)) hN224
              have n226 : g_b ≠ gg220 := hg221.elim (fun h => by rw [h]; exact n178) (fun h => Nat.ne_of_lt (Nat.lt_of_lt_of_le n175 h))
              have X227 := Below.kl X213 K222 (allS g225 all0) (Nat.le_refl _)
              obtain ⟨p228, q229, rfl⟩ := Own.shape hO223
              have hH230 : Hang w53.heap.size w219 (fun u => Sl RI 1 u (.slice p228 (((nbK A_g ix 5) ++ [ix + (A_g.x * A_g.y)]).length) q229) ((nbK A_g ix 5) ++ [ix + (A_g.x * A_g.y)])) := Own.hang hO223 RI.flat (by decide) hN176 (Nat.le_trans (Nat.le_trans (Nat.le_trans (Nat.le_trans (Nat.le_trans (Below.size E63) (KpL.size E82)) (KpL.size E102)) (KpL.size E122)) (KpL.size E142)) (KpL.size E162))
              show wpList _ _ _ _ (fr [_, _, _, _, _, _, _, _, _, _, _, _, _, _, _, _, _, _, _, _, _, _, _, _, _, _, _, _, _, _, _, _, _, _, _, _, _, _, _, _, _, _, _, _, _, _, _, _, _, _, _, _, _, _, _, _, _, _, _, _, _, _, _, _, _, _, _, _, _, _, _, _, _, _, _, _, _, _, _, _, _, _, _, _, _, _, _, _, _, _, _, _, _, _, _, _, _, _, _, _, _, _, _, _, _, _, _, _, _, _, _, _, _, _, _, _, _, _, _, _, _, _]) _
              refine q_is rfl rfl (does_assign (u := (.slice p228 (((nbK A_g ix 5) ++ [ix + (A_g.x * A_g.y)]).length) q229)) (ev rfl)) (by dsimp only [List.set]; try rfl) ?_
              have hO231 := Own.cast (ys := nbK A_g ix 6) hO223 (by first | exact nb_f0 (if_neg (by omega)) | exact nb_t0 (if_pos (by omega)) | exact nb_t (if_pos (by omega)) | exact nb_f (if_neg (by omega)))
              exact wpList_nil (J168 (fun t => (([(Pt g_b g_o), (Iv ix), Ud, Ud, (.slice none 0 0), (Iv (ix % A_g.x)), (Iv ((ix / A_g.x) % A_g.y)), (Iv ((ix / A_g.x) / A_g.y)), (.slice p228 (((nbK A_g ix 5) ++ [ix + (A_g.x * A_g.y)]).length) q229), (Iv ix), (Pt g_b g_o), (Pt g_b g_o), (Pt g_b (g_o + 4)), (Iv A_g.x), (Iv (ix % A_g.x)), v21, v22, v23, v24, v25, v26, v27, v28, v29, v30, (Iv ((ix / A_g.x) % A_g.y)), v42, v43, v44, v45, v46, v47, v48, v49, v50, v51, (Iv ((ix / A_g.x) / A_g.y)), (.slice (some ⟨b59, 0, none⟩) 0 0), (Iv ((ix / A_g.x) / A_g.y)), (Bo (icmp .gtr ((ix / A_g.x) / A_g.y) 0)), (u71 40), (u71 41), (u71 42), (u71 43), (u71 44), (u71 45), (u71 46), (u71 47), (u71 48), (u71 49), (u71 50), (u71 51), (u71 52), (u71 53), (Iv ((ix / A_g.x) % A_g.y)), (Bo (icmp .gtr ((ix / A_g.x) % A_g.y) 0)), (u90 56), (u90 57), (u90 58), (u90 59), (u90 60), (u90 61), (u90 62), (u90 63), (u90 64), (Iv (ix % A_g.x)), (Bo (icmp .gtr (ix % A_g.x) 0)), (u110 67), (u110 68), (u110 69), (u110 70), (u110 71), (Iv (ix % A_g.x)), (Pt g_b g_o), (Pt g_b g_o), (Pt g_b (g_o + 4)), (Iv A_g.x), (Iv (A_g.x - 1)), (Bo (icmp .lss (ix % A_g.x) (A_g.x - 1))), (u130 79), (u130 80), (u130 81), (u130 82), (u130 83), (Iv ((ix / A_g.x) % A_g.y)), (Pt g_b g_o), (Pt g_b g_o), (Pt g_b (g_o + 5)), (Iv A_g.y), (Iv (A_g.y - 1)), (Bo (icmp .lss ((ix / A_g.x) % A_g.y) (A_g.y - 1))), (u150 91), (u150 92), (u150 93), (u150 94), (u150 95), (u150 96), (u150 97), (u150 98), (u150 99), (Iv ((ix / A_g.x) / A_g.y)), (Pt g_b g_o), (Pt g_b g_o), (Pt g_b (g_o + 6)), (Iv A_g.z), (Iv (A_g.z - 1)), (Bo (icmp .lss ((ix / A_g.x) / A_g.y) (A_g.z - 1))), (.slice p165 ((nbK A_g ix 5).length) q166), v196, v197, v198, v199, v200, v201, v202, v203, v204, v205, v206, (.slice (some ⟨b214, 0, none⟩) 1 1), (.slice p228 (((nbK A_g ix 5) ++ [ix + (A_g.x * A_g.y)]).length) q229), Ud] : List Value)[t]?).getD undef) (.slice p228 (((nbK A_g ix 5) ++ [ix + (A_g.x * A_g.y)]).length) q229) _ (KpL.more (KpL.more (KpL.ext (KpL.refl _ _) E192) E209 all0) K222 (allS (hg221.imp (fun h => by simp [h]) id) all0)) hO231)
            have c190' := c190
            (try simp only [icmp, Bool.and_eq_true, Bool.or_eq_true, Bool.and_eq_false_iff, Bool.or_eq_false_iff, Bool.not_eq_true', Bool.not_eq_false', decide_eq_true_eq, decide_eq_false_iff_not, beq_iff_eq, bne_iff_ne, beq_eq_false_iff_ne, bne_eq_false_iff_eq] at c190')
            have hO232 := Own.cast (ys := nbK A_g ix 6) hO174 (by first | exact nb_f0 (if_neg (by omega)) | exact nb_t0 (if_pos (by omega)) | exact nb_t (if_pos (by omega)) | exact nb_f (if_neg (by omega)))
            exact wp_skip (J168 (fun t => (([(Pt g_b g_o), (Iv ix), Ud, Ud, (.slice none 0 0), (Iv (ix % A_g.x)), (Iv ((ix / A_g.x) % A_g.y)), (Iv ((ix / A_g.x) / A_g.y)), (.slice p165 ((nbK A_g ix 5).length) q166), (Iv ix), (Pt g_b g_o), (Pt g_b g_o), (Pt g_b (g_o + 4)), (Iv A_g.x), (Iv (ix % A_g.x)), v21, v22, v23, v24, v25, v26, v27, v28, v29, v30, (Iv ((ix / A_g.x) % A_g.y)), v42, v43, v44, v45, v46, v47, v48, v49, v50, v51, (Iv ((ix / A_g.x) / A_g.y)), (.slice (some ⟨b59, 0, none⟩) 0 0), (Iv ((ix / A_g.x) / A_g.y)), (Bo (icmp .gtr ((ix / A_g.x) / A_g.y) 0)), (u71 40), (u71 41), (u71 42), (u71 43), (u71 44), (u71 45), (u71 46), (u71 47), (u71 48), (u71 49), (u71 50), (u71 51), (u71 52), (u71 53), (Iv ((ix / A_g.x) % A_g.y)), (Bo (icmp .gtr ((ix / A_g.x) % A_g.y) 0)), (u90 56), (u90 57), (u90 58), (u90 59), (u90 60), (u90 61), (u90 62), (u90 63), (u90 64), (Iv (ix % A_g.x)), (Bo (icmp .gtr (ix % A_g.x) 0)), (u110 67), (u110 68), (u110 69), (u110 70), (u110 71), (Iv (ix % A_g.x)), (Pt g_b g_o), (Pt g_b g_o), (Pt g_b (g_o + 4)), (Iv A_g.x), (Iv (A_g.x - 1)), (Bo (icmp .lss (ix % A_g.x) (A_g.x - 1))), (u130 79), (u130 80), (u130 81), (u130 82), (u130 83), (Iv ((ix / A_g.x) % A_g.y)), (Pt g_b g_o), (Pt g_b g_o), (Pt g_b (g_o + 5)), (Iv A_g.y), (Iv (A_g.y - 1)), (Bo (icmp .lss ((ix / A_g.x) % A_g.y) (A_g.y - 1))), (u150 91), (u150 92), (u150 93), (u150 94), (u150 95), (u150 96), (u150 97), (u150 98), (u150 99), (Iv ((ix / A_g.x) / A_g.y)), (Pt g_b g_o), (Pt g_b g_o), (Pt g_b (g_o + 6)), (Iv A_g.z), (Iv (A_g.z - 1)), (Bo (icmp .lss ((ix / A_g.x) / A_g.y) (A_g.z - 1))), Ud, Ud, Ud, Ud, Ud, Ud, Ud, Ud, Ud, Ud, Ud, Ud, Ud, Ud, Ud] : List Value)[t]?).getD undef) (.slice p165 ((nbK A_g ix 5).length) q166) _ (KpL.refl _ _) hO232)
          refine wp_cond_split (t := icmp .lss ((ix / A_g.x) % A_g.y) (A_g.y - 1)) (ev rfl) (fun c233 => ?_) (fun c233 => ?_)
          · have c233' := c233
            (try simp only [icmp, Bool.and_eq_true, Bool.or_eq_true, Bool.and_eq_false_iff, Bool.or_eq_false_iff, Bool.not_eq_true', Bool.not_eq_false', decide_eq_true_eq, decide_eq_false_iff_not, beq_iff_eq, bne_iff_ne, beq_eq_false_iff_ne, bne_eq_false_iff_eq] at c233')
            refine wp_region_lit ?_
            refine q_is rfl rfl (does_move (u := (.slice p145 ((nbK A_g ix 4).length) q146)) (ev rfl)) (by dsimp only [List.set]; try rfl) ?_
            refine q_is rfl rfl (does_move (u := (Iv ix)) (ev rfl)) (by dsimp only [List.set]; try rfl) ?_
            refine q_is rfl rfl (does_move (u := (Pt g_b g_o)) (ev rfl)) (by dsimp only [List.set]; try rfl) ?_
            refine q_is rfl rfl (does_nilCheck (ev rfl)) (by dsimp only [List.set]; try rfl) ?_
            refine q_is rfl rfl (does_fieldAddr (ev rfl) fa49_2) (by dsimp only [List.set]; try rfl) ?_
            refine q_is rfl rfl (does_load (u := (Iv A_g.x)) (ev rfl) Try.isAgg2 (Cells.at (hc_g.ext X144) 4 rfl)) (by dsimp only [List.set]; try rfl) ?_
            refine q_is rfl rfl (does_iarith (p := ix) (q := A_g.x) (r := ix + A_g.x) (ev rfl) (ev rfl) (.inl ⟨rfl, (in_i64 (by omega) (by omega)).symm⟩)) (by dsimp only [List.set]; try rfl) ?_
            refine seqd rfl rfl (does_buildSlice (e := 2) (parts' := [(0, (Iv (ix + A_g.x)))]) (cells := [(Iv (ix + A_g.x))]) (evp rfl) (fun _ => by kernel_rfl)) ?_; rintro _ w238 ⟨b234, rfl, hb235, hB236, E237⟩
            have n239 : g_b < b234 := Nat.lt_of_lt_of_le (cell_lt (Cells.at (hc_g.ext X144) 0 rfl)) hb235
            have g240 : w.heap.size ≤ b234 := Nat.le_trans (Below.size X144) hb235
            have X241 := Ext.gr X144 E237
            show wpList _ _ _ _ (fr [_, _, _, _, _, _, _, _, _, _, _, _, _, _, _, _, _, _, _, _, _, _, _, _, _, _, _, _, _, _, _, _, _, _, _, _, _, _, _, _, _, _, _, _, _, _, _, _, _, _, _, _, _, _, _, _, _, _, _, _, _, _, _, _, _, _, _, _, _, _, _, _, _, _, _, _, _, _, _, _, _, _, _, _, _, _, _, _, _, _, _, _, _, _, _, _, _, _, _, _, _, _, _, _, _, _, _, _, _, _, _, _, _, _, _, _, _, _, _, _, _, _]) _
            refine seqd rfl rfl (does_append (R := RI) (k := 1) (g0 := gg151) (B := w141.heap.size) (xs := (nbK A_g ix 4)) (ys := [ix + A_g.x]) Try.underlying27 inf2 rfl (by decide) (ev rfl) (ev rfl) (Own.same hO154 RI.flat ((Same.refl _ _).ext E237) hN156 (Nat.le_trans (Nat.le_trans (Nat.le_trans (Nat.le_trans (Below.size E63) (KpL.size E82)) (KpL.size E102)) (KpL.size E122)) (KpL.size E142))) RI.flat hB236 rfl rfl rfl (fun i x hi => lit1 (R := RI) (cs := [(Iv (ix + A_g.x))]) (y := ix + A_g.x)  rfl i x hi) (by first | (simp only [List.length_append, List.length_cons, List.length_nil]; omega) | omega) (Below.size E237)) ?_; rintro y' w242 ⟨gg243, hg244, K245, hO246⟩
            have hN247 : w53.heap.size ≤ gg243 := by rcases hg244 with h | h; exact h ▸ hN156; exact Nat.le_trans (Nat.le_trans (Nat.le_trans (Nat.le_trans (Nat.le_trans (Below.size E63) (KpL.size E82)) (KpL.size E102)) (KpL.size E122)) (KpL.size E142)) h
            have g248 : w.heap.size ≤ gg243 := Nat.le_trans (Nat.le_trans (Nat.le_trans (Nat.le_trans (Below.size E18) (Below.size E33)) (Below.size E39)) (Below.size E54)) hN247
            have n249 : g_b ≠ gg243 := hg244.elim (fun h => by rw [h]; exact n158) (fun h => Nat.ne_of_lt (Nat.lt_of_lt_of_le n155 h))
            have X250 := Below.kl X241 K245 (allS g248 all0) (Nat.le_refl _)
            obtain ⟨p251, q252, rfl⟩ := Own.shape hO246
            have hH253 : Hang w53.heap.size w242 (fun u => Sl RI 1 u (.slice p251 (((nbK A_g ix 4) ++ [ix + A_g.x]).length) q252) ((nbK A_g ix 4) ++ [ix + A_g.x])) := Own.hang hO246 RI.flat (by decide) hN156 (Nat.le_trans (Nat.le_trans (Nat.le_trans (Nat.le_trans (Below.size E63) (KpL.size E82)) (KpL.size E102)) (KpL.size E122)) (KpL.size E142))
            show wpList _ _ _ _ (fr [_, _, _, _, _, _, _, _, _, _, _, _, _, _, _, _, _, _, _, _, _, _, _, _, _, _, _, _, _, _, _, _, _, _, _, _, _, _, _, _, _, _, _, _, _, _, _, _, _, _, _, _, _, _, _, _, _, _, _, _, _, _, _, _, _, _, _, _, _, _, _, _, _, _, _, _, _, _, _, _, _, _, _, _, _, _, _, _, _, _, _, _, _, _, _, _, _, _, _, _, _, _, _, _, _, _, _, _, _, _, _, _, _, _, _, _, _, _, _, _, _, _]) _
            refine q_is rfl rfl (does_assign (u := (.slice p251 (((nbK A_g ix 4) ++ [ix + A_g.x]).length) q252)) (ev rfl)) (by dsimp only [List.set]; try rfl) ?_
            have hO254 := Own.cast (ys := nbK A_g ix 5) hO246 (by first | exact nb_f0 (if_neg (by omega)) | exact nb_t0 (if_pos (by omega)) | exact nb_t (if_pos (by omega)) | exact nb_f (if_neg (by omega)))
            exact wpList_nil (J148 (fun t => (([(Pt g_b g_o), (Iv ix), Ud, Ud, (.slice none 0 0), (Iv (ix % A_g.x)), (Iv ((ix / A_g.x) % A_g.y)), (Iv ((ix / A_g.x) / A_g.y)), (.slice p251 (((nbK A_g ix 4) ++ [ix + A_g.x]).length) q252), (Iv ix), (Pt g_b g_o), (Pt g_b g_o), (Pt g_b (g_o + 4)), (Iv A_g.x), (Iv (ix % A_g.x)), v21, v22, v23, v24, v25, v26, v27, v28, v29, v30, (Iv ((ix / A_g.x) % A_g.y)), v42, v43, v44, v45, v46, v47, v48, v49, v50, v51, (Iv ((ix / A_g.x) / A_g.y)), (.slice (some ⟨b59, 0, none⟩) 0 0), (Iv ((ix / A_g.x) / A_g.y)), (Bo (icmp .gtr ((ix / A_g.x) / A_g.y) 0)), (u71 40), (u71 41), (u71 42), (u71 43), (u71 44), (u71 45), (u71 46), (u71 47), (u71 48), (u71 49), (u71 50), (u71 51), (u71 52), (u71 53), (Iv ((ix / A_g.x) % A_g.y)), (Bo (icmp .gtr ((ix / A_g.x) % A_g.y) 0)), (u90 56), (u90 57), (u90 58), (u90 59), (u90 60), (u90 61), (u90 62), (u90 63), (u90 64), (Iv (ix % A_g.x)), (Bo (icmp .gtr (ix % A_g.x) 0)), (u110 67), (u110 68), (u110 69), (u110 70), (u110 71), (Iv (ix % A_g.x)), (Pt g_b g_o), (Pt g_b g_o), (Pt g_b (g_o + 4)), (Iv A_g.x), (Iv (A_g.x - 1)), (Bo (icmp .lss (ix % A_g.x) (A_g.x - 1))), (u130 79), (u130 80), (u130 81), (u130 82), (u130 83), (Iv ((ix / A_g.x) % A_g.y)), (Pt g_b g_o), (Pt g_b g_o), (Pt g_b (g_o + 5)), (Iv A_g.y), (Iv (A_g.y - 1)), (Bo (icmp .lss ((ix / A_g.x) % A_g.y) (A_g.y - 1))), (.slice p145 ((nbK A_g ix 4).length) q146), (Iv ix), (Pt g_b g_o), (Pt g_b g_o), (Pt g_b (g_o + 4)), (Iv A_g.x), (Iv (ix + A_g.x)), (.slice (some ⟨b234, 0, none⟩) 1 1), (.slice p251 (((nbK A_g ix 4) ++ [ix + A_g.x]).length) q252), Ud, Ud, Ud, Ud, Ud, Ud, Ud, Ud, Ud, Ud, Ud, Ud, Ud, Ud, Ud, Ud, Ud, Ud, Ud, Ud, Ud, Ud] : List Value)[t]?).getD undef) (.slice p251 (((nbK A_g ix 4) ++ [ix + A_g.x]).length) q252) _ (KpL.more (KpL.ext (KpL.refl _ _) E237) K245 (allS (hg244.imp (fun h => by simp [h]) id) all0)) hO254)
          have c233' := c233
          (try simp only [icmp, Bool.and_eq_true, Bool.or_eq_true, Bool.and_eq_false_iff, Bool.or_eq_false_iff, Bool.not_eq_true', Bool.not_eq_false', decide_eq_true_eq, decide_eq_false_iff_not, beq_iff_eq, bne_iff_ne, beq_eq_false_iff_ne, bne_eq_false_iff_eq] at c233')
          have hO255 := Own.cast (ys := nbK A_g ix 5) hO154 (by first | exact nb_f0 (if_neg (by omega)) | exact nb_t0 (if_pos (by omega)) | exact nb_t (if_pos (by omega)) | exact nb_f (if_neg (by omega)))
          exact wp_skip (J148 (fun t => (([(Pt g_b g_o), (Iv ix), Ud, Ud, (.slice none 0 0), (Iv (ix % A_g.x)), (Iv ((ix / A_g.x) % A_g.y)), (Iv ((ix / A_g.x) / A_g.y)), (.slice p145 ((nbK A_g ix 4).length) q146), (Iv ix), (Pt g_b g_o), (Pt g_b g_o), (Pt g_b (g_o + 4)), (Iv A_g.x), (Iv (ix % A_g.x)), v21, v22, v23, v24, v25, v26, v27, v28, v29, v30, (Iv ((ix / A_g.x) % A_g.y)), v42, v43, v44, v45, v46, v47, v48, v49, v50, v51, (Iv ((ix / A_g.x) / A_g.y)), (.slice (some ⟨b59, 0, none⟩) 0 0), (Iv ((ix / A_g.x) / A_g.y)), (Bo (icmp .gtr ((ix / A_g.x) / A_g.y) 0)), (u71 40), (u71 41), (u71 42), (u71 43), (u71 44), (u71 45), (u71 46), (u71 47), (u71 48), (u71 49), (u71 50), (u71 51), (u71 52), (u71 53), (Iv ((ix / A_g.x) % A_g.y)), (Bo (icmp .gtr ((ix / A_g.x) % A_g.y) 0)), (u90 56), (u90 57), (u90 58), (u90 59), (u90 60), (u90 61), (u90 62), (u90 63), (u90 64), (Iv (ix % A_g.x)), (Bo (icmp .gtr (ix % A_g.x) 0)), (u110 67), (u110 68), (u110 69), (u110 70), (u110 71), (Iv (ix % A_g.x)), (Pt g_b g_o), (Pt g_b g_o), (Pt g_b (g_o + 4)), (Iv A_g.x), (Iv (A_g.x - 1)), (Bo (icmp .lss (ix % A_g.x) (A_g.x - 1))), (u130 79), (u130 80), (u130 81), (u130 82), (u130 83), (Iv ((ix / A_g.x) % A_g.y)), (Pt g_b g_o), (Pt g_b g_o), (Pt g_b (g_o + 5)), (Iv A_g.y), (Iv (A_g.y - 1)), (Bo (icmp .lss ((ix / A_g.x) % A_g.y) (A_g.y - 1))), Ud, Ud, Ud, Ud, Ud, Ud, Ud, Ud, Ud, Ud, Ud, Ud, Ud, Ud, Ud, Ud, Ud, Ud, Ud, Ud, Ud, Ud, Ud, Ud, Ud, Ud, Ud, Ud, Ud, Ud, Ud] : List Value)[t]?).getD undef) (.slice p145 ((nbK A_g ix 4).length) q146) _ (KpL.refl _ _) hO255)
        refine wp_cond_split (t := icmp .lss (ix % A_g.x) (A_g.x - 1)) (ev rfl) (fun c256 => ?_) (fun c256 => ?_)
        · have c256' := c256
          (try simp only [icmp, Bool.and_eq_true, Bool.or_eq_true, Bool.and_eq_false_iff, Bool.or_eq_false_iff, Bool.not_eq_true', Bool.not_eq_false', decide_eq_true_eq, decide_eq_false_iff_not, beq_iff_eq, bne_iff_ne, beq_eq_false_iff_ne, bne_eq_false_iff_eq] at c256')
          refine wp_region_lit ?_
          refine q_is rfl rfl (does_move (u := (.slice p125 ((nbK A_g ix 3).length) q126)) (ev rfl)) (by dsimp only [List.set]; try rfl) ?_
          refine q_is rfl rfl (does_move (u := (Iv ix)) (ev rfl)) (by dsimp only [List.set]; try rfl) ?_
          refine q_is rfl rfl (does_iarith (p := ix) (q := 1) (r := ix + 1) (ev rfl) (ev rfl) (.inl ⟨rfl, (in_i64 (by omega) (by omega)).symm⟩)) (by dsimp only [List.set]; try rfl) ?_
          refine seqd rfl rfl (does_buildSlice (e := 2) (parts' := [(0, (Iv (ix + 1)))]) (cells := [(Iv (ix + 1))]) (evp rfl) (fun _ => by kernel_rfl)) ?_; rintro _ w261 ⟨b257, rfl, hb258, hB259, E260⟩
          have n262 : g_b < b257 := Nat.lt_of_lt_of_le (cell_lt (Cells.at (hc_g.ext X124) 0 rfl)) hb258
          have g263 : w.heap.size ≤ b257 := Nat.le_trans (Below.size X124) hb258
          have X264 := Ext.gr X124 E260
          show wpList _ _ _ _ (fr [_, _, _, _, _, _, _, _, _, _, _, _, _, _, _, _, _, _, _, _, _, _, _, _, _, _, _, _, _, _, _, _, _, _, _, _, _, _, _, _, _, _, _, _, _, _, _, _, _, _, _, _, _, _, _, _, _, _, _, _, _, _, _, _, _, _, _, _, _, _, _, _, _, _, _, _, _, _, _, _, _, _, _, _, _, _, _, _, _, _, _, _, _, _, _, _, _, _, _, _, _, _, _, _, _, _, _, _, _, _, _, _, _, _, _, _, _, _, _, _, _, _]) _
          refine seqd rfl rfl (does_append (R := RI) (k := 1) (g0 := gg131) (B := w121.heap.size) (xs := (nbK A_g ix 3)) (ys := [ix + 1]) Try.underlying27 inf2 rfl (by decide) (ev rfl) (ev rfl) (Own.same hO134 RI.flat ((Same.refl _ _).ext E260) hN136 (Nat.le_trans (Nat.le_trans (Nat.le_trans (Below.size E63) (KpL.size E82)) (KpL.size E102)) (KpL.size E122))) RI.flat hB259 rfl rfl rfl (fun i x hi => lit1 (R := RI) (cs := [(Iv (ix + 1))]) (y := ix + 1)  rfl i x hi) (by first | (simp only [List.length_append, List.length_cons, List.length_nil]; omega) | omega) (Below.size E260)) ?_; rintro y' w265 ⟨gg266, hg267, K268, hO269⟩
          have hN270 : w53.heap.size ≤ gg266 := by rcases hg267 with h | h; exact h ▸ hN136; exact Nat.le_trans (Nat.le_trans (Nat.le_trans (Nat.le_trans (Below.size E63) (KpL.size E82)) (KpL.size E102)) (KpL.size E122)) h
          have g271 : w.heap.size ≤ gg266 := Nat.le_trans (Nat.le_trans (Nat.le_trans (Nat.le_trans (Below.size E18) (Below.size E33)) (Below.size E39)) (Below.size E54)) hN270
          have n272 : g_b ≠ gg266 := hg267.elim (fun h => by rw [h]; exact n138) (fun h => Nat.ne_of_lt (Nat.lt_of_lt_of_le n135 h))
          have X273 := Below.kl X264 K268 (allS g271 all0) (Nat.le_refl _)
          obtain ⟨p274, q275, rfl⟩ := Own.shape hO269
          have hH276 : Hang w53.heap.size w265 (fun u => Sl RI 1 u (.slice p274 (((nbK A_g ix 3) ++ [ix + 1]).length) q275) ((nbK A_g ix 3) ++ [ix + 1])) := Own.hang hO269 RI.flat (by decide) hN136 (Nat.le_trans (Nat.le_trans (Nat.le_trans (Below.size E63) (KpL.size E82)) (KpL.size E102)) (KpL.size E122))
          show wpList _ _ _ _ (fr [_, _, _, _, _, _, _, _, _, _, _, _, _, _, _, _, _, _, _, _, _, _, _, _, _, _, _, _, _, _, _, _, _, _, _, _, _, _, _, _, _, _, _, _, _, _, _, _, _, _, _, _, _, _, _, _, _, _, _, _, _, _, _, _, _, _, _, _, _, _, _, _, _, _, _, _, _, _, _, _, _, _, _, _, _, _, _, _, _, _, _, _, _, _, _, _, _, _, _, _, _, _, _, _, _, _, _, _, _, _, _, _, _, _, _, _, _, _, _, _, _, _]) _
          refine q_is rfl rfl (does_assign (u := (.slice p274 (((nbK A_g ix 3) ++ [ix + 1]).length) q275)) (ev rfl)) (by dsimp only [List.set]; try rfl) ?_
          have hO277 := Own.cast (ys := nbK A_g ix 4) hO269 (by first | exact nb_f0 (if_neg (by omega)) | exact nb_t0 (if_pos (by omega)) | exact nb_t (if_pos (by omega)) | exact nb_f (if_neg (by omega)))
          exact wpList_nil (J128 (fun t => (([(Pt g_b g_o), (Iv ix), Ud, Ud, (.slice none 0 0), (Iv (ix % A_g.x)), (Iv ((ix / A_g.x) % A_g.y)), (Iv ((ix / A_g.x) / A_g.y)), (.slice p274 (((nbK A_g ix 3) ++ [ix + 1]).length) q275), (Iv ix), (Pt g_b g_o), (Pt g_b g_o), (Pt g_b (g_o + 4)), (Iv A_g.x), (Iv (ix % A_g.x)), v21, v22, v23, v24, v25, v26, v27, v28, v29, v30, (Iv ((ix / A_g.x) % A_g.y)), v42, v43, v44, v45, v46, v47, v48, v49, v50, v51, (Iv ((ix / A_g.x) / A_g.y)), (.slice (some ⟨b59, 0, none⟩) 0 0), (Iv ((ix / A_g.x) / A_g.y)), (Bo (icmp .gtr ((ix / A_g.x) / A_g.y) 0)), (u71 40), (u71 41), (u71 42), (u71 43), (u71 44), (u71 45), (u71 46), (u71 47), (u71 48), (u71 49), (u71 50), (u71 51), (u71 52), (u71 53), (Iv ((ix / A_g.x) % A_g.y)), (Bo (icmp .gtr ((ix / A_g.x) % A_g.y) 0)), (u90 56), (u90 57), (u90 58), (u90 59), (u90 60), (u90 61), (u90 62), (u90 63), (u90 64), (Iv (ix % A_g.x)), (Bo (icmp .gtr (ix % A_g.x) 0)), (u110 67), (u110 68), (u110 69), (u110 70), (u110 71), (Iv (ix % A_g.x)), (Pt g_b g_o), (Pt g_b g_o), (Pt g_b (g_o + 4)), (Iv A_g.x), (Iv (A_g.x - 1)), (Bo (icmp .lss (ix % A_g.x) (A_g.x - 1))), (.slice p125 ((nbK A_g ix 3).length) q126), (Iv ix), (Iv (ix + 1)), (.slice (some ⟨b257, 0, none⟩) 1 1), (.slice p274 (((nbK A_g ix 3) ++ [ix + 1]).length) q275), Ud, Ud, Ud, Ud, Ud, Ud, Ud, Ud, Ud, Ud, Ud, Ud, Ud, Ud, Ud, Ud, Ud, Ud, Ud, Ud, Ud, Ud, Ud, Ud, Ud, Ud, Ud, Ud, Ud, Ud, Ud, Ud, Ud, Ud, Ud, Ud, Ud, Ud] : List Value)[t]?).getD undef) (.slice p274 (((nbK A_g ix 3) ++ [ix + 1]).length) q275) _ (KpL.more (KpL.ext (KpL.refl _ _) E260) K268 (allS (hg267.imp (fun h => by simp [h]) id) all0)) hO277)
        have c256' := c256
        (try simp only [icmp, Bool.and_eq_true, Bool.or_eq_true, Bool.and_eq_false_iff, Bool.or_eq_false_iff, Bool.not_eq_true', Bool.not_eq_false', decide_eq_true_eq, decide_eq_false_iff_not, beq_iff_eq, bne_iff_ne, beq_eq_false_iff_ne, bne_eq_false_iff_eq] at c256')
        have hO278 := Own.cast (ys := nbK A_g ix 4) hO134 (by first | exact nb_f0 (if_neg (by omega)) | exact nb_t0 (if_pos (by omega)) | exact nb_t (if_pos (by omega)) | exact nb_f (if_neg (by omega)))
        exact wp_skip (J128 (fun t => (([(Pt g_b g_o), (Iv ix), Ud, Ud, (.slice none 0 0), (Iv (ix % A_g.x)), (Iv ((ix / A_g.x) % A_g.y)), (Iv ((ix / A_g.x) / A_g.y)), (.slice p125 ((nbK A_g ix 3).length) q126), (Iv ix), (Pt g_b g_o), (Pt g_b g_o), (Pt g_b (g_o + 4)), (Iv A_g.x), (Iv (ix % A_g.x)), v21, v22, v23, v24, v25, v26, v27, v28, v29, v30, (Iv ((ix / A_g.x) % A_g.y)), v42, v43, v44, v45, v46, v47, v48, v49, v50, v51, (Iv ((ix / A_g.x) / A_g.y)), (.slice (some ⟨b59, 0, none⟩) 0 0), (Iv ((ix / A_g.x) / A_g.y)), (Bo (icmp .gtr ((ix / A_g.x) / A_g.y) 0)), (u71 40), (u71 41), (u71 42), (u71 43), (u71 44), (u71 45), (u71 46), (u71 47), (u71 48), (u71 49), (u71 50), (u71 51), (u71 52), (u71 53), (Iv ((ix / A_g.x) % A_g.y)), (Bo (icmp .gtr ((ix / A_g.x) % A_g.y) 0)), (u90 56), (u90 57), (u90 58), (u90 59), (u90 60), (u90 61), (u90 62), (u90 63), (u90 64), (Iv (ix % A_g.x)), (Bo (icmp .gtr (ix % A_g.x) 0)), (u110 67), (u110 68), (u110 69), (u110 70), (u110 71), (Iv (ix % A_g.x)), (Pt g_b g_o), (Pt g_b g_o), (Pt g_b (g_o + 4)), (Iv A_g.x), (Iv (A_g.x - 1)), (Bo (icmp .lss (ix % A_g.x) (A_g.x - 1))), Ud, Ud, Ud, Ud, Ud, Ud, Ud, Ud, Ud, Ud, Ud, Ud, Ud, Ud, Ud, Ud, Ud, Ud, Ud, Ud, Ud, Ud, Ud, Ud, Ud, Ud, Ud, Ud, Ud, Ud, Ud, Ud, Ud, Ud, Ud, Ud, Ud, Ud, Ud, Ud, Ud, Ud, Ud] : List Value)[t]?).getD undef) (.slice p125 ((nbK A_g ix 3).length) q126) _ (KpL.refl _ _) hO278)
      refine wp_cond_split (t := icmp .gtr (ix % A_g.x) 0) (ev rfl) (fun c279 => ?_) (fun c279 => ?_)
      · have c279' := c279
        (try simp only [icmp, Bool.and_eq_true, Bool.or_eq_true, Bool.and_eq_false_iff, Bool.or_eq_false_iff, Bool.not_eq_true', Bool.not_eq_false', decide_eq_true_eq, decide_eq_false_iff_not, beq_iff_eq, bne_iff_ne, beq_eq_false_iff_ne, bne_eq_false_iff_eq] at c279')
        refine wp_region_lit ?_
        refine q_is rfl rfl (does_move (u := (.slice p105 ((nbK A_g ix 2).length) q106)) (ev rfl)) (by dsimp only [List.set]; try rfl) ?_
        refine q_is rfl rfl (does_move (u := (Iv ix)) (ev rfl)) (by dsimp only [List.set]; try rfl) ?_
        refine q_is rfl rfl (does_iarith (p := ix) (q := 1) (r := ix - 1) (ev rfl) (ev rfl) (.inr (.inl ⟨rfl, (in_i64 (by omega) (by omega)).symm⟩))) (by dsimp only [List.set]; try rfl) ?_
        refine seqd rfl rfl (does_buildSlice (e := 2) (parts' := [(0, (Iv (ix - 1)))]) (cells := [(Iv (ix - 1))]) (evp rfl) (fun _ => by kernel_rfl)) ?_; rintro _ w284 ⟨b280, rfl, hb281, hB282, E283⟩
        have n285 : g_b < b280 := Nat.lt_of_lt_of_le (cell_lt (Cells.at (hc_g.ext X104) 0 rfl)) hb281
        have g286 : w.heap.size ≤ b280 := Nat.le_trans (Below.size X104) hb281
        have X287 := Ext.gr X104 E283
        show wpList _ _ _ _ (fr [_, _, _, _, _, _, _, _, _, _, _, _, _, _, _, _, _, _, _, _, _, _, _, _, _, _, _, _, _, _, _, _, _, _, _, _, _, _, _, _, _, _, _, _, _, _, _, _, _, _, _, _, _, _, _, _, _, _, _, _, _, _, _, _, _, _, _, _, _, _, _, _, _, _, _, _, _, _, _, _, _, _, _, _, _, _, _, _, _, _, _, _, _, _, _, _, _, _, _, _, _, _, _, _, _, _, _, _, _, _, _, _, _, _, _, _, _, _, _, _, _, _]) _
        refine seqd rfl rfl (does_append (R := RI) (k := 1) (g0 := gg111) (B := w101.heap.size) (xs := (nbK A_g ix 2)) (ys := [ix - 1]) Try.underlying27 inf2 rfl (by decide) (ev rfl) (ev rfl) (Own.same hO114 RI.flat ((Same.refl _ _).ext E283) hN116 (Nat.le_trans (Nat.le_trans (Below.size E63) (KpL.size E82)) (KpL.size E102))) RI.flat hB282 rfl rfl rfl (fun i x hi => lit1 (R := RI) (cs := [(Iv (ix - 1))]) (y := ix - 1)  rfl i x hi) (by first | (simp only [List.length_append, List.length_cons, List.length_nil]; omega) | omega) (Below.size E283)) ?_; rintro y' w288 ⟨gg289, hg290, K291, hO292⟩
        have hN293 : w53.heap.size ≤ gg289 := by rcases hg290 with h | h; exact h ▸ hN116; exact Nat.le_trans (Nat.le_trans (Nat.le_trans (Below.size E63) (KpL.size E82)) (KpL.size E102)) h
        have g294 : w.heap.size ≤ gg289 := Nat.le_trans (Nat.le_trans (Nat.le_trans (Nat.le_trans (Below.size E18) (Below.size E33)) (Below.size E39)) (Below.size E54)) hN293
        have n295 : g_b ≠ gg289 := hg290.elim (fun h => by rw [h]; exact n118) (fun h => Nat.ne_of_lt (Nat.lt_of_lt_of_le n115 h))
        have X296 := Below.kl X287 K291 (allS g294 all0) (Nat.le_refl _)
        obtain ⟨p297, q298, rfl⟩ := Own.shape hO292
        have hH299 : Hang w53.heap.size w288 (fun u => Sl RI 1 u (.slice p297 (((nbK A_g ix 2) ++ [ix - 1]).length) q298) ((nbK A_g ix 2) ++ [ix - 1])) := Own.hang hO292 RI.flat (by decide) hN116 (Nat.le_trans (Nat.le_trans (Below.size E63) (KpL.size E82)) (KpL.size E102))
        show wpList _ _ _ _ (fr [_, _, _, _, _, _, _, _, _, _, _, _, _, _, _, _, _, _, _, _, _, _, _, _, _, _, _, _, _, _, _, _, _, _, _, _, _, _, _, _, _, _, _, _, _, _, _, _, _, _, _, _, _, _, _, _, _, _, _, _, _, _, _, _, _, _, _, _, _, _, _, _, _, _, _, _, _, _, _, _, _, _, _, _, _, _, _, _, _, _, _, _, _, _, _, _, _, _, _, _, _, _, _, _, _, _, _, _, _, _, _, _, _, _, _, _, _, _, _, _, _, _]) _
        refine q_is rfl rfl (does_assign (u := (.slice p297 (((nbK A_g ix 2) ++ [ix - 1]).length) q298)) (ev rfl)) (by dsimp only [List.set]; try rfl) ?_
        have hO300 := Own.cast (ys := nbK A_g ix 3) hO292 (by first | exact nb_f0 (if_neg (by omega)) | exact nb_t0 (if_pos (by omega)) | exact nb_t (if_pos (by omega)) | exact nb_f (if_neg (by omega)))
        exact wpList_nil (J108 (fun t => (([(Pt g_b g_o), (Iv ix), Ud, Ud, (.slice none 0 0), (Iv (ix % A_g.x)), (Iv ((ix / A_g.x) % A_g.y)), (Iv ((ix / A_g.x) / A_g.y)), (.slice p297 (((nbK A_g ix 2) ++ [ix - 1]).length) q298), (Iv ix), (Pt g_b g_o), (Pt g_b g_o), (Pt g_b (g_o + 4)), (Iv A_g.x), (Iv (ix % A_g.x)), v21, v22, v23, v24, v25, v26, v27, v28, v29, v30, (Iv ((ix / A_g.x) % A_g.y)), v42, v43, v44, v45, v46, v47, v48, v49, v50, v51, (Iv ((ix / A_g.x) / A_g.y)), (.slice (some ⟨b59, 0, none⟩) 0 0), (Iv ((ix / A_g.x) / A_g.y)), (Bo (icmp .gtr ((ix / A_g.x) / A_g.y) 0)), (u71 40), (u71 41), (u71 42), (u71 43), (u71 44), (u71 45), (u71 46), (u71 47), (u71 48), (u71 49), (u71 50), (u71 51), (u71 52), (u71 53), (Iv ((ix / A_g.x) % A_g.y)), (Bo (icmp .gtr ((ix / A_g.x) % A_g.y) 0)), (u90 56), (u90 57), (u90 58), (u90 59), (u90 60), (u90 61), (u90 62), (u90 63), (u90 64), (Iv (ix % A_g.x)), (Bo (icmp .gtr (ix % A_g.x) 0)), (.slice p105 ((nbK A_g ix 2).length) q106), (Iv ix), (Iv (ix - 1)), (.slice (some ⟨b280, 0, none⟩) 1 1), (.slice p297 (((nbK A_g ix 2) ++ [ix - 1]).length) q298), Ud, Ud, Ud, Ud, Ud, Ud, Ud, Ud, Ud, Ud, Ud, Ud, Ud, Ud, Ud, Ud, Ud, Ud, Ud, Ud, Ud, Ud, Ud, Ud, Ud, Ud, Ud, Ud, Ud, Ud, Ud, Ud, Ud, Ud, Ud, Ud, Ud, Ud, Ud, Ud, Ud, Ud, Ud, Ud, Ud, Ud, Ud, Ud, Ud, Ud] : List Value)[t]?).getD undef) (.slice p297 (((nbK A_g ix 2) ++ [ix - 1]).length) q298) _ (KpL.more (KpL.ext (KpL.refl _ _) E283) K291 (allS (hg290.imp (fun h => by simp [h]) id) all0)) hO300)
      have c279' := c279
      (try simp only [icmp, Bool.and_eq_true, Bool.or_eq_true, Bool.and_eq_false_iff, Bool.or_eq_false_iff, Bool.not_eq_true', Bool.not_eq_false', decide_eq_true_eq, decide_eq_false_iff_not, beq_iff_eq, bne_iff_ne, beq_eq_false_iff_ne, bne_eq_false_iff_eq] at c279')
      have hO301 := Own.cast (ys := nbK A_g ix 3) hO114 (by first | exact nb_f0 (if_neg (by omega)) | exact nb_t0 (if_pos (by omega)) | exact nb_t (if_pos (by omega)) | exact nb_f (if_neg (by omega)))
      exact wp_skip (J108 (fun t => (([(Pt g_b g_o), (Iv ix), Ud, Ud, (.slice none 0 0), (Iv (ix % A_g.x)), (Iv ((ix / A_g.x) % A_g.y)), (Iv ((ix / A_g.x) / A_g.y)), (.slice p105 ((nbK A_g ix 2).length) q106), (Iv ix), (Pt g_b g_o), (Pt g_b g_o), (Pt g_b (g_o + 4)), (Iv A_g.x), (Iv (ix % A_g.x)), v21, v22, v23, v24, v25, v26, v27, v28, v29, v30, (Iv ((ix / A_g.x) % A_g.y)), v42, v43, v44, v45, v46, v47, v48, v49, v50, v51, (Iv ((ix / A_g.x) / A_g.y)), (.slice (some ⟨b59, 0, none⟩) 0 0), (Iv ((ix / A_g.x) / A_g.y)), (Bo (icmp .gtr ((ix / A_g.x) / A_g.y) 0)), (u71 40), (u71 41), (u71 42), (u71 43), (u71 44), (u71 45), (u71 46), (u71 47), (u71 48), (u71 49), (u71 50), (u71 51), (u71 52), (u71 53), (Iv ((ix / A_g.x) % A_g.y)), (Bo (icmp .gtr ((ix / A_g.x) % A_g.y) 0)), (u90 56), (u90 57), (u90 58), (u90 59), (u90 60), (u90 61), (u90 62), (u90 63), (u90 64), (Iv (ix % A_g.x)), (Bo (icmp .gtr (ix % A_g.x) 0)), Ud, Ud, Ud, Ud, Ud, Ud, Ud, Ud, Ud, Ud, Ud, Ud, Ud, Ud, Ud, Ud, Ud, Ud, Ud, Ud, Ud, Ud, Ud, Ud, Ud, Ud, Ud, Ud, Ud, Ud, Ud, Ud, Ud, Ud, Ud, Ud, Ud, Ud, Ud, Ud, Ud, Ud, Ud, Ud, Ud, Ud, Ud, Ud, Ud, Ud, Ud, Ud, Ud, Ud, Ud] : List Value)[t]?).getD undef) (.slice p105 ((nbK A_g ix 2).length) q106) _ (KpL.refl _ _) hO301)
    refine wp_cond_split (t := icmp .gtr ((ix / A_g.x) % A_g.y) 0) (ev rfl) (fun c302 => ?_) (fun c302 => ?_)
    · have c302' := c302
      (try simp only [icmp, Bool.and_eq_true, Bool.or_eq_true, Bool.and_eq_false_iff, Bool.or_eq_false_iff, Bool.not_eq_true', Bool.not_eq_false', decide_eq_true_eq, decide_eq_false_iff_not, beq_iff_eq, bne_iff_ne, beq_eq_false_iff_ne, bne_eq_false_iff_eq] at c302')
      refine wp_region_lit ?_
      refine q_is rfl rfl (does_move (u := (.slice p85 ((nbK A_g ix 1).length) q86)) (ev rfl)) (by dsimp only [List.set]; try rfl) ?_
      refine q_is rfl rfl (does_move (u := (Iv ix)) (ev rfl)) (by dsimp only [List.set]; try rfl) ?_
      refine q_is rfl rfl (does_move (u := (Pt g_b g_o)) (ev rfl)) (by dsimp only [List.set]; try rfl) ?_
      refine q_is rfl rfl (does_nilCheck (ev rfl)) (by dsimp only [List.set]; try rfl) ?_
      refine q_is rfl rfl (does_fieldAddr (ev rfl) fa49_2) (by dsimp only [List.set]; try rfl) ?_
      refine q_is rfl rfl (does_load (u := (Iv A_g.x)) (ev rfl) Try.isAgg2 (Cells.at (hc_g.ext X84) 4 rfl)) (by dsimp only [List.set]; try rfl) ?_
      refine q_is rfl rfl (does_iarith (p := ix) (q := A_g.x) (r := ix - A_g.x) (ev rfl) (ev rfl) (.inr (.inl ⟨rfl, (in_i64 (by omega) (by omega)).symm⟩))) (by dsimp only [List.set]; try rfl) ?_
      refine seqd rfl rfl (does_buildSlice (e := 2) (parts' := [(0, (Iv (ix - A_g.x)))]) (cells := [(Iv (ix - A_g.x))]) (evp rfl) (fun _ => by kernel_rfl)) ?_; rintro _ w307 ⟨b303, rfl, hb304, hB305, E306⟩
      have n308 : g_b < b303 := Nat.lt_of_lt_of_le (cell_lt (Cells.at (hc_g.ext X84) 0 rfl)) hb304
      have g309 : w.heap.size ≤ b303 := Nat.le_trans (Below.size X84) hb304
      have X310 := Ext.gr X84 E306
      show wpList _ _ _ _ (fr [_, _, _, _, _, _, _, _, _, _, _, _, _, _, _, _, _, _, _, _, _, _, _, _, _, _, _, _, _, _, _, _, _, _, _, _, _, _, _, _, _, _, _, _, _, _, _, _, _, _, _, _, _, _, _, _, _, _, _, _, _, _, _, _, _, _, _, _, _, _, _, _, _, _, _, _, _, _, _, _, _, _, _, _, _, _, _, _, _, _, _, _, _, _, _, _, _, _, _, _, _, _, _, _, _, _, _, _, _, _, _, _, _, _, _, _, _, _, _, _, _, _]) _
      refine seqd rfl rfl (does_append (R := RI) (k := 1) (g0 := gg91) (B := w81.heap.size) (xs := (nbK A_g ix 1)) (ys := [ix - A_g.x]) Try.underlying27 inf2 rfl (by decide) (ev rfl) (ev rfl) (Own.same hO94 RI.flat ((Same.refl _ _).ext E306) hN96 (Nat.le_trans (Below.size E63) (KpL.size E82))) RI.flat hB305 rfl rfl rfl (fun i x hi => lit1 (R := RI) (cs := [(Iv (ix - A_g.x))]) (y := ix - A_g.x)  rfl i x hi) (by first | (simp only [List.length_append, List.length_cons, List.length_nil]; omega) | omega) (Below.size E306)) ?_; rintro y' w311 ⟨gg312, hg313, K314, hO315⟩
      have hN316 : w53.heap.size ≤ gg312 := by rcases hg313 with h | h; exact h ▸ hN96; exact Nat.le_trans (Nat.le_trans (Below.size E63) (KpL.size E82)) h
      have g317 : w.heap.size ≤ gg312 := Nat.le_trans (Nat.le_trans (Nat.le_trans (Nat.le_trans (Below.size E18) (Below.size E33)) (Below.size E39)) (Below.size E54)) hN316
      have n318 : g_b ≠ gg312 := hg313.elim (fun h => by rw [h]; exact n98) (fun h => Nat.ne_of_lt (Nat.lt_of_lt_of_le n95 h))
      have X319 := Below.kl X310 K314 (allS g317 all0) (Nat.le_refl _)
      obtain ⟨p320, q321, rfl⟩ := Own.shape hO315
      have hH322 : Hang w53.heap.size w311 (fun u => Sl RI 1 u (.slice p320 (((nbK A_g ix 1) ++ [ix - A_g.x]).length) q321) ((nbK A_g ix 1) ++ [ix - A_g.x])) := Own.hang hO315 RI.flat (by decide) hN96 (Nat.le_trans (Below.size E63) (KpL.size E82))
      show wpList _ _ _ _ (fr [_, _, _, _, _, _, _, _, _, _, _, _, _, _, _, _, _, _, _, _, _, _, _, _, _, _, _, _, _, _, _, _, _, _, _, _, _, _, _, _, _, _, _, _, _, _, _, _, _, _, _, _, _, _, _, _, _, _, _, _, _, _, _, _, _, _, _, _, _, _, _, _, _, _, _, _, _, _, _, _, _, _, _, _, _, _, _, _, _, _, _, _, _, _, _, _, _, _, _, _, _, _, _, _, _, _, _, _, _, _, _, _, _, _, _, _, _, _, _, _, _, _]) _
      refine q_is rfl rfl (does_assign (u := (.slice p320 (((nbK A_g ix 1) ++ [ix - A_g.x]).length) q321)) (ev rfl)) (by dsimp only [List.set]; try rfl) ?_
      have hO323 := Own.cast (ys := nbK A_g ix 2) hO315 (by first | exact nb_f0 (if_neg (by omega)) | exact nb_t0 (if_pos (by omega)) | exact nb_t (if_pos (by omega)) | exact nb_f (if_neg (by omega)))
      exact wpList_nil (J88 (fun t => (([(Pt g_b g_o), (Iv ix), Ud, Ud, (.slice none 0 0), (Iv (ix % A_g.x)), (Iv ((ix / A_g.x) % A_g.y)), (Iv ((ix / A_g.x) / A_g.y)), (.slice p320 (((nbK A_g ix 1) ++ [ix - A_g.x]).length) q321), (Iv ix), (Pt g_b g_o), (Pt g_b g_o), (Pt g_b (g_o + 4)), (Iv A_g.x), (Iv (ix % A_g.x)), v21, v22, v23, v24, v25, v26, v27, v28, v29, v30, (Iv ((ix / A_g.x) % A_g.y)), v42, v43, v44, v45, v46, v47, v48, v49, v50, v51, (Iv ((ix / A_g.x) / A_g.y)), (.slice (some ⟨b59, 0, none⟩) 0 0), (Iv ((ix / A_g.x) / A_g.y)), (Bo (icmp .gtr ((ix / A_g.x) / A_g.y) 0)), (u71 40), (u71 41), (u71 42), (u71 43), (u71 44), (u71 45), (u71 46), (u71 47), (u71 48), (u71 49), (u71 50), (u71 51), (u71 52), (u71 53), (Iv ((ix / A_g.x) % A_g.y)), (Bo (icmp .gtr ((ix / A_g.x) % A_g.y) 0)), (.slice p85 ((nbK A_g ix 1).length) q86), (Iv ix), (Pt g_b g_o), (Pt g_b g_o), (Pt g_b (g_o + 4)), (Iv A_g.x), (Iv (ix - A_g.x)), (.slice (some ⟨b303, 0, none⟩) 1 1), (.slice p320 (((nbK A_g ix 1) ++ [ix - A_g.x]).length) q321), Ud, Ud, Ud, Ud, Ud, Ud, Ud, Ud, Ud, Ud, Ud, Ud, Ud, Ud, Ud, Ud, Ud, Ud, Ud, Ud, Ud, Ud, Ud, Ud, Ud, Ud, Ud, Ud, Ud, Ud, Ud, Ud, Ud, Ud, Ud, Ud, Ud, Ud, Ud, Ud, Ud, Ud, Ud, Ud, Ud, Ud, Ud, Ud, Ud, Ud, Ud, Ud, Ud, Ud, Ud, Ud, Ud] : List Value)[t]?).getD undef) (.slice p320 (((nbK A_g ix 1) ++ [ix - A_g.x]).length) q321) _ (KpL.more (KpL.ext (KpL.refl _ _) E306) K314 (allS (hg313.imp (fun h => by simp [h]) id) all0)) hO323)
    have c302' := c302
    (try simp only [icmp, Bool.and_eq_true, Bool.or_eq_true, Bool.and_eq_false_iff, Bool.or_eq_false_iff, Bool.not_eq_true', Bool.not_eq_false', decide_eq_true_eq, decide_eq_false_iff_not, beq_iff_eq, bne_iff_ne, beq_eq_false_iff_ne, bne_eq_false_iff_eq] at c302')
    have hO324 := Own.cast (ys := nbK A_g ix 2) hO94 (by first | exact nb_f0 (if_neg (by omega)) | exact nb_t0 (if_pos (by omega)) | exact nb_t (if_pos (by omega)) | exact nb_f (if_neg (by omega)))
    exact wp_skip (J88 (fun t => (([(Pt g_b g_o), (Iv ix), Ud, Ud, (.slice none 0 0), (Iv (ix % A_g.x)), (Iv ((ix / A_g.x) % A_g.y)), (Iv ((ix / A_g.x) / A_g.y)), (.slice p85 ((nbK A_g ix 1).length) q86), (Iv ix), (Pt g_b g_o), (Pt g_b g_o), (Pt g_b (g_o + 4)), (Iv A_g.x), (Iv (ix % A_g.x)), v21, v22, v23, v24, v25, v26, v27, v28, v29, v30, (Iv ((ix / A_g.x) % A_g.y)), v42, v43, v44, v45, v46, v47, v48, v49, v50, v51, (Iv ((ix / A_g.x) / A_g.y)), (.slice (some ⟨b59, 0, none⟩) 0 0), (Iv ((ix / A_g.x) / A_g.y)), (Bo (icmp .gtr ((ix / A_g.x) / A_g.y) 0)), (u71 40), (u71 41), (u71 42), (u71 43), (u71 44), (u71 45), (u71 46), (u71 47), (u71 48), (u71 49), (u71 50), (u71 51), (u71 52), (u71 53), (Iv ((ix / A_g.x) % A_g.y)), (Bo (icmp .gtr ((ix / A_g.x) % A_g.y) 0)), Ud, Ud, Ud, Ud, Ud, Ud, Ud, Ud, Ud, Ud, Ud, Ud, Ud, Ud, Ud, Ud, Ud, Ud, Ud, Ud, Ud, Ud, Ud, Ud, Ud, Ud, Ud, Ud, Ud, Ud, Ud, Ud, Ud, Ud, Ud, Ud, Ud, Ud, Ud, Ud, Ud, Ud, Ud, Ud, Ud, Ud, Ud, Ud, Ud, Ud, Ud, Ud, Ud, Ud, Ud, Ud, Ud, Ud, Ud, Ud, Ud, Ud, Ud, Ud, Ud, Ud] : List Value)[t]?).getD undef) (.slice p85 ((nbK A_g ix 1).length) q86) _ (KpL.refl _ _) hO324)
  refine wp_cond_split (t := icmp .gtr ((ix / A_g.x) / A_g.y) 0) (ev rfl) (fun c325 => ?_) (fun c325 => ?_)
  · have c325' := c325
    (try simp only [icmp, Bool.and_eq_true, Bool.or_eq_true, Bool.and_eq_false_iff, Bool.or_eq_false_iff, Bool.not_eq_true', Bool.not_eq_false', decide_eq_true_eq, decide_eq_false_iff_not, beq_iff_eq, bne_iff_ne, beq_eq_false_iff_ne, bne_eq_false_iff_eq] at c325')
    refine region_any2 [] [0, 0, 0, 4, 12, 28, 0, 64, 192, 448, 1020, 2046, 4094, 8191, 16383] [] (
      [FactW.pure [] [] [] true (fun v => v = (.slice (some ⟨b59, 0, none⟩) 0 0)),
        FactW.pure [] [] [] true (fun v => v = (Iv ix)),
        FactW.pure [] [] [] true (fun v => v = (Pt g_b g_o)),
        FactW.pure [2] [] [] true (fun v => v = (Pt g_b g_o)),
        FactW.pure [3] [] [] true (fun v => v = (Pt g_b (g_o + 4))),
        FactW.pure [4] [] [] true (fun v => v = (Iv A_g.x)),
        FactW.pure [] [] [] true (fun v => v = (Pt g_b g_o)),
        FactW.pure [6] [] [] true (fun v => v = (Pt g_b g_o)),
        FactW.pure [7] [] [] true (fun v => v = (Pt g_b (g_o + 5))),
        FactW.pure [8] [] [] true (fun v => v = (Iv A_g.y)),
        FactW.pure [5, 9] [] [] true (fun v => v = (Iv (A_g.x * A_g.y))),
        FactW.pure [1, 10] [] [] true (fun v => v = (Iv (ix - (A_g.x * A_g.y)))),
        FactW.mem [11] [] [] [] true (fun v w' => ∃ b : Nat, v = .slice (some ⟨b, 0, none⟩) 1 1 ∧ w64.heap.size ≤ b ∧ Blk w' b [(Iv (ix - (A_g.x * A_g.y)))]) (by rintro v w1 w2 hx' ⟨b, rfl, hb, hB⟩; have hx := KpL.toExt hx'; exact ⟨b, rfl, hb, (hB.ext hx)⟩)]) mixed (by kernel_rfl) ?_
    obtain ⟨w326, hw328⟩ : ∃ w', w' = World.drew w64 := ⟨_, rfl⟩; rw [← hw328]; have E327 : Ext w64 w326 := by rw [hw328]; exact Ext.draw _
    clear hw328
    have X329 := Ext.gr X66 E327
    refine RW2_d _ rfl (fun v => by dsimp only [List.set]; try rfl) (fun u hu hF => ?_) (fun v330 => ?_)
    · replace hu : KpL [] _ _ := hu
      clear hF
      refine doesG_un rfl ?_
      refine (does_move (u := (.slice (some ⟨b59, 0, none⟩) 0 0)) (ev rfl)).mono ?_; rintro _ _ ⟨rfl, rfl⟩
      exact ⟨rfl, KpL.refl _ _⟩
    refine RW2_d _ rfl (fun v => by dsimp only [List.set]; try rfl) (fun u hu hF => ?_) (fun v331 => ?_)
    · replace hu : KpL [] _ _ := hu
      clear hF
      refine doesG_un rfl ?_
      refine (does_move (u := (Iv ix)) (ev rfl)).mono ?_; rintro _ _ ⟨rfl, rfl⟩
      exact ⟨rfl, KpL.refl _ _⟩
    refine RW2_d _ rfl (fun v => by dsimp only [List.set]; try rfl) (fun u hu hF => ?_) (fun v332 => ?_)
    · replace hu : KpL [] _ _ := hu
      clear hF
      refine doesG_un rfl ?_
      refine (does_move (u := (Pt g_b g_o)) (ev rfl)).mono ?_; rintro _ _ ⟨rfl, rfl⟩
      exact ⟨rfl, KpL.refl _ _⟩
    refine RW2_d _ rfl (fun v => by dsimp only [List.set]; try rfl) (fun u hu hF => ?_) (fun v333 => ?_)
    · replace hu : KpL [] _ _ := hu
      have h42_ : v332 = (Pt g_b g_o) := hF.1
      clear hF
      refine doesG_un rfl ?_
      obtain rfl := h42_
      refine (does_nilCheck (ev rfl)).mono ?_; rintro _ _ ⟨rfl, rfl⟩
      exact ⟨rfl, KpL.refl _ _⟩
    refine RW2_d _ rfl (fun v => by dsimp only [List.set]; try rfl) (fun u hu hF => ?_) (fun v334 => ?_)
    · replace hu : KpL [] _ _ := hu
      have h43_ : v333 = (Pt g_b g_o) := hF.1
      clear hF
      refine doesG_un rfl ?_
      obtain rfl := h43_
      refine (does_fieldAddr (ev rfl) fa49_2).mono ?_; rintro _ _ ⟨rfl, rfl⟩
      exact ⟨rfl, KpL.refl _ _⟩
    refine RW2_d _ rfl (fun v => by dsimp only [List.set]; try rfl) (fun u hu hF => ?_) (fun v335 => ?_)
    · replace hu : KpL [] _ _ := hu
      have h44_ : v334 = (Pt g_b (g_o + 4)) := hF.1
      clear hF
      refine doesG_un rfl ?_
      obtain rfl := h44_
      refine (does_load (u := (Iv A_g.x)) (ev rfl) Try.isAgg2 (Cells.at (hc_g.ext (Ext.gr (Ext.gr X66 E327) (KpL.toExt hu))) 4 rfl)).mono ?_; rintro _ _ ⟨rfl, rfl⟩
      exact ⟨rfl, KpL.refl _ _⟩
    refine RW2_d _ rfl (fun v => by dsimp only [List.set]; try rfl) (fun u hu hF => ?_) (fun v336 => ?_)
    · replace hu : KpL [] _ _ := hu
      clear hF
      refine doesG_un rfl ?_
      refine (does_move (u := (Pt g_b g_o)) (ev rfl)).mono ?_; rintro _ _ ⟨rfl, rfl⟩
      exact ⟨rfl, KpL.refl _ _⟩
    refine RW2_d _ rfl (fun v => by dsimp only [List.set]; try rfl) (fun u hu hF => ?_) (fun v337 => ?_)
    · replace hu : KpL [] _ _ := hu
      have h46_ : v336 = (Pt g_b g_o) := hF.1
      clear hF
      refine doesG_un rfl ?_
      obtain rfl := h46_
      refine (does_nilCheck (ev rfl)).mono ?_; rintro _ _ ⟨rfl, rfl⟩
      exact ⟨rfl, KpL.refl _ _⟩
    refine RW2_d _ rfl (fun v => by dsimp only [List.set]; try rfl) (fun u hu hF => ?_) (fun v338 => ?_)
    · replace hu : KpL [] _ _ := hu
      have h47_ : v337 = (Pt g_b g_o) := hF.1
      clear hF
      refine doesG_un rfl ?_
      obtain rfl := h47_
      refine (does_fieldAddr (ev rfl) fa49_3).mono ?_; rintro _ _ ⟨rfl, rfl⟩
      exact ⟨rfl, KpL.refl _ _⟩
    refine RW2_d _ rfl (fun v => by dsimp only [List.set]; try rfl) (fun u hu hF => ?_) (fun v339 => ?_)
    · replace hu : KpL [] _ _ := hu
      have h48_ : v338 = (Pt g_b (g_o + 5)) := hF.1
      clear hF
      refine doesG_un rfl ?_
      obtain rfl := h48_
      refine (does_load (u := (Iv A_g.y)) (ev rfl) Try.isAgg2 (Cells.at (hc_g.ext (Ext.gr (Ext.gr X66 E327) (KpL.toExt hu))) 5 rfl)).mono ?_; rintro _ _ ⟨rfl, rfl⟩
      exact ⟨rfl, KpL.refl _ _⟩
    refine RW2_d _ rfl (fun v => by dsimp only [List.set]; try rfl) (fun u hu hF => ?_) (fun v340 => ?_)
    · replace hu : KpL [] _ _ := hu
      have h45_ : v335 = (Iv A_g.x) := hF.1
      have h49_ : v339 = (Iv A_g.y) := hF.2.1
      clear hF
      refine doesG_un rfl ?_
      obtain rfl := h45_
      obtain rfl := h49_
      refine (does_iarith (p := A_g.x) (q := A_g.y) (r := A_g.x * A_g.y) (ev rfl) (ev rfl) (.inr (.inr ⟨rfl, (in_i64 (by omega) (by omega)).symm⟩))).mono ?_; rintro _ _ ⟨rfl, rfl⟩
      exact ⟨rfl, KpL.refl _ _⟩
    refine RW2_d _ rfl (fun v => by dsimp only [List.set]; try rfl) (fun u hu hF => ?_) (fun v341 => ?_)
    · replace hu : KpL [] _ _ := hu
      have h41_ : v331 = (Iv ix) := hF.1
      have h50_ : v340 = (Iv (A_g.x * A_g.y)) := hF.2.1
      clear hF
      refine doesG_un rfl ?_
      obtain rfl := h41_
      obtain rfl := h50_
      refine (does_iarith (p := ix) (q := A_g.x * A_g.y) (r := ix - (A_g.x * A_g.y)) (ev rfl) (ev rfl) (.inr (.inl ⟨rfl, (in_i64 (by omega) (by omega)).symm⟩))).mono ?_; rintro _ _ ⟨rfl, rfl⟩
      exact ⟨rfl, KpL.refl _ _⟩
    refine RW2_d _ rfl (fun v => by dsimp only [List.set]; try rfl) (fun u hu hF => ?_) (fun v342 => ?_)
    · replace hu : KpL [] _ _ := hu
      have h51_ : v341 = (Iv (ix - (A_g.x * A_g.y))) := hF.1
      clear hF
      refine doesG_un rfl ?_
      obtain rfl := h51_
      refine (does_buildSlice (e := 2) (parts' := [(0, (Iv (ix - (A_g.x * A_g.y))))]) (cells := [(Iv (ix - (A_g.x * A_g.y)))]) (evp rfl) (fun _ => by kernel_rfl)).mono ?_; rintro _ _ ⟨b, rfl, hb, hB, hx⟩
      exact ⟨⟨b, rfl, Nat.le_trans (Nat.le_trans (Below.size E327) (KpL.size hu)) hb, hB⟩, (KpL.of_ext hx)⟩
    refine RW2_fin ?_; intro w343 E344 hP345; replace E344 : KpL [] _ _ := E344
    obtain ⟨⟨⟨⟨⟨⟨⟨⟨⟨⟨⟨⟨⟨-, q346⟩, -⟩, -⟩, -⟩, -⟩, -⟩, -⟩, -⟩, -⟩, -⟩, -⟩, -⟩, q347⟩ := hP345
    have X348 := Below.kl X329 E344 all0 (Nat.le_refl _)
    have q346 : v330 = (.slice (some ⟨b59, 0, none⟩) 0 0) := q346 rfl
    obtain rfl := q346
    have q347 : ∃ b : Nat, v342 = .slice (some ⟨b, 0, none⟩) 1 1 ∧ w64.heap.size ≤ b ∧ Blk w343 b [(Iv (ix - (A_g.x * A_g.y)))] := q347 rfl
    obtain ⟨b349, rfl, hb350, hB351⟩ := q347
    have n352 : g_b < b349 := Nat.lt_of_lt_of_le (cell_lt (Cells.at (hc_g.ext X66) 0 rfl)) hb350
    have g353 : w.heap.size ≤ b349 := Nat.le_trans (Below.size X66) hb350
    show wpList _ _ _ _ (fr [_, _, _, _, _, _, _, _, _, _, _, _, _, _, _, _, _, _, _, _, _, _, _, _, _, _, _, _, _, _, _, _, _, _, _, _, _, _, _, _, _, _, _, _, _, _, _, _, _, _, _, _, _, _, _, _, _, _, _, _, _, _, _, _, _, _, _, _, _, _, _, _, _, _, _, _, _, _, _, _, _, _, _, _, _, _, _, _, _, _, _, _, _, _, _, _, _, _, _, _, _, _, _, _, _, _, _, _, _, _, _, _, _, _, _, _, _, _, _, _, _, _]) _
    refine seqd rfl rfl (does_append (R := RI) (k := 1) (g0 := gg72) (B := w64.heap.size) (xs := ([])) (ys := [ix - (A_g.x * A_g.y)]) Try.underlying27 inf2 rfl (by decide) (ev rfl) (ev rfl) (Own.same hO75 RI.flat (((Same.refl _ _).ext E327).kl E344 all0) hN77 (Below.size E63)) RI.flat hB351 rfl rfl rfl (fun i x hi => lit1 (R := RI) (cs := [(Iv (ix - (A_g.x * A_g.y)))]) (y := ix - (A_g.x * A_g.y))  rfl i x hi) (by first | (simp only [List.length_append, List.length_cons, List.length_nil]; omega) | omega) (Nat.le_trans (Below.size E327) (KpL.size E344))) ?_; rintro y' w354 ⟨gg355, hg356, K357, hO358⟩
    have hN359 : w53.heap.size ≤ gg355 := by rcases hg356 with h | h; exact h ▸ hN77; exact Nat.le_trans (Below.size E63) h
    have g360 : w.heap.size ≤ gg355 := Nat.le_trans (Nat.le_trans (Nat.le_trans (Nat.le_trans (Below.size E18) (Below.size E33)) (Below.size E39)) (Below.size E54)) hN359
    have n361 : g_b ≠ gg355 := hg356.elim (fun h => by rw [h]; exact (Nat.ne_of_lt (Nat.lt_of_lt_of_le n65 hN77))) (fun h => Nat.ne_of_lt (Nat.lt_of_lt_of_le n76 h))
    have X362 := Below.kl X348 K357 (allS g360 all0) (Nat.le_refl _)
    replace hO358 := hO358.cast (List.nil_append _)
    obtain ⟨p363, q364, rfl⟩ := Own.shape hO358
    have hH365 : Hang w53.heap.size w354 (fun u => Sl RI 1 u (.slice p363 (([ix - (A_g.x * A_g.y)]).length) q364) ([ix - (A_g.x * A_g.y)])) := Own.hang hO358 RI.flat (by decide) hN77 (Below.size E63)
    show wpList _ _ _ _ (fr [_, _, _, _, _, _, _, _, _, _, _, _, _, _, _, _, _, _, _, _, _, _, _, _, _, _, _, _, _, _, _, _, _, _, _, _, _, _, _, _, _, _, _, _, _, _, _, _, _, _, _, _, _, _, _, _, _, _, _, _, _, _, _, _, _, _, _, _, _, _, _, _, _, _, _, _, _, _, _, _, _, _, _, _, _, _, _, _, _, _, _, _, _, _, _, _, _, _, _, _, _, _, _, _, _, _, _, _, _, _, _, _, _, _, _, _, _, _, _, _, _, _]) _
    refine q_is rfl rfl (does_assign (u := (.slice p363 (([ix - (A_g.x * A_g.y)]).length) q364)) (ev rfl)) (by dsimp only [List.set]; try rfl) ?_
    have hO366 := Own.cast (ys := nbK A_g ix 1) hO358 (by first | exact nb_f0 (if_neg (by omega)) | exact nb_t0 (if_pos (by omega)) | exact nb_t (if_pos (by omega)) | exact nb_f (if_neg (by omega)))
    exact wpList_nil (J69 (fun t => (([(Pt g_b g_o), (Iv ix), Ud, Ud, (.slice none 0 0), (Iv (ix % A_g.x)), (Iv ((ix / A_g.x) % A_g.y)), (Iv ((ix / A_g.x) / A_g.y)), (.slice p363 (([ix - (A_g.x * A_g.y)]).length) q364), (Iv ix), (Pt g_b g_o), (Pt g_b g_o), (Pt g_b (g_o + 4)), (Iv A_g.x), (Iv (ix % A_g.x)), v21, v22, v23, v24, v25, v26, v27, v28, v29, v30, (Iv ((ix / A_g.x) % A_g.y)), v42, v43, v44, v45, v46, v47, v48, v49, v50, v51, (Iv ((ix / A_g.x) / A_g.y)), (.slice (some ⟨b59, 0, none⟩) 0 0), (Iv ((ix / A_g.x) / A_g.y)), (Bo (icmp .gtr ((ix / A_g.x) / A_g.y) 0)), (.slice (some ⟨b59, 0, none⟩) 0 0), v331, v332, v333, v334, v335, v336, v337, v338, v339, v340, v341, (.slice (some ⟨b349, 0, none⟩) 1 1), (.slice p363 (([ix - (A_g.x * A_g.y)]).length) q364), Ud, Ud, Ud, Ud, Ud, Ud, Ud, Ud, Ud, Ud, Ud, Ud, Ud, Ud, Ud, Ud, Ud, Ud, Ud, Ud, Ud, Ud, Ud, Ud, Ud, Ud, Ud, Ud, Ud, Ud, Ud, Ud, Ud, Ud, Ud, Ud, Ud, Ud, Ud, Ud, Ud, Ud, Ud, Ud, Ud, Ud, Ud, Ud, Ud, Ud, Ud, Ud, Ud, Ud, Ud, Ud, Ud, Ud, Ud, Ud, Ud, Ud, Ud, Ud, Ud, Ud, Ud, Ud] : List Value)[t]?).getD undef) (.slice p363 (([ix - (A_g.x * A_g.y)]).length) q364) _ (KpL.more (KpL.more (KpL.ext (KpL.refl _ _) E327) E344 all0) K357 (allS (hg356.imp (fun h => by simp [h]) id) all0)) hO366)
  have c325' := c325
  (try simp only [icmp, Bool.and_eq_true, Bool.or_eq_true, Bool.and_eq_false_iff, Bool.or_eq_false_iff, Bool.not_eq_true', Bool.not_eq_false', decide_eq_true_eq, decide_eq_false_iff_not, beq_iff_eq, bne_iff_ne, beq_eq_false_iff_ne, bne_eq_false_iff_eq] at c325')
  have hO367 := Own.cast (ys := nbK A_g ix 1) hO75 (by first | exact nb_f0 (if_neg (by omega)) | exact nb_t0 (if_pos (by omega)) | exact nb_t (if_pos (by omega)) | exact nb_f (if_neg (by omega)))
  exact wp_skip (J69 (fun t => (([(Pt g_b g_o), (Iv ix), Ud, Ud, (.slice none 0 0), (Iv (ix % A_g.x)), (Iv ((ix / A_g.x) % A_g.y)), (Iv ((ix / A_g.x) / A_g.y)), (.slice (some ⟨b59, 0, none⟩) 0 0), (Iv ix), (Pt g_b g_o), (Pt g_b g_o), (Pt g_b (g_o + 4)), (Iv A_g.x), (Iv (ix % A_g.x)), v21, v22, v23, v24, v25, v26, v27, v28, v29, v30, (Iv ((ix / A_g.x) % A_g.y)), v42, v43, v44, v45, v46, v47, v48, v49, v50, v51, (Iv ((ix / A_g.x) / A_g.y)), (.slice (some ⟨b59, 0, none⟩) 0 0), (Iv ((ix / A_g.x) / A_g.y)), (Bo (icmp .gtr ((ix / A_g.x) / A_g.y) 0)), Ud, Ud, Ud, Ud, Ud, Ud, Ud, Ud, Ud, Ud, Ud, Ud, Ud, Ud, Ud, Ud, Ud, Ud, Ud, Ud, Ud, Ud, Ud, Ud, Ud, Ud, Ud, Ud, Ud, Ud, Ud, Ud, Ud, Ud, Ud, Ud, Ud, Ud, Ud, Ud, Ud, Ud, Ud, Ud, Ud, Ud, Ud, Ud, Ud, Ud, Ud, Ud, Ud, Ud, Ud, Ud, Ud, Ud, Ud, Ud, Ud, Ud, Ud, Ud, Ud, Ud, Ud, Ud, Ud, Ud, Ud, Ud, Ud, Ud, Ud, Ud, Ud, Ud, Ud, Ud, Ud, Ud] : List Value)[t]?).getD undef) (.slice (some ⟨b59, 0, none⟩) 0 0) _ (KpL.refl _ _) hO367)

end Go.Proofs.Ytlfpeihlfmdmdaa
