/- contracts of functions, each walked once -/
import Derived.Test.YthmejogjmjjmgaaTy
import Derived.Test.YthmejogjmjjmgaaMath
import Derived.Test.YthmejogjmjjmgaaSl
namespace Go.Proofs.Ythmejogjmjjmgaa
open Go Go.RowKit
set_option maxRecDepth 100000
set_option linter.unusedVariables false
set_option linter.unusedSimpArgs false

/- spec.l01Finite -/
theorem c_spec_l01Finite (x : Nat) (w : World) : Gives Try.prog 116 #[(.float .f32 x)] w (fun v w' => v = (.bool (finF (cf .f32 x)))) := by
  refine enter [(.float .f32 x), undef, undef, undef, undef, undef, undef] Try.func116 rfl Try.ntmps116 rfl ?_
  refine wp_seq_k fun K1 hK1 => ?_
  refine wp_region_lit ?_
  refine q_is (l' := [(.float .f32 x), undef, (.bool false), undef, undef, undef, undef]) rfl rfl (does_assign (u := (.bool false)) (ev rfl)) rfl ?_
  refine wpList_nil (hK1 _ _ ?_)
  refine wp_seq_k fun K2 hK2 => ?_
  refine wp_region_lit ?_
  refine q_is (l' := [(.float .f32 x), undef, (.bool false), (.float .f32 x), undef, undef, undef]) rfl rfl (does_move (u := (.float .f32 x)) (ev rfl)) rfl ?_
  refine q_is (l' := [(.float .f32 x), undef, (.bool false), (.float .f32 x), (.float .f32 x), undef, undef]) rfl rfl (does_move (u := (.float .f32 x)) (ev rfl)) rfl ?_
  refine seqd rfl rfl (does_float (.inr (.inl rfl)) (ev rfl) (ev rfl)) ?_; rintro _ w6 ⟨r3, rfl, h4, E5⟩
  have X7 := Ext.gr (Ext.refl w) E5
  show wpList _ _ _ _ (fr [(.float .f32 x), undef, (.bool false), (.float .f32 x), (.float .f32 x), (.float .f32 r3), undef]) _
  refine q_is (l' := [(.float .f32 x), undef, (.bool false), (.float .f32 x), (.float .f32 x), (.float .f32 r3), (.bool (fcmp .eql (ford .f32 (cf .f32 r3) (cf .f32 0))))]) rfl rfl (does_fcmp (.inl rfl) (ev rfl) (ev rfl)) rfl ?_
  refine q_is (l' := [(.float .f32 x), undef, (.bool (fcmp .eql (ford .f32 (cf .f32 r3) (cf .f32 0)))), (.float .f32 x), (.float .f32 x), (.float .f32 r3), (.bool (fcmp .eql (ford .f32 (cf .f32 r3) (cf .f32 0))))]) rfl rfl (does_assign (u := (.bool (fcmp .eql (ford .f32 (cf .f32 r3) (cf .f32 0))))) (ev rfl)) rfl ?_
  refine wpList_nil (hK2 _ _ ?_)
  refine wp_ret ?_
  refine ret_val (v := (.bool (fcmp .eql (ford .f32 (cf .f32 r3) (cf .f32 0))))) (res_T rfl (slot rfl)) X7 ?_
  have x8 : (finF (cf .f32 x)) = (fcmp .eql (ford .f32 (cf .f32 r3) (cf .f32 0))) := by first | rfl | (simp only [finF, h4]; done) | (simp [finF, h4]; done)
  exact (by first | rfl | rw [x8])

/- spec.l01VFinite -/
theorem c_spec_l01VFinite (v_x : Nat) (v_y : Nat) (v_z : Nat) (w : World) : Gives Try.prog 96 #[(.agg #[(.float .f32 v_x), (.float .f32 v_y), (.float .f32 v_z)])] w (fun v w' => v = (.bool (finF (cf .f32 v_x) && finF (cf .f32 v_y) && finF (cf .f32 v_z)))) := by
  refine enter [(.agg #[(.float .f32 v_x), (.float .f32 v_y), (.float .f32 v_z)]), undef, undef, undef, undef, undef, undef, undef, undef, undef, undef, undef, undef, undef, undef, undef] Try.func96 rfl Try.ntmps96 rfl ?_
  refine wp_seq_k fun K1 hK1 => ?_
  refine wp_region_lit ?_
  refine seqd rfl rfl (does_box (u := (.agg #[(.float .f32 v_x), (.float .f32 v_y), (.float .f32 v_z)])) (ev rfl)) ?_; rintro _ w6 ⟨b2, rfl, hb3, hB4, E5⟩
  have g7 : w.heap.size ≤ b2 := Nat.le_trans (Below.size (Ext.refl w)) hb3
  change Blk _ _ [(.float .f32 v_x), (.float .f32 v_y), (.float .f32 v_z)] at hB4
  have X8 := Ext.gr (Ext.refl w) E5
  show wpList _ _ _ _ (fr [(.agg #[(.float .f32 v_x), (.float .f32 v_y), (.float .f32 v_z)]), (.pointer (some ⟨b2, 0, none⟩)), undef, undef, undef, undef, undef, undef, undef, undef, undef, undef, undef, undef, undef, undef]) _
  refine q_is (l' := [(.agg #[(.float .f32 v_x), (.float .f32 v_y), (.float .f32 v_z)]), (.pointer (some ⟨b2, 0, none⟩)), (.bool false), undef, undef, undef, undef, undef, undef, undef, undef, undef, undef, undef, undef, undef]) rfl rfl (does_assign (u := (.bool false)) (ev rfl)) rfl ?_
  refine wpList_nil (hK1 _ _ ?_)
  refine wp_seq_k fun K9 hK9 => ?_
  refine region_text (
    [Fact.pure [] (fun v => v = (.pointer (some ⟨b2, 0, none⟩))),
    Fact.pure [3] (fun v => v = (.float .f32 v_x)),
    Fact.pure [4] (fun v => v = (.bool (finF (cf .f32 v_x)))),
    Fact.pure [5] (fun v => v = (.bool (finF (cf .f32 v_x)))),
    Fact.pure [6] (fun v => (finF (cf .f32 v_x)) = true → v = (.pointer (some ⟨b2, 1, none⟩))),
    Fact.pure [7, 6] (fun v => (finF (cf .f32 v_x)) = true → v = (.float .f32 v_y)),
    Fact.pure [8, 6] (fun v => (finF (cf .f32 v_x)) = true → v = (.bool (finF (cf .f32 v_y)))),
    Fact.pure [6, 9] (fun v => v = (.bool ((finF (cf .f32 v_x)) && (finF (cf .f32 v_y))))),
    Fact.pure [10] (fun v => v = (.bool ((finF (cf .f32 v_x)) && (finF (cf .f32 v_y))))),
    Fact.pure [11] (fun v => ((finF (cf .f32 v_x)) && (finF (cf .f32 v_y))) = true → v = (.pointer (some ⟨b2, 2, none⟩))),
    Fact.pure [12, 11] (fun v => ((finF (cf .f32 v_x)) && (finF (cf .f32 v_y))) = true → v = (.float .f32 v_z)),
    Fact.pure [13, 11] (fun v => ((finF (cf .f32 v_x)) && (finF (cf .f32 v_y))) = true → v = (.bool (finF (cf .f32 v_z)))),
    Fact.pure [11, 14] (fun v => v = (.bool (((finF (cf .f32 v_x)) && (finF (cf .f32 v_y))) && (finF (cf .f32 v_z)))))]) (by simp [Fact.pure, Fact.mem]) ?_
  refine RW_d (fun v10 => [(.agg #[(.float .f32 v_x), (.float .f32 v_y), (.float .f32 v_z)]), (.pointer (some ⟨b2, 0, none⟩)), (.bool false), v10, undef, undef, undef, undef, undef, undef, undef, undef, undef, undef, undef, undef]) rfl (fun _ => rfl) (fun u hu hF => ?_) (fun v10 => ?_)
  · clear hF
    refine doesG_un rfl ?_
    refine (does_fieldAddr (ev rfl) fa31_0).mono ?_; rintro _ _ ⟨rfl, rfl⟩
    exact ⟨rfl, Ext.refl _⟩
  refine RW_d (fun v11 => [(.agg #[(.float .f32 v_x), (.float .f32 v_y), (.float .f32 v_z)]), (.pointer (some ⟨b2, 0, none⟩)), (.bool false), v10, v11, undef, undef, undef, undef, undef, undef, undef, undef, undef, undef, undef]) rfl (fun _ => rfl) (fun u hu hF => ?_) (fun v11 => ?_)
  · have h3_ : v10 = (.pointer (some ⟨b2, 0, none⟩)) := hF.1
    clear hF
    obtain rfl := h3_
    refine doesG_un rfl ?_
    refine (does_load (u := (.float .f32 v_x)) (ev rfl) Try.isAgg25 (Cells.at (Blk.cells (hB4.ext hu)) 0 rfl)).mono ?_; rintro _ _ ⟨rfl, rfl⟩
    exact ⟨rfl, Ext.refl _⟩
  refine RW_d (fun v12 => [(.agg #[(.float .f32 v_x), (.float .f32 v_y), (.float .f32 v_z)]), (.pointer (some ⟨b2, 0, none⟩)), (.bool false), v10, v11, v12, undef, undef, undef, undef, undef, undef, undef, undef, undef, undef]) rfl (fun _ => rfl) (fun u hu hF => ?_) (fun v12 => ?_)
  · have h4_ : v11 = (.float .f32 v_x) := hF.1
    clear hF
    obtain rfl := h4_
    refine doesG_un rfl ?_
    refine (does_call (args := #[(.float .f32 v_x)]) cal116 (evs rfl) (c_spec_l01Finite v_x _)).mono ?_; rintro v u' ⟨hx, hv⟩
    exact ⟨hv, hx⟩
  refine RW_d (fun v13 => [(.agg #[(.float .f32 v_x), (.float .f32 v_y), (.float .f32 v_z)]), (.pointer (some ⟨b2, 0, none⟩)), (.bool false), v10, v11, v12, v13, undef, undef, undef, undef, undef, undef, undef, undef, undef]) rfl (fun _ => rfl) (fun u hu hF => ?_) (fun v13 => ?_)
  · have h5_ : v12 = (.bool (finF (cf .f32 v_x))) := hF.1
    clear hF
    obtain rfl := h5_
    refine doesG_un rfl ?_
    refine (does_move (u := (.bool (finF (cf .f32 v_x)))) (ev rfl)).mono ?_; rintro _ _ ⟨rfl, rfl⟩
    exact ⟨rfl, Ext.refl _⟩
  refine RW_d (fun v14 => [(.agg #[(.float .f32 v_x), (.float .f32 v_y), (.float .f32 v_z)]), (.pointer (some ⟨b2, 0, none⟩)), (.bool false), v10, v11, v12, v13, v14, undef, undef, undef, undef, undef, undef, undef, undef]) rfl (fun _ => rfl) (fun u hu hF => ?_) (fun v14 => ?_)
  · have h6_ : v13 = (.bool (finF (cf .f32 v_x))) := hF.1
    clear hF
    obtain rfl := h6_
    refine doesG_g (b := (finF (cf .f32 v_x))) rfl (yld rfl rfl) (fun hg => ?_) (fun hg => ⟨fun h => absurd h hg, Ext.refl _⟩)
    refine (does_fieldAddr (ev rfl) fa31_1).mono ?_; rintro _ _ ⟨rfl, rfl⟩
    exact ⟨fun _ => rfl, Ext.refl _⟩
  refine RW_d (fun v15 => [(.agg #[(.float .f32 v_x), (.float .f32 v_y), (.float .f32 v_z)]), (.pointer (some ⟨b2, 0, none⟩)), (.bool false), v10, v11, v12, v13, v14, v15, undef, undef, undef, undef, undef, undef, undef]) rfl (fun _ => rfl) (fun u hu hF => ?_) (fun v15 => ?_)
  · have h7_ : (finF (cf .f32 v_x)) = true → v14 = (.pointer (some ⟨b2, 1, none⟩)) := hF.1
    have h6_ : v13 = (.bool (finF (cf .f32 v_x))) := hF.2.1
    clear hF
    obtain rfl := h6_
    refine doesG_g (b := (finF (cf .f32 v_x))) rfl (yld rfl rfl) (fun hg => ?_) (fun hg => ⟨fun h => absurd h hg, Ext.refl _⟩)
    obtain rfl := h7_ hg
    refine (does_load (u := (.float .f32 v_y)) (ev rfl) Try.isAgg25 (Cells.at (Blk.cells (hB4.ext hu)) 1 rfl)).mono ?_; rintro _ _ ⟨rfl, rfl⟩
    exact ⟨fun _ => rfl, Ext.refl _⟩
  refine RW_d (fun v16 => [(.agg #[(.float .f32 v_x), (.float .f32 v_y), (.float .f32 v_z)]), (.pointer (some ⟨b2, 0, none⟩)), (.bool false), v10, v11, v12, v13, v14, v15, v16, undef, undef, undef, undef, undef, undef]) rfl (fun _ => rfl) (fun u hu hF => ?_) (fun v16 => ?_)
  · have h8_ : (finF (cf .f32 v_x)) = true → v15 = (.float .f32 v_y) := hF.1
    have h6_ : v13 = (.bool (finF (cf .f32 v_x))) := hF.2.1
    clear hF
    obtain rfl := h6_
    refine doesG_g (b := (finF (cf .f32 v_x))) rfl (yld rfl rfl) (fun hg => ?_) (fun hg => ⟨fun h => absurd h hg, Ext.refl _⟩)
    obtain rfl := h8_ hg
    refine (does_call (args := #[(.float .f32 v_y)]) cal116 (evs rfl) (c_spec_l01Finite v_y _)).mono ?_; rintro v u' ⟨hx, hv⟩
    exact ⟨fun _ => hv, hx⟩
  refine RW_d (fun v17 => [(.agg #[(.float .f32 v_x), (.float .f32 v_y), (.float .f32 v_z)]), (.pointer (some ⟨b2, 0, none⟩)), (.bool false), v10, v11, v12, v13, v14, v15, v16, v17, undef, undef, undef, undef, undef]) rfl (fun _ => rfl) (fun u hu hF => ?_) (fun v17 => ?_)
  · have h6_ : v13 = (.bool (finF (cf .f32 v_x))) := hF.1
    have h9_ : (finF (cf .f32 v_x)) = true → v16 = (.bool (finF (cf .f32 v_y))) := hF.2.1
    clear hF
    obtain rfl := h6_
    refine doesG_un rfl ((does_pick (b := (finF (cf .f32 v_x))) (ev rfl) (ev rfl) (ev rfl)).mono ?_); rintro _ _ ⟨rfl, rfl⟩; refine ⟨?_, Ext.refl _⟩
    cases hbb : (finF (cf .f32 v_x)) <;> simp [hbb] at h9_ ⊢
    all_goals (first | rfl | (subst h9_; rfl) | simp_all)
  refine RW_d (fun v18 => [(.agg #[(.float .f32 v_x), (.float .f32 v_y), (.float .f32 v_z)]), (.pointer (some ⟨b2, 0, none⟩)), (.bool false), v10, v11, v12, v13, v14, v15, v16, v17, v18, undef, undef, undef, undef]) rfl (fun _ => rfl) (fun u hu hF => ?_) (fun v18 => ?_)
  · have h10_ : v17 = (.bool ((finF (cf .f32 v_x)) && (finF (cf .f32 v_y)))) := hF.1
    clear hF
    obtain rfl := h10_
    refine doesG_un rfl ?_
    refine (does_move (u := (.bool ((finF (cf .f32 v_x)) && (finF (cf .f32 v_y))))) (ev rfl)).mono ?_; rintro _ _ ⟨rfl, rfl⟩
    exact ⟨rfl, Ext.refl _⟩
  refine RW_d (fun v19 => [(.agg #[(.float .f32 v_x), (.float .f32 v_y), (.float .f32 v_z)]), (.pointer (some ⟨b2, 0, none⟩)), (.bool false), v10, v11, v12, v13, v14, v15, v16, v17, v18, v19, undef, undef, undef]) rfl (fun _ => rfl) (fun u hu hF => ?_) (fun v19 => ?_)
  · have h11_ : v18 = (.bool ((finF (cf .f32 v_x)) && (finF (cf .f32 v_y)))) := hF.1
    clear hF
    obtain rfl := h11_
    refine doesG_g (b := ((finF (cf .f32 v_x)) && (finF (cf .f32 v_y)))) rfl (yld rfl rfl) (fun hg => ?_) (fun hg => ⟨fun h => absurd h hg, Ext.refl _⟩)
    refine (does_fieldAddr (ev rfl) fa31_2).mono ?_; rintro _ _ ⟨rfl, rfl⟩
    exact ⟨fun _ => rfl, Ext.refl _⟩
  refine RW_d (fun v20 => [(.agg #[(.float .f32 v_x), (.float .f32 v_y), (.float .f32 v_z)]), (.pointer (some ⟨b2, 0, none⟩)), (.bool false), v10, v11, v12, v13, v14, v15, v16, v17, v18, v19, v20, undef, undef]) rfl (fun _ => rfl) (fun u hu hF => ?_) (fun v20 => ?_)
  · have h12_ : ((finF (cf .f32 v_x)) && (finF (cf .f32 v_y))) = true → v19 = (.pointer (some ⟨b2, 2, none⟩)) := hF.1
    have h11_ : v18 = (.bool ((finF (cf .f32 v_x)) && (finF (cf .f32 v_y)))) := hF.2.1
    clear hF
    obtain rfl := h11_
    refine doesG_g (b := ((finF (cf .f32 v_x)) && (finF (cf .f32 v_y)))) rfl (yld rfl rfl) (fun hg => ?_) (fun hg => ⟨fun h => absurd h hg, Ext.refl _⟩)
    obtain rfl := h12_ hg
    refine (does_load (u := (.float .f32 v_z)) (ev rfl) Try.isAgg25 (Cells.at (Blk.cells (hB4.ext hu)) 2 rfl)).mono ?_; rintro _ _ ⟨rfl, rfl⟩
    exact ⟨fun _ => rfl, Ext.refl _⟩
  refine RW_d (fun v21 => [(.agg #[(.float .f32 v_x), (.float .f32 v_y), (.float .f32 v_z)]), (.pointer (some ⟨b2, 0, none⟩)), (.bool false), v10, v11, v12, v13, v14, v15, v16, v17, v18, v19, v20, v21, undef]) rfl (fun _ => rfl) (fun u hu hF => ?_) (fun v21 => ?_)
  · have h13_ : ((finF (cf .f32 v_x)) && (finF (cf .f32 v_y))) = true → v20 = (.float .f32 v_z) := hF.1
    have h11_ : v18 = (.bool ((finF (cf .f32 v_x)) && (finF (cf .f32 v_y)))) := hF.2.1
    clear hF
    obtain rfl := h11_
    refine doesG_g (b := ((finF (cf .f32 v_x)) && (finF (cf .f32 v_y)))) rfl (yld rfl rfl) (fun hg => ?_) (fun hg => ⟨fun h => absurd h hg, Ext.refl _⟩)
    obtain rfl := h13_ hg
    refine (does_call (args := #[(.float .f32 v_z)]) cal116 (evs rfl) (c_spec_l01Finite v_z _)).mono ?_; rintro v u' ⟨hx, hv⟩
    exact ⟨fun _ => hv, hx⟩
  refine RW_d (fun v22 => [(.agg #[(.float .f32 v_x), (.float .f32 v_y), (.float .f32 v_z)]), (.pointer (some ⟨b2, 0, none⟩)), (.bool false), v10, v11, v12, v13, v14, v15, v16, v17, v18, v19, v20, v21, v22]) rfl (fun _ => rfl) (fun u hu hF => ?_) (fun v22 => ?_)
  · have h11_ : v18 = (.bool ((finF (cf .f32 v_x)) && (finF (cf .f32 v_y)))) := hF.1
    have h14_ : ((finF (cf .f32 v_x)) && (finF (cf .f32 v_y))) = true → v21 = (.bool (finF (cf .f32 v_z))) := hF.2.1
    clear hF
    obtain rfl := h11_
    refine doesG_un rfl ((does_pick (b := ((finF (cf .f32 v_x)) && (finF (cf .f32 v_y)))) (ev rfl) (ev rfl) (ev rfl)).mono ?_); rintro _ _ ⟨rfl, rfl⟩; refine ⟨?_, Ext.refl _⟩
    cases hbb : ((finF (cf .f32 v_x)) && (finF (cf .f32 v_y))) <;> simp [hbb] at h14_ ⊢
    all_goals (first | rfl | (subst h14_; rfl) | simp_all)
  refine RW_fin ?_; intro w23 E24 hP25
  obtain ⟨⟨⟨⟨⟨⟨⟨⟨⟨⟨⟨⟨⟨-, -⟩, -⟩, -⟩, -⟩, -⟩, -⟩, -⟩, -⟩, -⟩, -⟩, -⟩, -⟩, q26⟩ := hP25
  have X27 := Ext.gr X8 E24
  have q26 : v22 = (.bool (((finF (cf .f32 v_x)) && (finF (cf .f32 v_y))) && (finF (cf .f32 v_z)))) := q26
  obtain rfl := q26
  show wpList _ _ _ _ (fr [(.agg #[(.float .f32 v_x), (.float .f32 v_y), (.float .f32 v_z)]), (.pointer (some ⟨b2, 0, none⟩)), (.bool false), v10, v11, v12, v13, v14, v15, v16, v17, v18, v19, v20, v21, (.bool (((finF (cf .f32 v_x)) && (finF (cf .f32 v_y))) && (finF (cf .f32 v_z))))]) _
  refine q_is (l' := [(.agg #[(.float .f32 v_x), (.float .f32 v_y), (.float .f32 v_z)]), (.pointer (some ⟨b2, 0, none⟩)), (.bool (((finF (cf .f32 v_x)) && (finF (cf .f32 v_y))) && (finF (cf .f32 v_z)))), v10, v11, v12, v13, v14, v15, v16, v17, v18, v19, v20, v21, (.bool (((finF (cf .f32 v_x)) && (finF (cf .f32 v_y))) && (finF (cf .f32 v_z))))]) rfl rfl (does_assign (u := (.bool (((finF (cf .f32 v_x)) && (finF (cf .f32 v_y))) && (finF (cf .f32 v_z))))) (ev rfl)) rfl ?_
  refine wpList_nil (hK9 _ _ ?_)
  refine wp_ret ?_
  refine ret_val (v := (.bool (((finF (cf .f32 v_x)) && (finF (cf .f32 v_y))) && (finF (cf .f32 v_z))))) (res_T rfl (slot rfl)) X27 ?_
  have x28 : (finF (cf .f32 v_x) && finF (cf .f32 v_y) && finF (cf .f32 v_z)) = (((finF (cf .f32 v_x)) && (finF (cf .f32 v_y))) && (finF (cf .f32 v_z))) := by first | rfl | (simp only []; done) | (simp []; done)
  exact (by first | rfl | rw [x28])

/- spec.l04Is -/
theorem c_spec_l04Is (b_b : Nat) (b_o : Nat) (b_lx : Nat) (b_ly : Nat) (b_lz : Nat) (b_hx : Nat) (b_hy : Nat) (b_hz : Nat) (w : World) (hc_b : Cells w b_b b_o [(.float .f32 b_lx), (.float .f32 b_ly), (.float .f32 b_lz), (.float .f32 b_hx), (.float .f32 b_hy), (.float .f32 b_hz)]) : Gives Try.prog 51 #[(.pointer (some ⟨b_b, b_o, none⟩))] w (fun v w' => v = (.bool (isBox (cf .f32 b_lx) (cf .f32 b_ly) (cf .f32 b_lz) (cf .f32 b_hx) (cf .f32 b_hy) (cf .f32 b_hz)))) := by
  refine enter [(.pointer (some ⟨b_b, b_o, none⟩)), undef, undef, undef, undef, undef, undef, undef, undef, undef, undef, undef, undef, undef, undef, undef, undef, undef, undef, undef, undef, undef, undef, undef, undef, undef, undef, undef, undef, undef, undef, undef, undef, undef, undef, undef, undef, undef, undef, undef, undef, undef, undef, undef, undef, undef, undef, undef, undef, undef, undef, undef, undef, undef] Try.func51 rfl Try.ntmps51 rfl ?_
  refine wp_seq_k fun K1 hK1 => ?_
  refine wp_region_lit ?_
  refine q_is (l' := [(.pointer (some ⟨b_b, b_o, none⟩)), undef, (.bool false), undef, undef, undef, undef, undef, undef, undef, undef, undef, undef, undef, undef, undef, undef, undef, undef, undef, undef, undef, undef, undef, undef, undef, undef, undef, undef, undef, undef, undef, undef, undef, undef, undef, undef, undef, undef, undef, undef, undef, undef, undef, undef, undef, undef, undef, undef, undef, undef, undef, undef, undef]) rfl rfl (does_assign (u := (.bool false)) (ev rfl)) rfl ?_
  refine wpList_nil (hK1 _ _ ?_)
  refine wp_seq_k fun K2 hK2 => ?_
  refine region_draw (
    [Fact.pure [] (fun v => v = (.pointer (some ⟨b_b, b_o, none⟩))),
    Fact.pure [3] (fun v => v = (.pointer (some ⟨b_b, b_o, none⟩))),
    Fact.pure [4] (fun v => v = (.pointer (some ⟨b_b, b_o, none⟩))),
    Fact.pure [5] (fun v => v = (.agg #[(.float .f32 b_lx), (.float .f32 b_ly), (.float .f32 b_lz)])),
    Fact.pure [6] (fun v => v = (.bool (finF (cf .f32 b_lx) && finF (cf .f32 b_ly) && finF (cf .f32 b_lz)))),
    Fact.pure [7] (fun v => v = (.bool (finF (cf .f32 b_lx) && finF (cf .f32 b_ly) && finF (cf .f32 b_lz)))),
    Fact.pure [8] (fun v => (finF (cf .f32 b_lx) && finF (cf .f32 b_ly) && finF (cf .f32 b_lz)) = true → v = (.pointer (some ⟨b_b, b_o, none⟩))),
    Fact.pure [9, 8] (fun v => (finF (cf .f32 b_lx) && finF (cf .f32 b_ly) && finF (cf .f32 b_lz)) = true → v = (.pointer (some ⟨b_b, b_o, none⟩))),
    Fact.pure [10, 8] (fun v => (finF (cf .f32 b_lx) && finF (cf .f32 b_ly) && finF (cf .f32 b_lz)) = true → v = (.pointer (some ⟨b_b, b_o + 3, none⟩))),
    Fact.pure [11, 8] (fun v => (finF (cf .f32 b_lx) && finF (cf .f32 b_ly) && finF (cf .f32 b_lz)) = true → v = (.agg #[(.float .f32 b_hx), (.float .f32 b_hy), (.float .f32 b_hz)])),
    Fact.pure [12, 8] (fun v => (finF (cf .f32 b_lx) && finF (cf .f32 b_ly) && finF (cf .f32 b_lz)) = true → v = (.bool (finF (cf .f32 b_hx) && finF (cf .f32 b_hy) && finF (cf .f32 b_hz)))),
    Fact.pure [8, 13] (fun v => v = (.bool ((finF (cf .f32 b_lx) && finF (cf .f32 b_ly) && finF (cf .f32 b_lz)) && (finF (cf .f32 b_hx) && finF (cf .f32 b_hy) && finF (cf .f32 b_hz))))),
    Fact.pure [14] (fun v => v = (.bool ((finF (cf .f32 b_lx) && finF (cf .f32 b_ly) && finF (cf .f32 b_lz)) && (finF (cf .f32 b_hx) && finF (cf .f32 b_hy) && finF (cf .f32 b_hz))))),
    Fact.pure [15] (fun v => ((finF (cf .f32 b_lx) && finF (cf .f32 b_ly) && finF (cf .f32 b_lz)) && (finF (cf .f32 b_hx) && finF (cf .f32 b_hy) && finF (cf .f32 b_hz))) = true → v = (.pointer (some ⟨b_b, b_o, none⟩))),
    Fact.pure [16, 15] (fun v => ((finF (cf .f32 b_lx) && finF (cf .f32 b_ly) && finF (cf .f32 b_lz)) && (finF (cf .f32 b_hx) && finF (cf .f32 b_hy) && finF (cf .f32 b_hz))) = true → v = (.pointer (some ⟨b_b, b_o, none⟩))),
    Fact.pure [17, 15] (fun v => ((finF (cf .f32 b_lx) && finF (cf .f32 b_ly) && finF (cf .f32 b_lz)) && (finF (cf .f32 b_hx) && finF (cf .f32 b_hy) && finF (cf .f32 b_hz))) = true → v = (.pointer (some ⟨b_b, b_o, none⟩))),
    Fact.pure [18, 15] (fun v => ((finF (cf .f32 b_lx) && finF (cf .f32 b_ly) && finF (cf .f32 b_lz)) && (finF (cf .f32 b_hx) && finF (cf .f32 b_hy) && finF (cf .f32 b_hz))) = true → v = (.pointer (some ⟨b_b, b_o, none⟩))),
    Fact.pure [19, 15] (fun v => ((finF (cf .f32 b_lx) && finF (cf .f32 b_ly) && finF (cf .f32 b_lz)) && (finF (cf .f32 b_hx) && finF (cf .f32 b_hy) && finF (cf .f32 b_hz))) = true → v = (.float .f32 b_lx)),
    Fact.pure [15] (fun v => ((finF (cf .f32 b_lx) && finF (cf .f32 b_ly) && finF (cf .f32 b_lz)) && (finF (cf .f32 b_hx) && finF (cf .f32 b_hy) && finF (cf .f32 b_hz))) = true → v = (.pointer (some ⟨b_b, b_o, none⟩))),
    Fact.pure [21, 15] (fun v => ((finF (cf .f32 b_lx) && finF (cf .f32 b_ly) && finF (cf .f32 b_lz)) && (finF (cf .f32 b_hx) && finF (cf .f32 b_hy) && finF (cf .f32 b_hz))) = true → v = (.pointer (some ⟨b_b, b_o, none⟩))),
    Fact.pure [22, 15] (fun v => ((finF (cf .f32 b_lx) && finF (cf .f32 b_ly) && finF (cf .f32 b_lz)) && (finF (cf .f32 b_hx) && finF (cf .f32 b_hy) && finF (cf .f32 b_hz))) = true → v = (.pointer (some ⟨b_b, b_o + 3, none⟩))),
    Fact.pure [23, 15] (fun v => ((finF (cf .f32 b_lx) && finF (cf .f32 b_ly) && finF (cf .f32 b_lz)) && (finF (cf .f32 b_hx) && finF (cf .f32 b_hy) && finF (cf .f32 b_hz))) = true → v = (.pointer (some ⟨b_b, b_o + 3, none⟩))),
    Fact.pure [24, 15] (fun v => ((finF (cf .f32 b_lx) && finF (cf .f32 b_ly) && finF (cf .f32 b_lz)) && (finF (cf .f32 b_hx) && finF (cf .f32 b_hy) && finF (cf .f32 b_hz))) = true → v = (.float .f32 b_hx)),
    Fact.pure [20, 25, 15] (fun v => ((finF (cf .f32 b_lx) && finF (cf .f32 b_ly) && finF (cf .f32 b_lz)) && (finF (cf .f32 b_hx) && finF (cf .f32 b_hy) && finF (cf .f32 b_hz))) = true → v = (.bool (fcmp .leq (ford .f32 (cf .f32 b_lx) (cf .f32 b_hx))))),
    Fact.pure [15, 26] (fun v => v = (.bool (((finF (cf .f32 b_lx) && finF (cf .f32 b_ly) && finF (cf .f32 b_lz)) && (finF (cf .f32 b_hx) && finF (cf .f32 b_hy) && finF (cf .f32 b_hz))) && (fcmp .leq (ford .f32 (cf .f32 b_lx) (cf .f32 b_hx)))))),
    Fact.pure [27] (fun v => v = (.bool (((finF (cf .f32 b_lx) && finF (cf .f32 b_ly) && finF (cf .f32 b_lz)) && (finF (cf .f32 b_hx) && finF (cf .f32 b_hy) && finF (cf .f32 b_hz))) && (fcmp .leq (ford .f32 (cf .f32 b_lx) (cf .f32 b_hx)))))),
    Fact.pure [28] (fun v => (((finF (cf .f32 b_lx) && finF (cf .f32 b_ly) && finF (cf .f32 b_lz)) && (finF (cf .f32 b_hx) && finF (cf .f32 b_hy) && finF (cf .f32 b_hz))) && (fcmp .leq (ford .f32 (cf .f32 b_lx) (cf .f32 b_hx)))) = true → v = (.pointer (some ⟨b_b, b_o, none⟩))),
    Fact.pure [29, 28] (fun v => (((finF (cf .f32 b_lx) && finF (cf .f32 b_ly) && finF (cf .f32 b_lz)) && (finF (cf .f32 b_hx) && finF (cf .f32 b_hy) && finF (cf .f32 b_hz))) && (fcmp .leq (ford .f32 (cf .f32 b_lx) (cf .f32 b_hx)))) = true → v = (.pointer (some ⟨b_b, b_o, none⟩))),
    Fact.pure [30, 28] (fun v => (((finF (cf .f32 b_lx) && finF (cf .f32 b_ly) && finF (cf .f32 b_lz)) && (finF (cf .f32 b_hx) && finF (cf .f32 b_hy) && finF (cf .f32 b_hz))) && (fcmp .leq (ford .f32 (cf .f32 b_lx) (cf .f32 b_hx)))) = true → v = (.pointer (some ⟨b_b, b_o, none⟩))),
    Fact.pure [31, 28] (fun v => (((finF (cf .f32 b_lx) && finF (cf .f32 b_ly) && finF (cf .f32 b_lz)) && (finF (cf .f32 b_hx) && finF (cf .f32 b_hy) && finF (cf .f32 b_hz))) && (fcmp .leq (ford .f32 (cf .f32 b_lx) (cf .f32 b_hx)))) = true → v = (.pointer (some ⟨b_b, b_o + 1, none⟩))),
    Fact.pure [32, 28] (fun v => (((finF (cf .f32 b_lx) && finF (cf .f32 b_ly) && finF (cf .f32 b_lz)) && (finF (cf .f32 b_hx) && finF (cf .f32 b_hy) && finF (cf .f32 b_hz))) && (fcmp .leq (ford .f32 (cf .f32 b_lx) (cf .f32 b_hx)))) = true → v = (.float .f32 b_ly)),
    Fact.pure [28] (fun v => (((finF (cf .f32 b_lx) && finF (cf .f32 b_ly) && finF (cf .f32 b_lz)) && (finF (cf .f32 b_hx) && finF (cf .f32 b_hy) && finF (cf .f32 b_hz))) && (fcmp .leq (ford .f32 (cf .f32 b_lx) (cf .f32 b_hx)))) = true → v = (.pointer (some ⟨b_b, b_o, none⟩))),
    Fact.pure [34, 28] (fun v => (((finF (cf .f32 b_lx) && finF (cf .f32 b_ly) && finF (cf .f32 b_lz)) && (finF (cf .f32 b_hx) && finF (cf .f32 b_hy) && finF (cf .f32 b_hz))) && (fcmp .leq (ford .f32 (cf .f32 b_lx) (cf .f32 b_hx)))) = true → v = (.pointer (some ⟨b_b, b_o, none⟩))),
    Fact.pure [35, 28] (fun v => (((finF (cf .f32 b_lx) && finF (cf .f32 b_ly) && finF (cf .f32 b_lz)) && (finF (cf .f32 b_hx) && finF (cf .f32 b_hy) && finF (cf .f32 b_hz))) && (fcmp .leq (ford .f32 (cf .f32 b_lx) (cf .f32 b_hx)))) = true → v = (.pointer (some ⟨b_b, b_o + 3, none⟩))),
    Fact.pure [36, 28] (fun v => (((finF (cf .f32 b_lx) && finF (cf .f32 b_ly) && finF (cf .f32 b_lz)) && (finF (cf .f32 b_hx) && finF (cf .f32 b_hy) && finF (cf .f32 b_hz))) && (fcmp .leq (ford .f32 (cf .f32 b_lx) (cf .f32 b_hx)))) = true → v = (.pointer (some ⟨b_b, b_o + 4, none⟩))),
    Fact.pure [37, 28] (fun v => (((finF (cf .f32 b_lx) && finF (cf .f32 b_ly) && finF (cf .f32 b_lz)) && (finF (cf .f32 b_hx) && finF (cf .f32 b_hy) && finF (cf .f32 b_hz))) && (fcmp .leq (ford .f32 (cf .f32 b_lx) (cf .f32 b_hx)))) = true → v = (.float .f32 b_hy)),
    Fact.pure [33, 38, 28] (fun v => (((finF (cf .f32 b_lx) && finF (cf .f32 b_ly) && finF (cf .f32 b_lz)) && (finF (cf .f32 b_hx) && finF (cf .f32 b_hy) && finF (cf .f32 b_hz))) && (fcmp .leq (ford .f32 (cf .f32 b_lx) (cf .f32 b_hx)))) = true → v = (.bool (fcmp .leq (ford .f32 (cf .f32 b_ly) (cf .f32 b_hy))))),
    Fact.pure [28, 39] (fun v => v = (.bool ((((finF (cf .f32 b_lx) && finF (cf .f32 b_ly) && finF (cf .f32 b_lz)) && (finF (cf .f32 b_hx) && finF (cf .f32 b_hy) && finF (cf .f32 b_hz))) && (fcmp .leq (ford .f32 (cf .f32 b_lx) (cf .f32 b_hx)))) && (fcmp .leq (ford .f32 (cf .f32 b_ly) (cf .f32 b_hy)))))),
    Fact.pure [40] (fun v => v = (.bool ((((finF (cf .f32 b_lx) && finF (cf .f32 b_ly) && finF (cf .f32 b_lz)) && (finF (cf .f32 b_hx) && finF (cf .f32 b_hy) && finF (cf .f32 b_hz))) && (fcmp .leq (ford .f32 (cf .f32 b_lx) (cf .f32 b_hx)))) && (fcmp .leq (ford .f32 (cf .f32 b_ly) (cf .f32 b_hy)))))),
    Fact.pure [41] (fun v => ((((finF (cf .f32 b_lx) && finF (cf .f32 b_ly) && finF (cf .f32 b_lz)) && (finF (cf .f32 b_hx) && finF (cf .f32 b_hy) && finF (cf .f32 b_hz))) && (fcmp .leq (ford .f32 (cf .f32 b_lx) (cf .f32 b_hx)))) && (fcmp .leq (ford .f32 (cf .f32 b_ly) (cf .f32 b_hy)))) = true → v = (.pointer (some ⟨b_b, b_o, none⟩))),
    Fact.pure [42, 41] (fun v => ((((finF (cf .f32 b_lx) && finF (cf .f32 b_ly) && finF (cf .f32 b_lz)) && (finF (cf .f32 b_hx) && finF (cf .f32 b_hy) && finF (cf .f32 b_hz))) && (fcmp .leq (ford .f32 (cf .f32 b_lx) (cf .f32 b_hx)))) && (fcmp .leq (ford .f32 (cf .f32 b_ly) (cf .f32 b_hy)))) = true → v = (.pointer (some ⟨b_b, b_o, none⟩))),
    Fact.pure [43, 41] (fun v => ((((finF (cf .f32 b_lx) && finF (cf .f32 b_ly) && finF (cf .f32 b_lz)) && (finF (cf .f32 b_hx) && finF (cf .f32 b_hy) && finF (cf .f32 b_hz))) && (fcmp .leq (ford .f32 (cf .f32 b_lx) (cf .f32 b_hx)))) && (fcmp .leq (ford .f32 (cf .f32 b_ly) (cf .f32 b_hy)))) = true → v = (.pointer (some ⟨b_b, b_o, none⟩))),
    Fact.pure [44, 41] (fun v => ((((finF (cf .f32 b_lx) && finF (cf .f32 b_ly) && finF (cf .f32 b_lz)) && (finF (cf .f32 b_hx) && finF (cf .f32 b_hy) && finF (cf .f32 b_hz))) && (fcmp .leq (ford .f32 (cf .f32 b_lx) (cf .f32 b_hx)))) && (fcmp .leq (ford .f32 (cf .f32 b_ly) (cf .f32 b_hy)))) = true → v = (.pointer (some ⟨b_b, b_o + 2, none⟩))),
    Fact.pure [45, 41] (fun v => ((((finF (cf .f32 b_lx) && finF (cf .f32 b_ly) && finF (cf .f32 b_lz)) && (finF (cf .f32 b_hx) && finF (cf .f32 b_hy) && finF (cf .f32 b_hz))) && (fcmp .leq (ford .f32 (cf .f32 b_lx) (cf .f32 b_hx)))) && (fcmp .leq (ford .f32 (cf .f32 b_ly) (cf .f32 b_hy)))) = true → v = (.float .f32 b_lz)),
    Fact.pure [41] (fun v => ((((finF (cf .f32 b_lx) && finF (cf .f32 b_ly) && finF (cf .f32 b_lz)) && (finF (cf .f32 b_hx) && finF (cf .f32 b_hy) && finF (cf .f32 b_hz))) && (fcmp .leq (ford .f32 (cf .f32 b_lx) (cf .f32 b_hx)))) && (fcmp .leq (ford .f32 (cf .f32 b_ly) (cf .f32 b_hy)))) = true → v = (.pointer (some ⟨b_b, b_o, none⟩))),
    Fact.pure [47, 41] (fun v => ((((finF (cf .f32 b_lx) && finF (cf .f32 b_ly) && finF (cf .f32 b_lz)) && (finF (cf .f32 b_hx) && finF (cf .f32 b_hy) && finF (cf .f32 b_hz))) && (fcmp .leq (ford .f32 (cf .f32 b_lx) (cf .f32 b_hx)))) && (fcmp .leq (ford .f32 (cf .f32 b_ly) (cf .f32 b_hy)))) = true → v = (.pointer (some ⟨b_b, b_o, none⟩))),
    Fact.pure [48, 41] (fun v => ((((finF (cf .f32 b_lx) && finF (cf .f32 b_ly) && finF (cf .f32 b_lz)) && (finF (cf .f32 b_hx) && finF (cf .f32 b_hy) && finF (cf .f32 b_hz))) && (fcmp .leq (ford .f32 (cf .f32 b_lx) (cf .f32 b_hx)))) && (fcmp .leq (ford .f32 (cf .f32 b_ly) (cf .f32 b_hy)))) = true → v = (.pointer (some ⟨b_b, b_o + 3, none⟩))),
    Fact.pure [49, 41] (fun v => ((((finF (cf .f32 b_lx) && finF (cf .f32 b_ly) && finF (cf .f32 b_lz)) && (finF (cf .f32 b_hx) && finF (cf .f32 b_hy) && finF (cf .f32 b_hz))) && (fcmp .leq (ford .f32 (cf .f32 b_lx) (cf .f32 b_hx)))) && (fcmp .leq (ford .f32 (cf .f32 b_ly) (cf .f32 b_hy)))) = true → v = (.pointer (some ⟨b_b, b_o + 5, none⟩))),
    Fact.pure [50, 41] (fun v => ((((finF (cf .f32 b_lx) && finF (cf .f32 b_ly) && finF (cf .f32 b_lz)) && (finF (cf .f32 b_hx) && finF (cf .f32 b_hy) && finF (cf .f32 b_hz))) && (fcmp .leq (ford .f32 (cf .f32 b_lx) (cf .f32 b_hx)))) && (fcmp .leq (ford .f32 (cf .f32 b_ly) (cf .f32 b_hy)))) = true → v = (.float .f32 b_hz)),
    Fact.pure [46, 51, 41] (fun v => ((((finF (cf .f32 b_lx) && finF (cf .f32 b_ly) && finF (cf .f32 b_lz)) && (finF (cf .f32 b_hx) && finF (cf .f32 b_hy) && finF (cf .f32 b_hz))) && (fcmp .leq (ford .f32 (cf .f32 b_lx) (cf .f32 b_hx)))) && (fcmp .leq (ford .f32 (cf .f32 b_ly) (cf .f32 b_hy)))) = true → v = (.bool (fcmp .leq (ford .f32 (cf .f32 b_lz) (cf .f32 b_hz))))),
    Fact.pure [41, 52] (fun v => v = (.bool (((((finF (cf .f32 b_lx) && finF (cf .f32 b_ly) && finF (cf .f32 b_lz)) && (finF (cf .f32 b_hx) && finF (cf .f32 b_hy) && finF (cf .f32 b_hz))) && (fcmp .leq (ford .f32 (cf .f32 b_lx) (cf .f32 b_hx)))) && (fcmp .leq (ford .f32 (cf .f32 b_ly) (cf .f32 b_hy)))) && (fcmp .leq (ford .f32 (cf .f32 b_lz) (cf .f32 b_hz))))))]) mixed (by kernel_rfl) (by intro _ _ d _ _ h; cases d <;> exact h) ?_
  obtain ⟨w3, hw5⟩ : ∃ w', w' = World.drew w := ⟨_, rfl⟩; rw [← hw5]; have E4 : Ext w w3 := by rw [hw5]; exact Ext.draw _
  clear hw5
  have X6 := Ext.gr (Ext.refl w) E4
  refine RW_d (fun v7 => [(.pointer (some ⟨b_b, b_o, none⟩)), undef, (.bool false), v7, undef, undef, undef, undef, undef, undef, undef, undef, undef, undef, undef, undef, undef, undef, undef, undef, undef, undef, undef, undef, undef, undef, undef, undef, undef, undef, undef, undef, undef, undef, undef, undef, undef, undef, undef, undef, undef, undef, undef, undef, undef, undef, undef, undef, undef, undef, undef, undef, undef, undef]) rfl (fun _ => rfl) (fun u hu hF => ?_) (fun v7 => ?_)
  · clear hF
    refine doesG_un rfl ?_
    refine (does_move (u := (.pointer (some ⟨b_b, b_o, none⟩))) (ev rfl)).mono ?_; rintro _ _ ⟨rfl, rfl⟩
    exact ⟨rfl, Ext.refl _⟩
  refine RW_d (fun v8 => [(.pointer (some ⟨b_b, b_o, none⟩)), undef, (.bool false), v7, v8, undef, undef, undef, undef, undef, undef, undef, undef, undef, undef, undef, undef, undef, undef, undef, undef, undef, undef, undef, undef, undef, undef, undef, undef, undef, undef, undef, undef, undef, undef, undef, undef, undef, undef, undef, undef, undef, undef, undef, undef, undef, undef, undef, undef, undef, undef, undef, undef, undef]) rfl (fun _ => rfl) (fun u hu hF => ?_) (fun v8 => ?_)
  · have h3_ : v7 = (.pointer (some ⟨b_b, b_o, none⟩)) := hF.1
    clear hF
    obtain rfl := h3_
    refine doesG_un rfl ?_
    refine (does_nilCheck (ev rfl)).mono ?_; rintro _ _ ⟨rfl, rfl⟩
    exact ⟨rfl, Ext.refl _⟩
  refine RW_d (fun v9 => [(.pointer (some ⟨b_b, b_o, none⟩)), undef, (.bool false), v7, v8, v9, undef, undef, undef, undef, undef, undef, undef, undef, undef, undef, undef, undef, undef, undef, undef, undef, undef, undef, undef, undef, undef, undef, undef, undef, undef, undef, undef, undef, undef, undef, undef, undef, undef, undef, undef, undef, undef, undef, undef, undef, undef, undef, undef, undef, undef, undef, undef, undef]) rfl (fun _ => rfl) (fun u hu hF => ?_) (fun v9 => ?_)
  · have h4_ : v8 = (.pointer (some ⟨b_b, b_o, none⟩)) := hF.1
    clear hF
    obtain rfl := h4_
    refine doesG_un rfl ?_
    refine (does_fieldAddr (ev rfl) fa33_0).mono ?_; rintro _ _ ⟨rfl, rfl⟩
    exact ⟨rfl, Ext.refl _⟩
  refine RW_d (fun v10 => [(.pointer (some ⟨b_b, b_o, none⟩)), undef, (.bool false), v7, v8, v9, v10, undef, undef, undef, undef, undef, undef, undef, undef, undef, undef, undef, undef, undef, undef, undef, undef, undef, undef, undef, undef, undef, undef, undef, undef, undef, undef, undef, undef, undef, undef, undef, undef, undef, undef, undef, undef, undef, undef, undef, undef, undef, undef, undef, undef, undef, undef, undef]) rfl (fun _ => rfl) (fun u hu hF => ?_) (fun v10 => ?_)
  · have h5_ : v9 = (.pointer (some ⟨b_b, b_o, none⟩)) := hF.1
    clear hF
    obtain rfl := h5_
    refine doesG_un rfl ?_
    refine (does_loadAgg (cs := [(.float .f32 b_lx), (.float .f32 b_ly), (.float .f32 b_lz)]) (ev rfl) Try.isAgg31 Try.sizeOf31 (Cells.sub ((hc_b.ext (Ext.gr (Ext.refl w) E4)).ext hu) 0 3) rfl).mono ?_; rintro _ _ ⟨rfl, rfl⟩
    exact ⟨rfl, Ext.refl _⟩
  refine RW_d (fun v11 => [(.pointer (some ⟨b_b, b_o, none⟩)), undef, (.bool false), v7, v8, v9, v10, v11, undef, undef, undef, undef, undef, undef, undef, undef, undef, undef, undef, undef, undef, undef, undef, undef, undef, undef, undef, undef, undef, undef, undef, undef, undef, undef, undef, undef, undef, undef, undef, undef, undef, undef, undef, undef, undef, undef, undef, undef, undef, undef, undef, undef, undef, undef]) rfl (fun _ => rfl) (fun u hu hF => ?_) (fun v11 => ?_)
  · have h6_ : v10 = (.agg #[(.float .f32 b_lx), (.float .f32 b_ly), (.float .f32 b_lz)]) := hF.1
    clear hF
    obtain rfl := h6_
    refine doesG_un rfl ?_
    refine (does_call (args := #[(.agg #[(.float .f32 b_lx), (.float .f32 b_ly), (.float .f32 b_lz)])]) cal96 (evs rfl) (c_spec_l01VFinite b_lx b_ly b_lz _)).mono ?_; rintro v u' ⟨hx, hv⟩
    exact ⟨hv, hx⟩
  refine RW_d (fun v12 => [(.pointer (some ⟨b_b, b_o, none⟩)), undef, (.bool false), v7, v8, v9, v10, v11, v12, undef, undef, undef, undef, undef, undef, undef, undef, undef, undef, undef, undef, undef, undef, undef, undef, undef, undef, undef, undef, undef, undef, undef, undef, undef, undef, undef, undef, undef, undef, undef, undef, undef, undef, undef, undef, undef, undef, undef, undef, undef, undef, undef, undef, undef]) rfl (fun _ => rfl) (fun u hu hF => ?_) (fun v12 => ?_)
  · have h7_ : v11 = (.bool (finF (cf .f32 b_lx) && finF (cf .f32 b_ly) && finF (cf .f32 b_lz))) := hF.1
    clear hF
    obtain rfl := h7_
    refine doesG_un rfl ?_
    refine (does_move (u := (.bool (finF (cf .f32 b_lx) && finF (cf .f32 b_ly) && finF (cf .f32 b_lz)))) (ev rfl)).mono ?_; rintro _ _ ⟨rfl, rfl⟩
    exact ⟨rfl, Ext.refl _⟩
  refine RW_d (fun v13 => [(.pointer (some ⟨b_b, b_o, none⟩)), undef, (.bool false), v7, v8, v9, v10, v11, v12, v13, undef, undef, undef, undef, undef, undef, undef, undef, undef, undef, undef, undef, undef, undef, undef, undef, undef, undef, undef, undef, undef, undef, undef, undef, undef, undef, undef, undef, undef, undef, undef, undef, undef, undef, undef, undef, undef, undef, undef, undef, undef, undef, undef, undef]) rfl (fun _ => rfl) (fun u hu hF => ?_) (fun v13 => ?_)
  · have h8_ : v12 = (.bool (finF (cf .f32 b_lx) && finF (cf .f32 b_ly) && finF (cf .f32 b_lz))) := hF.1
    clear hF
    obtain rfl := h8_
    refine doesG_g (b := (finF (cf .f32 b_lx) && finF (cf .f32 b_ly) && finF (cf .f32 b_lz))) rfl (yld rfl rfl) (fun hg => ?_) (fun hg => ⟨fun h => absurd h hg, Ext.refl _⟩)
    refine (does_move (u := (.pointer (some ⟨b_b, b_o, none⟩))) (ev rfl)).mono ?_; rintro _ _ ⟨rfl, rfl⟩
    exact ⟨fun _ => rfl, Ext.refl _⟩
  refine RW_d (fun v14 => [(.pointer (some ⟨b_b, b_o, none⟩)), undef, (.bool false), v7, v8, v9, v10, v11, v12, v13, v14, undef, undef, undef, undef, undef, undef, undef, undef, undef, undef, undef, undef, undef, undef, undef, undef, undef, undef, undef, undef, undef, undef, undef, undef, undef, undef, undef, undef, undef, undef, undef, undef, undef, undef, undef, undef, undef, undef, undef, undef, undef, undef, undef]) rfl (fun _ => rfl) (fun u hu hF => ?_) (fun v14 => ?_)
  · have h9_ : (finF (cf .f32 b_lx) && finF (cf .f32 b_ly) && finF (cf .f32 b_lz)) = true → v13 = (.pointer (some ⟨b_b, b_o, none⟩)) := hF.1
    have h8_ : v12 = (.bool (finF (cf .f32 b_lx) && finF (cf .f32 b_ly) && finF (cf .f32 b_lz))) := hF.2.1
    clear hF
    obtain rfl := h8_
    refine doesG_g (b := (finF (cf .f32 b_lx) && finF (cf .f32 b_ly) && finF (cf .f32 b_lz))) rfl (yld rfl rfl) (fun hg => ?_) (fun hg => ⟨fun h => absurd h hg, Ext.refl _⟩)
    obtain rfl := h9_ hg
    refine (does_nilCheck (ev rfl)).mono ?_; rintro _ _ ⟨rfl, rfl⟩
    exact ⟨fun _ => rfl, Ext.refl _⟩
  refine RW_d (fun v15 => [(.pointer (some ⟨b_b, b_o, none⟩)), undef, (.bool false), v7, v8, v9, v10, v11, v12, v13, v14, v15, undef, undef, undef, undef, undef, undef, undef, undef, undef, undef, undef, undef, undef, undef, undef, undef, undef, undef, undef, undef, undef, undef, undef, undef, undef, undef, undef, undef, undef, undef, undef, undef, undef, undef, undef, undef, undef, undef, undef, undef, undef, undef]) rfl (fun _ => rfl) (fun u hu hF => ?_) (fun v15 => ?_)
  · have h10_ : (finF (cf .f32 b_lx) && finF (cf .f32 b_ly) && finF (cf .f32 b_lz)) = true → v14 = (.pointer (some ⟨b_b, b_o, none⟩)) := hF.1
    have h8_ : v12 = (.bool (finF (cf .f32 b_lx) && finF (cf .f32 b_ly) && finF (cf .f32 b_lz))) := hF.2.1
    clear hF
    obtain rfl := h8_
    refine doesG_g (b := (finF (cf .f32 b_lx) && finF (cf .f32 b_ly) && finF (cf .f32 b_lz))) rfl (yld rfl rfl) (fun hg => ?_) (fun hg => ⟨fun h => absurd h hg, Ext.refl _⟩)
    obtain rfl := h10_ hg
    refine (does_fieldAddr (ev rfl) fa33_1).mono ?_; rintro _ _ ⟨rfl, rfl⟩
    exact ⟨fun _ => rfl, Ext.refl _⟩
  refine RW_d (fun v16 => [(.pointer (some ⟨b_b, b_o, none⟩)), undef, (.bool false), v7, v8, v9, v10, v11, v12, v13, v14, v15, v16, undef, undef, undef, undef, undef, undef, undef, undef, undef, undef, undef, undef, undef, undef, undef, undef, undef, undef, undef, undef, undef, undef, undef, undef, undef, undef, undef, undef, undef, undef, undef, undef, undef, undef, undef, undef, undef, undef, undef, undef, undef]) rfl (fun _ => rfl) (fun u hu hF => ?_) (fun v16 => ?_)
  · have h11_ : (finF (cf .f32 b_lx) && finF (cf .f32 b_ly) && finF (cf .f32 b_lz)) = true → v15 = (.pointer (some ⟨b_b, b_o + 3, none⟩)) := hF.1
    have h8_ : v12 = (.bool (finF (cf .f32 b_lx) && finF (cf .f32 b_ly) && finF (cf .f32 b_lz))) := hF.2.1
    clear hF
    obtain rfl := h8_
    refine doesG_g (b := (finF (cf .f32 b_lx) && finF (cf .f32 b_ly) && finF (cf .f32 b_lz))) rfl (yld rfl rfl) (fun hg => ?_) (fun hg => ⟨fun h => absurd h hg, Ext.refl _⟩)
    obtain rfl := h11_ hg
    refine (does_loadAgg (cs := [(.float .f32 b_hx), (.float .f32 b_hy), (.float .f32 b_hz)]) (ev rfl) Try.isAgg31 Try.sizeOf31 (Cells.sub ((hc_b.ext (Ext.gr (Ext.refl w) E4)).ext hu) 3 3) rfl).mono ?_; rintro _ _ ⟨rfl, rfl⟩
    exact ⟨fun _ => rfl, Ext.refl _⟩
  refine RW_d (fun v17 => [(.pointer (some ⟨b_b, b_o, none⟩)), undef, (.bool false), v7, v8, v9, v10, v11, v12, v13, v14, v15, v16, v17, undef, undef, undef, undef, undef, undef, undef, undef, undef, undef, undef, undef, undef, undef, undef, undef, undef, undef, undef, undef, undef, undef, undef, undef, undef, undef, undef, undef, undef, undef, undef, undef, undef, undef, undef, undef, undef, undef, undef, undef]) rfl (fun _ => rfl) (fun u hu hF => ?_) (fun v17 => ?_)
  · have h12_ : (finF (cf .f32 b_lx) && finF (cf .f32 b_ly) && finF (cf .f32 b_lz)) = true → v16 = (.agg #[(.float .f32 b_hx), (.float .f32 b_hy), (.float .f32 b_hz)]) := hF.1
    have h8_ : v12 = (.bool (finF (cf .f32 b_lx) && finF (cf .f32 b_ly) && finF (cf .f32 b_lz))) := hF.2.1
    clear hF
    obtain rfl := h8_
    refine doesG_g (b := (finF (cf .f32 b_lx) && finF (cf .f32 b_ly) && finF (cf .f32 b_lz))) rfl (yld rfl rfl) (fun hg => ?_) (fun hg => ⟨fun h => absurd h hg, Ext.refl _⟩)
    obtain rfl := h12_ hg
    refine (does_call (args := #[(.agg #[(.float .f32 b_hx), (.float .f32 b_hy), (.float .f32 b_hz)])]) cal96 (evs rfl) (c_spec_l01VFinite b_hx b_hy b_hz _)).mono ?_; rintro v u' ⟨hx, hv⟩
    exact ⟨fun _ => hv, hx⟩
  refine RW_d (fun v18 => [(.pointer (some ⟨b_b, b_o, none⟩)), undef, (.bool false), v7, v8, v9, v10, v11, v12, v13, v14, v15, v16, v17, v18, undef, undef, undef, undef, undef, undef, undef, undef, undef, undef, undef, undef, undef, undef, undef, undef, undef, undef, undef, undef, undef, undef, undef, undef, undef, undef, undef, undef, undef, undef, undef, undef, undef, undef, undef, undef, undef, undef, undef]) rfl (fun _ => rfl) (fun u hu hF => ?_) (fun v18 => ?_)
  · have h8_ : v12 = (.bool (finF (cf .f32 b_lx) && finF (cf .f32 b_ly) && finF (cf .f32 b_lz))) := hF.1
    have h13_ : (finF (cf .f32 b_lx) && finF (cf .f32 b_ly) && finF (cf .f32 b_lz)) = true → v17 = (.bool (finF (cf .f32 b_hx) && finF (cf .f32 b_hy) && finF (cf .f32 b_hz))) := hF.2.1
    clear hF
    obtain rfl := h8_
    refine doesG_un rfl ((does_pick (b := (finF (cf .f32 b_lx) && finF (cf .f32 b_ly) && finF (cf .f32 b_lz))) (ev rfl) (ev rfl) (ev rfl)).mono ?_); rintro _ _ ⟨rfl, rfl⟩; refine ⟨?_, Ext.refl _⟩
    cases hbb : (finF (cf .f32 b_lx) && finF (cf .f32 b_ly) && finF (cf .f32 b_lz)) <;> simp [hbb] at h13_ ⊢
    all_goals (first | rfl | (subst h13_; rfl) | simp_all)
  refine RW_d (fun v19 => [(.pointer (some ⟨b_b, b_o, none⟩)), undef, (.bool false), v7, v8, v9, v10, v11, v12, v13, v14, v15, v16, v17, v18, v19, undef, undef, undef, undef, undef, undef, undef, undef, undef, undef, undef, undef, undef, undef, undef, undef, undef, undef, undef, undef, undef, undef, undef, undef, undef, undef, undef, undef, undef, undef, undef, undef, undef, undef, undef, undef, undef, undef]) rfl (fun _ => rfl) (fun u hu hF => ?_) (fun v19 => ?_)
  · have h14_ : v18 = (.bool ((finF (cf .f32 b_lx) && finF (cf .f32 b_ly) && finF (cf .f32 b_lz)) && (finF (cf .f32 b_hx) && finF (cf .f32 b_hy) && finF (cf .f32 b_hz)))) := hF.1
    clear hF
    obtain rfl := h14_
    refine doesG_un rfl ?_
    refine (does_move (u := (.bool ((finF (cf .f32 b_lx) && finF (cf .f32 b_ly) && finF (cf .f32 b_lz)) && (finF (cf .f32 b_hx) && finF (cf .f32 b_hy) && finF (cf .f32 b_hz))))) (ev rfl)).mono ?_; rintro _ _ ⟨rfl, rfl⟩
    exact ⟨rfl, Ext.refl _⟩
  refine RW_d (fun v20 => [(.pointer (some ⟨b_b, b_o, none⟩)), undef, (.bool false), v7, v8, v9, v10, v11, v12, v13, v14, v15, v16, v17, v18, v19, v20, undef, undef, undef, undef, undef, undef, undef, undef, undef, undef, undef, undef, undef, undef, undef, undef, undef, undef, undef, undef, undef, undef, undef, undef, undef, undef, undef, undef, undef, undef, undef, undef, undef, undef, undef, undef, undef]) rfl (fun _ => rfl) (fun u hu hF => ?_) (fun v20 => ?_)
  · have h15_ : v19 = (.bool ((finF (cf .f32 b_lx) && finF (cf .f32 b_ly) && finF (cf .f32 b_lz)) && (finF (cf .f32 b_hx) && finF (cf .f32 b_hy) && finF (cf .f32 b_hz)))) := hF.1
    clear hF
    obtain rfl := h15_
    refine doesG_g (b := ((finF (cf .f32 b_lx) && finF (cf .f32 b_ly) && finF (cf .f32 b_lz)) && (finF (cf .f32 b_hx) && finF (cf .f32 b_hy) && finF (cf .f32 b_hz)))) rfl (yld rfl rfl) (fun hg => ?_) (fun hg => ⟨fun h => absurd h hg, Ext.refl _⟩)
    refine (does_move (u := (.pointer (some ⟨b_b, b_o, none⟩))) (ev rfl)).mono ?_; rintro _ _ ⟨rfl, rfl⟩
    exact ⟨fun _ => rfl, Ext.refl _⟩
  refine RW_d (fun v21 => [(.pointer (some ⟨b_b, b_o, none⟩)), undef, (.bool false), v7, v8, v9, v10, v11, v12, v13, v14, v15, v16, v17, v18, v19, v20, v21, undef, undef, undef, undef, undef, undef, undef, undef, undef, undef, undef, undef, undef, undef, undef, undef, undef, undef, undef, undef, undef, undef, undef, undef, undef, undef, undef, undef, undef, undef, undef, undef, undef, undef, undef, undef]) rfl (fun _ => rfl) (fun u hu hF => ?_) (fun v21 => ?_)
  · have h16_ : ((finF (cf .f32 b_lx) && finF (cf .f32 b_ly) && finF (cf .f32 b_lz)) && (finF (cf .f32 b_hx) && finF (cf .f32 b_hy) && finF (cf .f32 b_hz))) = true → v20 = (.pointer (some ⟨b_b, b_o, none⟩)) := hF.1
    have h15_ : v19 = (.bool ((finF (cf .f32 b_lx) && finF (cf .f32 b_ly) && finF (cf .f32 b_lz)) && (finF (cf .f32 b_hx) && finF (cf .f32 b_hy) && finF (cf .f32 b_hz)))) := hF.2.1
    clear hF
    obtain rfl := h15_
    refine doesG_g (b := ((finF (cf .f32 b_lx) && finF (cf .f32 b_ly) && finF (cf .f32 b_lz)) && (finF (cf .f32 b_hx) && finF (cf .f32 b_hy) && finF (cf .f32 b_hz)))) rfl (yld rfl rfl) (fun hg => ?_) (fun hg => ⟨fun h => absurd h hg, Ext.refl _⟩)
    obtain rfl := h16_ hg
    refine (does_nilCheck (ev rfl)).mono ?_; rintro _ _ ⟨rfl, rfl⟩
    exact ⟨fun _ => rfl, Ext.refl _⟩
  refine RW_d (fun v22 => [(.pointer (some ⟨b_b, b_o, none⟩)), undef, (.bool false), v7, v8, v9, v10, v11, v12, v13, v14, v15, v16, v17, v18, v19, v20, v21, v22, undef, undef, undef, undef, undef, undef, undef, undef, undef, undef, undef, undef, undef, undef, undef, undef, undef, undef, undef, undef, undef, undef, undef, undef, undef, undef, undef, undef, undef, undef, undef, undef, undef, undef, undef]) rfl (fun _ => rfl) (fun u hu hF => ?_) (fun v22 => ?_)
  · have h17_ : ((finF (cf .f32 b_lx) && finF (cf .f32 b_ly) && finF (cf .f32 b_lz)) && (finF (cf .f32 b_hx) && finF (cf .f32 b_hy) && finF (cf .f32 b_hz))) = true → v21 = (.pointer (some ⟨b_b, b_o, none⟩)) := hF.1
    have h15_ : v19 = (.bool ((finF (cf .f32 b_lx) && finF (cf .f32 b_ly) && finF (cf .f32 b_lz)) && (finF (cf .f32 b_hx) && finF (cf .f32 b_hy) && finF (cf .f32 b_hz)))) := hF.2.1
    clear hF
    obtain rfl := h15_
    refine doesG_g (b := ((finF (cf .f32 b_lx) && finF (cf .f32 b_ly) && finF (cf .f32 b_lz)) && (finF (cf .f32 b_hx) && finF (cf .f32 b_hy) && finF (cf .f32 b_hz)))) rfl (yld rfl rfl) (fun hg => ?_) (fun hg => ⟨fun h => absurd h hg, Ext.refl _⟩)
    obtain rfl := h17_ hg
    refine (does_fieldAddr (ev rfl) fa33_0).mono ?_; rintro _ _ ⟨rfl, rfl⟩
    exact ⟨fun _ => rfl, Ext.refl _⟩
  refine RW_d (fun v23 => [(.pointer (some ⟨b_b, b_o, none⟩)), undef, (.bool false), v7, v8, v9, v10, v11, v12, v13, v14, v15, v16, v17, v18, v19, v20, v21, v22, v23, undef, undef, undef, undef, undef, undef, undef, undef, undef, undef, undef, undef, undef, undef, undef, undef, undef, undef, undef, undef, undef, undef, undef, undef, undef, undef, undef, undef, undef, undef, undef, undef, undef, undef]) rfl (fun _ => rfl) (fun u hu hF => ?_) (fun v23 => ?_)
  · have h18_ : ((finF (cf .f32 b_lx) && finF (cf .f32 b_ly) && finF (cf .f32 b_lz)) && (finF (cf .f32 b_hx) && finF (cf .f32 b_hy) && finF (cf .f32 b_hz))) = true → v22 = (.pointer (some ⟨b_b, b_o, none⟩)) := hF.1
    have h15_ : v19 = (.bool ((finF (cf .f32 b_lx) && finF (cf .f32 b_ly) && finF (cf .f32 b_lz)) && (finF (cf .f32 b_hx) && finF (cf .f32 b_hy) && finF (cf .f32 b_hz)))) := hF.2.1
    clear hF
    obtain rfl := h15_
    refine doesG_g (b := ((finF (cf .f32 b_lx) && finF (cf .f32 b_ly) && finF (cf .f32 b_lz)) && (finF (cf .f32 b_hx) && finF (cf .f32 b_hy) && finF (cf .f32 b_hz)))) rfl (yld rfl rfl) (fun hg => ?_) (fun hg => ⟨fun h => absurd h hg, Ext.refl _⟩)
    obtain rfl := h18_ hg
    refine (does_fieldAddr (ev rfl) fa31_0).mono ?_; rintro _ _ ⟨rfl, rfl⟩
    exact ⟨fun _ => rfl, Ext.refl _⟩
  refine RW_d (fun v24 => [(.pointer (some ⟨b_b, b_o, none⟩)), undef, (.bool false), v7, v8, v9, v10, v11, v12, v13, v14, v15, v16, v17, v18, v19, v20, v21, v22, v23, v24, undef, undef, undef, undef, undef, undef, undef, undef, undef, undef, undef, undef, undef, undef, undef, undef, undef, undef, undef, undef, undef, undef, undef, undef, undef, undef, undef, undef, undef, undef, undef, undef, undef]) rfl (fun _ => rfl) (fun u hu hF => ?_) (fun v24 => ?_)
  · have h19_ : ((finF (cf .f32 b_lx) && finF (cf .f32 b_ly) && finF (cf .f32 b_lz)) && (finF (cf .f32 b_hx) && finF (cf .f32 b_hy) && finF (cf .f32 b_hz))) = true → v23 = (.pointer (some ⟨b_b, b_o, none⟩)) := hF.1
    have h15_ : v19 = (.bool ((finF (cf .f32 b_lx) && finF (cf .f32 b_ly) && finF (cf .f32 b_lz)) && (finF (cf .f32 b_hx) && finF (cf .f32 b_hy) && finF (cf .f32 b_hz)))) := hF.2.1
    clear hF
    obtain rfl := h15_
    refine doesG_g (b := ((finF (cf .f32 b_lx) && finF (cf .f32 b_ly) && finF (cf .f32 b_lz)) && (finF (cf .f32 b_hx) && finF (cf .f32 b_hy) && finF (cf .f32 b_hz)))) rfl (yld rfl rfl) (fun hg => ?_) (fun hg => ⟨fun h => absurd h hg, Ext.refl _⟩)
    obtain rfl := h19_ hg
    refine (does_load (u := (.float .f32 b_lx)) (ev rfl) Try.isAgg25 (Cells.at ((hc_b.ext (Ext.gr (Ext.refl w) E4)).ext hu) 0 rfl)).mono ?_; rintro _ _ ⟨rfl, rfl⟩
    exact ⟨fun _ => rfl, Ext.refl _⟩
  refine RW_d (fun v25 => [(.pointer (some ⟨b_b, b_o, none⟩)), undef, (.bool false), v7, v8, v9, v10, v11, v12, v13, v14, v15, v16, v17, v18, v19, v20, v21, v22, v23, v24, v25, undef, undef, undef, undef, undef, undef, undef, undef, undef, undef, undef, undef, undef, undef, undef, undef, undef, undef, undef, undef, undef, undef, undef, undef, undef, undef, undef, undef, undef, undef, undef, undef]) rfl (fun _ => rfl) (fun u hu hF => ?_) (fun v25 => ?_)
  · have h15_ : v19 = (.bool ((finF (cf .f32 b_lx) && finF (cf .f32 b_ly) && finF (cf .f32 b_lz)) && (finF (cf .f32 b_hx) && finF (cf .f32 b_hy) && finF (cf .f32 b_hz)))) := hF.1
    clear hF
    obtain rfl := h15_
    refine doesG_g (b := ((finF (cf .f32 b_lx) && finF (cf .f32 b_ly) && finF (cf .f32 b_lz)) && (finF (cf .f32 b_hx) && finF (cf .f32 b_hy) && finF (cf .f32 b_hz)))) rfl (yld rfl rfl) (fun hg => ?_) (fun hg => ⟨fun h => absurd h hg, Ext.refl _⟩)
    refine (does_move (u := (.pointer (some ⟨b_b, b_o, none⟩))) (ev rfl)).mono ?_; rintro _ _ ⟨rfl, rfl⟩
    exact ⟨fun _ => rfl, Ext.refl _⟩
  refine RW_d (fun v26 => [(.pointer (some ⟨b_b, b_o, none⟩)), undef, (.bool false), v7, v8, v9, v10, v11, v12, v13, v14, v15, v16, v17, v18, v19, v20, v21, v22, v23, v24, v25, v26, undef, undef, undef, undef, undef, undef, undef, undef, undef, undef, undef, undef, undef, undef, undef, undef, undef, undef, undef, undef, undef, undef, undef, undef, undef, undef, undef, undef, undef, undef, undef]) rfl (fun _ => rfl) (fun u hu hF => ?_) (fun v26 => ?_)
  · have h21_ : ((finF (cf .f32 b_lx) && finF (cf .f32 b_ly) && finF (cf .f32 b_lz)) && (finF (cf .f32 b_hx) && finF (cf .f32 b_hy) && finF (cf .f32 b_hz))) = true → v25 = (.pointer (some ⟨b_b, b_o, none⟩)) := hF.1
    have h15_ : v19 = (.bool ((finF (cf .f32 b_lx) && finF (cf .f32 b_ly) && finF (cf .f32 b_lz)) && (finF (cf .f32 b_hx) && finF (cf .f32 b_hy) && finF (cf .f32 b_hz)))) := hF.2.1
    clear hF
    obtain rfl := h15_
    refine doesG_g (b := ((finF (cf .f32 b_lx) && finF (cf .f32 b_ly) && finF (cf .f32 b_lz)) && (finF (cf .f32 b_hx) && finF (cf .f32 b_hy) && finF (cf .f32 b_hz)))) rfl (yld rfl rfl) (fun hg => ?_) (fun hg => ⟨fun h => absurd h hg, Ext.refl _⟩)
    obtain rfl := h21_ hg
    refine (does_nilCheck (ev rfl)).mono ?_; rintro _ _ ⟨rfl, rfl⟩
    exact ⟨fun _ => rfl, Ext.refl _⟩
  refine RW_d (fun v27 => [(.pointer (some ⟨b_b, b_o, none⟩)), undef, (.bool false), v7, v8, v9, v10, v11, v12, v13, v14, v15, v16, v17, v18, v19, v20, v21, v22, v23, v24, v25, v26, v27, undef, undef, undef, undef, undef, undef, undef, undef, undef, undef, undef, undef, undef, undef, undef, undef, undef, undef, undef, undef, undef, undef, undef, undef, undef, undef, undef, undef, undef, undef]) rfl (fun _ => rfl) (fun u hu hF => ?_) (fun v27 => ?_)
  · have h22_ : ((finF (cf .f32 b_lx) && finF (cf .f32 b_ly) && finF (cf .f32 b_lz)) && (finF (cf .f32 b_hx) && finF (cf .f32 b_hy) && finF (cf .f32 b_hz))) = true → v26 = (.pointer (some ⟨b_b, b_o, none⟩)) := hF.1
    have h15_ : v19 = (.bool ((finF (cf .f32 b_lx) && finF (cf .f32 b_ly) && finF (cf .f32 b_lz)) && (finF (cf .f32 b_hx) && finF (cf .f32 b_hy) && finF (cf .f32 b_hz)))) := hF.2.1
    clear hF
    obtain rfl := h15_
    refine doesG_g (b := ((finF (cf .f32 b_lx) && finF (cf .f32 b_ly) && finF (cf .f32 b_lz)) && (finF (cf .f32 b_hx) && finF (cf .f32 b_hy) && finF (cf .f32 b_hz)))) rfl (yld rfl rfl) (fun hg => ?_) (fun hg => ⟨fun h => absurd h hg, Ext.refl _⟩)
    obtain rfl := h22_ hg
    refine (does_fieldAddr (ev rfl) fa33_1).mono ?_; rintro _ _ ⟨rfl, rfl⟩
    exact ⟨fun _ => rfl, Ext.refl _⟩
  refine RW_d (fun v28 => [(.pointer (some ⟨b_b, b_o, none⟩)), undef, (.bool false), v7, v8, v9, v10, v11, v12, v13, v14, v15, v16, v17, v18, v19, v20, v21, v22, v23, v24, v25, v26, v27, v28, undef, undef, undef, undef, undef, undef, undef, undef, undef, undef, undef, undef, undef, undef, undef, undef, undef, undef, undef, undef, undef, undef, undef, undef, undef, undef, undef, undef, undef]) rfl (fun _ => rfl) (fun u hu hF => ?_) (fun v28 => ?_)
  · have h23_ : ((finF (cf .f32 b_lx) && finF (cf .f32 b_ly) && finF (cf .f32 b_lz)) && (finF (cf .f32 b_hx) && finF (cf .f32 b_hy) && finF (cf .f32 b_hz))) = true → v27 = (.pointer (some ⟨b_b, b_o + 3, none⟩)) := hF.1
    have h15_ : v19 = (.bool ((finF (cf .f32 b_lx) && finF (cf .f32 b_ly) && finF (cf .f32 b_lz)) && (finF (cf .f32 b_hx) && finF (cf .f32 b_hy) && finF (cf .f32 b_hz)))) := hF.2.1
    clear hF
    obtain rfl := h15_
    refine doesG_g (b := ((finF (cf .f32 b_lx) && finF (cf .f32 b_ly) && finF (cf .f32 b_lz)) && (finF (cf .f32 b_hx) && finF (cf .f32 b_hy) && finF (cf .f32 b_hz)))) rfl (yld rfl rfl) (fun hg => ?_) (fun hg => ⟨fun h => absurd h hg, Ext.refl _⟩)
    obtain rfl := h23_ hg
    refine (does_fieldAddr (ev rfl) fa31_0).mono ?_; rintro _ _ ⟨rfl, rfl⟩
    exact ⟨fun _ => rfl, Ext.refl _⟩
  refine RW_d (fun v29 => [(.pointer (some ⟨b_b, b_o, none⟩)), undef, (.bool false), v7, v8, v9, v10, v11, v12, v13, v14, v15, v16, v17, v18, v19, v20, v21, v22, v23, v24, v25, v26, v27, v28, v29, undef, undef, undef, undef, undef, undef, undef, undef, undef, undef, undef, undef, undef, undef, undef, undef, undef, undef, undef, undef, undef, undef, undef, undef, undef, undef, undef, undef]) rfl (fun _ => rfl) (fun u hu hF => ?_) (fun v29 => ?_)
  · have h24_ : ((finF (cf .f32 b_lx) && finF (cf .f32 b_ly) && finF (cf .f32 b_lz)) && (finF (cf .f32 b_hx) && finF (cf .f32 b_hy) && finF (cf .f32 b_hz))) = true → v28 = (.pointer (some ⟨b_b, b_o + 3, none⟩)) := hF.1
    have h15_ : v19 = (.bool ((finF (cf .f32 b_lx) && finF (cf .f32 b_ly) && finF (cf .f32 b_lz)) && (finF (cf .f32 b_hx) && finF (cf .f32 b_hy) && finF (cf .f32 b_hz)))) := hF.2.1
    clear hF
    obtain rfl := h15_
    refine doesG_g (b := ((finF (cf .f32 b_lx) && finF (cf .f32 b_ly) && finF (cf .f32 b_lz)) && (finF (cf .f32 b_hx) && finF (cf .f32 b_hy) && finF (cf .f32 b_hz)))) rfl (yld rfl rfl) (fun hg => ?_) (fun hg => ⟨fun h => absurd h hg, Ext.refl _⟩)
    obtain rfl := h24_ hg
    refine (does_load (u := (.float .f32 b_hx)) (ev rfl) Try.isAgg25 (Cells.at ((hc_b.ext (Ext.gr (Ext.refl w) E4)).ext hu) 3 rfl)).mono ?_; rintro _ _ ⟨rfl, rfl⟩
    exact ⟨fun _ => rfl, Ext.refl _⟩
  refine RW_d (fun v30 => [(.pointer (some ⟨b_b, b_o, none⟩)), undef, (.bool false), v7, v8, v9, v10, v11, v12, v13, v14, v15, v16, v17, v18, v19, v20, v21, v22, v23, v24, v25, v26, v27, v28, v29, v30, undef, undef, undef, undef, undef, undef, undef, undef, undef, undef, undef, undef, undef, undef, undef, undef, undef, undef, undef, undef, undef, undef, undef, undef, undef, undef, undef]) rfl (fun _ => rfl) (fun u hu hF => ?_) (fun v30 => ?_)
  · have h20_ : ((finF (cf .f32 b_lx) && finF (cf .f32 b_ly) && finF (cf .f32 b_lz)) && (finF (cf .f32 b_hx) && finF (cf .f32 b_hy) && finF (cf .f32 b_hz))) = true → v24 = (.float .f32 b_lx) := hF.1
    have h25_ : ((finF (cf .f32 b_lx) && finF (cf .f32 b_ly) && finF (cf .f32 b_lz)) && (finF (cf .f32 b_hx) && finF (cf .f32 b_hy) && finF (cf .f32 b_hz))) = true → v29 = (.float .f32 b_hx) := hF.2.1
    have h15_ : v19 = (.bool ((finF (cf .f32 b_lx) && finF (cf .f32 b_ly) && finF (cf .f32 b_lz)) && (finF (cf .f32 b_hx) && finF (cf .f32 b_hy) && finF (cf .f32 b_hz)))) := hF.2.2.1
    clear hF
    obtain rfl := h15_
    refine doesG_g (b := ((finF (cf .f32 b_lx) && finF (cf .f32 b_ly) && finF (cf .f32 b_lz)) && (finF (cf .f32 b_hx) && finF (cf .f32 b_hy) && finF (cf .f32 b_hz)))) rfl (yld rfl rfl) (fun hg => ?_) (fun hg => ⟨fun h => absurd h hg, Ext.refl _⟩)
    obtain rfl := h20_ hg
    obtain rfl := h25_ hg
    refine (does_fcmp (.inr (.inr (.inr (.inl rfl)))) (ev rfl) (ev rfl)).mono ?_; rintro _ _ ⟨rfl, rfl⟩
    exact ⟨fun _ => rfl, Ext.refl _⟩
  refine RW_d (fun v31 => [(.pointer (some ⟨b_b, b_o, none⟩)), undef, (.bool false), v7, v8, v9, v10, v11, v12, v13, v14, v15, v16, v17, v18, v19, v20, v21, v22, v23, v24, v25, v26, v27, v28, v29, v30, v31, undef, undef, undef, undef, undef, undef, undef, undef, undef, undef, undef, undef, undef, undef, undef, undef, undef, undef, undef, undef, undef, undef, undef, undef, undef, undef]) rfl (fun _ => rfl) (fun u hu hF => ?_) (fun v31 => ?_)
  · have h15_ : v19 = (.bool ((finF (cf .f32 b_lx) && finF (cf .f32 b_ly) && finF (cf .f32 b_lz)) && (finF (cf .f32 b_hx) && finF (cf .f32 b_hy) && finF (cf .f32 b_hz)))) := hF.1
    have h26_ : ((finF (cf .f32 b_lx) && finF (cf .f32 b_ly) && finF (cf .f32 b_lz)) && (finF (cf .f32 b_hx) && finF (cf .f32 b_hy) && finF (cf .f32 b_hz))) = true → v30 = (.bool (fcmp .leq (ford .f32 (cf .f32 b_lx) (cf .f32 b_hx)))) := hF.2.1
    clear hF
    obtain rfl := h15_
    refine doesG_un rfl ((does_pick (b := ((finF (cf .f32 b_lx) && finF (cf .f32 b_ly) && finF (cf .f32 b_lz)) && (finF (cf .f32 b_hx) && finF (cf .f32 b_hy) && finF (cf .f32 b_hz)))) (ev rfl) (ev rfl) (ev rfl)).mono ?_); rintro _ _ ⟨rfl, rfl⟩; refine ⟨?_, Ext.refl _⟩
    cases hbb : ((finF (cf .f32 b_lx) && finF (cf .f32 b_ly) && finF (cf .f32 b_lz)) && (finF (cf .f32 b_hx) && finF (cf .f32 b_hy) && finF (cf .f32 b_hz))) <;> simp [hbb] at h26_ ⊢
    all_goals (first | rfl | (subst h26_; rfl) | simp_all)
  refine RW_d (fun v32 => [(.pointer (some ⟨b_b, b_o, none⟩)), undef, (.bool false), v7, v8, v9, v10, v11, v12, v13, v14, v15, v16, v17, v18, v19, v20, v21, v22, v23, v24, v25, v26, v27, v28, v29, v30, v31, v32, undef, undef, undef, undef, undef, undef, undef, undef, undef, undef, undef, undef, undef, undef, undef, undef, undef, undef, undef, undef, undef, undef, undef, undef, undef]) rfl (fun _ => rfl) (fun u hu hF => ?_) (fun v32 => ?_)
  · have h27_ : v31 = (.bool (((finF (cf .f32 b_lx) && finF (cf .f32 b_ly) && finF (cf .f32 b_lz)) && (finF (cf .f32 b_hx) && finF (cf .f32 b_hy) && finF (cf .f32 b_hz))) && (fcmp .leq (ford .f32 (cf .f32 b_lx) (cf .f32 b_hx))))) := hF.1
    clear hF
    obtain rfl := h27_
    refine doesG_un rfl ?_
    refine (does_move (u := (.bool (((finF (cf .f32 b_lx) && finF (cf .f32 b_ly) && finF (cf .f32 b_lz)) && (finF (cf .f32 b_hx) && finF (cf .f32 b_hy) && finF (cf .f32 b_hz))) && (fcmp .leq (ford .f32 (cf .f32 b_lx) (cf .f32 b_hx)))))) (ev rfl)).mono ?_; rintro _ _ ⟨rfl, rfl⟩
    exact ⟨rfl, Ext.refl _⟩
  refine RW_d (fun v33 => [(.pointer (some ⟨b_b, b_o, none⟩)), undef, (.bool false), v7, v8, v9, v10, v11, v12, v13, v14, v15, v16, v17, v18, v19, v20, v21, v22, v23, v24, v25, v26, v27, v28, v29, v30, v31, v32, v33, undef, undef, undef, undef, undef, undef, undef, undef, undef, undef, undef, undef, undef, undef, undef, undef, undef, undef, undef, undef, undef, undef, undef, undef]) rfl (fun _ => rfl) (fun u hu hF => ?_) (fun v33 => ?_)
  · have h28_ : v32 = (.bool (((finF (cf .f32 b_lx) && finF (cf .f32 b_ly) && finF (cf .f32 b_lz)) && (finF (cf .f32 b_hx) && finF (cf .f32 b_hy) && finF (cf .f32 b_hz))) && (fcmp .leq (ford .f32 (cf .f32 b_lx) (cf .f32 b_hx))))) := hF.1
    clear hF
    obtain rfl := h28_
    refine doesG_g (b := (((finF (cf .f32 b_lx) && finF (cf .f32 b_ly) && finF (cf .f32 b_lz)) && (finF (cf .f32 b_hx) && finF (cf .f32 b_hy) && finF (cf .f32 b_hz))) && (fcmp .leq (ford .f32 (cf .f32 b_lx) (cf .f32 b_hx))))) rfl (yld rfl rfl) (fun hg => ?_) (fun hg => ⟨fun h => absurd h hg, Ext.refl _⟩)
    refine (does_move (u := (.pointer (some ⟨b_b, b_o, none⟩))) (ev rfl)).mono ?_; rintro _ _ ⟨rfl, rfl⟩
    exact ⟨fun _ => rfl, Ext.refl _⟩
  refine RW_d (fun v34 => [(.pointer (some ⟨b_b, b_o, none⟩)), undef, (.bool false), v7, v8, v9, v10, v11, v12, v13, v14, v15, v16, v17, v18, v19, v20, v21, v22, v23, v24, v25, v26, v27, v28, v29, v30, v31, v32, v33, v34, undef, undef, undef, undef, undef, undef, undef, undef, undef, undef, undef, undef, undef, undef, undef, undef, undef, undef, undef, undef, undef, undef, undef]) rfl (fun _ => rfl) (fun u hu hF => ?_) (fun v34 => ?_)
  · have h29_ : (((finF (cf .f32 b_lx) && finF (cf .f32 b_ly) && finF (cf .f32 b_lz)) && (finF (cf .f32 b_hx) && finF (cf .f32 b_hy) && finF (cf .f32 b_hz))) && (fcmp .leq (ford .f32 (cf .f32 b_lx) (cf .f32 b_hx)))) = true → v33 = (.pointer (some ⟨b_b, b_o, none⟩)) := hF.1
    have h28_ : v32 = (.bool (((finF (cf .f32 b_lx) && finF (cf .f32 b_ly) && finF (cf .f32 b_lz)) && (finF (cf .f32 b_hx) && finF (cf .f32 b_hy) && finF (cf .f32 b_hz))) && (fcmp .leq (ford .f32 (cf .f32 b_lx) (cf .f32 b_hx))))) := hF.2.1
    clear hF
    obtain rfl := h28_
    refine doesG_g (b := (((finF (cf .f32 b_lx) && finF (cf .f32 b_ly) && finF (cf .f32 b_lz)) && (finF (cf .f32 b_hx) && finF (cf .f32 b_hy) && finF (cf .f32 b_hz))) && (fcmp .leq (ford .f32 (cf .f32 b_lx) (cf .f32 b_hx))))) rfl (yld rfl rfl) (fun hg => ?_) (fun hg => ⟨fun h => absurd h hg, Ext.refl _⟩)
    obtain rfl := h29_ hg
    refine (does_nilCheck (ev rfl)).mono ?_; rintro _ _ ⟨rfl, rfl⟩
    exact ⟨fun _ => rfl, Ext.refl _⟩
  refine RW_d (fun v35 => [(.pointer (some ⟨b_b, b_o, none⟩)), undef, (.bool false), v7, v8, v9, v10, v11, v12, v13, v14, v15, v16, v17, v18, v19, v20, v21, v22, v23, v24, v25, v26, v27, v28, v29, v30, v31, v32, v33, v34, v35, undef, undef, undef, undef, undef, undef, undef, undef, undef, undef, undef, undef, undef, undef, undef, undef, undef, undef, undef, undef, undef, undef]) rfl (fun _ => rfl) (fun u hu hF => ?_) (fun v35 => ?_)
  · have h30_ : (((finF (cf .f32 b_lx) && finF (cf .f32 b_ly) && finF (cf .f32 b_lz)) && (finF (cf .f32 b_hx) && finF (cf .f32 b_hy) && finF (cf .f32 b_hz))) && (fcmp .leq (ford .f32 (cf .f32 b_lx) (cf .f32 b_hx)))) = true → v34 = (.pointer (some ⟨b_b, b_o, none⟩)) := hF.1
    have h28_ : v32 = (.bool (((finF (cf .f32 b_lx) && finF (cf .f32 b_ly) && finF (cf .f32 b_lz)) && (finF (cf .f32 b_hx) && finF (cf .f32 b_hy) && finF (cf .f32 b_hz))) && (fcmp .leq (ford .f32 (cf .f32 b_lx) (cf .f32 b_hx))))) := hF.2.1
    clear hF
    obtain rfl := h28_
    refine doesG_g (b := (((finF (cf .f32 b_lx) && finF (cf .f32 b_ly) && finF (cf .f32 b_lz)) && (finF (cf .f32 b_hx) && finF (cf .f32 b_hy) && finF (cf .f32 b_hz))) && (fcmp .leq (ford .f32 (cf .f32 b_lx) (cf .f32 b_hx))))) rfl (yld rfl rfl) (fun hg => ?_) (fun hg => ⟨fun h => absurd h hg, Ext.refl _⟩)
    obtain rfl := h30_ hg
    refine (does_fieldAddr (ev rfl) fa33_0).mono ?_; rintro _ _ ⟨rfl, rfl⟩
    exact ⟨fun _ => rfl, Ext.refl _⟩
  refine RW_d (fun v36 => [(.pointer (some ⟨b_b, b_o, none⟩)), undef, (.bool false), v7, v8, v9, v10, v11, v12, v13, v14, v15, v16, v17, v18, v19, v20, v21, v22, v23, v24, v25, v26, v27, v28, v29, v30, v31, v32, v33, v34, v35, v36, undef, undef, undef, undef, undef, undef, undef, undef, undef, undef, undef, undef, undef, undef, undef, undef, undef, undef, undef, undef, undef]) rfl (fun _ => rfl) (fun u hu hF => ?_) (fun v36 => ?_)
  · have h31_ : (((finF (cf .f32 b_lx) && finF (cf .f32 b_ly) && finF (cf .f32 b_lz)) && (finF (cf .f32 b_hx) && finF (cf .f32 b_hy) && finF (cf .f32 b_hz))) && (fcmp .leq (ford .f32 (cf .f32 b_lx) (cf .f32 b_hx)))) = true → v35 = (.pointer (some ⟨b_b, b_o, none⟩)) := hF.1
    have h28_ : v32 = (.bool (((finF (cf .f32 b_lx) && finF (cf .f32 b_ly) && finF (cf .f32 b_lz)) && (finF (cf .f32 b_hx) && finF (cf .f32 b_hy) && finF (cf .f32 b_hz))) && (fcmp .leq (ford .f32 (cf .f32 b_lx) (cf .f32 b_hx))))) := hF.2.1
    clear hF
    obtain rfl := h28_
    refine doesG_g (b := (((finF (cf .f32 b_lx) && finF (cf .f32 b_ly) && finF (cf .f32 b_lz)) && (finF (cf .f32 b_hx) && finF (cf .f32 b_hy) && finF (cf .f32 b_hz))) && (fcmp .leq (ford .f32 (cf .f32 b_lx) (cf .f32 b_hx))))) rfl (yld rfl rfl) (fun hg => ?_) (fun hg => ⟨fun h => absurd h hg, Ext.refl _⟩)
    obtain rfl := h31_ hg
    refine (does_fieldAddr (ev rfl) fa31_1).mono ?_; rintro _ _ ⟨rfl, rfl⟩
    exact ⟨fun _ => rfl, Ext.refl _⟩
  refine RW_d (fun v37 => [(.pointer (some ⟨b_b, b_o, none⟩)), undef, (.bool false), v7, v8, v9, v10, v11, v12, v13, v14, v15, v16, v17, v18, v19, v20, v21, v22, v23, v24, v25, v26, v27, v28, v29, v30, v31, v32, v33, v34, v35, v36, v37, undef, undef, undef, undef, undef, undef, undef, undef, undef, undef, undef, undef, undef, undef, undef, undef, undef, undef, undef, undef]) rfl (fun _ => rfl) (fun u hu hF => ?_) (fun v37 => ?_)
  · have h32_ : (((finF (cf .f32 b_lx) && finF (cf .f32 b_ly) && finF (cf .f32 b_lz)) && (finF (cf .f32 b_hx) && finF (cf .f32 b_hy) && finF (cf .f32 b_hz))) && (fcmp .leq (ford .f32 (cf .f32 b_lx) (cf .f32 b_hx)))) = true → v36 = (.pointer (some ⟨b_b, b_o + 1, none⟩)) := hF.1
    have h28_ : v32 = (.bool (((finF (cf .f32 b_lx) && finF (cf .f32 b_ly) && finF (cf .f32 b_lz)) && (finF (cf .f32 b_hx) && finF (cf .f32 b_hy) && finF (cf .f32 b_hz))) && (fcmp .leq (ford .f32 (cf .f32 b_lx) (cf .f32 b_hx))))) := hF.2.1
    clear hF
    obtain rfl := h28_
    refine doesG_g (b := (((finF (cf .f32 b_lx) && finF (cf .f32 b_ly) && finF (cf .f32 b_lz)) && (finF (cf .f32 b_hx) && finF (cf .f32 b_hy) && finF (cf .f32 b_hz))) && (fcmp .leq (ford .f32 (cf .f32 b_lx) (cf .f32 b_hx))))) rfl (yld rfl rfl) (fun hg => ?_) (fun hg => ⟨fun h => absurd h hg, Ext.refl _⟩)
    obtain rfl := h32_ hg
    refine (does_load (u := (.float .f32 b_ly)) (ev rfl) Try.isAgg25 (Cells.at ((hc_b.ext (Ext.gr (Ext.refl w) E4)).ext hu) 1 rfl)).mono ?_; rintro _ _ ⟨rfl, rfl⟩
    exact ⟨fun _ => rfl, Ext.refl _⟩
  refine RW_d (fun v38 => [(.pointer (some ⟨b_b, b_o, none⟩)), undef, (.bool false), v7, v8, v9, v10, v11, v12, v13, v14, v15, v16, v17, v18, v19, v20, v21, v22, v23, v24, v25, v26, v27, v28, v29, v30, v31, v32, v33, v34, v35, v36, v37, v38, undef, undef, undef, undef, undef, undef, undef, undef, undef, undef, undef, undef, undef, undef, undef, undef, undef, undef, undef]) rfl (fun _ => rfl) (fun u hu hF => ?_) (fun v38 => ?_)
  · have h28_ : v32 = (.bool (((finF (cf .f32 b_lx) && finF (cf .f32 b_ly) && finF (cf .f32 b_lz)) && (finF (cf .f32 b_hx) && finF (cf .f32 b_hy) && finF (cf .f32 b_hz))) && (fcmp .leq (ford .f32 (cf .f32 b_lx) (cf .f32 b_hx))))) := hF.1
    clear hF
    obtain rfl := h28_
    refine doesG_g (b := (((finF (cf .f32 b_lx) && finF (cf .f32 b_ly) && finF (cf .f32 b_lz)) && (finF (cf .f32 b_hx) && finF (cf .f32 b_hy) && finF (cf .f32 b_hz))) && (fcmp .leq (ford .f32 (cf .f32 b_lx) (cf .f32 b_hx))))) rfl (yld rfl rfl) (fun hg => ?_) (fun hg => ⟨fun h => absurd h hg, Ext.refl _⟩)
    refine (does_move (u := (.pointer (some ⟨b_b, b_o, none⟩))) (ev rfl)).mono ?_; rintro _ _ ⟨rfl, rfl⟩
    exact ⟨fun _ => rfl, Ext.refl _⟩
  refine RW_d (fun v39 => [(.pointer (some ⟨b_b, b_o, none⟩)), undef, (.bool false), v7, v8, v9, v10, v11, v12, v13, v14, v15, v16, v17, v18, v19, v20, v21, v22, v23, v24, v25, v26, v27, v28, v29, v30, v31, v32, v33, v34, v35, v36, v37, v38, v39, undef, undef, undef, undef, undef, undef, undef, undef, undef, undef, undef, undef, undef, undef, undef, undef, undef, undef]) rfl (fun _ => rfl) (fun u hu hF => ?_) (fun v39 => ?_)
  · have h34_ : (((finF (cf .f32 b_lx) && finF (cf .f32 b_ly) && finF (cf .f32 b_lz)) && (finF (cf .f32 b_hx) && finF (cf .f32 b_hy) && finF (cf .f32 b_hz))) && (fcmp .leq (ford .f32 (cf .f32 b_lx) (cf .f32 b_hx)))) = true → v38 = (.pointer (some ⟨b_b, b_o, none⟩)) := hF.1
    have h28_ : v32 = (.bool (((finF (cf .f32 b_lx) && finF (cf .f32 b_ly) && finF (cf .f32 b_lz)) && (finF (cf .f32 b_hx) && finF (cf .f32 b_hy) && finF (cf .f32 b_hz))) && (fcmp .leq (ford .f32 (cf .f32 b_lx) (cf .f32 b_hx))))) := hF.2.1
    clear hF
    obtain rfl := h28_
    refine doesG_g (b := (((finF (cf .f32 b_lx) && finF (cf .f32 b_ly) && finF (cf .f32 b_lz)) && (finF (cf .f32 b_hx) && finF (cf .f32 b_hy) && finF (cf .f32 b_hz))) && (fcmp .leq (ford .f32 (cf .f32 b_lx) (cf .f32 b_hx))))) rfl (yld rfl rfl) (fun hg => ?_) (fun hg => ⟨fun h => absurd h hg, Ext.refl _⟩)
    obtain rfl := h34_ hg
    refine (does_nilCheck (ev rfl)).mono ?_; rintro _ _ ⟨rfl, rfl⟩
    exact ⟨fun _ => rfl, Ext.refl _⟩
  refine RW_d (fun v40 => [(.pointer (some ⟨b_b, b_o, none⟩)), undef, (.bool false), v7, v8, v9, v10, v11, v12, v13, v14, v15, v16, v17, v18, v19, v20, v21, v22, v23, v24, v25, v26, v27, v28, v29, v30, v31, v32, v33, v34, v35, v36, v37, v38, v39, v40, undef, undef, undef, undef, undef, undef, undef, undef, undef, undef, undef, undef, undef, undef, undef, undef, undef]) rfl (fun _ => rfl) (fun u hu hF => ?_) (fun v40 => ?_)
  · have h35_ : (((finF (cf .f32 b_lx) && finF (cf .f32 b_ly) && finF (cf .f32 b_lz)) && (finF (cf .f32 b_hx) && finF (cf .f32 b_hy) && finF (cf .f32 b_hz))) && (fcmp .leq (ford .f32 (cf .f32 b_lx) (cf .f32 b_hx)))) = true → v39 = (.pointer (some ⟨b_b, b_o, none⟩)) := hF.1
    have h28_ : v32 = (.bool (((finF (cf .f32 b_lx) && finF (cf .f32 b_ly) && finF (cf .f32 b_lz)) && (finF (cf .f32 b_hx) && finF (cf .f32 b_hy) && finF (cf .f32 b_hz))) && (fcmp .leq (ford .f32 (cf .f32 b_lx) (cf .f32 b_hx))))) := hF.2.1
    clear hF
    obtain rfl := h28_
    refine doesG_g (b := (((finF (cf .f32 b_lx) && finF (cf .f32 b_ly) && finF (cf .f32 b_lz)) && (finF (cf .f32 b_hx) && finF (cf .f32 b_hy) && finF (cf .f32 b_hz))) && (fcmp .leq (ford .f32 (cf .f32 b_lx) (cf .f32 b_hx))))) rfl (yld rfl rfl) (fun hg => ?_) (fun hg => ⟨fun h => absurd h hg, Ext.refl _⟩)
    obtain rfl := h35_ hg
    refine (does_fieldAddr (ev rfl) fa33_1).mono ?_; rintro _ _ ⟨rfl, rfl⟩
    exact ⟨fun _ => rfl, Ext.refl _⟩
  refine RW_d (fun v41 => [(.pointer (some ⟨b_b, b_o, none⟩)), undef, (.bool false), v7, v8, v9, v10, v11, v12, v13, v14, v15, v16, v17, v18, v19, v20, v21, v22, v23, v24, v25, v26, v27, v28, v29, v30, v31, v32, v33, v34, v35, v36, v37, v38, v39, v40, v41, undef, undef, undef, undef, undef, undef, undef, undef, undef, undef, undef, undef, undef, undef, undef, undef]) rfl (fun _ => rfl) (fun u hu hF => ?_) (fun v41 => ?_)
  · have h36_ : (((finF (cf .f32 b_lx) && finF (cf .f32 b_ly) && finF (cf .f32 b_lz)) && (finF (cf .f32 b_hx) && finF (cf .f32 b_hy) && finF (cf .f32 b_hz))) && (fcmp .leq (ford .f32 (cf .f32 b_lx) (cf .f32 b_hx)))) = true → v40 = (.pointer (some ⟨b_b, b_o + 3, none⟩)) := hF.1
    have h28_ : v32 = (.bool (((finF (cf .f32 b_lx) && finF (cf .f32 b_ly) && finF (cf .f32 b_lz)) && (finF (cf .f32 b_hx) && finF (cf .f32 b_hy) && finF (cf .f32 b_hz))) && (fcmp .leq (ford .f32 (cf .f32 b_lx) (cf .f32 b_hx))))) := hF.2.1
    clear hF
    obtain rfl := h28_
    refine doesG_g (b := (((finF (cf .f32 b_lx) && finF (cf .f32 b_ly) && finF (cf .f32 b_lz)) && (finF (cf .f32 b_hx) && finF (cf .f32 b_hy) && finF (cf .f32 b_hz))) && (fcmp .leq (ford .f32 (cf .f32 b_lx) (cf .f32 b_hx))))) rfl (yld rfl rfl) (fun hg => ?_) (fun hg => ⟨fun h => absurd h hg, Ext.refl _⟩)
    obtain rfl := h36_ hg
    refine (does_fieldAddr (ev rfl) fa31_1).mono ?_; rintro _ _ ⟨rfl, rfl⟩
    exact ⟨fun _ => rfl, Ext.refl _⟩
  refine RW_d (fun v42 => [(.pointer (some ⟨b_b, b_o, none⟩)), undef, (.bool false), v7, v8, v9, v10, v11, v12, v13, v14, v15, v16, v17, v18, v19, v20, v21, v22, v23, v24, v25, v26, v27, v28, v29, v30, v31, v32, v33, v34, v35, v36, v37, v38, v39, v40, v41, v42, undef, undef, undef, undef, undef, undef, undef, undef, undef, undef, undef, undef, undef, undef, undef]) rfl (fun _ => rfl) (fun u hu hF => ?_) (fun v42 => ?_)
  · have h37_ : (((finF (cf .f32 b_lx) && finF (cf .f32 b_ly) && finF (cf .f32 b_lz)) && (finF (cf .f32 b_hx) && finF (cf .f32 b_hy) && finF (cf .f32 b_hz))) && (fcmp .leq (ford .f32 (cf .f32 b_lx) (cf .f32 b_hx)))) = true → v41 = (.pointer (some ⟨b_b, b_o + 4, none⟩)) := hF.1
    have h28_ : v32 = (.bool (((finF (cf .f32 b_lx) && finF (cf .f32 b_ly) && finF (cf .f32 b_lz)) && (finF (cf .f32 b_hx) && finF (cf .f32 b_hy) && finF (cf .f32 b_hz))) && (fcmp .leq (ford .f32 (cf .f32 b_lx) (cf .f32 b_hx))))) := hF.2.1
    clear hF
    obtain rfl := h28_
    refine doesG_g (b := (((finF (cf .f32 b_lx) && finF (cf .f32 b_ly) && finF (cf .f32 b_lz)) && (finF (cf .f32 b_hx) && finF (cf .f32 b_hy) && finF (cf .f32 b_hz))) && (fcmp .leq (ford .f32 (cf .f32 b_lx) (cf .f32 b_hx))))) rfl (yld rfl rfl) (fun hg => ?_) (fun hg => ⟨fun h => absurd h hg, Ext.refl _⟩)
    obtain rfl := h37_ hg
    refine (does_load (u := (.float .f32 b_hy)) (ev rfl) Try.isAgg25 (Cells.at ((hc_b.ext (Ext.gr (Ext.refl w) E4)).ext hu) 4 rfl)).mono ?_; rintro _ _ ⟨rfl, rfl⟩
    exact ⟨fun _ => rfl, Ext.refl _⟩
  refine RW_d (fun v43 => [(.pointer (some ⟨b_b, b_o, none⟩)), undef, (.bool false), v7, v8, v9, v10, v11, v12, v13, v14, v15, v16, v17, v18, v19, v20, v21, v22, v23, v24, v25, v26, v27, v28, v29, v30, v31, v32, v33, v34, v35, v36, v37, v38, v39, v40, v41, v42, v43, undef, undef, undef, undef, undef, undef, undef, undef, undef, undef, undef, undef, undef, undef]) rfl (fun _ => rfl) (fun u hu hF => ?_) (fun v43 => ?_)
  · have h33_ : (((finF (cf .f32 b_lx) && finF (cf .f32 b_ly) && finF (cf .f32 b_lz)) && (finF (cf .f32 b_hx) && finF (cf .f32 b_hy) && finF (cf .f32 b_hz))) && (fcmp .leq (ford .f32 (cf .f32 b_lx) (cf .f32 b_hx)))) = true → v37 = (.float .f32 b_ly) := hF.1
    have h38_ : (((finF (cf .f32 b_lx) && finF (cf .f32 b_ly) && finF (cf .f32 b_lz)) && (finF (cf .f32 b_hx) && finF (cf .f32 b_hy) && finF (cf .f32 b_hz))) && (fcmp .leq (ford .f32 (cf .f32 b_lx) (cf .f32 b_hx)))) = true → v42 = (.float .f32 b_hy) := hF.2.1
    have h28_ : v32 = (.bool (((finF (cf .f32 b_lx) && finF (cf .f32 b_ly) && finF (cf .f32 b_lz)) && (finF (cf .f32 b_hx) && finF (cf .f32 b_hy) && finF (cf .f32 b_hz))) && (fcmp .leq (ford .f32 (cf .f32 b_lx) (cf .f32 b_hx))))) := hF.2.2.1
    clear hF
    obtain rfl := h28_
    refine doesG_g (b := (((finF (cf .f32 b_lx) && finF (cf .f32 b_ly) && finF (cf .f32 b_lz)) && (finF (cf .f32 b_hx) && finF (cf .f32 b_hy) && finF (cf .f32 b_hz))) && (fcmp .leq (ford .f32 (cf .f32 b_lx) (cf .f32 b_hx))))) rfl (yld rfl rfl) (fun hg => ?_) (fun hg => ⟨fun h => absurd h hg, Ext.refl _⟩)
    obtain rfl := h33_ hg
    obtain rfl := h38_ hg
    refine (does_fcmp (.inr (.inr (.inr (.inl rfl)))) (ev rfl) (ev rfl)).mono ?_; rintro _ _ ⟨rfl, rfl⟩
    exact ⟨fun _ => rfl, Ext.refl _⟩
  refine RW_d (fun v44 => [(.pointer (some ⟨b_b, b_o, none⟩)), undef, (.bool false), v7, v8, v9, v10, v11, v12, v13, v14, v15, v16, v17, v18, v19, v20, v21, v22, v23, v24, v25, v26, v27, v28, v29, v30, v31, v32, v33, v34, v35, v36, v37, v38, v39, v40, v41, v42, v43, v44, undef, undef, undef, undef, undef, undef, undef, undef, undef, undef, undef, undef, undef]) rfl (fun _ => rfl) (fun u hu hF => ?_) (fun v44 => ?_)
  · have h28_ : v32 = (.bool (((finF (cf .f32 b_lx) && finF (cf .f32 b_ly) && finF (cf .f32 b_lz)) && (finF (cf .f32 b_hx) && finF (cf .f32 b_hy) && finF (cf .f32 b_hz))) && (fcmp .leq (ford .f32 (cf .f32 b_lx) (cf .f32 b_hx))))) := hF.1
    have h39_ : (((finF (cf .f32 b_lx) && finF (cf .f32 b_ly) && finF (cf .f32 b_lz)) && (finF (cf .f32 b_hx) && finF (cf .f32 b_hy) && finF (cf .f32 b_hz))) && (fcmp .leq (ford .f32 (cf .f32 b_lx) (cf .f32 b_hx)))) = true → v43 = (.bool (fcmp .leq (ford .f32 (cf .f32 b_ly) (cf .f32 b_hy)))) := hF.2.1
    clear hF
    obtain rfl := h28_
    refine doesG_un rfl ((does_pick (b := (((finF (cf .f32 b_lx) && finF (cf .f32 b_ly) && finF (cf .f32 b_lz)) && (finF (cf .f32 b_hx) && finF (cf .f32 b_hy) && finF (cf .f32 b_hz))) && (fcmp .leq (ford .f32 (cf .f32 b_lx) (cf .f32 b_hx))))) (ev rfl) (ev rfl) (ev rfl)).mono ?_); rintro _ _ ⟨rfl, rfl⟩; refine ⟨?_, Ext.refl _⟩
    cases hbb : (((finF (cf .f32 b_lx) && finF (cf .f32 b_ly) && finF (cf .f32 b_lz)) && (finF (cf .f32 b_hx) && finF (cf .f32 b_hy) && finF (cf .f32 b_hz))) && (fcmp .leq (ford .f32 (cf .f32 b_lx) (cf .f32 b_hx)))) <;> simp [hbb] at h39_ ⊢
    all_goals (first | rfl | (subst h39_; rfl) | simp_all)
  refine RW_d (fun v45 => [(.pointer (some ⟨b_b, b_o, none⟩)), undef, (.bool false), v7, v8, v9, v10, v11, v12, v13, v14, v15, v16, v17, v18, v19, v20, v21, v22, v23, v24, v25, v26, v27, v28, v29, v30, v31, v32, v33, v34, v35, v36, v37, v38, v39, v40, v41, v42, v43, v44, v45, undef, undef, undef, undef, undef, undef, undef, undef, undef, undef, undef, undef]) rfl (fun _ => rfl) (fun u hu hF => ?_) (fun v45 => ?_)
  · have h40_ : v44 = (.bool ((((finF (cf .f32 b_lx) && finF (cf .f32 b_ly) && finF (cf .f32 b_lz)) && (finF (cf .f32 b_hx) && finF (cf .f32 b_hy) && finF (cf .f32 b_hz))) && (fcmp .leq (ford .f32 (cf .f32 b_lx) (cf .f32 b_hx)))) && (fcmp .leq (ford .f32 (cf .f32 b_ly) (cf .f32 b_hy))))) := hF.1
    clear hF
    obtain rfl := h40_
    refine doesG_un rfl ?_
    refine (does_move (u := (.bool ((((finF (cf .f32 b_lx) && finF (cf .f32 b_ly) && finF (cf .f32 b_lz)) && (finF (cf .f32 b_hx) && finF (cf .f32 b_hy) && finF (cf .f32 b_hz))) && (fcmp .leq (ford .f32 (cf .f32 b_lx) (cf .f32 b_hx)))) && (fcmp .leq (ford .f32 (cf .f32 b_ly) (cf .f32 b_hy)))))) (ev rfl)).mono ?_; rintro _ _ ⟨rfl, rfl⟩
    exact ⟨rfl, Ext.refl _⟩
  refine RW_d (fun v46 => [(.pointer (some ⟨b_b, b_o, none⟩)), undef, (.bool false), v7, v8, v9, v10, v11, v12, v13, v14, v15, v16, v17, v18, v19, v20, v21, v22, v23, v24, v25, v26, v27, v28, v29, v30, v31, v32, v33, v34, v35, v36, v37, v38, v39, v40, v41, v42, v43, v44, v45, v46, undef, undef, undef, undef, undef, undef, undef, undef, undef, undef, undef]) rfl (fun _ => rfl) (fun u hu hF => ?_) (fun v46 => ?_)
  · have h41_ : v45 = (.bool ((((finF (cf .f32 b_lx) && finF (cf .f32 b_ly) && finF (cf .f32 b_lz)) && (finF (cf .f32 b_hx) && finF (cf .f32 b_hy) && finF (cf .f32 b_hz))) && (fcmp .leq (ford .f32 (cf .f32 b_lx) (cf .f32 b_hx)))) && (fcmp .leq (ford .f32 (cf .f32 b_ly) (cf .f32 b_hy))))) := hF.1
    clear hF
    obtain rfl := h41_
    refine doesG_g (b := ((((finF (cf .f32 b_lx) && finF (cf .f32 b_ly) && finF (cf .f32 b_lz)) && (finF (cf .f32 b_hx) && finF (cf .f32 b_hy) && finF (cf .f32 b_hz))) && (fcmp .leq (ford .f32 (cf .f32 b_lx) (cf .f32 b_hx)))) && (fcmp .leq (ford .f32 (cf .f32 b_ly) (cf .f32 b_hy))))) rfl (yld rfl rfl) (fun hg => ?_) (fun hg => ⟨fun h => absurd h hg, Ext.refl _⟩)
    refine (does_move (u := (.pointer (some ⟨b_b, b_o, none⟩))) (ev rfl)).mono ?_; rintro _ _ ⟨rfl, rfl⟩
    exact ⟨fun _ => rfl, Ext.refl _⟩
  refine RW_d (fun v47 => [(.pointer (some ⟨b_b, b_o, none⟩)), undef, (.bool false), v7, v8, v9, v10, v11, v12, v13, v14, v15, v16, v17, v18, v19, v20, v21, v22, v23, v24, v25, v26, v27, v28, v29, v30, v31, v32, v33, v34, v35, v36, v37, v38, v39, v40, v41, v42, v43, v44, v45, v46, v47, undef, undef, undef, undef, undef, undef, undef, undef, undef, undef]) rfl (fun _ => rfl) (fun u hu hF => ?_) (fun v47 => ?_)
  · have h42_ : ((((finF (cf .f32 b_lx) && finF (cf .f32 b_ly) && finF (cf .f32 b_lz)) && (finF (cf .f32 b_hx) && finF (cf .f32 b_hy) && finF (cf .f32 b_hz))) && (fcmp .leq (ford .f32 (cf .f32 b_lx) (cf .f32 b_hx)))) && (fcmp .leq (ford .f32 (cf .f32 b_ly) (cf .f32 b_hy)))) = true → v46 = (.pointer (some ⟨b_b, b_o, none⟩)) := hF.1
    have h41_ : v45 = (.bool ((((finF (cf .f32 b_lx) && finF (cf .f32 b_ly) && finF (cf .f32 b_lz)) && (finF (cf .f32 b_hx) && finF (cf .f32 b_hy) && finF (cf .f32 b_hz))) && (fcmp .leq (ford .f32 (cf .f32 b_lx) (cf .f32 b_hx)))) && (fcmp .leq (ford .f32 (cf .f32 b_ly) (cf .f32 b_hy))))) := hF.2.1
    clear hF
    obtain rfl := h41_
    refine doesG_g (b := ((((finF (cf .f32 b_lx) && finF (cf .f32 b_ly) && finF (cf .f32 b_lz)) && (finF (cf .f32 b_hx) && finF (cf .f32 b_hy) && finF (cf .f32 b_hz))) && (fcmp .leq (ford .f32 (cf .f32 b_lx) (cf .f32 b_hx)))) && (fcmp .leq (ford .f32 (cf .f32 b_ly) (cf .f32 b_hy))))) rfl (yld rfl rfl) (fun hg => ?_) (fun hg => ⟨fun h => absurd h hg, Ext.refl _⟩)
    obtain rfl := h42_ hg
    refine (does_nilCheck (ev rfl)).mono ?_; rintro _ _ ⟨rfl, rfl⟩
    exact ⟨fun _ => rfl, Ext.refl _⟩
  refine RW_d (fun v48 => [(.pointer (some ⟨b_b, b_o, none⟩)), undef, (.bool false), v7, v8, v9, v10, v11, v12, v13, v14, v15, v16, v17, v18, v19, v20, v21, v22, v23, v24, v25, v26, v27, v28, v29, v30, v31, v32, v33, v34, v35, v36, v37, v38, v39, v40, v41, v42, v43, v44, v45, v46, v47, v48, undef, undef, undef, undef, undef, undef, undef, undef, undef]) rfl (fun _ => rfl) (fun u hu hF => ?_) (fun v48 => ?_)
  · have h43_ : ((((finF (cf .f32 b_lx) && finF (cf .f32 b_ly) && finF (cf .f32 b_lz)) && (finF (cf .f32 b_hx) && finF (cf .f32 b_hy) && finF (cf .f32 b_hz))) && (fcmp .leq (ford .f32 (cf .f32 b_lx) (cf .f32 b_hx)))) && (fcmp .leq (ford .f32 (cf .f32 b_ly) (cf .f32 b_hy)))) = true → v47 = (.pointer (some ⟨b_b, b_o, none⟩)) := hF.1
    have h41_ : v45 = (.bool ((((finF (cf .f32 b_lx) && finF (cf .f32 b_ly) && finF (cf .f32 b_lz)) && (finF (cf .f32 b_hx) && finF (cf .f32 b_hy) && finF (cf .f32 b_hz))) && (fcmp .leq (ford .f32 (cf .f32 b_lx) (cf .f32 b_hx)))) && (fcmp .leq (ford .f32 (cf .f32 b_ly) (cf .f32 b_hy))))) := hF.2.1
    clear hF
    obtain rfl := h41_
    refine doesG_g (b := ((((finF (cf .f32 b_lx) && finF (cf .f32 b_ly) && finF (cf .f32 b_lz)) && (finF (cf .f32 b_hx) && finF (cf .f32 b_hy) && finF (cf .f32 b_hz))) && (fcmp .leq (ford .f32 (cf .f32 b_lx) (cf .f32 b_hx)))) && (fcmp .leq (ford .f32 (cf .f32 b_ly) (cf .f32 b_hy))))) rfl (yld rfl rfl) (fun hg => ?_) (fun hg => ⟨fun h => absurd h hg, Ext.refl _⟩)
    obtain rfl := h43_ hg
    refine (does_fieldAddr (ev rfl) fa33_0).mono ?_; rintro _ _ ⟨rfl, rfl⟩
    exact ⟨fun _ => rfl, Ext.refl _⟩
  refine RW_d (fun v49 => [(.pointer (some ⟨b_b, b_o, none⟩)), undef, (.bool false), v7, v8, v9, v10, v11, v12, v13, v14, v15, v16, v17, v18, v19, v20, v21, v22, v23, v24, v25, v26, v27, v28, v29, v30, v31, v32, v33, v34, v35, v36, v37, v38, v39, v40, v41, v42, v43, v44, v45, v46, v47, v48, v49, undef, undef, undef, undef, undef, undef, undef, undef]) rfl (fun _ => rfl) (fun u hu hF => ?_) (fun v49 => ?_)
  · have h44_ : ((((finF (cf .f32 b_lx) && finF (cf .f32 b_ly) && finF (cf .f32 b_lz)) && (finF (cf .f32 b_hx) && finF (cf .f32 b_hy) && finF (cf .f32 b_hz))) && (fcmp .leq (ford .f32 (cf .f32 b_lx) (cf .f32 b_hx)))) && (fcmp .leq (ford .f32 (cf .f32 b_ly) (cf .f32 b_hy)))) = true → v48 = (.pointer (some ⟨b_b, b_o, none⟩)) := hF.1
    have h41_ : v45 = (.bool ((((finF (cf .f32 b_lx) && finF (cf .f32 b_ly) && finF (cf .f32 b_lz)) && (finF (cf .f32 b_hx) && finF (cf .f32 b_hy) && finF (cf .f32 b_hz))) && (fcmp .leq (ford .f32 (cf .f32 b_lx) (cf .f32 b_hx)))) && (fcmp .leq (ford .f32 (cf .f32 b_ly) (cf .f32 b_hy))))) := hF.2.1
    clear hF
    obtain rfl := h41_
    refine doesG_g (b := ((((finF (cf .f32 b_lx) && finF (cf .f32 b_ly) && finF (cf .f32 b_lz)) && (finF (cf .f32 b_hx) && finF (cf .f32 b_hy) && finF (cf .f32 b_hz))) && (fcmp .leq (ford .f32 (cf .f32 b_lx) (cf .f32 b_hx)))) && (fcmp .leq (ford .f32 (cf .f32 b_ly) (cf .f32 b_hy))))) rfl (yld rfl rfl) (fun hg => ?_) (fun hg => ⟨fun h => absurd h hg, Ext.refl _⟩)
    obtain rfl := h44_ hg
    refine (does_fieldAddr (ev rfl) fa31_2).mono ?_; rintro _ _ ⟨rfl, rfl⟩
    exact ⟨fun _ => rfl, Ext.refl _⟩
  refine RW_d (fun v50 => [(.pointer (some ⟨b_b, b_o, none⟩)), undef, (.bool false), v7, v8, v9, v10, v11, v12, v13, v14, v15, v16, v17, v18, v19, v20, v21, v22, v23, v24, v25, v26, v27, v28, v29, v30, v31, v32, v33, v34, v35, v36, v37, v38, v39, v40, v41, v42, v43, v44, v45, v46, v47, v48, v49, v50, undef, undef, undef, undef, undef, undef, undef]) rfl (fun _ => rfl) (fun u hu hF => ?_) (fun v50 => ?_)
  · have h45_ : ((((finF (cf .f32 b_lx) && finF (cf .f32 b_ly) && finF (cf .f32 b_lz)) && (finF (cf .f32 b_hx) && finF (cf .f32 b_hy) && finF (cf .f32 b_hz))) && (fcmp .leq (ford .f32 (cf .f32 b_lx) (cf .f32 b_hx)))) && (fcmp .leq (ford .f32 (cf .f32 b_ly) (cf .f32 b_hy)))) = true → v49 = (.pointer (some ⟨b_b, b_o + 2, none⟩)) := hF.1
    have h41_ : v45 = (.bool ((((finF (cf .f32 b_lx) && finF (cf .f32 b_ly) && finF (cf .f32 b_lz)) && (finF (cf .f32 b_hx) && finF (cf .f32 b_hy) && finF (cf .f32 b_hz))) && (fcmp .leq (ford .f32 (cf .f32 b_lx) (cf .f32 b_hx)))) && (fcmp .leq (ford .f32 (cf .f32 b_ly) (cf .f32 b_hy))))) := hF.2.1
    clear hF
    obtain rfl := h41_
    refine doesG_g (b := ((((finF (cf .f32 b_lx) && finF (cf .f32 b_ly) && finF (cf .f32 b_lz)) && (finF (cf .f32 b_hx) && finF (cf .f32 b_hy) && finF (cf .f32 b_hz))) && (fcmp .leq (ford .f32 (cf .f32 b_lx) (cf .f32 b_hx)))) && (fcmp .leq (ford .f32 (cf .f32 b_ly) (cf .f32 b_hy))))) rfl (yld rfl rfl) (fun hg => ?_) (fun hg => ⟨fun h => absurd h hg, Ext.refl _⟩)
    obtain rfl := h45_ hg
    refine (does_load (u := (.float .f32 b_lz)) (ev rfl) Try.isAgg25 (Cells.at ((hc_b.ext (Ext.gr (Ext.refl w) E4)).ext hu) 2 rfl)).mono ?_; rintro _ _ ⟨rfl, rfl⟩
    exact ⟨fun _ => rfl, Ext.refl _⟩
  refine RW_d (fun v51 => [(.pointer (some ⟨b_b, b_o, none⟩)), undef, (.bool false), v7, v8, v9, v10, v11, v12, v13, v14, v15, v16, v17, v18, v19, v20, v21, v22, v23, v24, v25, v26, v27, v28, v29, v30, v31, v32, v33, v34, v35, v36, v37, v38, v39, v40, v41, v42, v43, v44, v45, v46, v47, v48, v49, v50, v51, undef, undef, undef, undef, undef, undef]) rfl (fun _ => rfl) (fun u hu hF => ?_) (fun v51 => ?_)
  · have h41_ : v45 = (.bool ((((finF (cf .f32 b_lx) && finF (cf .f32 b_ly) && finF (cf .f32 b_lz)) && (finF (cf .f32 b_hx) && finF (cf .f32 b_hy) && finF (cf .f32 b_hz))) && (fcmp .leq (ford .f32 (cf .f32 b_lx) (cf .f32 b_hx)))) && (fcmp .leq (ford .f32 (cf .f32 b_ly) (cf .f32 b_hy))))) := hF.1
    clear hF
    obtain rfl := h41_
    refine doesG_g (b := ((((finF (cf .f32 b_lx) && finF (cf .f32 b_ly) && finF (cf .f32 b_lz)) && (finF (cf .f32 b_hx) && finF (cf .f32 b_hy) && finF (cf .f32 b_hz))) && (fcmp .leq (ford .f32 (cf .f32 b_lx) (cf .f32 b_hx)))) && (fcmp .leq (ford .f32 (cf .f32 b_ly) (cf .f32 b_hy))))) rfl (yld rfl rfl) (fun hg => ?_) (fun hg => ⟨fun h => absurd h hg, Ext.refl _⟩)
    refine (does_move (u := (.pointer (some ⟨b_b, b_o, none⟩))) (ev rfl)).mono ?_; rintro _ _ ⟨rfl, rfl⟩
    exact ⟨fun _ => rfl, Ext.refl _⟩
  refine RW_d (fun v52 => [(.pointer (some ⟨b_b, b_o, none⟩)), undef, (.bool false), v7, v8, v9, v10, v11, v12, v13, v14, v15, v16, v17, v18, v19, v20, v21, v22, v23, v24, v25, v26, v27, v28, v29, v30, v31, v32, v33, v34, v35, v36, v37, v38, v39, v40, v41, v42, v43, v44, v45, v46, v47, v48, v49, v50, v51, v52, undef, undef, undef, undef, undef]) rfl (fun _ => rfl) (fun u hu hF => ?_) (fun v52 => ?_)
  · have h47_ : ((((finF (cf .f32 b_lx) && finF (cf .f32 b_ly) && finF (cf .f32 b_lz)) && (finF (cf .f32 b_hx) && finF (cf .f32 b_hy) && finF (cf .f32 b_hz))) && (fcmp .leq (ford .f32 (cf .f32 b_lx) (cf .f32 b_hx)))) && (fcmp .leq (ford .f32 (cf .f32 b_ly) (cf .f32 b_hy)))) = true → v51 = (.pointer (some ⟨b_b, b_o, none⟩)) := hF.1
    have h41_ : v45 = (.bool ((((finF (cf .f32 b_lx) && finF (cf .f32 b_ly) && finF (cf .f32 b_lz)) && (finF (cf .f32 b_hx) && finF (cf .f32 b_hy) && finF (cf .f32 b_hz))) && (fcmp .leq (ford .f32 (cf .f32 b_lx) (cf .f32 b_hx)))) && (fcmp .leq (ford .f32 (cf .f32 b_ly) (cf .f32 b_hy))))) := hF.2.1
    clear hF
    obtain rfl := h41_
    refine doesG_g (b := ((((finF (cf .f32 b_lx) && finF (cf .f32 b_ly) && finF (cf .f32 b_lz)) && (finF (cf .f32 b_hx) && finF (cf .f32 b_hy) && finF (cf .f32 b_hz))) && (fcmp .leq (ford .f32 (cf .f32 b_lx) (cf .f32 b_hx)))) && (fcmp .leq (ford .f32 (cf .f32 b_ly) (cf .f32 b_hy))))) rfl (yld rfl rfl) (fun hg => ?_) (fun hg => ⟨fun h => absurd h hg, Ext.refl _⟩)
    obtain rfl := h47_ hg
    refine (does_nilCheck (ev rfl)).mono ?_; rintro _ _ ⟨rfl, rfl⟩
    exact ⟨fun _ => rfl, Ext.refl _⟩
  refine RW_d (fun v53 => [(.pointer (some ⟨b_b, b_o, none⟩)), undef, (.bool false), v7, v8, v9, v10, v11, v12, v13, v14, v15, v16, v17, v18, v19, v20, v21, v22, v23, v24, v25, v26, v27, v28, v29, v30, v31, v32, v33, v34, v35, v36, v37, v38, v39, v40, v41, v42, v43, v44, v45, v46, v47, v48, v49, v50, v51, v52, v53, undef, undef, undef, undef]) rfl (fun _ => rfl) (fun u hu hF => ?_) (fun v53 => ?_)
  · have h48_ : ((((finF (cf .f32 b_lx) && finF (cf .f32 b_ly) && finF (cf .f32 b_lz)) && (finF (cf .f32 b_hx) && finF (cf .f32 b_hy) && finF (cf .f32 b_hz))) && (fcmp .leq (ford .f32 (cf .f32 b_lx) (cf .f32 b_hx)))) && (fcmp .leq (ford .f32 (cf .f32 b_ly) (cf .f32 b_hy)))) = true → v52 = (.pointer (some ⟨b_b, b_o, none⟩)) := hF.1
    have h41_ : v45 = (.bool ((((finF (cf .f32 b_lx) && finF (cf .f32 b_ly) && finF (cf .f32 b_lz)) && (finF (cf .f32 b_hx) && finF (cf .f32 b_hy) && finF (cf .f32 b_hz))) && (fcmp .leq (ford .f32 (cf .f32 b_lx) (cf .f32 b_hx)))) && (fcmp .leq (ford .f32 (cf .f32 b_ly) (cf .f32 b_hy))))) := hF.2.1
    clear hF
    obtain rfl := h41_
    refine doesG_g (b := ((((finF (cf .f32 b_lx) && finF (cf .f32 b_ly) && finF (cf .f32 b_lz)) && (finF (cf .f32 b_hx) && finF (cf .f32 b_hy) && finF (cf .f32 b_hz))) && (fcmp .leq (ford .f32 (cf .f32 b_lx) (cf .f32 b_hx)))) && (fcmp .leq (ford .f32 (cf .f32 b_ly) (cf .f32 b_hy))))) rfl (yld rfl rfl) (fun hg => ?_) (fun hg => ⟨fun h => absurd h hg, Ext.refl _⟩)
    obtain rfl := h48_ hg
    refine (does_fieldAddr (ev rfl) fa33_1).mono ?_; rintro _ _ ⟨rfl, rfl⟩
    exact ⟨fun _ => rfl, Ext.refl _⟩
  refine RW_d (fun v54 => [(.pointer (some ⟨b_b, b_o, none⟩)), undef, (.bool false), v7, v8, v9, v10, v11, v12, v13, v14, v15, v16, v17, v18, v19, v20, v21, v22, v23, v24, v25, v26, v27, v28, v29, v30, v31, v32, v33, v34, v35, v36, v37, v38, v39, v40, v41, v42, v43, v44, v45, v46, v47, v48, v49, v50, v51, v52, v53, v54, undef, undef, undef]) rfl (fun _ => rfl) (fun u hu hF => ?_) (fun v54 => ?_)
  · have h49_ : ((((finF (cf .f32 b_lx) && finF (cf .f32 b_ly) && finF (cf .f32 b_lz)) && (finF (cf .f32 b_hx) && finF (cf .f32 b_hy) && finF (cf .f32 b_hz))) && (fcmp .leq (ford .f32 (cf .f32 b_lx) (cf .f32 b_hx)))) && (fcmp .leq (ford .f32 (cf .f32 b_ly) (cf .f32 b_hy)))) = true → v53 = (.pointer (some ⟨b_b, b_o + 3, none⟩)) := hF.1
    have h41_ : v45 = (.bool ((((finF (cf .f32 b_lx) && finF (cf .f32 b_ly) && finF (cf .f32 b_lz)) && (finF (cf .f32 b_hx) && finF (cf .f32 b_hy) && finF (cf .f32 b_hz))) && (fcmp .leq (ford .f32 (cf .f32 b_lx) (cf .f32 b_hx)))) && (fcmp .leq (ford .f32 (cf .f32 b_ly) (cf .f32 b_hy))))) := hF.2.1
    clear hF
    obtain rfl := h41_
    refine doesG_g (b := ((((finF (cf .f32 b_lx) && finF (cf .f32 b_ly) && finF (cf .f32 b_lz)) && (finF (cf .f32 b_hx) && finF (cf .f32 b_hy) && finF (cf .f32 b_hz))) && (fcmp .leq (ford .f32 (cf .f32 b_lx) (cf .f32 b_hx)))) && (fcmp .leq (ford .f32 (cf .f32 b_ly) (cf .f32 b_hy))))) rfl (yld rfl rfl) (fun hg => ?_) (fun hg => ⟨fun h => absurd h hg, Ext.refl _⟩)
    obtain rfl := h49_ hg
    refine (does_fieldAddr (ev rfl) fa31_2).mono ?_; rintro _ _ ⟨rfl, rfl⟩
    exact ⟨fun _ => rfl, Ext.refl _⟩
  refine RW_d (fun v55 => [(.pointer (some ⟨b_b, b_o, none⟩)), undef, (.bool false), v7, v8, v9, v10, v11, v12, v13, v14, v15, v16, v17, v18, v19, v20, v21, v22, v23, v24, v25, v26, v27, v28, v29, v30, v31, v32, v33, v34, v35, v36, v37, v38, v39, v40, v41, v42, v43, v44, v45, v46, v47, v48, v49, v50, v51, v52, v53, v54, v55, undef, undef]) rfl (fun _ => rfl) (fun u hu hF => ?_) (fun v55 => ?_)
  · have h50_ : ((((finF (cf .f32 b_lx) && finF (cf .f32 b_ly) && finF (cf .f32 b_lz)) && (finF (cf .f32 b_hx) && finF (cf .f32 b_hy) && finF (cf .f32 b_hz))) && (fcmp .leq (ford .f32 (cf .f32 b_lx) (cf .f32 b_hx)))) && (fcmp .leq (ford .f32 (cf .f32 b_ly) (cf .f32 b_hy)))) = true → v54 = (.pointer (some ⟨b_b, b_o + 5, none⟩)) := hF.1
    have h41_ : v45 = (.bool ((((finF (cf .f32 b_lx) && finF (cf .f32 b_ly) && finF (cf .f32 b_lz)) && (finF (cf .f32 b_hx) && finF (cf .f32 b_hy) && finF (cf .f32 b_hz))) && (fcmp .leq (ford .f32 (cf .f32 b_lx) (cf .f32 b_hx)))) && (fcmp .leq (ford .f32 (cf .f32 b_ly) (cf .f32 b_hy))))) := hF.2.1
    clear hF
    obtain rfl := h41_
    refine doesG_g (b := ((((finF (cf .f32 b_lx) && finF (cf .f32 b_ly) && finF (cf .f32 b_lz)) && (finF (cf .f32 b_hx) && finF (cf .f32 b_hy) && finF (cf .f32 b_hz))) && (fcmp .leq (ford .f32 (cf .f32 b_lx) (cf .f32 b_hx)))) && (fcmp .leq (ford .f32 (cf .f32 b_ly) (cf .f32 b_hy))))) rfl (yld rfl rfl) (fun hg => ?_) (fun hg => ⟨fun h => absurd h hg, Ext.refl _⟩)
    obtain rfl := h50_ hg
    refine (does_load (u := (.float .f32 b_hz)) (ev rfl) Try.isAgg25 (Cells.at ((hc_b.ext (Ext.gr (Ext.refl w) E4)).ext hu) 5 rfl)).mono ?_; rintro _ _ ⟨rfl, rfl⟩
    exact ⟨fun _ => rfl, Ext.refl _⟩
  refine RW_d (fun v56 => [(.pointer (some ⟨b_b, b_o, none⟩)), undef, (.bool false), v7, v8, v9, v10, v11, v12, v13, v14, v15, v16, v17, v18, v19, v20, v21, v22, v23, v24, v25, v26, v27, v28, v29, v30, v31, v32, v33, v34, v35, v36, v37, v38, v39, v40, v41, v42, v43, v44, v45, v46, v47, v48, v49, v50, v51, v52, v53, v54, v55, v56, undef]) rfl (fun _ => rfl) (fun u hu hF => ?_) (fun v56 => ?_)
  · have h46_ : ((((finF (cf .f32 b_lx) && finF (cf .f32 b_ly) && finF (cf .f32 b_lz)) && (finF (cf .f32 b_hx) && finF (cf .f32 b_hy) && finF (cf .f32 b_hz))) && (fcmp .leq (ford .f32 (cf .f32 b_lx) (cf .f32 b_hx)))) && (fcmp .leq (ford .f32 (cf .f32 b_ly) (cf .f32 b_hy)))) = true → v50 = (.float .f32 b_lz) := hF.1
    have h51_ : ((((finF (cf .f32 b_lx) && finF (cf .f32 b_ly) && finF (cf .f32 b_lz)) && (finF (cf .f32 b_hx) && finF (cf .f32 b_hy) && finF (cf .f32 b_hz))) && (fcmp .leq (ford .f32 (cf .f32 b_lx) (cf .f32 b_hx)))) && (fcmp .leq (ford .f32 (cf .f32 b_ly) (cf .f32 b_hy)))) = true → v55 = (.float .f32 b_hz) := hF.2.1
    have h41_ : v45 = (.bool ((((finF (cf .f32 b_lx) && finF (cf .f32 b_ly) && finF (cf .f32 b_lz)) && (finF (cf .f32 b_hx) && finF (cf .f32 b_hy) && finF (cf .f32 b_hz))) && (fcmp .leq (ford .f32 (cf .f32 b_lx) (cf .f32 b_hx)))) && (fcmp .leq (ford .f32 (cf .f32 b_ly) (cf .f32 b_hy))))) := hF.2.2.1
    clear hF
    obtain rfl := h41_
    refine doesG_g (b := ((((finF (cf .f32 b_lx) && finF (cf .f32 b_ly) && finF (cf .f32 b_lz)) && (finF (cf .f32 b_hx) && finF (cf .f32 b_hy) && finF (cf .f32 b_hz))) && (fcmp .leq (ford .f32 (cf .f32 b_lx) (cf .f32 b_hx)))) && (fcmp .leq (ford .f32 (cf .f32 b_ly) (cf .f32 b_hy))))) rfl (yld rfl rfl) (fun hg => ?_) (fun hg => ⟨fun h => absurd h hg, Ext.refl _⟩)
    obtain rfl := h46_ hg
    obtain rfl := h51_ hg
    refine (does_fcmp (.inr (.inr (.inr (.inl rfl)))) (ev rfl) (ev rfl)).mono ?_; rintro _ _ ⟨rfl, rfl⟩
    exact ⟨fun _ => rfl, Ext.refl _⟩
  refine RW_d (fun v57 => [(.pointer (some ⟨b_b, b_o, none⟩)), undef, (.bool false), v7, v8, v9, v10, v11, v12, v13, v14, v15, v16, v17, v18, v19, v20, v21, v22, v23, v24, v25, v26, v27, v28, v29, v30, v31, v32, v33, v34, v35, v36, v37, v38, v39, v40, v41, v42, v43, v44, v45, v46, v47, v48, v49, v50, v51, v52, v53, v54, v55, v56, v57]) rfl (fun _ => rfl) (fun u hu hF => ?_) (fun v57 => ?_)
  · have h41_ : v45 = (.bool ((((finF (cf .f32 b_lx) && finF (cf .f32 b_ly) && finF (cf .f32 b_lz)) && (finF (cf .f32 b_hx) && finF (cf .f32 b_hy) && finF (cf .f32 b_hz))) && (fcmp .leq (ford .f32 (cf .f32 b_lx) (cf .f32 b_hx)))) && (fcmp .leq (ford .f32 (cf .f32 b_ly) (cf .f32 b_hy))))) := hF.1
    have h52_ : ((((finF (cf .f32 b_lx) && finF (cf .f32 b_ly) && finF (cf .f32 b_lz)) && (finF (cf .f32 b_hx) && finF (cf .f32 b_hy) && finF (cf .f32 b_hz))) && (fcmp .leq (ford .f32 (cf .f32 b_lx) (cf .f32 b_hx)))) && (fcmp .leq (ford .f32 (cf .f32 b_ly) (cf .f32 b_hy)))) = true → v56 = (.bool (fcmp .leq (ford .f32 (cf .f32 b_lz) (cf .f32 b_hz)))) := hF.2.1
    clear hF
    obtain rfl := h41_
    refine doesG_un rfl ((does_pick (b := ((((finF (cf .f32 b_lx) && finF (cf .f32 b_ly) && finF (cf .f32 b_lz)) && (finF (cf .f32 b_hx) && finF (cf .f32 b_hy) && finF (cf .f32 b_hz))) && (fcmp .leq (ford .f32 (cf .f32 b_lx) (cf .f32 b_hx)))) && (fcmp .leq (ford .f32 (cf .f32 b_ly) (cf .f32 b_hy))))) (ev rfl) (ev rfl) (ev rfl)).mono ?_); rintro _ _ ⟨rfl, rfl⟩; refine ⟨?_, Ext.refl _⟩
    cases hbb : ((((finF (cf .f32 b_lx) && finF (cf .f32 b_ly) && finF (cf .f32 b_lz)) && (finF (cf .f32 b_hx) && finF (cf .f32 b_hy) && finF (cf .f32 b_hz))) && (fcmp .leq (ford .f32 (cf .f32 b_lx) (cf .f32 b_hx)))) && (fcmp .leq (ford .f32 (cf .f32 b_ly) (cf .f32 b_hy)))) <;> simp [hbb] at h52_ ⊢
    all_goals (first | rfl | (subst h52_; rfl) | simp_all)
  refine RW_fin ?_; intro w58 E59 hP60
  obtain ⟨⟨⟨⟨⟨⟨⟨⟨⟨⟨⟨⟨⟨⟨⟨⟨⟨⟨⟨⟨⟨⟨⟨⟨⟨⟨⟨⟨⟨⟨⟨⟨⟨⟨⟨⟨⟨⟨⟨⟨⟨⟨⟨⟨⟨⟨⟨⟨⟨⟨⟨-, -⟩, -⟩, -⟩, -⟩, -⟩, -⟩, -⟩, -⟩, -⟩, -⟩, -⟩, -⟩, -⟩, -⟩, -⟩, -⟩, -⟩, -⟩, -⟩, -⟩, -⟩, -⟩, -⟩, -⟩, -⟩, -⟩, -⟩, -⟩, -⟩, -⟩, -⟩, -⟩, -⟩, -⟩, -⟩, -⟩, -⟩, -⟩, -⟩, -⟩, -⟩, -⟩, -⟩, -⟩, -⟩, -⟩, -⟩, -⟩, -⟩, -⟩, q61⟩ := hP60
  have X62 := Ext.gr X6 E59
  have q61 : v57 = (.bool (((((finF (cf .f32 b_lx) && finF (cf .f32 b_ly) && finF (cf .f32 b_lz)) && (finF (cf .f32 b_hx) && finF (cf .f32 b_hy) && finF (cf .f32 b_hz))) && (fcmp .leq (ford .f32 (cf .f32 b_lx) (cf .f32 b_hx)))) && (fcmp .leq (ford .f32 (cf .f32 b_ly) (cf .f32 b_hy)))) && (fcmp .leq (ford .f32 (cf .f32 b_lz) (cf .f32 b_hz))))) := q61
  obtain rfl := q61
  show wpList _ _ _ _ (fr [(.pointer (some ⟨b_b, b_o, none⟩)), undef, (.bool false), v7, v8, v9, v10, v11, v12, v13, v14, v15, v16, v17, v18, v19, v20, v21, v22, v23, v24, v25, v26, v27, v28, v29, v30, v31, v32, v33, v34, v35, v36, v37, v38, v39, v40, v41, v42, v43, v44, v45, v46, v47, v48, v49, v50, v51, v52, v53, v54, v55, v56, (.bool (((((finF (cf .f32 b_lx) && finF (cf .f32 b_ly) && finF (cf .f32 b_lz)) && (finF (cf .f32 b_hx) && finF (cf .f32 b_hy) && finF (cf .f32 b_hz))) && (fcmp .leq (ford .f32 (cf .f32 b_lx) (cf .f32 b_hx)))) && (fcmp .leq (ford .f32 (cf .f32 b_ly) (cf .f32 b_hy)))) && (fcmp .leq (ford .f32 (cf .f32 b_lz) (cf .f32 b_hz)))))]) _
  refine q_is (l' := [(.pointer (some ⟨b_b, b_o, none⟩)), undef, (.bool (((((finF (cf .f32 b_lx) && finF (cf .f32 b_ly) && finF (cf .f32 b_lz)) && (finF (cf .f32 b_hx) && finF (cf .f32 b_hy) && finF (cf .f32 b_hz))) && (fcmp .leq (ford .f32 (cf .f32 b_lx) (cf .f32 b_hx)))) && (fcmp .leq (ford .f32 (cf .f32 b_ly) (cf .f32 b_hy)))) && (fcmp .leq (ford .f32 (cf .f32 b_lz) (cf .f32 b_hz))))), v7, v8, v9, v10, v11, v12, v13, v14, v15, v16, v17, v18, v19, v20, v21, v22, v23, v24, v25, v26, v27, v28, v29, v30, v31, v32, v33, v34, v35, v36, v37, v38, v39, v40, v41, v42, v43, v44, v45, v46, v47, v48, v49, v50, v51, v52, v53, v54, v55, v56, (.bool (((((finF (cf .f32 b_lx) && finF (cf .f32 b_ly) && finF (cf .f32 b_lz)) && (finF (cf .f32 b_hx) && finF (cf .f32 b_hy) && finF (cf .f32 b_hz))) && (fcmp .leq (ford .f32 (cf .f32 b_lx) (cf .f32 b_hx)))) && (fcmp .leq (ford .f32 (cf .f32 b_ly) (cf .f32 b_hy)))) && (fcmp .leq (ford .f32 (cf .f32 b_lz) (cf .f32 b_hz)))))]) rfl rfl (does_assign (u := (.bool (((((finF (cf .f32 b_lx) && finF (cf .f32 b_ly) && finF (cf .f32 b_lz)) && (finF (cf .f32 b_hx) && finF (cf .f32 b_hy) && finF (cf .f32 b_hz))) && (fcmp .leq (ford .f32 (cf .f32 b_lx) (cf .f32 b_hx)))) && (fcmp .leq (ford .f32 (cf .f32 b_ly) (cf .f32 b_hy)))) && (fcmp .leq (ford .f32 (cf .f32 b_lz) (cf .f32 b_hz)))))) (ev rfl)) rfl ?_
  refine wpList_nil (hK2 _ _ ?_)
  refine wp_ret ?_
  refine ret_val (v := (.bool (((((finF (cf .f32 b_lx) && finF (cf .f32 b_ly) && finF (cf .f32 b_lz)) && (finF (cf .f32 b_hx) && finF (cf .f32 b_hy) && finF (cf .f32 b_hz))) && (fcmp .leq (ford .f32 (cf .f32 b_lx) (cf .f32 b_hx)))) && (fcmp .leq (ford .f32 (cf .f32 b_ly) (cf .f32 b_hy)))) && (fcmp .leq (ford .f32 (cf .f32 b_lz) (cf .f32 b_hz)))))) (res_T rfl (slot rfl)) X62 ?_
  have x63 : (isBox (cf .f32 b_lx) (cf .f32 b_ly) (cf .f32 b_lz) (cf .f32 b_hx) (cf .f32 b_hy) (cf .f32 b_hz)) = (((((finF (cf .f32 b_lx) && finF (cf .f32 b_ly) && finF (cf .f32 b_lz)) && (finF (cf .f32 b_hx) && finF (cf .f32 b_hy) && finF (cf .f32 b_hz))) && (fcmp .leq (ford .f32 (cf .f32 b_lx) (cf .f32 b_hx)))) && (fcmp .leq (ford .f32 (cf .f32 b_ly) (cf .f32 b_hy)))) && (fcmp .leq (ford .f32 (cf .f32 b_lz) (cf .f32 b_hz)))) := by first | rfl | (simp only [isBox]; done) | (simp [isBox]; done)
  exact (by first | rfl | rw [x63])

/- spec.ValidBox -/
theorem c_spec_ValidBox (b_lx : Nat) (b_ly : Nat) (b_lz : Nat) (b_hx : Nat) (b_hy : Nat) (b_hz : Nat) (w : World) : Gives Try.prog 17 #[(.agg #[(.float .f32 b_lx), (.float .f32 b_ly), (.float .f32 b_lz), (.float .f32 b_hx), (.float .f32 b_hy), (.float .f32 b_hz)])] w (fun v w' => v = (.bool (isBox (cf .f32 b_lx) (cf .f32 b_ly) (cf .f32 b_lz) (cf .f32 b_hx) (cf .f32 b_hy) (cf .f32 b_hz)))) := by
  refine enter [(.agg #[(.float .f32 b_lx), (.float .f32 b_ly), (.float .f32 b_lz), (.float .f32 b_hx), (.float .f32 b_hy), (.float .f32 b_hz)]), undef, undef, undef] Try.func17 rfl Try.ntmps17 rfl ?_
  refine wp_seq_k fun K1 hK1 => ?_
  refine wp_region_lit ?_
  refine seqd rfl rfl (does_box (u := (.agg #[(.float .f32 b_lx), (.float .f32 b_ly), (.float .f32 b_lz), (.float .f32 b_hx), (.float .f32 b_hy), (.float .f32 b_hz)])) (ev rfl)) ?_; rintro _ w6 ⟨b2, rfl, hb3, hB4, E5⟩
  have g7 : w.heap.size ≤ b2 := Nat.le_trans (Below.size (Ext.refl w)) hb3
  change Blk _ _ [(.float .f32 b_lx), (.float .f32 b_ly), (.float .f32 b_lz), (.float .f32 b_hx), (.float .f32 b_hy), (.float .f32 b_hz)] at hB4
  have X8 := Ext.gr (Ext.refl w) E5
  show wpList _ _ _ _ (fr [(.agg #[(.float .f32 b_lx), (.float .f32 b_ly), (.float .f32 b_lz), (.float .f32 b_hx), (.float .f32 b_hy), (.float .f32 b_hz)]), (.pointer (some ⟨b2, 0, none⟩)), undef, undef]) _
  refine q_is (l' := [(.agg #[(.float .f32 b_lx), (.float .f32 b_ly), (.float .f32 b_lz), (.float .f32 b_hx), (.float .f32 b_hy), (.float .f32 b_hz)]), (.pointer (some ⟨b2, 0, none⟩)), (.bool false), undef]) rfl rfl (does_assign (u := (.bool false)) (ev rfl)) rfl ?_
  refine wpList_nil (hK1 _ _ ?_)
  refine wp_seq_k fun K9 hK9 => ?_
  refine wp_region_lit ?_
  refine seqd rfl rfl (does_call (args := #[(.pointer (some ⟨b2, 0, none⟩))]) cal51 (evs rfl) (c_spec_l04Is b2 0 b_lx b_ly b_lz b_hx b_hy b_hz _ (Blk.cells hB4))) ?_; rintro _ w11 ⟨E10, rfl⟩
  have X12 := Ext.gr X8 E10
  show wpList _ _ _ _ (fr [(.agg #[(.float .f32 b_lx), (.float .f32 b_ly), (.float .f32 b_lz), (.float .f32 b_hx), (.float .f32 b_hy), (.float .f32 b_hz)]), (.pointer (some ⟨b2, 0, none⟩)), (.bool false), (.bool (isBox (cf .f32 b_lx) (cf .f32 b_ly) (cf .f32 b_lz) (cf .f32 b_hx) (cf .f32 b_hy) (cf .f32 b_hz)))]) _
  refine q_is (l' := [(.agg #[(.float .f32 b_lx), (.float .f32 b_ly), (.float .f32 b_lz), (.float .f32 b_hx), (.float .f32 b_hy), (.float .f32 b_hz)]), (.pointer (some ⟨b2, 0, none⟩)), (.bool (isBox (cf .f32 b_lx) (cf .f32 b_ly) (cf .f32 b_lz) (cf .f32 b_hx) (cf .f32 b_hy) (cf .f32 b_hz))), (.bool (isBox (cf .f32 b_lx) (cf .f32 b_ly) (cf .f32 b_lz) (cf .f32 b_hx) (cf .f32 b_hy) (cf .f32 b_hz)))]) rfl rfl (does_assign (u := (.bool (isBox (cf .f32 b_lx) (cf .f32 b_ly) (cf .f32 b_lz) (cf .f32 b_hx) (cf .f32 b_hy) (cf .f32 b_hz)))) (ev rfl)) rfl ?_
  refine wpList_nil (hK9 _ _ ?_)
  refine wp_ret ?_
  refine ret_val (v := (.bool (isBox (cf .f32 b_lx) (cf .f32 b_ly) (cf .f32 b_lz) (cf .f32 b_hx) (cf .f32 b_hy) (cf .f32 b_hz)))) (res_T rfl (slot rfl)) X12 ?_
  exact rfl

/- laws.toVector -/
theorem c_laws_toVector (a_x : Nat) (a_y : Nat) (a_z : Nat) (w : World) : Gives Try.prog 21 #[(.agg #[(.float .f32 a_x), (.float .f32 a_y), (.float .f32 a_z)])] w (fun v w' => ∃ r_1 : Nat, ∃ r_2 : Nat, ∃ r_3 : Nat, v = (.agg #[(.float .f32 r_1), (.float .f32 r_2), (.float .f32 r_3)]) ∧ cf .f32 r_1 = (cf .f32 a_x) ∧ cf .f32 r_2 = (cf .f32 a_y) ∧ cf .f32 r_3 = (cf .f32 a_z)) := by
  refine enter [(.agg #[(.float .f32 a_x), (.float .f32 a_y), (.float .f32 a_z)]), undef, undef, undef, undef, undef, undef, undef, undef, undef, undef, undef, undef, undef] Try.func21 rfl Try.ntmps21 rfl ?_
  refine wp_seq_k fun K1 hK1 => ?_
  refine wp_region_lit ?_
  refine seqd rfl rfl (does_box (u := (.agg #[(.float .f32 a_x), (.float .f32 a_y), (.float .f32 a_z)])) (ev rfl)) ?_; rintro _ w6 ⟨b2, rfl, hb3, hB4, E5⟩
  have g7 : w.heap.size ≤ b2 := Nat.le_trans (Below.size (Ext.refl w)) hb3
  change Blk _ _ [(.float .f32 a_x), (.float .f32 a_y), (.float .f32 a_z)] at hB4
  have X8 := Ext.gr (Ext.refl w) E5
  show wpList _ _ _ _ (fr [(.agg #[(.float .f32 a_x), (.float .f32 a_y), (.float .f32 a_z)]), (.pointer (some ⟨b2, 0, none⟩)), undef, undef, undef, undef, undef, undef, undef, undef, undef, undef, undef, undef]) _
  refine seqd rfl rfl (does_alloc z31) ?_; rintro _ w13 ⟨b9, rfl, hb10, hB11, E12⟩
  have n14 : b2 < b9 := Nat.lt_of_lt_of_le (Blk.lt hB4) hb10
  have g15 : w.heap.size ≤ b9 := Nat.le_trans (Below.size X8) hb10
  change Blk _ _ [(.float .f32 0), (.float .f32 0), (.float .f32 0)] at hB11
  have X16 := Ext.gr X8 E12
  show wpList _ _ _ _ (fr [(.agg #[(.float .f32 a_x), (.float .f32 a_y), (.float .f32 a_z)]), (.pointer (some ⟨b2, 0, none⟩)), (.pointer (some ⟨b9, 0, none⟩)), undef, undef, undef, undef, undef, undef, undef, undef, undef, undef, undef]) _
  refine wpList_nil (hK1 _ _ ?_)
  refine wp_seq_k fun K17 hK17 => ?_
  refine wp_region_lit ?_
  refine seqd rfl rfl (does_alloc z31) ?_; rintro _ w22 ⟨b18, rfl, hb19, hB20, E21⟩
  have n23 : b2 < b18 := Nat.lt_of_lt_of_le (Blk.lt (hB4.ext E12)) hb19
  have n24 : b9 < b18 := Nat.lt_of_lt_of_le (Blk.lt hB11) hb19
  have g25 : w.heap.size ≤ b18 := Nat.le_trans (Below.size X16) hb19
  change Blk _ _ [(.float .f32 0), (.float .f32 0), (.float .f32 0)] at hB20
  have X26 := Ext.gr X16 E21
  show wpList _ _ _ _ (fr [(.agg #[(.float .f32 a_x), (.float .f32 a_y), (.float .f32 a_z)]), (.pointer (some ⟨b2, 0, none⟩)), (.pointer (some ⟨b9, 0, none⟩)), (.pointer (some ⟨b18, 0, none⟩)), undef, undef, undef, undef, undef, undef, undef, undef, undef, undef]) _
  refine wpList_nil (hK17 _ _ ?_)
  refine wp_seq_k fun K27 hK27 => ?_
  refine wp_region_lit ?_
  refine q_is (l' := [(.agg #[(.float .f32 a_x), (.float .f32 a_y), (.float .f32 a_z)]), (.pointer (some ⟨b2, 0, none⟩)), (.pointer (some ⟨b9, 0, none⟩)), (.pointer (some ⟨b18, 0, none⟩)), (.pointer (some ⟨b2, 0, none⟩)), undef, undef, undef, undef, undef, undef, undef, undef, undef]) rfl rfl (does_fieldAddr (ev rfl) fa27_0) rfl ?_
  refine q_is (l' := [(.agg #[(.float .f32 a_x), (.float .f32 a_y), (.float .f32 a_z)]), (.pointer (some ⟨b2, 0, none⟩)), (.pointer (some ⟨b9, 0, none⟩)), (.pointer (some ⟨b18, 0, none⟩)), (.pointer (some ⟨b2, 0, none⟩)), (.float .f32 a_x), undef, undef, undef, undef, undef, undef, undef, undef]) rfl rfl (does_load (u := (.float .f32 a_x)) (ev rfl) Try.isAgg25 (Cells.at (Blk.cells ((hB4.ext E12).ext E21)) 0 rfl)) rfl ?_
  refine q_is (l' := [(.agg #[(.float .f32 a_x), (.float .f32 a_y), (.float .f32 a_z)]), (.pointer (some ⟨b2, 0, none⟩)), (.pointer (some ⟨b9, 0, none⟩)), (.pointer (some ⟨b18, 0, none⟩)), (.pointer (some ⟨b2, 0, none⟩)), (.float .f32 a_x), (.pointer (some ⟨b18, 0, none⟩)), undef, undef, undef, undef, undef, undef, undef]) rfl rfl (does_fieldAddr (ev rfl) fa31_0) rfl ?_
  refine seqn rfl rfl (does_store (n := 1) (cs := [(.float .f32 0), (.float .f32 0), (.float .f32 0)]) (u := (.float .f32 a_x)) (ev rfl) (ev rfl) Try.sizeOf25 rfl hB20 (Nat.le_of_ble_eq_true rfl) rfl) ?_; rintro _ w30 ⟨rfl, W28, hB29⟩
  change Blk _ _ [(.float .f32 a_x), (.float .f32 0), (.float .f32 0)] at hB29
  have X31 := Below.wr X26 W28 g25
  refine wpList_nil (hK27 _ _ ?_)
  refine wp_seq_k fun K32 hK32 => ?_
  refine wp_region_lit ?_
  refine q_is (l' := [(.agg #[(.float .f32 a_x), (.float .f32 a_y), (.float .f32 a_z)]), (.pointer (some ⟨b2, 0, none⟩)), (.pointer (some ⟨b9, 0, none⟩)), (.pointer (some ⟨b18, 0, none⟩)), (.pointer (some ⟨b2, 0, none⟩)), (.float .f32 a_x), (.pointer (some ⟨b18, 0, none⟩)), (.pointer (some ⟨b2, 1, none⟩)), undef, undef, undef, undef, undef, undef]) rfl rfl (does_fieldAddr (ev rfl) fa27_1) rfl ?_
  refine q_is (l' := [(.agg #[(.float .f32 a_x), (.float .f32 a_y), (.float .f32 a_z)]), (.pointer (some ⟨b2, 0, none⟩)), (.pointer (some ⟨b9, 0, none⟩)), (.pointer (some ⟨b18, 0, none⟩)), (.pointer (some ⟨b2, 0, none⟩)), (.float .f32 a_x), (.pointer (some ⟨b18, 0, none⟩)), (.pointer (some ⟨b2, 1, none⟩)), (.float .f32 a_y), undef, undef, undef, undef, undef]) rfl rfl (does_load (u := (.float .f32 a_y)) (ev rfl) Try.isAgg25 (Cells.at (Blk.cells (((hB4.ext E12).ext E21).wr W28 (Nat.ne_of_lt n23))) 1 rfl)) rfl ?_
  refine q_is (l' := [(.agg #[(.float .f32 a_x), (.float .f32 a_y), (.float .f32 a_z)]), (.pointer (some ⟨b2, 0, none⟩)), (.pointer (some ⟨b9, 0, none⟩)), (.pointer (some ⟨b18, 0, none⟩)), (.pointer (some ⟨b2, 0, none⟩)), (.float .f32 a_x), (.pointer (some ⟨b18, 0, none⟩)), (.pointer (some ⟨b2, 1, none⟩)), (.float .f32 a_y), (.pointer (some ⟨b18, 1, none⟩)), undef, undef, undef, undef]) rfl rfl (does_fieldAddr (ev rfl) fa31_1) rfl ?_
  refine seqn rfl rfl (does_store (n := 1) (cs := [(.float .f32 a_x), (.float .f32 0), (.float .f32 0)]) (u := (.float .f32 a_y)) (ev rfl) (ev rfl) Try.sizeOf25 rfl hB29 (Nat.le_of_ble_eq_true rfl) rfl) ?_; rintro _ w35 ⟨rfl, W33, hB34⟩
  change Blk _ _ [(.float .f32 a_x), (.float .f32 a_y), (.float .f32 0)] at hB34
  have X36 := Below.wr X31 W33 g25
  refine wpList_nil (hK32 _ _ ?_)
  refine wp_seq_k fun K37 hK37 => ?_
  refine wp_region_lit ?_
  refine q_is (l' := [(.agg #[(.float .f32 a_x), (.float .f32 a_y), (.float .f32 a_z)]), (.pointer (some ⟨b2, 0, none⟩)), (.pointer (some ⟨b9, 0, none⟩)), (.pointer (some ⟨b18, 0, none⟩)), (.pointer (some ⟨b2, 0, none⟩)), (.float .f32 a_x), (.pointer (some ⟨b18, 0, none⟩)), (.pointer (some ⟨b2, 1, none⟩)), (.float .f32 a_y), (.pointer (some ⟨b18, 1, none⟩)), (.pointer (some ⟨b2, 2, none⟩)), undef, undef, undef]) rfl rfl (does_fieldAddr (ev rfl) fa27_2) rfl ?_
  refine q_is (l' := [(.agg #[(.float .f32 a_x), (.float .f32 a_y), (.float .f32 a_z)]), (.pointer (some ⟨b2, 0, none⟩)), (.pointer (some ⟨b9, 0, none⟩)), (.pointer (some ⟨b18, 0, none⟩)), (.pointer (some ⟨b2, 0, none⟩)), (.float .f32 a_x), (.pointer (some ⟨b18, 0, none⟩)), (.pointer (some ⟨b2, 1, none⟩)), (.float .f32 a_y), (.pointer (some ⟨b18, 1, none⟩)), (.pointer (some ⟨b2, 2, none⟩)), (.float .f32 a_z), undef, undef]) rfl rfl (does_load (u := (.float .f32 a_z)) (ev rfl) Try.isAgg25 (Cells.at (Blk.cells ((((hB4.ext E12).ext E21).wr W28 (Nat.ne_of_lt n23)).wr W33 (Nat.ne_of_lt n23))) 2 rfl)) rfl ?_
  refine q_is (l' := [(.agg #[(.float .f32 a_x), (.float .f32 a_y), (.float .f32 a_z)]), (.pointer (some ⟨b2, 0, none⟩)), (.pointer (some ⟨b9, 0, none⟩)), (.pointer (some ⟨b18, 0, none⟩)), (.pointer (some ⟨b2, 0, none⟩)), (.float .f32 a_x), (.pointer (some ⟨b18, 0, none⟩)), (.pointer (some ⟨b2, 1, none⟩)), (.float .f32 a_y), (.pointer (some ⟨b18, 1, none⟩)), (.pointer (some ⟨b2, 2, none⟩)), (.float .f32 a_z), (.pointer (some ⟨b18, 2, none⟩)), undef]) rfl rfl (does_fieldAddr (ev rfl) fa31_2) rfl ?_
  refine seqn rfl rfl (does_store (n := 1) (cs := [(.float .f32 a_x), (.float .f32 a_y), (.float .f32 0)]) (u := (.float .f32 a_z)) (ev rfl) (ev rfl) Try.sizeOf25 rfl hB34 (Nat.le_of_ble_eq_true rfl) rfl) ?_; rintro _ w40 ⟨rfl, W38, hB39⟩
  change Blk _ _ [(.float .f32 a_x), (.float .f32 a_y), (.float .f32 a_z)] at hB39
  have X41 := Below.wr X36 W38 g25
  refine wpList_nil (hK37 _ _ ?_)
  refine wp_seq_k fun K42 hK42 => ?_
  refine wp_region_lit ?_
  refine q_is (l' := [(.agg #[(.float .f32 a_x), (.float .f32 a_y), (.float .f32 a_z)]), (.pointer (some ⟨b2, 0, none⟩)), (.pointer (some ⟨b9, 0, none⟩)), (.pointer (some ⟨b18, 0, none⟩)), (.pointer (some ⟨b2, 0, none⟩)), (.float .f32 a_x), (.pointer (some ⟨b18, 0, none⟩)), (.pointer (some ⟨b2, 1, none⟩)), (.float .f32 a_y), (.pointer (some ⟨b18, 1, none⟩)), (.pointer (some ⟨b2, 2, none⟩)), (.float .f32 a_z), (.pointer (some ⟨b18, 2, none⟩)), (.agg #[(.float .f32 a_x), (.float .f32 a_y), (.float .f32 a_z)])]) rfl rfl (does_loadAgg (cs := [(.float .f32 a_x), (.float .f32 a_y), (.float .f32 a_z)]) (ev rfl) Try.isAgg31 Try.sizeOf31 (Blk.cells hB39) rfl) rfl ?_
  refine seqn rfl rfl (does_store (n := 3) (cs := [(.float .f32 0), (.float .f32 0), (.float .f32 0)]) (u := (.agg #[(.float .f32 a_x), (.float .f32 a_y), (.float .f32 a_z)])) (ev rfl) (ev rfl) Try.sizeOf31 rfl ((((hB11.ext E21).wr W28 (Nat.ne_of_lt n24)).wr W33 (Nat.ne_of_lt n24)).wr W38 (Nat.ne_of_lt n24)) (Nat.le_of_ble_eq_true rfl) rfl) ?_; rintro _ w45 ⟨rfl, W43, hB44⟩
  change Blk _ _ [(.float .f32 a_x), (.float .f32 a_y), (.float .f32 a_z)] at hB44
  have X46 := Below.wr X41 W43 g15
  refine wpList_nil (hK42 _ _ ?_)
  refine wp_ret ?_
  refine ret_val (v := (.agg #[(.float .f32 a_x), (.float .f32 a_y), (.float .f32 a_z)])) (res_C rfl (slot rfl) (run_loadAgg (cs := [(.float .f32 a_x), (.float .f32 a_y), (.float .f32 a_z)]) Try.isAgg31 Try.sizeOf31 (Blk.cells hB44) rfl)) X46 ?_
  have x47 : cf .f32 a_x = (cf .f32 a_x) := by first | rfl | (simp only []; done) | (simp []; done)
  have x48 : cf .f32 a_y = (cf .f32 a_y) := by first | rfl | (simp only []; done) | (simp []; done)
  have x49 : cf .f32 a_z = (cf .f32 a_z) := by first | rfl | (simp only []; done) | (simp []; done)
  exact ⟨a_x, a_y, a_z, rfl, x47, x48, x49⟩

/- laws.toBox -/
theorem c_laws_toBox (b_lx : Nat) (b_ly : Nat) (b_lz : Nat) (b_hx : Nat) (b_hy : Nat) (b_hz : Nat) (w : World) : Gives Try.prog 18 #[(.agg #[(.float .f32 b_lx), (.float .f32 b_ly), (.float .f32 b_lz), (.float .f32 b_hx), (.float .f32 b_hy), (.float .f32 b_hz)])] w (fun v w' => ∃ r_1 : Nat, ∃ r_2 : Nat, ∃ r_3 : Nat, ∃ r_4 : Nat, ∃ r_5 : Nat, ∃ r_6 : Nat, v = (.agg #[(.float .f32 r_1), (.float .f32 r_2), (.float .f32 r_3), (.float .f32 r_4), (.float .f32 r_5), (.float .f32 r_6)]) ∧ cf .f32 r_1 = (cf .f32 b_lx) ∧ cf .f32 r_2 = (cf .f32 b_ly) ∧ cf .f32 r_3 = (cf .f32 b_lz) ∧ cf .f32 r_4 = (cf .f32 b_hx) ∧ cf .f32 r_5 = (cf .f32 b_hy) ∧ cf .f32 r_6 = (cf .f32 b_hz)) := by
  refine enter [(.agg #[(.float .f32 b_lx), (.float .f32 b_ly), (.float .f32 b_lz), (.float .f32 b_hx), (.float .f32 b_hy), (.float .f32 b_hz)]), undef, undef, undef, undef, undef, undef, undef, undef, undef, undef, undef, undef] Try.func18 rfl Try.ntmps18 rfl ?_
  refine wp_seq_k fun K1 hK1 => ?_
  refine wp_region_lit ?_
  refine seqd rfl rfl (does_box (u := (.agg #[(.float .f32 b_lx), (.float .f32 b_ly), (.float .f32 b_lz), (.float .f32 b_hx), (.float .f32 b_hy), (.float .f32 b_hz)])) (ev rfl)) ?_; rintro _ w6 ⟨b2, rfl, hb3, hB4, E5⟩
  have g7 : w.heap.size ≤ b2 := Nat.le_trans (Below.size (Ext.refl w)) hb3
  change Blk _ _ [(.float .f32 b_lx), (.float .f32 b_ly), (.float .f32 b_lz), (.float .f32 b_hx), (.float .f32 b_hy), (.float .f32 b_hz)] at hB4
  have X8 := Ext.gr (Ext.refl w) E5
  show wpList _ _ _ _ (fr [(.agg #[(.float .f32 b_lx), (.float .f32 b_ly), (.float .f32 b_lz), (.float .f32 b_hx), (.float .f32 b_hy), (.float .f32 b_hz)]), (.pointer (some ⟨b2, 0, none⟩)), undef, undef, undef, undef, undef, undef, undef, undef, undef, undef, undef]) _
  refine seqd rfl rfl (does_alloc z33) ?_; rintro _ w13 ⟨b9, rfl, hb10, hB11, E12⟩
  have n14 : b2 < b9 := Nat.lt_of_lt_of_le (Blk.lt hB4) hb10
  have g15 : w.heap.size ≤ b9 := Nat.le_trans (Below.size X8) hb10
  change Blk _ _ [(.float .f32 0), (.float .f32 0), (.float .f32 0), (.float .f32 0), (.float .f32 0), (.float .f32 0)] at hB11
  have X16 := Ext.gr X8 E12
  show wpList _ _ _ _ (fr [(.agg #[(.float .f32 b_lx), (.float .f32 b_ly), (.float .f32 b_lz), (.float .f32 b_hx), (.float .f32 b_hy), (.float .f32 b_hz)]), (.pointer (some ⟨b2, 0, none⟩)), (.pointer (some ⟨b9, 0, none⟩)), undef, undef, undef, undef, undef, undef, undef, undef, undef, undef]) _
  refine wpList_nil (hK1 _ _ ?_)
  refine wp_seq_k fun K17 hK17 => ?_
  refine wp_region_lit ?_
  refine seqd rfl rfl (does_alloc z33) ?_; rintro _ w22 ⟨b18, rfl, hb19, hB20, E21⟩
  have n23 : b2 < b18 := Nat.lt_of_lt_of_le (Blk.lt (hB4.ext E12)) hb19
  have n24 : b9 < b18 := Nat.lt_of_lt_of_le (Blk.lt hB11) hb19
  have g25 : w.heap.size ≤ b18 := Nat.le_trans (Below.size X16) hb19
  change Blk _ _ [(.float .f32 0), (.float .f32 0), (.float .f32 0), (.float .f32 0), (.float .f32 0), (.float .f32 0)] at hB20
  have X26 := Ext.gr X16 E21
  show wpList _ _ _ _ (fr [(.agg #[(.float .f32 b_lx), (.float .f32 b_ly), (.float .f32 b_lz), (.float .f32 b_hx), (.float .f32 b_hy), (.float .f32 b_hz)]), (.pointer (some ⟨b2, 0, none⟩)), (.pointer (some ⟨b9, 0, none⟩)), (.pointer (some ⟨b18, 0, none⟩)), undef, undef, undef, undef, undef, undef, undef, undef, undef]) _
  refine wpList_nil (hK17 _ _ ?_)
  refine wp_seq_k fun K27 hK27 => ?_
  refine wp_region_lit ?_
  refine q_is (l' := [(.agg #[(.float .f32 b_lx), (.float .f32 b_ly), (.float .f32 b_lz), (.float .f32 b_hx), (.float .f32 b_hy), (.float .f32 b_hz)]), (.pointer (some ⟨b2, 0, none⟩)), (.pointer (some ⟨b9, 0, none⟩)), (.pointer (some ⟨b18, 0, none⟩)), (.pointer (some ⟨b2, 0, none⟩)), undef, undef, undef, undef, undef, undef, undef, undef]) rfl rfl (does_fieldAddr (ev rfl) fa29_0) rfl ?_
  refine q_is (l' := [(.agg #[(.float .f32 b_lx), (.float .f32 b_ly), (.float .f32 b_lz), (.float .f32 b_hx), (.float .f32 b_hy), (.float .f32 b_hz)]), (.pointer (some ⟨b2, 0, none⟩)), (.pointer (some ⟨b9, 0, none⟩)), (.pointer (some ⟨b18, 0, none⟩)), (.pointer (some ⟨b2, 0, none⟩)), (.agg #[(.float .f32 b_lx), (.float .f32 b_ly), (.float .f32 b_lz)]), undef, undef, undef, undef, undef, undef, undef]) rfl rfl (does_loadAgg (cs := [(.float .f32 b_lx), (.float .f32 b_ly), (.float .f32 b_lz)]) (ev rfl) Try.isAgg27 Try.sizeOf27 (Cells.sub (Blk.cells ((hB4.ext E12).ext E21)) 0 3) rfl) rfl ?_
  refine seqd rfl rfl (does_call (args := #[(.agg #[(.float .f32 b_lx), (.float .f32 b_ly), (.float .f32 b_lz)])]) cal21 (evs rfl) (c_laws_toVector b_lx b_ly b_lz _)) ?_; rintro _ w29 ⟨E28, ⟨r30, r31, r32, rfl, h33, h34, h35⟩⟩
  have X36 := Ext.gr X26 E28
  show wpList _ _ _ _ (fr [(.agg #[(.float .f32 b_lx), (.float .f32 b_ly), (.float .f32 b_lz), (.float .f32 b_hx), (.float .f32 b_hy), (.float .f32 b_hz)]), (.pointer (some ⟨b2, 0, none⟩)), (.pointer (some ⟨b9, 0, none⟩)), (.pointer (some ⟨b18, 0, none⟩)), (.pointer (some ⟨b2, 0, none⟩)), (.agg #[(.float .f32 b_lx), (.float .f32 b_ly), (.float .f32 b_lz)]), (.agg #[(.float .f32 r30), (.float .f32 r31), (.float .f32 r32)]), undef, undef, undef, undef, undef, undef]) _
  refine q_is (l' := [(.agg #[(.float .f32 b_lx), (.float .f32 b_ly), (.float .f32 b_lz), (.float .f32 b_hx), (.float .f32 b_hy), (.float .f32 b_hz)]), (.pointer (some ⟨b2, 0, none⟩)), (.pointer (some ⟨b9, 0, none⟩)), (.pointer (some ⟨b18, 0, none⟩)), (.pointer (some ⟨b2, 0, none⟩)), (.agg #[(.float .f32 b_lx), (.float .f32 b_ly), (.float .f32 b_lz)]), (.agg #[(.float .f32 r30), (.float .f32 r31), (.float .f32 r32)]), (.pointer (some ⟨b18, 0, none⟩)), undef, undef, undef, undef, undef]) rfl rfl (does_fieldAddr (ev rfl) fa33_0) rfl ?_
  refine seqn rfl rfl (does_store (n := 3) (cs := [(.float .f32 0), (.float .f32 0), (.float .f32 0), (.float .f32 0), (.float .f32 0), (.float .f32 0)]) (u := (.agg #[(.float .f32 r30), (.float .f32 r31), (.float .f32 r32)])) (ev rfl) (ev rfl) Try.sizeOf31 rfl (hB20.ext E28) (Nat.le_of_ble_eq_true rfl) rfl) ?_; rintro _ w39 ⟨rfl, W37, hB38⟩
  change Blk _ _ [(.float .f32 r30), (.float .f32 r31), (.float .f32 r32), (.float .f32 0), (.float .f32 0), (.float .f32 0)] at hB38
  have X40 := Below.wr X36 W37 g25
  refine wpList_nil (hK27 _ _ ?_)
  refine wp_seq_k fun K41 hK41 => ?_
  refine wp_region_lit ?_
  refine q_is (l' := [(.agg #[(.float .f32 b_lx), (.float .f32 b_ly), (.float .f32 b_lz), (.float .f32 b_hx), (.float .f32 b_hy), (.float .f32 b_hz)]), (.pointer (some ⟨b2, 0, none⟩)), (.pointer (some ⟨b9, 0, none⟩)), (.pointer (some ⟨b18, 0, none⟩)), (.pointer (some ⟨b2, 0, none⟩)), (.agg #[(.float .f32 b_lx), (.float .f32 b_ly), (.float .f32 b_lz)]), (.agg #[(.float .f32 r30), (.float .f32 r31), (.float .f32 r32)]), (.pointer (some ⟨b18, 0, none⟩)), (.pointer (some ⟨b2, 3, none⟩)), undef, undef, undef, undef]) rfl rfl (does_fieldAddr (ev rfl) fa29_1) rfl ?_
  refine q_is (l' := [(.agg #[(.float .f32 b_lx), (.float .f32 b_ly), (.float .f32 b_lz), (.float .f32 b_hx), (.float .f32 b_hy), (.float .f32 b_hz)]), (.pointer (some ⟨b2, 0, none⟩)), (.pointer (some ⟨b9, 0, none⟩)), (.pointer (some ⟨b18, 0, none⟩)), (.pointer (some ⟨b2, 0, none⟩)), (.agg #[(.float .f32 b_lx), (.float .f32 b_ly), (.float .f32 b_lz)]), (.agg #[(.float .f32 r30), (.float .f32 r31), (.float .f32 r32)]), (.pointer (some ⟨b18, 0, none⟩)), (.pointer (some ⟨b2, 3, none⟩)), (.agg #[(.float .f32 b_hx), (.float .f32 b_hy), (.float .f32 b_hz)]), undef, undef, undef]) rfl rfl (does_loadAgg (cs := [(.float .f32 b_hx), (.float .f32 b_hy), (.float .f32 b_hz)]) (ev rfl) Try.isAgg27 Try.sizeOf27 (Cells.sub (Blk.cells ((((hB4.ext E12).ext E21).ext E28).wr W37 (Nat.ne_of_lt n23))) 3 3) rfl) rfl ?_
  refine seqd rfl rfl (does_call (args := #[(.agg #[(.float .f32 b_hx), (.float .f32 b_hy), (.float .f32 b_hz)])]) cal21 (evs rfl) (c_laws_toVector b_hx b_hy b_hz _)) ?_; rintro _ w43 ⟨E42, ⟨r44, r45, r46, rfl, h47, h48, h49⟩⟩
  have X50 := Ext.gr X40 E42
  show wpList _ _ _ _ (fr [(.agg #[(.float .f32 b_lx), (.float .f32 b_ly), (.float .f32 b_lz), (.float .f32 b_hx), (.float .f32 b_hy), (.float .f32 b_hz)]), (.pointer (some ⟨b2, 0, none⟩)), (.pointer (some ⟨b9, 0, none⟩)), (.pointer (some ⟨b18, 0, none⟩)), (.pointer (some ⟨b2, 0, none⟩)), (.agg #[(.float .f32 b_lx), (.float .f32 b_ly), (.float .f32 b_lz)]), (.agg #[(.float .f32 r30), (.float .f32 r31), (.float .f32 r32)]), (.pointer (some ⟨b18, 0, none⟩)), (.pointer (some ⟨b2, 3, none⟩)), (.agg #[(.float .f32 b_hx), (.float .f32 b_hy), (.float .f32 b_hz)]), (.agg #[(.float .f32 r44), (.float .f32 r45), (.float .f32 r46)]), undef, undef]) _
  refine q_is (l' := [(.agg #[(.float .f32 b_lx), (.float .f32 b_ly), (.float .f32 b_lz), (.float .f32 b_hx), (.float .f32 b_hy), (.float .f32 b_hz)]), (.pointer (some ⟨b2, 0, none⟩)), (.pointer (some ⟨b9, 0, none⟩)), (.pointer (some ⟨b18, 0, none⟩)), (.pointer (some ⟨b2, 0, none⟩)), (.agg #[(.float .f32 b_lx), (.float .f32 b_ly), (.float .f32 b_lz)]), (.agg #[(.float .f32 r30), (.float .f32 r31), (.float .f32 r32)]), (.pointer (some ⟨b18, 0, none⟩)), (.pointer (some ⟨b2, 3, none⟩)), (.agg #[(.float .f32 b_hx), (.float .f32 b_hy), (.float .f32 b_hz)]), (.agg #[(.float .f32 r44), (.float .f32 r45), (.float .f32 r46)]), (.pointer (some ⟨b18, 3, none⟩)), undef]) rfl rfl (does_fieldAddr (ev rfl) fa33_1) rfl ?_
  refine seqn rfl rfl (does_store (n := 3) (cs := [(.float .f32 r30), (.float .f32 r31), (.float .f32 r32), (.float .f32 0), (.float .f32 0), (.float .f32 0)]) (u := (.agg #[(.float .f32 r44), (.float .f32 r45), (.float .f32 r46)])) (ev rfl) (ev rfl) Try.sizeOf31 rfl (hB38.ext E42) (Nat.le_of_ble_eq_true rfl) rfl) ?_; rintro _ w53 ⟨rfl, W51, hB52⟩
  change Blk _ _ [(.float .f32 r30), (.float .f32 r31), (.float .f32 r32), (.float .f32 r44), (.float .f32 r45), (.float .f32 r46)] at hB52
  have X54 := Below.wr X50 W51 g25
  refine wpList_nil (hK41 _ _ ?_)
  refine wp_seq_k fun K55 hK55 => ?_
  refine wp_region_lit ?_
  refine q_is (l' := [(.agg #[(.float .f32 b_lx), (.float .f32 b_ly), (.float .f32 b_lz), (.float .f32 b_hx), (.float .f32 b_hy), (.float .f32 b_hz)]), (.pointer (some ⟨b2, 0, none⟩)), (.pointer (some ⟨b9, 0, none⟩)), (.pointer (some ⟨b18, 0, none⟩)), (.pointer (some ⟨b2, 0, none⟩)), (.agg #[(.float .f32 b_lx), (.float .f32 b_ly), (.float .f32 b_lz)]), (.agg #[(.float .f32 r30), (.float .f32 r31), (.float .f32 r32)]), (.pointer (some ⟨b18, 0, none⟩)), (.pointer (some ⟨b2, 3, none⟩)), (.agg #[(.float .f32 b_hx), (.float .f32 b_hy), (.float .f32 b_hz)]), (.agg #[(.float .f32 r44), (.float .f32 r45), (.float .f32 r46)]), (.pointer (some ⟨b18, 3, none⟩)), (.agg #[(.float .f32 r30), (.float .f32 r31), (.float .f32 r32), (.float .f32 r44), (.float .f32 r45), (.float .f32 r46)])]) rfl rfl (does_loadAgg (cs := [(.float .f32 r30), (.float .f32 r31), (.float .f32 r32), (.float .f32 r44), (.float .f32 r45), (.float .f32 r46)]) (ev rfl) Try.isAgg33 Try.sizeOf33 (Blk.cells hB52) rfl) rfl ?_
  refine seqn rfl rfl (does_store (n := 6) (cs := [(.float .f32 0), (.float .f32 0), (.float .f32 0), (.float .f32 0), (.float .f32 0), (.float .f32 0)]) (u := (.agg #[(.float .f32 r30), (.float .f32 r31), (.float .f32 r32), (.float .f32 r44), (.float .f32 r45), (.float .f32 r46)])) (ev rfl) (ev rfl) Try.sizeOf33 rfl (((((hB11.ext E21).ext E28).wr W37 (Nat.ne_of_lt n24)).ext E42).wr W51 (Nat.ne_of_lt n24)) (Nat.le_of_ble_eq_true rfl) rfl) ?_; rintro _ w58 ⟨rfl, W56, hB57⟩
  change Blk _ _ [(.float .f32 r30), (.float .f32 r31), (.float .f32 r32), (.float .f32 r44), (.float .f32 r45), (.float .f32 r46)] at hB57
  have X59 := Below.wr X54 W56 g15
  refine wpList_nil (hK55 _ _ ?_)
  refine wp_ret ?_
  refine ret_val (v := (.agg #[(.float .f32 r30), (.float .f32 r31), (.float .f32 r32), (.float .f32 r44), (.float .f32 r45), (.float .f32 r46)])) (res_C rfl (slot rfl) (run_loadAgg (cs := [(.float .f32 r30), (.float .f32 r31), (.float .f32 r32), (.float .f32 r44), (.float .f32 r45), (.float .f32 r46)]) Try.isAgg33 Try.sizeOf33 (Blk.cells hB57) rfl)) X59 ?_
  have x60 : cf .f32 r30 = (cf .f32 b_lx) := by first | rfl | (simp only [h33, h34, h35, h47, h48, h49]; done) | (simp [h33, h34, h35, h47, h48, h49]; done)
  have x61 : cf .f32 r31 = (cf .f32 b_ly) := by first | rfl | (simp only [h33, h34, h35, h47, h48, h49]; done) | (simp [h33, h34, h35, h47, h48, h49]; done)
  have x62 : cf .f32 r32 = (cf .f32 b_lz) := by first | rfl | (simp only [h33, h34, h35, h47, h48, h49]; done) | (simp [h33, h34, h35, h47, h48, h49]; done)
  have x63 : cf .f32 r44 = (cf .f32 b_hx) := by first | rfl | (simp only [h33, h34, h35, h47, h48, h49]; done) | (simp [h33, h34, h35, h47, h48, h49]; done)
  have x64 : cf .f32 r45 = (cf .f32 b_hy) := by first | rfl | (simp only [h33, h34, h35, h47, h48, h49]; done) | (simp [h33, h34, h35, h47, h48, h49]; done)
  have x65 : cf .f32 r46 = (cf .f32 b_hz) := by first | rfl | (simp only [h33, h34, h35, h47, h48, h49]; done) | (simp [h33, h34, h35, h47, h48, h49]; done)
  exact ⟨r30, r31, r32, r44, r45, r46, rfl, x60, x61, x62, x63, x64, x65⟩

/- slices.IndexFunc[[]float32,float32] -/
theorem c_slices_IndexFunc_float32_float32 (xs : Value) (L_xs : List Nat) (f : Value) (pr_f : Nat → Bool) (w : World) (hv_xs : Sl RF 1 w xs L_xs) (hv_f : TellsF Try.prog f w pr_f) : Gives Try.prog 130 #[xs, f] w (fun v w' => v = (.int .i64 (findI pr_f L_xs))) := by
  have hlen_xs := Sl.len hv_xs; obtain ⟨p_xs, q_xs, rfl⟩ := Sl.shape hv_xs
  obtain ⟨f_f, s_f, c_f, rfl, hcal_f, hg_f⟩ := hv_f
  refine enter [(.slice p_xs L_xs.length q_xs), (.func (.func f_f) s_f c_f), undef, undef, undef, undef, undef, undef, undef, undef, undef, undef, undef, undef, undef, undef, undef, undef, undef] Try.func130 rfl Try.ntmps130 rfl ?_
  refine wp_seq_k fun K1 hK1 => ?_
  refine wp_region_lit ?_
  refine q_is (l' := [(.slice p_xs L_xs.length q_xs), (.func (.func f_f) s_f c_f), undef, undef, (.int .i64 0), undef, undef, undef, undef, undef, undef, undef, undef, undef, undef, undef, undef, undef, undef]) rfl rfl (does_assign (u := (.int .i64 0)) (ev rfl)) rfl ?_
  refine wpList_nil (hK1 _ _ ?_)
  refine wp_seq_k fun K2 hK2 => ?_
  refine wp_seq_k fun K3 hK3 => ?_
  refine wp_region_lit ?_
  refine q_is (l' := [(.slice p_xs L_xs.length q_xs), (.func (.func f_f) s_f c_f), undef, undef, (.int .i64 0), undef, (.slice p_xs L_xs.length q_xs), undef, undef, undef, undef, undef, undef, undef, undef, undef, undef, undef, undef]) rfl rfl (does_move (u := (.slice p_xs L_xs.length q_xs)) (ev rfl)) rfl ?_
  refine q_is (l' := [(.slice p_xs L_xs.length q_xs), (.func (.func f_f) s_f c_f), undef, undef, (.int .i64 0), undef, (.slice p_xs L_xs.length q_xs), (.int .i64 (L_xs.length : Int)), undef, undef, undef, undef, undef, undef, undef, undef, undef, undef, undef]) rfl rfl (does_len_slice Try.underlying73 (ev rfl)) rfl ?_
  refine q_is (l' := [(.slice p_xs L_xs.length q_xs), (.func (.func f_f) s_f c_f), undef, undef, (.int .i64 0), undef, (.slice p_xs L_xs.length q_xs), (.int .i64 (L_xs.length : Int)), (.int .i64 0), undef, undef, undef, undef, undef, undef, undef, undef, undef, undef]) rfl rfl (does_move (u := (.int .i64 0)) (ev rfl)) rfl ?_
  refine wpList_nil (hK3 _ _ ?_)
  refine wp_block ?_
  refine loop_ghost (σ := Nat) (fun k a w' => ∃ u4 : Nat → Value, a = fr [(.slice p_xs L_xs.length q_xs), (.func (.func f_f) s_f c_f), undef, undef, (u4 4), (u4 5), (.slice p_xs L_xs.length q_xs), (.int .i64 (L_xs.length : Int)), (.int .i64 (k : Int)), (u4 9), (u4 10), (u4 11), (u4 12), (u4 13), (u4 14), (u4 15), (u4 16), (u4 17), (u4 18)] ∧ Ext w w' ∧ (k ≤ L_xs.length ∧ NoneTo pr_f L_xs k)) (fun k => L_xs.length - k) 0 ?_ ?_
  · refine ⟨fun t => (([(.slice p_xs L_xs.length q_xs), (.func (.func f_f) s_f c_f), undef, undef, (.int .i64 0), undef, (.slice p_xs L_xs.length q_xs), (.int .i64 (L_xs.length : Int)), (.int .i64 0), undef, undef, undef, undef, undef, undef, undef, undef, undef, undef] : List Value)[t]?).getD undef, rfl, Ext.refl _, ?_⟩
    exact ⟨Nat.zero_le _, NoneTo.zero⟩
  · rintro k a w5 ⟨u4, rfl, E6, ⟨hk, hno⟩⟩
    have X7 := Ext.gr (Ext.refl w) E6
    refine wp_seq_k fun K8 hK8 => ?_
    refine wp_region_lit ?_
    refine q_is (l' := [(.slice p_xs L_xs.length q_xs), (.func (.func f_f) s_f c_f), undef, undef, (u4 4), (u4 5), (.slice p_xs L_xs.length q_xs), (.int .i64 (L_xs.length : Int)), (.int .i64 (k : Int)), (.bool (icmp .lss (k : Int) (L_xs.length : Int))), (u4 10), (u4 11), (u4 12), (u4 13), (u4 14), (u4 15), (u4 16), (u4 17), (u4 18)]) rfl rfl (does_icmp (p := (k : Int)) (q := (L_xs.length : Int)) (.inr (.inr (.inl rfl))) (ev rfl) (ev rfl)) rfl ?_
    refine wpList_nil (hK8 _ _ ?_)
    refine wp_seq_k fun K9 hK9 => ?_
    refine wp_cond_split (t := icmp .lss (k : Int) (L_xs.length : Int)) (ev rfl) (fun c10 => ?_) (fun c10 => ?_)
    · have c10' := c10
      (try simp only [icmp, Bool.and_eq_true, Bool.or_eq_true, Bool.and_eq_false_iff, Bool.or_eq_false_iff, Bool.not_eq_true', Bool.not_eq_false', decide_eq_true_eq, decide_eq_false_iff_not, beq_iff_eq, bne_iff_ne, beq_eq_false_iff_ne, bne_eq_false_iff_eq] at c10')
      refine wp_skip (hK9 _ _ ?_)
      refine wp_seq_k fun K11 hK11 => ?_
      refine wp_block ?_
      refine wp_seq_k fun K12 hK12 => ?_
      refine wp_region_lit ?_
      refine q_is (l' := [(.slice p_xs L_xs.length q_xs), (.func (.func f_f) s_f c_f), undef, undef, (u4 4), (u4 5), (.slice p_xs L_xs.length q_xs), (.int .i64 (L_xs.length : Int)), (.int .i64 (k : Int)), (.bool (icmp .lss (k : Int) (L_xs.length : Int))), (.int .i64 (k : Int)), (u4 11), (u4 12), (u4 13), (u4 14), (u4 15), (u4 16), (u4 17), (u4 18)]) rfl rfl (does_move (u := (.int .i64 (k : Int))) (ev rfl)) rfl ?_
      refine q_is (l' := [(.slice p_xs L_xs.length q_xs), (.func (.func f_f) s_f c_f), undef, undef, (u4 4), (.int .i64 (k : Int)), (.slice p_xs L_xs.length q_xs), (.int .i64 (L_xs.length : Int)), (.int .i64 (k : Int)), (.bool (icmp .lss (k : Int) (L_xs.length : Int))), (.int .i64 (k : Int)), (u4 11), (u4 12), (u4 13), (u4 14), (u4 15), (u4 16), (u4 17), (u4 18)]) rfl rfl (does_assign (u := (.int .i64 (k : Int))) (ev rfl)) rfl ?_
      refine wpList_nil (hK12 _ _ ?_)
      refine wp_seq_k fun K13 hK13 => ?_
      refine wp_region_lit ?_
      refine q_is (l' := [(.slice p_xs L_xs.length q_xs), (.func (.func f_f) s_f c_f), undef, undef, (u4 4), (.int .i64 (k : Int)), (.slice p_xs L_xs.length q_xs), (.int .i64 (L_xs.length : Int)), (.int .i64 (k : Int)), (.bool (icmp .lss (k : Int) (L_xs.length : Int))), (.int .i64 (k : Int)), (.func (.func f_f) s_f c_f), (u4 12), (u4 13), (u4 14), (u4 15), (u4 16), (u4 17), (u4 18)]) rfl rfl (does_move (u := (.func (.func f_f) s_f c_f)) (ev rfl)) rfl ?_
      refine q_is (l' := [(.slice p_xs L_xs.length q_xs), (.func (.func f_f) s_f c_f), undef, undef, (u4 4), (.int .i64 (k : Int)), (.slice p_xs L_xs.length q_xs), (.int .i64 (L_xs.length : Int)), (.int .i64 (k : Int)), (.bool (icmp .lss (k : Int) (L_xs.length : Int))), (.int .i64 (k : Int)), (.func (.func f_f) s_f c_f), (.slice p_xs L_xs.length q_xs), (u4 13), (u4 14), (u4 15), (u4 16), (u4 17), (u4 18)]) rfl rfl (does_move (u := (.slice p_xs L_xs.length q_xs)) (ev rfl)) rfl ?_
      refine q_is (l' := [(.slice p_xs L_xs.length q_xs), (.func (.func f_f) s_f c_f), undef, undef, (u4 4), (.int .i64 (k : Int)), (.slice p_xs L_xs.length q_xs), (.int .i64 (L_xs.length : Int)), (.int .i64 (k : Int)), (.bool (icmp .lss (k : Int) (L_xs.length : Int))), (.int .i64 (k : Int)), (.func (.func f_f) s_f c_f), (.slice p_xs L_xs.length q_xs), (.int .i64 (k : Int)), (u4 14), (u4 15), (u4 16), (u4 17), (u4 18)]) rfl rfl (does_move (u := (.int .i64 (k : Int))) (ev rfl)) rfl ?_
      obtain ⟨e14, he15⟩ : ∃ e, L_xs[k]? = some e := ⟨_, List.getElem?_eq_getElem (by omega)⟩
      refine seqd rfl rfl (does_indexSl (R := RF) (i := (k : Int)) (xs := L_xs) (e := e14) Try.underlying73 Try.sizeOf25 (ev rfl) (ev rfl) (Sl.ext hv_xs RF.mono X7) (by omega) he15) ?_; rintro _ _ ⟨b16, o17, _, rfl, hc19, ⟨r20, rfl, h21⟩, rfl⟩
      show wpList _ _ _ _ (fr [(.slice p_xs L_xs.length q_xs), (.func (.func f_f) s_f c_f), undef, undef, (u4 4), (.int .i64 (k : Int)), (.slice p_xs L_xs.length q_xs), (.int .i64 (L_xs.length : Int)), (.int .i64 (k : Int)), (.bool (icmp .lss (k : Int) (L_xs.length : Int))), (.int .i64 (k : Int)), (.func (.func f_f) s_f c_f), (.slice p_xs L_xs.length q_xs), (.int .i64 (k : Int)), (.pointer (some ⟨b16, o17, none⟩)), (u4 15), (u4 16), (u4 17), (u4 18)]) _
      refine q_is (l' := [(.slice p_xs L_xs.length q_xs), (.func (.func f_f) s_f c_f), undef, undef, (u4 4), (.int .i64 (k : Int)), (.slice p_xs L_xs.length q_xs), (.int .i64 (L_xs.length : Int)), (.int .i64 (k : Int)), (.bool (icmp .lss (k : Int) (L_xs.length : Int))), (.int .i64 (k : Int)), (.func (.func f_f) s_f c_f), (.slice p_xs L_xs.length q_xs), (.int .i64 (k : Int)), (.pointer (some ⟨b16, o17, none⟩)), (.float .f32 r20), (u4 16), (u4 17), (u4 18)]) rfl rfl (does_load (u := (.float .f32 r20)) (ev rfl) Try.isAgg25 (Cells.at hc19 0 rfl)) rfl ?_
      refine seqd rfl rfl (does_callf (args := #[(.float .f32 r20)]) (ev rfl) hcal_f (evs rfl) (hg_f r20 _ X7)) ?_; rintro _ w23 ⟨E22, rfl⟩
      have X24 := Ext.gr X7 E22
      show wpList _ _ _ _ (fr [(.slice p_xs L_xs.length q_xs), (.func (.func f_f) s_f c_f), undef, undef, (u4 4), (.int .i64 (k : Int)), (.slice p_xs L_xs.length q_xs), (.int .i64 (L_xs.length : Int)), (.int .i64 (k : Int)), (.bool (icmp .lss (k : Int) (L_xs.length : Int))), (.int .i64 (k : Int)), (.func (.func f_f) s_f c_f), (.slice p_xs L_xs.length q_xs), (.int .i64 (k : Int)), (.pointer (some ⟨b16, o17, none⟩)), (.float .f32 r20), (.bool (pr_f (cf .f32 r20))), (u4 17), (u4 18)]) _
      refine wpList_nil (hK13 _ _ ?_)
      refine wp_cond_split (t := pr_f (cf .f32 r20)) (ev rfl) (fun c25 => ?_) (fun c25 => ?_)
      · have c25' := c25
        refine wp_seq_k fun K26 hK26 => ?_
        refine wp_region_lit ?_
        refine q_is (l' := [(.slice p_xs L_xs.length q_xs), (.func (.func f_f) s_f c_f), undef, undef, (u4 4), (.int .i64 (k : Int)), (.slice p_xs L_xs.length q_xs), (.int .i64 (L_xs.length : Int)), (.int .i64 (k : Int)), (.bool (icmp .lss (k : Int) (L_xs.length : Int))), (.int .i64 (k : Int)), (.func (.func f_f) s_f c_f), (.slice p_xs L_xs.length q_xs), (.int .i64 (k : Int)), (.pointer (some ⟨b16, o17, none⟩)), (.float .f32 r20), (.bool (pr_f (cf .f32 r20))), (.int .i64 (k : Int)), (u4 18)]) rfl rfl (does_move (u := (.int .i64 (k : Int))) (ev rfl)) rfl ?_
        refine q_is (l' := [(.slice p_xs L_xs.length q_xs), (.func (.func f_f) s_f c_f), undef, undef, (.int .i64 (k : Int)), (.int .i64 (k : Int)), (.slice p_xs L_xs.length q_xs), (.int .i64 (L_xs.length : Int)), (.int .i64 (k : Int)), (.bool (icmp .lss (k : Int) (L_xs.length : Int))), (.int .i64 (k : Int)), (.func (.func f_f) s_f c_f), (.slice p_xs L_xs.length q_xs), (.int .i64 (k : Int)), (.pointer (some ⟨b16, o17, none⟩)), (.float .f32 r20), (.bool (pr_f (cf .f32 r20))), (.int .i64 (k : Int)), (u4 18)]) rfl rfl (does_assign (u := (.int .i64 (k : Int))) (ev rfl)) rfl ?_
        refine wpList_nil (hK26 _ _ ?_)
        refine wp_ret ?_
        dsimp only [Exit.then, Exit.inBlock]
        refine ret_val (v := (.int .i64 (k : Int))) (res_T rfl (slot rfl)) X24 ?_
        try simp only [h21] at c10 c25
        have x27 : (findI pr_f L_xs : Int) = (k : Int) := by first | exact findI_at hno (by assumption) (by simp_all) | exact findI_none hno (by omega)
        exact (by first | rfl | rw [x27])
      have c25' := c25
      refine wp_skip (hK11 _ _ ?_)
      refine wp_region_lit ?_
      refine q_is (l' := [(.slice p_xs L_xs.length q_xs), (.func (.func f_f) s_f c_f), undef, undef, (u4 4), (.int .i64 (k : Int)), (.slice p_xs L_xs.length q_xs), (.int .i64 (L_xs.length : Int)), (.int .i64 (k : Int)), (.bool (icmp .lss (k : Int) (L_xs.length : Int))), (.int .i64 (k : Int)), (.func (.func f_f) s_f c_f), (.slice p_xs L_xs.length q_xs), (.int .i64 (k : Int)), (.pointer (some ⟨b16, o17, none⟩)), (.float .f32 r20), (.bool (pr_f (cf .f32 r20))), (u4 17), (.int .i64 ((k : Int) + 1))]) rfl rfl (does_iarith (p := (k : Int)) (q := 1) (r := (k : Int) + 1) (ev rfl) (ev rfl) (.inl ⟨rfl, (in_i64 (by omega) (by omega)).symm⟩)) rfl ?_
      refine q_is (l' := [(.slice p_xs L_xs.length q_xs), (.func (.func f_f) s_f c_f), undef, undef, (u4 4), (.int .i64 (k : Int)), (.slice p_xs L_xs.length q_xs), (.int .i64 (L_xs.length : Int)), (.int .i64 ((k : Int) + 1)), (.bool (icmp .lss (k : Int) (L_xs.length : Int))), (.int .i64 (k : Int)), (.func (.func f_f) s_f c_f), (.slice p_xs L_xs.length q_xs), (.int .i64 (k : Int)), (.pointer (some ⟨b16, o17, none⟩)), (.float .f32 r20), (.bool (pr_f (cf .f32 r20))), (u4 17), (.int .i64 ((k : Int) + 1))]) rfl rfl (does_move (u := (.int .i64 ((k : Int) + 1))) (ev rfl)) rfl ?_
      refine wpList_nil ?_
      refine ⟨k + 1, ⟨fun t => (([(.slice p_xs L_xs.length q_xs), (.func (.func f_f) s_f c_f), undef, undef, (u4 4), (.int .i64 (k : Int)), (.slice p_xs L_xs.length q_xs), (.int .i64 (L_xs.length : Int)), (.int .i64 ((k : Int) + 1)), (.bool (icmp .lss (k : Int) (L_xs.length : Int))), (.int .i64 (k : Int)), (.func (.func f_f) s_f c_f), (.slice p_xs L_xs.length q_xs), (.int .i64 (k : Int)), (.pointer (some ⟨b16, o17, none⟩)), (.float .f32 r20), (.bool (pr_f (cf .f32 r20))), (u4 17), (.int .i64 ((k : Int) + 1))] : List Value)[t]?).getD undef, ?_, (Ext.gr E6 E22), ?_⟩, ?_⟩
      · first | rfl | (simp only [Nat.cast_add, Nat.cast_one, Int.natCast_add, Int.natCast_one]; rfl)
      · exact ⟨by omega, NoneTo.step hno (by assumption) (by simp_all)⟩
      · omega
    have c10' := c10
    (try simp only [icmp, Bool.and_eq_true, Bool.or_eq_true, Bool.and_eq_false_iff, Bool.or_eq_false_iff, Bool.not_eq_true', Bool.not_eq_false', decide_eq_true_eq, decide_eq_false_iff_not, beq_iff_eq, bne_iff_ne, beq_eq_false_iff_ne, bne_eq_false_iff_eq] at c10')
    refine wp_exit ?_
    refine hK2 _ _ ?_
    refine wp_seq_k fun K28 hK28 => ?_
    refine wp_region_lit ?_
    refine q_is (l' := [(.slice p_xs L_xs.length q_xs), (.func (.func f_f) s_f c_f), undef, undef, (.int .i64 (-1)), (u4 5), (.slice p_xs L_xs.length q_xs), (.int .i64 (L_xs.length : Int)), (.int .i64 (k : Int)), (.bool (icmp .lss (k : Int) (L_xs.length : Int))), (u4 10), (u4 11), (u4 12), (u4 13), (u4 14), (u4 15), (u4 16), (u4 17), (u4 18)]) rfl rfl (does_assign (u := (.int .i64 (-1))) (ev rfl)) rfl ?_
    refine wpList_nil (hK28 _ _ ?_)
    refine wp_ret ?_
    refine ret_val (v := (.int .i64 (-1))) (res_T rfl (slot rfl)) X7 ?_
    have x29 : (findI pr_f L_xs : Int) = (-1) := by first | exact findI_at hno (by assumption) (by simp_all) | exact findI_none hno (by omega)
    exact (by first | rfl | rw [x29])

/- slices.ContainsFunc[[]float32,float32] -/
theorem c_slices_ContainsFunc_float32_float32 (xs : Value) (L_xs : List Nat) (f : Value) (pr_f : Nat → Bool) (w : World) (hv_xs : Sl RF 1 w xs L_xs) (hv_f : TellsF Try.prog f w pr_f) : Gives Try.prog 119 #[xs, f] w (fun v w' => v = (.bool (L_xs.any pr_f))) := by
  have hlen_xs := Sl.len hv_xs; obtain ⟨p_xs, q_xs, rfl⟩ := Sl.shape hv_xs
  obtain ⟨f_f, s_f, c_f, rfl, hcal_f, hg_f⟩ := hv_f
  refine enter [(.slice p_xs L_xs.length q_xs), (.func (.func f_f) s_f c_f), undef, undef, undef, undef, undef, undef, undef] Try.func119 rfl Try.ntmps119 rfl ?_
  refine wp_seq_k fun K1 hK1 => ?_
  refine wp_region_lit ?_
  refine q_is (l' := [(.slice p_xs L_xs.length q_xs), (.func (.func f_f) s_f c_f), undef, undef, (.bool false), undef, undef, undef, undef]) rfl rfl (does_assign (u := (.bool false)) (ev rfl)) rfl ?_
  refine wpList_nil (hK1 _ _ ?_)
  refine wp_seq_k fun K2 hK2 => ?_
  refine wp_region_lit ?_
  refine q_is (l' := [(.slice p_xs L_xs.length q_xs), (.func (.func f_f) s_f c_f), undef, undef, (.bool false), (.slice p_xs L_xs.length q_xs), undef, undef, undef]) rfl rfl (does_move (u := (.slice p_xs L_xs.length q_xs)) (ev rfl)) rfl ?_
  refine q_is (l' := [(.slice p_xs L_xs.length q_xs), (.func (.func f_f) s_f c_f), undef, undef, (.bool false), (.slice p_xs L_xs.length q_xs), (.func (.func f_f) s_f c_f), undef, undef]) rfl rfl (does_move (u := (.func (.func f_f) s_f c_f)) (ev rfl)) rfl ?_
  refine seqd rfl rfl (does_call (args := #[(.slice p_xs L_xs.length q_xs), (.func (.func f_f) s_f c_f)]) cal130 (evs rfl) (c_slices_IndexFunc_float32_float32 (.slice p_xs L_xs.length q_xs) L_xs (.func (.func f_f) s_f c_f) pr_f _ hv_xs ⟨_, _, _, rfl, hcal_f, fun r u hu' => hg_f r u (Ext.gr (Ext.refl w) hu')⟩)) ?_; rintro _ w4 ⟨E3, rfl⟩
  have X5 := Ext.gr (Ext.refl w) E3
  show wpList _ _ _ _ (fr [(.slice p_xs L_xs.length q_xs), (.func (.func f_f) s_f c_f), undef, undef, (.bool false), (.slice p_xs L_xs.length q_xs), (.func (.func f_f) s_f c_f), (.int .i64 (findI pr_f L_xs)), undef]) _
  refine q_is (l' := [(.slice p_xs L_xs.length q_xs), (.func (.func f_f) s_f c_f), undef, undef, (.bool false), (.slice p_xs L_xs.length q_xs), (.func (.func f_f) s_f c_f), (.int .i64 (findI pr_f L_xs)), (.bool (icmp .geq (findI pr_f L_xs) 0))]) rfl rfl (does_icmp (p := findI pr_f L_xs) (q := 0) (.inr (.inr (.inr (.inr (.inr rfl))))) (ev rfl) (ev rfl)) rfl ?_
  refine q_is (l' := [(.slice p_xs L_xs.length q_xs), (.func (.func f_f) s_f c_f), undef, undef, (.bool (icmp .geq (findI pr_f L_xs) 0)), (.slice p_xs L_xs.length q_xs), (.func (.func f_f) s_f c_f), (.int .i64 (findI pr_f L_xs)), (.bool (icmp .geq (findI pr_f L_xs) 0))]) rfl rfl (does_assign (u := (.bool (icmp .geq (findI pr_f L_xs) 0))) (ev rfl)) rfl ?_
  refine wpList_nil (hK2 _ _ ?_)
  refine wp_ret ?_
  refine ret_val (v := (.bool (icmp .geq (findI pr_f L_xs) 0))) (res_T rfl (slot rfl)) X5 ?_
  have x6 : (L_xs.any pr_f) = (icmp .geq (findI pr_f L_xs) 0) := by first | rfl | (simp only [findI_any]; done) | (simp [findI_any]; done)
  exact (by first | rfl | rw [x6])

/- impl.IsFinite -/
theorem c_impl_IsFinite (x : Nat) (w : World) : Gives Try.prog 118 #[(.float .f32 x)] w (fun v w' => v = (.bool (finF (cf .f32 x)))) := by
  refine enter [(.float .f32 x), undef, undef, undef, undef, undef, undef] Try.func118 rfl Try.ntmps118 rfl ?_
  refine wp_seq_k fun K1 hK1 => ?_
  refine wp_region_lit ?_
  refine q_is (l' := [(.float .f32 x), undef, (.bool false), undef, undef, undef, undef]) rfl rfl (does_assign (u := (.bool false)) (ev rfl)) rfl ?_
  refine wpList_nil (hK1 _ _ ?_)
  refine wp_seq_k fun K2 hK2 => ?_
  refine wp_region_lit ?_
  refine q_is (l' := [(.float .f32 x), undef, (.bool false), (.float .f32 x), undef, undef, undef]) rfl rfl (does_move (u := (.float .f32 x)) (ev rfl)) rfl ?_
  refine q_is (l' := [(.float .f32 x), undef, (.bool false), (.float .f32 x), (.float .f32 x), undef, undef]) rfl rfl (does_move (u := (.float .f32 x)) (ev rfl)) rfl ?_
  refine seqd rfl rfl (does_float (.inr (.inl rfl)) (ev rfl) (ev rfl)) ?_; rintro _ w6 ⟨r3, rfl, h4, E5⟩
  have X7 := Ext.gr (Ext.refl w) E5
  show wpList _ _ _ _ (fr [(.float .f32 x), undef, (.bool false), (.float .f32 x), (.float .f32 x), (.float .f32 r3), undef]) _
  refine q_is (l' := [(.float .f32 x), undef, (.bool false), (.float .f32 x), (.float .f32 x), (.float .f32 r3), (.bool (fcmp .eql (ford .f32 (cf .f32 r3) (cf .f32 0))))]) rfl rfl (does_fcmp (.inl rfl) (ev rfl) (ev rfl)) rfl ?_
  refine q_is (l' := [(.float .f32 x), undef, (.bool (fcmp .eql (ford .f32 (cf .f32 r3) (cf .f32 0)))), (.float .f32 x), (.float .f32 x), (.float .f32 r3), (.bool (fcmp .eql (ford .f32 (cf .f32 r3) (cf .f32 0))))]) rfl rfl (does_assign (u := (.bool (fcmp .eql (ford .f32 (cf .f32 r3) (cf .f32 0))))) (ev rfl)) rfl ?_
  refine wpList_nil (hK2 _ _ ?_)
  refine wp_ret ?_
  refine ret_val (v := (.bool (fcmp .eql (ford .f32 (cf .f32 r3) (cf .f32 0))))) (res_T rfl (slot rfl)) X7 ?_
  have x8 : (finF (cf .f32 x)) = (fcmp .eql (ford .f32 (cf .f32 r3) (cf .f32 0))) := by first | rfl | (simp only [finF, h4]; done) | (simp [finF, h4]; done)
  exact (by first | rfl | rw [x8])

/- impl.finite$1 -/
theorem c_impl_finite_1 (x : Nat) (w : World) : Gives Try.prog 120 #[(.float .f32 x)] w (fun v w' => v = (.bool (!finF (cf .f32 x)))) := by
  refine enter [(.float .f32 x), undef, undef, undef, undef, undef] Try.func120 rfl Try.ntmps120 rfl ?_
  refine wp_seq_k fun K1 hK1 => ?_
  refine wp_region_lit ?_
  refine q_is (l' := [(.float .f32 x), undef, (.bool false), undef, undef, undef]) rfl rfl (does_assign (u := (.bool false)) (ev rfl)) rfl ?_
  refine wpList_nil (hK1 _ _ ?_)
  refine wp_seq_k fun K2 hK2 => ?_
  refine wp_region_lit ?_
  refine q_is (l' := [(.float .f32 x), undef, (.bool false), (.float .f32 x), undef, undef]) rfl rfl (does_move (u := (.float .f32 x)) (ev rfl)) rfl ?_
  refine seqd rfl rfl (does_call (args := #[(.float .f32 x)]) cal118 (evs rfl) (c_impl_IsFinite x _)) ?_; rintro _ w4 ⟨E3, rfl⟩
  have X5 := Ext.gr (Ext.refl w) E3
  show wpList _ _ _ _ (fr [(.float .f32 x), undef, (.bool false), (.float .f32 x), (.bool (finF (cf .f32 x))), undef]) _
  refine q_is (l' := [(.float .f32 x), undef, (.bool false), (.float .f32 x), (.bool (finF (cf .f32 x))), (.bool (!(finF (cf .f32 x))))]) rfl rfl (does_not (ev rfl)) rfl ?_
  refine q_is (l' := [(.float .f32 x), undef, (.bool (!(finF (cf .f32 x)))), (.float .f32 x), (.bool (finF (cf .f32 x))), (.bool (!(finF (cf .f32 x))))]) rfl rfl (does_assign (u := (.bool (!(finF (cf .f32 x))))) (ev rfl)) rfl ?_
  refine wpList_nil (hK2 _ _ ?_)
  refine wp_ret ?_
  refine ret_val (v := (.bool (!(finF (cf .f32 x))))) (res_T rfl (slot rfl)) X5 ?_
  have x6 : (!finF (cf .f32 x)) = (!(finF (cf .f32 x))) := by first | rfl | (simp only []; done) | (simp []; done)
  exact (by first | rfl | rw [x6])

/- impl.finite -/
theorem c_impl_finite (xs : Value) (L_xs : List Nat) (w : World) (hv_xs : Sl RF 1 w xs L_xs) : Gives Try.prog 97 #[xs] w (fun v w' => v = (.bool (!L_xs.any (fun x => !finF x)))) := by
  have hlen_xs := Sl.len hv_xs; obtain ⟨p_xs, q_xs, rfl⟩ := Sl.shape hv_xs
  refine enter [(.slice p_xs L_xs.length q_xs), undef, undef, undef, undef, undef] Try.func97 rfl Try.ntmps97 rfl ?_
  refine wp_seq_k fun K1 hK1 => ?_
  refine wp_region_lit ?_
  refine q_is (l' := [(.slice p_xs L_xs.length q_xs), undef, (.bool false), undef, undef, undef]) rfl rfl (does_assign (u := (.bool false)) (ev rfl)) rfl ?_
  refine wpList_nil (hK1 _ _ ?_)
  refine wp_seq_k fun K2 hK2 => ?_
  refine wp_region_lit ?_
  refine q_is (l' := [(.slice p_xs L_xs.length q_xs), undef, (.bool false), (.slice p_xs L_xs.length q_xs), undef, undef]) rfl rfl (does_move (u := (.slice p_xs L_xs.length q_xs)) (ev rfl)) rfl ?_
  refine seqd rfl rfl (does_call (args := #[(.slice p_xs L_xs.length q_xs), (.func (.func 120) #[] #[])]) cal119 (evs rfl) (c_slices_ContainsFunc_float32_float32 (.slice p_xs L_xs.length q_xs) L_xs (.func (.func 120) #[] #[]) (fun x => !finF x) _ hv_xs ⟨120, #[], #[], rfl, cal120, fun r u hu' => by simpa using (c_impl_finite_1 r u)⟩)) ?_; rintro _ w4 ⟨E3, rfl⟩
  have X5 := Ext.gr (Ext.refl w) E3
  show wpList _ _ _ _ (fr [(.slice p_xs L_xs.length q_xs), undef, (.bool false), (.slice p_xs L_xs.length q_xs), (.bool (L_xs.any (fun x => !finF x))), undef]) _
  refine q_is (l' := [(.slice p_xs L_xs.length q_xs), undef, (.bool false), (.slice p_xs L_xs.length q_xs), (.bool (L_xs.any (fun x => !finF x))), (.bool (!(L_xs.any (fun x => !finF x))))]) rfl rfl (does_not (ev rfl)) rfl ?_
  refine q_is (l' := [(.slice p_xs L_xs.length q_xs), undef, (.bool (!(L_xs.any (fun x => !finF x)))), (.slice p_xs L_xs.length q_xs), (.bool (L_xs.any (fun x => !finF x))), (.bool (!(L_xs.any (fun x => !finF x))))]) rfl rfl (does_assign (u := (.bool (!(L_xs.any (fun x => !finF x))))) (ev rfl)) rfl ?_
  refine wpList_nil (hK2 _ _ ?_)
  refine wp_ret ?_
  refine ret_val (v := (.bool (!(L_xs.any (fun x => !finF x))))) (res_T rfl (slot rfl)) X5 ?_
  have x6 : (!L_xs.any (fun x => !finF x)) = (!(L_xs.any (fun x => !finF x))) := by first | rfl | (simp only []; done) | (simp []; done)
  exact (by first | rfl | rw [x6])

/- impl.finiteVector -/
theorem c_impl_finiteVector (v_x : Nat) (v_y : Nat) (v_z : Nat) (w : World) : Gives Try.prog 52 #[(.agg #[(.float .f32 v_x), (.float .f32 v_y), (.float .f32 v_z)])] w (fun v w' => v = (.bool (finF (cf .f32 v_x) && finF (cf .f32 v_y) && finF (cf .f32 v_z)))) := by
  refine enter [(.agg #[(.float .f32 v_x), (.float .f32 v_y), (.float .f32 v_z)]), undef, undef, undef, undef, undef, undef, undef, undef, undef, undef] Try.func52 rfl Try.ntmps52 rfl ?_
  refine wp_seq_k fun K1 hK1 => ?_
  refine wp_region_lit ?_
  refine seqd rfl rfl (does_box (u := (.agg #[(.float .f32 v_x), (.float .f32 v_y), (.float .f32 v_z)])) (ev rfl)) ?_; rintro _ w6 ⟨b2, rfl, hb3, hB4, E5⟩
  have g7 : w.heap.size ≤ b2 := Nat.le_trans (Below.size (Ext.refl w)) hb3
  change Blk _ _ [(.float .f32 v_x), (.float .f32 v_y), (.float .f32 v_z)] at hB4
  have X8 := Ext.gr (Ext.refl w) E5
  show wpList _ _ _ _ (fr [(.agg #[(.float .f32 v_x), (.float .f32 v_y), (.float .f32 v_z)]), (.pointer (some ⟨b2, 0, none⟩)), undef, undef, undef, undef, undef, undef, undef, undef, undef]) _
  refine q_is (l' := [(.agg #[(.float .f32 v_x), (.float .f32 v_y), (.float .f32 v_z)]), (.pointer (some ⟨b2, 0, none⟩)), (.bool false), undef, undef, undef, undef, undef, undef, undef, undef]) rfl rfl (does_assign (u := (.bool false)) (ev rfl)) rfl ?_
  refine wpList_nil (hK1 _ _ ?_)
  refine wp_seq_k fun K9 hK9 => ?_
  refine wp_region_lit ?_
  refine q_is (l' := [(.agg #[(.float .f32 v_x), (.float .f32 v_y), (.float .f32 v_z)]), (.pointer (some ⟨b2, 0, none⟩)), (.bool false), (.pointer (some ⟨b2, 0, none⟩)), undef, undef, undef, undef, undef, undef, undef]) rfl rfl (does_fieldAddr (ev rfl) fa31_0) rfl ?_
  refine q_is (l' := [(.agg #[(.float .f32 v_x), (.float .f32 v_y), (.float .f32 v_z)]), (.pointer (some ⟨b2, 0, none⟩)), (.bool false), (.pointer (some ⟨b2, 0, none⟩)), (.float .f32 v_x), undef, undef, undef, undef, undef, undef]) rfl rfl (does_load (u := (.float .f32 v_x)) (ev rfl) Try.isAgg25 (Cells.at (Blk.cells hB4) 0 rfl)) rfl ?_
  refine q_is (l' := [(.agg #[(.float .f32 v_x), (.float .f32 v_y), (.float .f32 v_z)]), (.pointer (some ⟨b2, 0, none⟩)), (.bool false), (.pointer (some ⟨b2, 0, none⟩)), (.float .f32 v_x), (.pointer (some ⟨b2, 1, none⟩)), undef, undef, undef, undef, undef]) rfl rfl (does_fieldAddr (ev rfl) fa31_1) rfl ?_
  refine q_is (l' := [(.agg #[(.float .f32 v_x), (.float .f32 v_y), (.float .f32 v_z)]), (.pointer (some ⟨b2, 0, none⟩)), (.bool false), (.pointer (some ⟨b2, 0, none⟩)), (.float .f32 v_x), (.pointer (some ⟨b2, 1, none⟩)), (.float .f32 v_y), undef, undef, undef, undef]) rfl rfl (does_load (u := (.float .f32 v_y)) (ev rfl) Try.isAgg25 (Cells.at (Blk.cells hB4) 1 rfl)) rfl ?_
  refine q_is (l' := [(.agg #[(.float .f32 v_x), (.float .f32 v_y), (.float .f32 v_z)]), (.pointer (some ⟨b2, 0, none⟩)), (.bool false), (.pointer (some ⟨b2, 0, none⟩)), (.float .f32 v_x), (.pointer (some ⟨b2, 1, none⟩)), (.float .f32 v_y), (.pointer (some ⟨b2, 2, none⟩)), undef, undef, undef]) rfl rfl (does_fieldAddr (ev rfl) fa31_2) rfl ?_
  refine q_is (l' := [(.agg #[(.float .f32 v_x), (.float .f32 v_y), (.float .f32 v_z)]), (.pointer (some ⟨b2, 0, none⟩)), (.bool false), (.pointer (some ⟨b2, 0, none⟩)), (.float .f32 v_x), (.pointer (some ⟨b2, 1, none⟩)), (.float .f32 v_y), (.pointer (some ⟨b2, 2, none⟩)), (.float .f32 v_z), undef, undef]) rfl rfl (does_load (u := (.float .f32 v_z)) (ev rfl) Try.isAgg25 (Cells.at (Blk.cells hB4) 2 rfl)) rfl ?_
  refine seqd rfl rfl (does_buildSlice (e := 25) (parts' := [(0, (.float .f32 v_x)), (1, (.float .f32 v_y)), (2, (.float .f32 v_z))]) (cells := [(.float .f32 v_x), (.float .f32 v_y), (.float .f32 v_z)]) (evp rfl) (fun _ => by kernel_rfl)) ?_; rintro _ w14 ⟨b10, rfl, hb11, hB12, E13⟩
  have n15 : b2 < b10 := Nat.lt_of_lt_of_le (Blk.lt hB4) hb11
  have g16 : w.heap.size ≤ b10 := Nat.le_trans (Below.size X8) hb11
  have X17 := Ext.gr X8 E13
  show wpList _ _ _ _ (fr [(.agg #[(.float .f32 v_x), (.float .f32 v_y), (.float .f32 v_z)]), (.pointer (some ⟨b2, 0, none⟩)), (.bool false), (.pointer (some ⟨b2, 0, none⟩)), (.float .f32 v_x), (.pointer (some ⟨b2, 1, none⟩)), (.float .f32 v_y), (.pointer (some ⟨b2, 2, none⟩)), (.float .f32 v_z), (.slice (some ⟨b10, 0, none⟩) 3 3), undef]) _
  refine seqd rfl rfl (does_call (args := #[(.slice (some ⟨b10, 0, none⟩) 3 3)]) cal97 (evs rfl) (c_impl_finite (.slice (some ⟨b10, 0, none⟩) 3 3) [(cf .f32 v_x), (cf .f32 v_y), (cf .f32 v_z)] _ (Sl_lit3 hB12 ⟨_, rfl, rfl⟩ ⟨_, rfl, rfl⟩ ⟨_, rfl, rfl⟩))) ?_; rintro _ w19 ⟨E18, rfl⟩
  have X20 := Ext.gr X17 E18
  show wpList _ _ _ _ (fr [(.agg #[(.float .f32 v_x), (.float .f32 v_y), (.float .f32 v_z)]), (.pointer (some ⟨b2, 0, none⟩)), (.bool false), (.pointer (some ⟨b2, 0, none⟩)), (.float .f32 v_x), (.pointer (some ⟨b2, 1, none⟩)), (.float .f32 v_y), (.pointer (some ⟨b2, 2, none⟩)), (.float .f32 v_z), (.slice (some ⟨b10, 0, none⟩) 3 3), (.bool (!([(cf .f32 v_x), (cf .f32 v_y), (cf .f32 v_z)]).any (fun x => !finF x)))]) _
  refine q_is (l' := [(.agg #[(.float .f32 v_x), (.float .f32 v_y), (.float .f32 v_z)]), (.pointer (some ⟨b2, 0, none⟩)), (.bool (!([(cf .f32 v_x), (cf .f32 v_y), (cf .f32 v_z)]).any (fun x => !finF x))), (.pointer (some ⟨b2, 0, none⟩)), (.float .f32 v_x), (.pointer (some ⟨b2, 1, none⟩)), (.float .f32 v_y), (.pointer (some ⟨b2, 2, none⟩)), (.float .f32 v_z), (.slice (some ⟨b10, 0, none⟩) 3 3), (.bool (!([(cf .f32 v_x), (cf .f32 v_y), (cf .f32 v_z)]).any (fun x => !finF x)))]) rfl rfl (does_assign (u := (.bool (!([(cf .f32 v_x), (cf .f32 v_y), (cf .f32 v_z)]).any (fun x => !finF x)))) (ev rfl)) rfl ?_
  refine wpList_nil (hK9 _ _ ?_)
  refine wp_ret ?_
  refine ret_val (v := (.bool (!([(cf .f32 v_x), (cf .f32 v_y), (cf .f32 v_z)]).any (fun x => !finF x)))) (res_T rfl (slot rfl)) X20 ?_
  have x21 : (finF (cf .f32 v_x) && finF (cf .f32 v_y) && finF (cf .f32 v_z)) = (!([(cf .f32 v_x), (cf .f32 v_y), (cf .f32 v_z)]).any (fun x => !finF x)) := by first | rfl | (simp only [any3_finF]; done) | (simp [any3_finF]; done)
  exact (by first | rfl | rw [x21])

/- impl.ValidBox -/
theorem c_impl_ValidBox (b_lx : Nat) (b_ly : Nat) (b_lz : Nat) (b_hx : Nat) (b_hy : Nat) (b_hz : Nat) (w : World) : Gives Try.prog 19 #[(.agg #[(.float .f32 b_lx), (.float .f32 b_ly), (.float .f32 b_lz), (.float .f32 b_hx), (.float .f32 b_hy), (.float .f32 b_hz)])] w (fun v w' => v = (.bool (isBox (cf .f32 b_lx) (cf .f32 b_ly) (cf .f32 b_lz) (cf .f32 b_hx) (cf .f32 b_hy) (cf .f32 b_hz)))) := by
  refine enter [(.agg #[(.float .f32 b_lx), (.float .f32 b_ly), (.float .f32 b_lz), (.float .f32 b_hx), (.float .f32 b_hy), (.float .f32 b_hz)]), undef, undef, undef, undef, undef, undef, undef, undef, undef, undef, undef, undef, undef, undef, undef, undef, undef, undef, undef, undef, undef, undef, undef, undef, undef, undef, undef, undef, undef, undef, undef, undef, undef, undef, undef, undef, undef] Try.func19 rfl Try.ntmps19 rfl ?_
  refine wp_seq_k fun K1 hK1 => ?_
  refine wp_region_lit ?_
  refine seqd rfl rfl (does_box (u := (.agg #[(.float .f32 b_lx), (.float .f32 b_ly), (.float .f32 b_lz), (.float .f32 b_hx), (.float .f32 b_hy), (.float .f32 b_hz)])) (ev rfl)) ?_; rintro _ w6 ⟨b2, rfl, hb3, hB4, E5⟩
  have g7 : w.heap.size ≤ b2 := Nat.le_trans (Below.size (Ext.refl w)) hb3
  change Blk _ _ [(.float .f32 b_lx), (.float .f32 b_ly), (.float .f32 b_lz), (.float .f32 b_hx), (.float .f32 b_hy), (.float .f32 b_hz)] at hB4
  have X8 := Ext.gr (Ext.refl w) E5
  show wpList _ _ _ _ (fr [(.agg #[(.float .f32 b_lx), (.float .f32 b_ly), (.float .f32 b_lz), (.float .f32 b_hx), (.float .f32 b_hy), (.float .f32 b_hz)]), (.pointer (some ⟨b2, 0, none⟩)), undef, undef, undef, undef, undef, undef, undef, undef, undef, undef, undef, undef, undef, undef, undef, undef, undef, undef, undef, undef, undef, undef, undef, undef, undef, undef, undef, undef, undef, undef, undef, undef, undef, undef, undef, undef]) _
  refine q_is (l' := [(.agg #[(.float .f32 b_lx), (.float .f32 b_ly), (.float .f32 b_lz), (.float .f32 b_hx), (.float .f32 b_hy), (.float .f32 b_hz)]), (.pointer (some ⟨b2, 0, none⟩)), (.bool false), undef, undef, undef, undef, undef, undef, undef, undef, undef, undef, undef, undef, undef, undef, undef, undef, undef, undef, undef, undef, undef, undef, undef, undef, undef, undef, undef, undef, undef, undef, undef, undef, undef, undef, undef]) rfl rfl (does_assign (u := (.bool false)) (ev rfl)) rfl ?_
  refine wpList_nil (hK1 _ _ ?_)
  refine wp_seq_k fun K9 hK9 => ?_
  refine region_text (
    [Fact.pure [] (fun v => v = (.pointer (some ⟨b2, 0, none⟩))),
    Fact.pure [3] (fun v => v = (.agg #[(.float .f32 b_lx), (.float .f32 b_ly), (.float .f32 b_lz)])),
    Fact.pure [4] (fun v => v = (.bool (finF (cf .f32 b_lx) && finF (cf .f32 b_ly) && finF (cf .f32 b_lz)))),
    Fact.pure [5] (fun v => v = (.bool (finF (cf .f32 b_lx) && finF (cf .f32 b_ly) && finF (cf .f32 b_lz)))),
    Fact.pure [6] (fun v => (finF (cf .f32 b_lx) && finF (cf .f32 b_ly) && finF (cf .f32 b_lz)) = true → v = (.pointer (some ⟨b2, 3, none⟩))),
    Fact.pure [7, 6] (fun v => (finF (cf .f32 b_lx) && finF (cf .f32 b_ly) && finF (cf .f32 b_lz)) = true → v = (.agg #[(.float .f32 b_hx), (.float .f32 b_hy), (.float .f32 b_hz)])),
    Fact.pure [8, 6] (fun v => (finF (cf .f32 b_lx) && finF (cf .f32 b_ly) && finF (cf .f32 b_lz)) = true → v = (.bool (finF (cf .f32 b_hx) && finF (cf .f32 b_hy) && finF (cf .f32 b_hz)))),
    Fact.pure [6, 9] (fun v => v = (.bool ((finF (cf .f32 b_lx) && finF (cf .f32 b_ly) && finF (cf .f32 b_lz)) && (finF (cf .f32 b_hx) && finF (cf .f32 b_hy) && finF (cf .f32 b_hz))))),
    Fact.pure [10] (fun v => v = (.bool ((finF (cf .f32 b_lx) && finF (cf .f32 b_ly) && finF (cf .f32 b_lz)) && (finF (cf .f32 b_hx) && finF (cf .f32 b_hy) && finF (cf .f32 b_hz))))),
    Fact.pure [11] (fun v => ((finF (cf .f32 b_lx) && finF (cf .f32 b_ly) && finF (cf .f32 b_lz)) && (finF (cf .f32 b_hx) && finF (cf .f32 b_hy) && finF (cf .f32 b_hz))) = true → v = (.pointer (some ⟨b2, 0, none⟩))),
    Fact.pure [12, 11] (fun v => ((finF (cf .f32 b_lx) && finF (cf .f32 b_ly) && finF (cf .f32 b_lz)) && (finF (cf .f32 b_hx) && finF (cf .f32 b_hy) && finF (cf .f32 b_hz))) = true → v = (.pointer (some ⟨b2, 0, none⟩))),
    Fact.pure [13, 11] (fun v => ((finF (cf .f32 b_lx) && finF (cf .f32 b_ly) && finF (cf .f32 b_lz)) && (finF (cf .f32 b_hx) && finF (cf .f32 b_hy) && finF (cf .f32 b_hz))) = true → v = (.float .f32 b_lx)),
    Fact.pure [11] (fun v => ((finF (cf .f32 b_lx) && finF (cf .f32 b_ly) && finF (cf .f32 b_lz)) && (finF (cf .f32 b_hx) && finF (cf .f32 b_hy) && finF (cf .f32 b_hz))) = true → v = (.pointer (some ⟨b2, 3, none⟩))),
    Fact.pure [15, 11] (fun v => ((finF (cf .f32 b_lx) && finF (cf .f32 b_ly) && finF (cf .f32 b_lz)) && (finF (cf .f32 b_hx) && finF (cf .f32 b_hy) && finF (cf .f32 b_hz))) = true → v = (.pointer (some ⟨b2, 3, none⟩))),
    Fact.pure [16, 11] (fun v => ((finF (cf .f32 b_lx) && finF (cf .f32 b_ly) && finF (cf .f32 b_lz)) && (finF (cf .f32 b_hx) && finF (cf .f32 b_hy) && finF (cf .f32 b_hz))) = true → v = (.float .f32 b_hx)),
    Fact.pure [14, 17, 11] (fun v => ((finF (cf .f32 b_lx) && finF (cf .f32 b_ly) && finF (cf .f32 b_lz)) && (finF (cf .f32 b_hx) && finF (cf .f32 b_hy) && finF (cf .f32 b_hz))) = true → v = (.bool (fcmp .leq (ford .f32 (cf .f32 b_lx) (cf .f32 b_hx))))),
    Fact.pure [11, 18] (fun v => v = (.bool (((finF (cf .f32 b_lx) && finF (cf .f32 b_ly) && finF (cf .f32 b_lz)) && (finF (cf .f32 b_hx) && finF (cf .f32 b_hy) && finF (cf .f32 b_hz))) && (fcmp .leq (ford .f32 (cf .f32 b_lx) (cf .f32 b_hx)))))),
    Fact.pure [19] (fun v => v = (.bool (((finF (cf .f32 b_lx) && finF (cf .f32 b_ly) && finF (cf .f32 b_lz)) && (finF (cf .f32 b_hx) && finF (cf .f32 b_hy) && finF (cf .f32 b_hz))) && (fcmp .leq (ford .f32 (cf .f32 b_lx) (cf .f32 b_hx)))))),
    Fact.pure [20] (fun v => (((finF (cf .f32 b_lx) && finF (cf .f32 b_ly) && finF (cf .f32 b_lz)) && (finF (cf .f32 b_hx) && finF (cf .f32 b_hy) && finF (cf .f32 b_hz))) && (fcmp .leq (ford .f32 (cf .f32 b_lx) (cf .f32 b_hx)))) = true → v = (.pointer (some ⟨b2, 0, none⟩))),
    Fact.pure [21, 20] (fun v => (((finF (cf .f32 b_lx) && finF (cf .f32 b_ly) && finF (cf .f32 b_lz)) && (finF (cf .f32 b_hx) && finF (cf .f32 b_hy) && finF (cf .f32 b_hz))) && (fcmp .leq (ford .f32 (cf .f32 b_lx) (cf .f32 b_hx)))) = true → v = (.pointer (some ⟨b2, 1, none⟩))),
    Fact.pure [22, 20] (fun v => (((finF (cf .f32 b_lx) && finF (cf .f32 b_ly) && finF (cf .f32 b_lz)) && (finF (cf .f32 b_hx) && finF (cf .f32 b_hy) && finF (cf .f32 b_hz))) && (fcmp .leq (ford .f32 (cf .f32 b_lx) (cf .f32 b_hx)))) = true → v = (.float .f32 b_ly)),
    Fact.pure [20] (fun v => (((finF (cf .f32 b_lx) && finF (cf .f32 b_ly) && finF (cf .f32 b_lz)) && (finF (cf .f32 b_hx) && finF (cf .f32 b_hy) && finF (cf .f32 b_hz))) && (fcmp .leq (ford .f32 (cf .f32 b_lx) (cf .f32 b_hx)))) = true → v = (.pointer (some ⟨b2, 3, none⟩))),
    Fact.pure [24, 20] (fun v => (((finF (cf .f32 b_lx) && finF (cf .f32 b_ly) && finF (cf .f32 b_lz)) && (finF (cf .f32 b_hx) && finF (cf .f32 b_hy) && finF (cf .f32 b_hz))) && (fcmp .leq (ford .f32 (cf .f32 b_lx) (cf .f32 b_hx)))) = true → v = (.pointer (some ⟨b2, 4, none⟩))),
    Fact.pure [25, 20] (fun v => (((finF (cf .f32 b_lx) && finF (cf .f32 b_ly) && finF (cf .f32 b_lz)) && (finF (cf .f32 b_hx) && finF (cf .f32 b_hy) && finF (cf .f32 b_hz))) && (fcmp .leq (ford .f32 (cf .f32 b_lx) (cf .f32 b_hx)))) = true → v = (.float .f32 b_hy)),
    Fact.pure [23, 26, 20] (fun v => (((finF (cf .f32 b_lx) && finF (cf .f32 b_ly) && finF (cf .f32 b_lz)) && (finF (cf .f32 b_hx) && finF (cf .f32 b_hy) && finF (cf .f32 b_hz))) && (fcmp .leq (ford .f32 (cf .f32 b_lx) (cf .f32 b_hx)))) = true → v = (.bool (fcmp .leq (ford .f32 (cf .f32 b_ly) (cf .f32 b_hy))))),
    Fact.pure [20, 27] (fun v => v = (.bool ((((finF (cf .f32 b_lx) && finF (cf .f32 b_ly) && finF (cf .f32 b_lz)) && (finF (cf .f32 b_hx) && finF (cf .f32 b_hy) && finF (cf .f32 b_hz))) && (fcmp .leq (ford .f32 (cf .f32 b_lx) (cf .f32 b_hx)))) && (fcmp .leq (ford .f32 (cf .f32 b_ly) (cf .f32 b_hy)))))),
    Fact.pure [28] (fun v => v = (.bool ((((finF (cf .f32 b_lx) && finF (cf .f32 b_ly) && finF (cf .f32 b_lz)) && (finF (cf .f32 b_hx) && finF (cf .f32 b_hy) && finF (cf .f32 b_hz))) && (fcmp .leq (ford .f32 (cf .f32 b_lx) (cf .f32 b_hx)))) && (fcmp .leq (ford .f32 (cf .f32 b_ly) (cf .f32 b_hy)))))),
    Fact.pure [29] (fun v => ((((finF (cf .f32 b_lx) && finF (cf .f32 b_ly) && finF (cf .f32 b_lz)) && (finF (cf .f32 b_hx) && finF (cf .f32 b_hy) && finF (cf .f32 b_hz))) && (fcmp .leq (ford .f32 (cf .f32 b_lx) (cf .f32 b_hx)))) && (fcmp .leq (ford .f32 (cf .f32 b_ly) (cf .f32 b_hy)))) = true → v = (.pointer (some ⟨b2, 0, none⟩))),
    Fact.pure [30, 29] (fun v => ((((finF (cf .f32 b_lx) && finF (cf .f32 b_ly) && finF (cf .f32 b_lz)) && (finF (cf .f32 b_hx) && finF (cf .f32 b_hy) && finF (cf .f32 b_hz))) && (fcmp .leq (ford .f32 (cf .f32 b_lx) (cf .f32 b_hx)))) && (fcmp .leq (ford .f32 (cf .f32 b_ly) (cf .f32 b_hy)))) = true → v = (.pointer (some ⟨b2, 2, none⟩))),
    Fact.pure [31, 29] (fun v => ((((finF (cf .f32 b_lx) && finF (cf .f32 b_ly) && finF (cf .f32 b_lz)) && (finF (cf .f32 b_hx) && finF (cf .f32 b_hy) && finF (cf .f32 b_hz))) && (fcmp .leq (ford .f32 (cf .f32 b_lx) (cf .f32 b_hx)))) && (fcmp .leq (ford .f32 (cf .f32 b_ly) (cf .f32 b_hy)))) = true → v = (.float .f32 b_lz)),
    Fact.pure [29] (fun v => ((((finF (cf .f32 b_lx) && finF (cf .f32 b_ly) && finF (cf .f32 b_lz)) && (finF (cf .f32 b_hx) && finF (cf .f32 b_hy) && finF (cf .f32 b_hz))) && (fcmp .leq (ford .f32 (cf .f32 b_lx) (cf .f32 b_hx)))) && (fcmp .leq (ford .f32 (cf .f32 b_ly) (cf .f32 b_hy)))) = true → v = (.pointer (some ⟨b2, 3, none⟩))),
    Fact.pure [33, 29] (fun v => ((((finF (cf .f32 b_lx) && finF (cf .f32 b_ly) && finF (cf .f32 b_lz)) && (finF (cf .f32 b_hx) && finF (cf .f32 b_hy) && finF (cf .f32 b_hz))) && (fcmp .leq (ford .f32 (cf .f32 b_lx) (cf .f32 b_hx)))) && (fcmp .leq (ford .f32 (cf .f32 b_ly) (cf .f32 b_hy)))) = true → v = (.pointer (some ⟨b2, 5, none⟩))),
    Fact.pure [34, 29] (fun v => ((((finF (cf .f32 b_lx) && finF (cf .f32 b_ly) && finF (cf .f32 b_lz)) && (finF (cf .f32 b_hx) && finF (cf .f32 b_hy) && finF (cf .f32 b_hz))) && (fcmp .leq (ford .f32 (cf .f32 b_lx) (cf .f32 b_hx)))) && (fcmp .leq (ford .f32 (cf .f32 b_ly) (cf .f32 b_hy)))) = true → v = (.float .f32 b_hz)),
    Fact.pure [32, 35, 29] (fun v => ((((finF (cf .f32 b_lx) && finF (cf .f32 b_ly) && finF (cf .f32 b_lz)) && (finF (cf .f32 b_hx) && finF (cf .f32 b_hy) && finF (cf .f32 b_hz))) && (fcmp .leq (ford .f32 (cf .f32 b_lx) (cf .f32 b_hx)))) && (fcmp .leq (ford .f32 (cf .f32 b_ly) (cf .f32 b_hy)))) = true → v = (.bool (fcmp .leq (ford .f32 (cf .f32 b_lz) (cf .f32 b_hz))))),
    Fact.pure [29, 36] (fun v => v = (.bool (((((finF (cf .f32 b_lx) && finF (cf .f32 b_ly) && finF (cf .f32 b_lz)) && (finF (cf .f32 b_hx) && finF (cf .f32 b_hy) && finF (cf .f32 b_hz))) && (fcmp .leq (ford .f32 (cf .f32 b_lx) (cf .f32 b_hx)))) && (fcmp .leq (ford .f32 (cf .f32 b_ly) (cf .f32 b_hy)))) && (fcmp .leq (ford .f32 (cf .f32 b_lz) (cf .f32 b_hz))))))]) (by simp [Fact.pure, Fact.mem]) ?_
  refine RW_d (fun v10 => [(.agg #[(.float .f32 b_lx), (.float .f32 b_ly), (.float .f32 b_lz), (.float .f32 b_hx), (.float .f32 b_hy), (.float .f32 b_hz)]), (.pointer (some ⟨b2, 0, none⟩)), (.bool false), v10, undef, undef, undef, undef, undef, undef, undef, undef, undef, undef, undef, undef, undef, undef, undef, undef, undef, undef, undef, undef, undef, undef, undef, undef, undef, undef, undef, undef, undef, undef, undef, undef, undef, undef]) rfl (fun _ => rfl) (fun u hu hF => ?_) (fun v10 => ?_)
  · clear hF
    refine doesG_un rfl ?_
    refine (does_fieldAddr (ev rfl) fa33_0).mono ?_; rintro _ _ ⟨rfl, rfl⟩
    exact ⟨rfl, Ext.refl _⟩
  refine RW_d (fun v11 => [(.agg #[(.float .f32 b_lx), (.float .f32 b_ly), (.float .f32 b_lz), (.float .f32 b_hx), (.float .f32 b_hy), (.float .f32 b_hz)]), (.pointer (some ⟨b2, 0, none⟩)), (.bool false), v10, v11, undef, undef, undef, undef, undef, undef, undef, undef, undef, undef, undef, undef, undef, undef, undef, undef, undef, undef, undef, undef, undef, undef, undef, undef, undef, undef, undef, undef, undef, undef, undef, undef, undef]) rfl (fun _ => rfl) (fun u hu hF => ?_) (fun v11 => ?_)
  · have h3_ : v10 = (.pointer (some ⟨b2, 0, none⟩)) := hF.1
    clear hF
    obtain rfl := h3_
    refine doesG_un rfl ?_
    refine (does_loadAgg (cs := [(.float .f32 b_lx), (.float .f32 b_ly), (.float .f32 b_lz)]) (ev rfl) Try.isAgg31 Try.sizeOf31 (Cells.sub (Blk.cells (hB4.ext hu)) 0 3) rfl).mono ?_; rintro _ _ ⟨rfl, rfl⟩
    exact ⟨rfl, Ext.refl _⟩
  refine RW_d (fun v12 => [(.agg #[(.float .f32 b_lx), (.float .f32 b_ly), (.float .f32 b_lz), (.float .f32 b_hx), (.float .f32 b_hy), (.float .f32 b_hz)]), (.pointer (some ⟨b2, 0, none⟩)), (.bool false), v10, v11, v12, undef, undef, undef, undef, undef, undef, undef, undef, undef, undef, undef, undef, undef, undef, undef, undef, undef, undef, undef, undef, undef, undef, undef, undef, undef, undef, undef, undef, undef, undef, undef, undef]) rfl (fun _ => rfl) (fun u hu hF => ?_) (fun v12 => ?_)
  · have h4_ : v11 = (.agg #[(.float .f32 b_lx), (.float .f32 b_ly), (.float .f32 b_lz)]) := hF.1
    clear hF
    obtain rfl := h4_
    refine doesG_un rfl ?_
    refine (does_call (args := #[(.agg #[(.float .f32 b_lx), (.float .f32 b_ly), (.float .f32 b_lz)])]) cal52 (evs rfl) (c_impl_finiteVector b_lx b_ly b_lz _)).mono ?_; rintro v u' ⟨hx, hv⟩
    exact ⟨hv, hx⟩
  refine RW_d (fun v13 => [(.agg #[(.float .f32 b_lx), (.float .f32 b_ly), (.float .f32 b_lz), (.float .f32 b_hx), (.float .f32 b_hy), (.float .f32 b_hz)]), (.pointer (some ⟨b2, 0, none⟩)), (.bool false), v10, v11, v12, v13, undef, undef, undef, undef, undef, undef, undef, undef, undef, undef, undef, undef, undef, undef, undef, undef, undef, undef, undef, undef, undef, undef, undef, undef, undef, undef, undef, undef, undef, undef, undef]) rfl (fun _ => rfl) (fun u hu hF => ?_) (fun v13 => ?_)
  · have h5_ : v12 = (.bool (finF (cf .f32 b_lx) && finF (cf .f32 b_ly) && finF (cf .f32 b_lz))) := hF.1
    clear hF
    obtain rfl := h5_
    refine doesG_un rfl ?_
    refine (does_move (u := (.bool (finF (cf .f32 b_lx) && finF (cf .f32 b_ly) && finF (cf .f32 b_lz)))) (ev rfl)).mono ?_; rintro _ _ ⟨rfl, rfl⟩
    exact ⟨rfl, Ext.refl _⟩
  refine RW_d (fun v14 => [(.agg #[(.float .f32 b_lx), (.float .f32 b_ly), (.float .f32 b_lz), (.float .f32 b_hx), (.float .f32 b_hy), (.float .f32 b_hz)]), (.pointer (some ⟨b2, 0, none⟩)), (.bool false), v10, v11, v12, v13, v14, undef, undef, undef, undef, undef, undef, undef, undef, undef, undef, undef, undef, undef, undef, undef, undef, undef, undef, undef, undef, undef, undef, undef, undef, undef, undef, undef, undef, undef, undef]) rfl (fun _ => rfl) (fun u hu hF => ?_) (fun v14 => ?_)
  · have h6_ : v13 = (.bool (finF (cf .f32 b_lx) && finF (cf .f32 b_ly) && finF (cf .f32 b_lz))) := hF.1
    clear hF
    obtain rfl := h6_
    refine doesG_g (b := (finF (cf .f32 b_lx) && finF (cf .f32 b_ly) && finF (cf .f32 b_lz))) rfl (yld rfl rfl) (fun hg => ?_) (fun hg => ⟨fun h => absurd h hg, Ext.refl _⟩)
    refine (does_fieldAddr (ev rfl) fa33_1).mono ?_; rintro _ _ ⟨rfl, rfl⟩
    exact ⟨fun _ => rfl, Ext.refl _⟩
  refine RW_d (fun v15 => [(.agg #[(.float .f32 b_lx), (.float .f32 b_ly), (.float .f32 b_lz), (.float .f32 b_hx), (.float .f32 b_hy), (.float .f32 b_hz)]), (.pointer (some ⟨b2, 0, none⟩)), (.bool false), v10, v11, v12, v13, v14, v15, undef, undef, undef, undef, undef, undef, undef, undef, undef, undef, undef, undef, undef, undef, undef, undef, undef, undef, undef, undef, undef, undef, undef, undef, undef, undef, undef, undef, undef]) rfl (fun _ => rfl) (fun u hu hF => ?_) (fun v15 => ?_)
  · have h7_ : (finF (cf .f32 b_lx) && finF (cf .f32 b_ly) && finF (cf .f32 b_lz)) = true → v14 = (.pointer (some ⟨b2, 3, none⟩)) := hF.1
    have h6_ : v13 = (.bool (finF (cf .f32 b_lx) && finF (cf .f32 b_ly) && finF (cf .f32 b_lz))) := hF.2.1
    clear hF
    obtain rfl := h6_
    refine doesG_g (b := (finF (cf .f32 b_lx) && finF (cf .f32 b_ly) && finF (cf .f32 b_lz))) rfl (yld rfl rfl) (fun hg => ?_) (fun hg => ⟨fun h => absurd h hg, Ext.refl _⟩)
    obtain rfl := h7_ hg
    refine (does_loadAgg (cs := [(.float .f32 b_hx), (.float .f32 b_hy), (.float .f32 b_hz)]) (ev rfl) Try.isAgg31 Try.sizeOf31 (Cells.sub (Blk.cells (hB4.ext hu)) 3 3) rfl).mono ?_; rintro _ _ ⟨rfl, rfl⟩
    exact ⟨fun _ => rfl, Ext.refl _⟩
  refine RW_d (fun v16 => [(.agg #[(.float .f32 b_lx), (.float .f32 b_ly), (.float .f32 b_lz), (.float .f32 b_hx), (.float .f32 b_hy), (.float .f32 b_hz)]), (.pointer (some ⟨b2, 0, none⟩)), (.bool false), v10, v11, v12, v13, v14, v15, v16, undef, undef, undef, undef, undef, undef, undef, undef, undef, undef, undef, undef, undef, undef, undef, undef, undef, undef, undef, undef, undef, undef, undef, undef, undef, undef, undef, undef]) rfl (fun _ => rfl) (fun u hu hF => ?_) (fun v16 => ?_)
  · have h8_ : (finF (cf .f32 b_lx) && finF (cf .f32 b_ly) && finF (cf .f32 b_lz)) = true → v15 = (.agg #[(.float .f32 b_hx), (.float .f32 b_hy), (.float .f32 b_hz)]) := hF.1
    have h6_ : v13 = (.bool (finF (cf .f32 b_lx) && finF (cf .f32 b_ly) && finF (cf .f32 b_lz))) := hF.2.1
    clear hF
    obtain rfl := h6_
    refine doesG_g (b := (finF (cf .f32 b_lx) && finF (cf .f32 b_ly) && finF (cf .f32 b_lz))) rfl (yld rfl rfl) (fun hg => ?_) (fun hg => ⟨fun h => absurd h hg, Ext.refl _⟩)
    obtain rfl := h8_ hg
    refine (does_call (args := #[(.agg #[(.float .f32 b_hx), (.float .f32 b_hy), (.float .f32 b_hz)])]) cal52 (evs rfl) (c_impl_finiteVector b_hx b_hy b_hz _)).mono ?_; rintro v u' ⟨hx, hv⟩
    exact ⟨fun _ => hv, hx⟩
  refine RW_d (fun v17 => [(.agg #[(.float .f32 b_lx), (.float .f32 b_ly), (.float .f32 b_lz), (.float .f32 b_hx), (.float .f32 b_hy), (.float .f32 b_hz)]), (.pointer (some ⟨b2, 0, none⟩)), (.bool false), v10, v11, v12, v13, v14, v15, v16, v17, undef, undef, undef, undef, undef, undef, undef, undef, undef, undef, undef, undef, undef, undef, undef, undef, undef, undef, undef, undef, undef, undef, undef, undef, undef, undef, undef]) rfl (fun _ => rfl) (fun u hu hF => ?_) (fun v17 => ?_)
  · have h6_ : v13 = (.bool (finF (cf .f32 b_lx) && finF (cf .f32 b_ly) && finF (cf .f32 b_lz))) := hF.1
    have h9_ : (finF (cf .f32 b_lx) && finF (cf .f32 b_ly) && finF (cf .f32 b_lz)) = true → v16 = (.bool (finF (cf .f32 b_hx) && finF (cf .f32 b_hy) && finF (cf .f32 b_hz))) := hF.2.1
    clear hF
    obtain rfl := h6_
    refine doesG_un rfl ((does_pick (b := (finF (cf .f32 b_lx) && finF (cf .f32 b_ly) && finF (cf .f32 b_lz))) (ev rfl) (ev rfl) (ev rfl)).mono ?_); rintro _ _ ⟨rfl, rfl⟩; refine ⟨?_, Ext.refl _⟩
    cases hbb : (finF (cf .f32 b_lx) && finF (cf .f32 b_ly) && finF (cf .f32 b_lz)) <;> simp [hbb] at h9_ ⊢
    all_goals (first | rfl | (subst h9_; rfl) | simp_all)
  refine RW_d (fun v18 => [(.agg #[(.float .f32 b_lx), (.float .f32 b_ly), (.float .f32 b_lz), (.float .f32 b_hx), (.float .f32 b_hy), (.float .f32 b_hz)]), (.pointer (some ⟨b2, 0, none⟩)), (.bool false), v10, v11, v12, v13, v14, v15, v16, v17, v18, undef, undef, undef, undef, undef, undef, undef, undef, undef, undef, undef, undef, undef, undef, undef, undef, undef, undef, undef, undef, undef, undef, undef, undef, undef, undef]) rfl (fun _ => rfl) (fun u hu hF => ?_) (fun v18 => ?_)
  · have h10_ : v17 = (.bool ((finF (cf .f32 b_lx) && finF (cf .f32 b_ly) && finF (cf .f32 b_lz)) && (finF (cf .f32 b_hx) && finF (cf .f32 b_hy) && finF (cf .f32 b_hz)))) := hF.1
    clear hF
    obtain rfl := h10_
    refine doesG_un rfl ?_
    refine (does_move (u := (.bool ((finF (cf .f32 b_lx) && finF (cf .f32 b_ly) && finF (cf .f32 b_lz)) && (finF (cf .f32 b_hx) && finF (cf .f32 b_hy) && finF (cf .f32 b_hz))))) (ev rfl)).mono ?_; rintro _ _ ⟨rfl, rfl⟩
    exact ⟨rfl, Ext.refl _⟩
  refine RW_d (fun v19 => [(.agg #[(.float .f32 b_lx), (.float .f32 b_ly), (.float .f32 b_lz), (.float .f32 b_hx), (.float .f32 b_hy), (.float .f32 b_hz)]), (.pointer (some ⟨b2, 0, none⟩)), (.bool false), v10, v11, v12, v13, v14, v15, v16, v17, v18, v19, undef, undef, undef, undef, undef, undef, undef, undef, undef, undef, undef, undef, undef, undef, undef, undef, undef, undef, undef, undef, undef, undef, undef, undef, undef]) rfl (fun _ => rfl) (fun u hu hF => ?_) (fun v19 => ?_)
  · have h11_ : v18 = (.bool ((finF (cf .f32 b_lx) && finF (cf .f32 b_ly) && finF (cf .f32 b_lz)) && (finF (cf .f32 b_hx) && finF (cf .f32 b_hy) && finF (cf .f32 b_hz)))) := hF.1
    clear hF
    obtain rfl := h11_
    refine doesG_g (b := ((finF (cf .f32 b_lx) && finF (cf .f32 b_ly) && finF (cf .f32 b_lz)) && (finF (cf .f32 b_hx) && finF (cf .f32 b_hy) && finF (cf .f32 b_hz)))) rfl (yld rfl rfl) (fun hg => ?_) (fun hg => ⟨fun h => absurd h hg, Ext.refl _⟩)
    refine (does_fieldAddr (ev rfl) fa33_0).mono ?_; rintro _ _ ⟨rfl, rfl⟩
    exact ⟨fun _ => rfl, Ext.refl _⟩
  refine RW_d (fun v20 => [(.agg #[(.float .f32 b_lx), (.float .f32 b_ly), (.float .f32 b_lz), (.float .f32 b_hx), (.float .f32 b_hy), (.float .f32 b_hz)]), (.pointer (some ⟨b2, 0, none⟩)), (.bool false), v10, v11, v12, v13, v14, v15, v16, v17, v18, v19, v20, undef, undef, undef, undef, undef, undef, undef, undef, undef, undef, undef, undef, undef, undef, undef, undef, undef, undef, undef, undef, undef, undef, undef, undef]) rfl (fun _ => rfl) (fun u hu hF => ?_) (fun v20 => ?_)
  · have h12_ : ((finF (cf .f32 b_lx) && finF (cf .f32 b_ly) && finF (cf .f32 b_lz)) && (finF (cf .f32 b_hx) && finF (cf .f32 b_hy) && finF (cf .f32 b_hz))) = true → v19 = (.pointer (some ⟨b2, 0, none⟩)) := hF.1
    have h11_ : v18 = (.bool ((finF (cf .f32 b_lx) && finF (cf .f32 b_ly) && finF (cf .f32 b_lz)) && (finF (cf .f32 b_hx) && finF (cf .f32 b_hy) && finF (cf .f32 b_hz)))) := hF.2.1
    clear hF
    obtain rfl := h11_
    refine doesG_g (b := ((finF (cf .f32 b_lx) && finF (cf .f32 b_ly) && finF (cf .f32 b_lz)) && (finF (cf .f32 b_hx) && finF (cf .f32 b_hy) && finF (cf .f32 b_hz)))) rfl (yld rfl rfl) (fun hg => ?_) (fun hg => ⟨fun h => absurd h hg, Ext.refl _⟩)
    obtain rfl := h12_ hg
    refine (does_fieldAddr (ev rfl) fa31_0).mono ?_; rintro _ _ ⟨rfl, rfl⟩
    exact ⟨fun _ => rfl, Ext.refl _⟩
  refine RW_d (fun v21 => [(.agg #[(.float .f32 b_lx), (.float .f32 b_ly), (.float .f32 b_lz), (.float .f32 b_hx), (.float .f32 b_hy), (.float .f32 b_hz)]), (.pointer (some ⟨b2, 0, none⟩)), (.bool false), v10, v11, v12, v13, v14, v15, v16, v17, v18, v19, v20, v21, undef, undef, undef, undef, undef, undef, undef, undef, undef, undef, undef, undef, undef, undef, undef, undef, undef, undef, undef, undef, undef, undef, undef]) rfl (fun _ => rfl) (fun u hu hF => ?_) (fun v21 => ?_)
  · have h13_ : ((finF (cf .f32 b_lx) && finF (cf .f32 b_ly) && finF (cf .f32 b_lz)) && (finF (cf .f32 b_hx) && finF (cf .f32 b_hy) && finF (cf .f32 b_hz))) = true → v20 = (.pointer (some ⟨b2, 0, none⟩)) := hF.1
    have h11_ : v18 = (.bool ((finF (cf .f32 b_lx) && finF (cf .f32 b_ly) && finF (cf .f32 b_lz)) && (finF (cf .f32 b_hx) && finF (cf .f32 b_hy) && finF (cf .f32 b_hz)))) := hF.2.1
    clear hF
    obtain rfl := h11_
    refine doesG_g (b := ((finF (cf .f32 b_lx) && finF (cf .f32 b_ly) && finF (cf .f32 b_lz)) && (finF (cf .f32 b_hx) && finF (cf .f32 b_hy) && finF (cf .f32 b_hz)))) rfl (yld rfl rfl) (fun hg => ?_) (fun hg => ⟨fun h => absurd h hg, Ext.refl _⟩)
    obtain rfl := h13_ hg
    refine (does_load (u := (.float .f32 b_lx)) (ev rfl) Try.isAgg25 (Cells.at (Blk.cells (hB4.ext hu)) 0 rfl)).mono ?_; rintro _ _ ⟨rfl, rfl⟩
    exact ⟨fun _ => rfl, Ext.refl _⟩
  refine RW_d (fun v22 => [(.agg #[(.float .f32 b_lx), (.float .f32 b_ly), (.float .f32 b_lz), (.float .f32 b_hx), (.float .f32 b_hy), (.float .f32 b_hz)]), (.pointer (some ⟨b2, 0, none⟩)), (.bool false), v10, v11, v12, v13, v14, v15, v16, v17, v18, v19, v20, v21, v22, undef, undef, undef, undef, undef, undef, undef, undef, undef, undef, undef, undef, undef, undef, undef, undef, undef, undef, undef, undef, undef, undef]) rfl (fun _ => rfl) (fun u hu hF => ?_) (fun v22 => ?_)
  · have h11_ : v18 = (.bool ((finF (cf .f32 b_lx) && finF (cf .f32 b_ly) && finF (cf .f32 b_lz)) && (finF (cf .f32 b_hx) && finF (cf .f32 b_hy) && finF (cf .f32 b_hz)))) := hF.1
    clear hF
    obtain rfl := h11_
    refine doesG_g (b := ((finF (cf .f32 b_lx) && finF (cf .f32 b_ly) && finF (cf .f32 b_lz)) && (finF (cf .f32 b_hx) && finF (cf .f32 b_hy) && finF (cf .f32 b_hz)))) rfl (yld rfl rfl) (fun hg => ?_) (fun hg => ⟨fun h => absurd h hg, Ext.refl _⟩)
    refine (does_fieldAddr (ev rfl) fa33_1).mono ?_; rintro _ _ ⟨rfl, rfl⟩
    exact ⟨fun _ => rfl, Ext.refl _⟩
  refine RW_d (fun v23 => [(.agg #[(.float .f32 b_lx), (.float .f32 b_ly), (.float .f32 b_lz), (.float .f32 b_hx), (.float .f32 b_hy), (.float .f32 b_hz)]), (.pointer (some ⟨b2, 0, none⟩)), (.bool false), v10, v11, v12, v13, v14, v15, v16, v17, v18, v19, v20, v21, v22, v23, undef, undef, undef, undef, undef, undef, undef, undef, undef, undef, undef, undef, undef, undef, undef, undef, undef, undef, undef, undef, undef]) rfl (fun _ => rfl) (fun u hu hF => ?_) (fun v23 => ?_)
  · have h15_ : ((finF (cf .f32 b_lx) && finF (cf .f32 b_ly) && finF (cf .f32 b_lz)) && (finF (cf .f32 b_hx) && finF (cf .f32 b_hy) && finF (cf .f32 b_hz))) = true → v22 = (.pointer (some ⟨b2, 3, none⟩)) := hF.1
    have h11_ : v18 = (.bool ((finF (cf .f32 b_lx) && finF (cf .f32 b_ly) && finF (cf .f32 b_lz)) && (finF (cf .f32 b_hx) && finF (cf .f32 b_hy) && finF (cf .f32 b_hz)))) := hF.2.1
    clear hF
    obtain rfl := h11_
    refine doesG_g (b := ((finF (cf .f32 b_lx) && finF (cf .f32 b_ly) && finF (cf .f32 b_lz)) && (finF (cf .f32 b_hx) && finF (cf .f32 b_hy) && finF (cf .f32 b_hz)))) rfl (yld rfl rfl) (fun hg => ?_) (fun hg => ⟨fun h => absurd h hg, Ext.refl _⟩)
    obtain rfl := h15_ hg
    refine (does_fieldAddr (ev rfl) fa31_0).mono ?_; rintro _ _ ⟨rfl, rfl⟩
    exact ⟨fun _ => rfl, Ext.refl _⟩
  refine RW_d (fun v24 => [(.agg #[(.float .f32 b_lx), (.float .f32 b_ly), (.float .f32 b_lz), (.float .f32 b_hx), (.float .f32 b_hy), (.float .f32 b_hz)]), (.pointer (some ⟨b2, 0, none⟩)), (.bool false), v10, v11, v12, v13, v14, v15, v16, v17, v18, v19, v20, v21, v22, v23, v24, undef, undef, undef, undef, undef, undef, undef, undef, undef, undef, undef, undef, undef, undef, undef, undef, undef, undef, undef, undef]) rfl (fun _ => rfl) (fun u hu hF => ?_) (fun v24 => ?_)
  · have h16_ : ((finF (cf .f32 b_lx) && finF (cf .f32 b_ly) && finF (cf .f32 b_lz)) && (finF (cf .f32 b_hx) && finF (cf .f32 b_hy) && finF (cf .f32 b_hz))) = true → v23 = (.pointer (some ⟨b2, 3, none⟩)) := hF.1
    have h11_ : v18 = (.bool ((finF (cf .f32 b_lx) && finF (cf .f32 b_ly) && finF (cf .f32 b_lz)) && (finF (cf .f32 b_hx) && finF (cf .f32 b_hy) && finF (cf .f32 b_hz)))) := hF.2.1
    clear hF
    obtain rfl := h11_
    refine doesG_g (b := ((finF (cf .f32 b_lx) && finF (cf .f32 b_ly) && finF (cf .f32 b_lz)) && (finF (cf .f32 b_hx) && finF (cf .f32 b_hy) && finF (cf .f32 b_hz)))) rfl (yld rfl rfl) (fun hg => ?_) (fun hg => ⟨fun h => absurd h hg, Ext.refl _⟩)
    obtain rfl := h16_ hg
    refine (does_load (u := (.float .f32 b_hx)) (ev rfl) Try.isAgg25 (Cells.at (Blk.cells (hB4.ext hu)) 3 rfl)).mono ?_; rintro _ _ ⟨rfl, rfl⟩
    exact ⟨fun _ => rfl, Ext.refl _⟩
  refine RW_d (fun v25 => [(.agg #[(.float .f32 b_lx), (.float .f32 b_ly), (.float .f32 b_lz), (.float .f32 b_hx), (.float .f32 b_hy), (.float .f32 b_hz)]), (.pointer (some ⟨b2, 0, none⟩)), (.bool false), v10, v11, v12, v13, v14, v15, v16, v17, v18, v19, v20, v21, v22, v23, v24, v25, undef, undef, undef, undef, undef, undef, undef, undef, undef, undef, undef, undef, undef, undef, undef, undef, undef, undef, undef]) rfl (fun _ => rfl) (fun u hu hF => ?_) (fun v25 => ?_)
  · have h14_ : ((finF (cf .f32 b_lx) && finF (cf .f32 b_ly) && finF (cf .f32 b_lz)) && (finF (cf .f32 b_hx) && finF (cf .f32 b_hy) && finF (cf .f32 b_hz))) = true → v21 = (.float .f32 b_lx) := hF.1
    have h17_ : ((finF (cf .f32 b_lx) && finF (cf .f32 b_ly) && finF (cf .f32 b_lz)) && (finF (cf .f32 b_hx) && finF (cf .f32 b_hy) && finF (cf .f32 b_hz))) = true → v24 = (.float .f32 b_hx) := hF.2.1
    have h11_ : v18 = (.bool ((finF (cf .f32 b_lx) && finF (cf .f32 b_ly) && finF (cf .f32 b_lz)) && (finF (cf .f32 b_hx) && finF (cf .f32 b_hy) && finF (cf .f32 b_hz)))) := hF.2.2.1
    clear hF
    obtain rfl := h11_
    refine doesG_g (b := ((finF (cf .f32 b_lx) && finF (cf .f32 b_ly) && finF (cf .f32 b_lz)) && (finF (cf .f32 b_hx) && finF (cf .f32 b_hy) && finF (cf .f32 b_hz)))) rfl (yld rfl rfl) (fun hg => ?_) (fun hg => ⟨fun h => absurd h hg, Ext.refl _⟩)
    obtain rfl := h14_ hg
    obtain rfl := h17_ hg
    refine (does_fcmp (.inr (.inr (.inr (.inl rfl)))) (ev rfl) (ev rfl)).mono ?_; rintro _ _ ⟨rfl, rfl⟩
    exact ⟨fun _ => rfl, Ext.refl _⟩
  refine RW_d (fun v26 => [(.agg #[(.float .f32 b_lx), (.float .f32 b_ly), (.float .f32 b_lz), (.float .f32 b_hx), (.float .f32 b_hy), (.float .f32 b_hz)]), (.pointer (some ⟨b2, 0, none⟩)), (.bool false), v10, v11, v12, v13, v14, v15, v16, v17, v18, v19, v20, v21, v22, v23, v24, v25, v26, undef, undef, undef, undef, undef, undef, undef, undef, undef, undef, undef, undef, undef, undef, undef, undef, undef, undef]) rfl (fun _ => rfl) (fun u hu hF => ?_) (fun v26 => ?_)
  · have h11_ : v18 = (.bool ((finF (cf .f32 b_lx) && finF (cf .f32 b_ly) && finF (cf .f32 b_lz)) && (finF (cf .f32 b_hx) && finF (cf .f32 b_hy) && finF (cf .f32 b_hz)))) := hF.1
    have h18_ : ((finF (cf .f32 b_lx) && finF (cf .f32 b_ly) && finF (cf .f32 b_lz)) && (finF (cf .f32 b_hx) && finF (cf .f32 b_hy) && finF (cf .f32 b_hz))) = true → v25 = (.bool (fcmp .leq (ford .f32 (cf .f32 b_lx) (cf .f32 b_hx)))) := hF.2.1
    clear hF
    obtain rfl := h11_
    refine doesG_un rfl ((does_pick (b := ((finF (cf .f32 b_lx) && finF (cf .f32 b_ly) && finF (cf .f32 b_lz)) && (finF (cf .f32 b_hx) && finF (cf .f32 b_hy) && finF (cf .f32 b_hz)))) (ev rfl) (ev rfl) (ev rfl)).mono ?_); rintro _ _ ⟨rfl, rfl⟩; refine ⟨?_, Ext.refl _⟩
    cases hbb : ((finF (cf .f32 b_lx) && finF (cf .f32 b_ly) && finF (cf .f32 b_lz)) && (finF (cf .f32 b_hx) && finF (cf .f32 b_hy) && finF (cf .f32 b_hz))) <;> simp [hbb] at h18_ ⊢
    all_goals (first | rfl | (subst h18_; rfl) | simp_all)
  refine RW_d (fun v27 => [(.agg #[(.float .f32 b_lx), (.float .f32 b_ly), (.float .f32 b_lz), (.float .f32 b_hx), (.float .f32 b_hy), (.float .f32 b_hz)]), (.pointer (some ⟨b2, 0, none⟩)), (.bool false), v10, v11, v12, v13, v14, v15, v16, v17, v18, v19, v20, v21, v22, v23, v24, v25, v26, v27, undef, undef, undef, undef, undef, undef, undef, undef, undef, undef, undef, undef, undef, undef, undef, undef, undef]) rfl (fun _ => rfl) (fun u hu hF => ?_) (fun v27 => ?_)
  · have h19_ : v26 = (.bool (((finF (cf .f32 b_lx) && finF (cf .f32 b_ly) && finF (cf .f32 b_lz)) && (finF (cf .f32 b_hx) && finF (cf .f32 b_hy) && finF (cf .f32 b_hz))) && (fcmp .leq (ford .f32 (cf .f32 b_lx) (cf .f32 b_hx))))) := hF.1
    clear hF
    obtain rfl := h19_
    refine doesG_un rfl ?_
    refine (does_move (u := (.bool (((finF (cf .f32 b_lx) && finF (cf .f32 b_ly) && finF (cf .f32 b_lz)) && (finF (cf .f32 b_hx) && finF (cf .f32 b_hy) && finF (cf .f32 b_hz))) && (fcmp .leq (ford .f32 (cf .f32 b_lx) (cf .f32 b_hx)))))) (ev rfl)).mono ?_; rintro _ _ ⟨rfl, rfl⟩
    exact ⟨rfl, Ext.refl _⟩
  refine RW_d (fun v28 => [(.agg #[(.float .f32 b_lx), (.float .f32 b_ly), (.float .f32 b_lz), (.float .f32 b_hx), (.float .f32 b_hy), (.float .f32 b_hz)]), (.pointer (some ⟨b2, 0, none⟩)), (.bool false), v10, v11, v12, v13, v14, v15, v16, v17, v18, v19, v20, v21, v22, v23, v24, v25, v26, v27, v28, undef, undef, undef, undef, undef, undef, undef, undef, undef, undef, undef, undef, undef, undef, undef, undef]) rfl (fun _ => rfl) (fun u hu hF => ?_) (fun v28 => ?_)
  · have h20_ : v27 = (.bool (((finF (cf .f32 b_lx) && finF (cf .f32 b_ly) && finF (cf .f32 b_lz)) && (finF (cf .f32 b_hx) && finF (cf .f32 b_hy) && finF (cf .f32 b_hz))) && (fcmp .leq (ford .f32 (cf .f32 b_lx) (cf .f32 b_hx))))) := hF.1
    clear hF
    obtain rfl := h20_
    refine doesG_g (b := (((finF (cf .f32 b_lx) && finF (cf .f32 b_ly) && finF (cf .f32 b_lz)) && (finF (cf .f32 b_hx) && finF (cf .f32 b_hy) && finF (cf .f32 b_hz))) && (fcmp .leq (ford .f32 (cf .f32 b_lx) (cf .f32 b_hx))))) rfl (yld rfl rfl) (fun hg => ?_) (fun hg => ⟨fun h => absurd h hg, Ext.refl _⟩)
    refine (does_fieldAddr (ev rfl) fa33_0).mono ?_; rintro _ _ ⟨rfl, rfl⟩
    exact ⟨fun _ => rfl, Ext.refl _⟩
  refine RW_d (fun v29 => [(.agg #[(.float .f32 b_lx), (.float .f32 b_ly), (.float .f32 b_lz), (.float .f32 b_hx), (.float .f32 b_hy), (.float .f32 b_hz)]), (.pointer (some ⟨b2, 0, none⟩)), (.bool false), v10, v11, v12, v13, v14, v15, v16, v17, v18, v19, v20, v21, v22, v23, v24, v25, v26, v27, v28, v29, undef, undef, undef, undef, undef, undef, undef, undef, undef, undef, undef, undef, undef, undef, undef]) rfl (fun _ => rfl) (fun u hu hF => ?_) (fun v29 => ?_)
  · have h21_ : (((finF (cf .f32 b_lx) && finF (cf .f32 b_ly) && finF (cf .f32 b_lz)) && (finF (cf .f32 b_hx) && finF (cf .f32 b_hy) && finF (cf .f32 b_hz))) && (fcmp .leq (ford .f32 (cf .f32 b_lx) (cf .f32 b_hx)))) = true → v28 = (.pointer (some ⟨b2, 0, none⟩)) := hF.1
    have h20_ : v27 = (.bool (((finF (cf .f32 b_lx) && finF (cf .f32 b_ly) && finF (cf .f32 b_lz)) && (finF (cf .f32 b_hx) && finF (cf .f32 b_hy) && finF (cf .f32 b_hz))) && (fcmp .leq (ford .f32 (cf .f32 b_lx) (cf .f32 b_hx))))) := hF.2.1
    clear hF
    obtain rfl := h20_
    refine doesG_g (b := (((finF (cf .f32 b_lx) && finF (cf .f32 b_ly) && finF (cf .f32 b_lz)) && (finF (cf .f32 b_hx) && finF (cf .f32 b_hy) && finF (cf .f32 b_hz))) && (fcmp .leq (ford .f32 (cf .f32 b_lx) (cf .f32 b_hx))))) rfl (yld rfl rfl) (fun hg => ?_) (fun hg => ⟨fun h => absurd h hg, Ext.refl _⟩)
    obtain rfl := h21_ hg
    refine (does_fieldAddr (ev rfl) fa31_1).mono ?_; rintro _ _ ⟨rfl, rfl⟩
    exact ⟨fun _ => rfl, Ext.refl _⟩
  refine RW_d (fun v30 => [(.agg #[(.float .f32 b_lx), (.float .f32 b_ly), (.float .f32 b_lz), (.float .f32 b_hx), (.float .f32 b_hy), (.float .f32 b_hz)]), (.pointer (some ⟨b2, 0, none⟩)), (.bool false), v10, v11, v12, v13, v14, v15, v16, v17, v18, v19, v20, v21, v22, v23, v24, v25, v26, v27, v28, v29, v30, undef, undef, undef, undef, undef, undef, undef, undef, undef, undef, undef, undef, undef, undef]) rfl (fun _ => rfl) (fun u hu hF => ?_) (fun v30 => ?_)
  · have h22_ : (((finF (cf .f32 b_lx) && finF (cf .f32 b_ly) && finF (cf .f32 b_lz)) && (finF (cf .f32 b_hx) && finF (cf .f32 b_hy) && finF (cf .f32 b_hz))) && (fcmp .leq (ford .f32 (cf .f32 b_lx) (cf .f32 b_hx)))) = true → v29 = (.pointer (some ⟨b2, 1, none⟩)) := hF.1
    have h20_ : v27 = (.bool (((finF (cf .f32 b_lx) && finF (cf .f32 b_ly) && finF (cf .f32 b_lz)) && (finF (cf .f32 b_hx) && finF (cf .f32 b_hy) && finF (cf .f32 b_hz))) && (fcmp .leq (ford .f32 (cf .f32 b_lx) (cf .f32 b_hx))))) := hF.2.1
    clear hF
    obtain rfl := h20_
    refine doesG_g (b := (((finF (cf .f32 b_lx) && finF (cf .f32 b_ly) && finF (cf .f32 b_lz)) && (finF (cf .f32 b_hx) && finF (cf .f32 b_hy) && finF (cf .f32 b_hz))) && (fcmp .leq (ford .f32 (cf .f32 b_lx) (cf .f32 b_hx))))) rfl (yld rfl rfl) (fun hg => ?_) (fun hg => ⟨fun h => absurd h hg, Ext.refl _⟩)
    obtain rfl := h22_ hg
    refine (does_load (u := (.float .f32 b_ly)) (ev rfl) Try.isAgg25 (Cells.at (Blk.cells (hB4.ext hu)) 1 rfl)).mono ?_; rintro _ _ ⟨rfl, rfl⟩
    exact ⟨fun _ => rfl, Ext.refl _⟩
  refine RW_d (fun v31 => [(.agg #[(.float .f32 b_lx), (.float .f32 b_ly), (.float .f32 b_lz), (.float .f32 b_hx), (.float .f32 b_hy), (.float .f32 b_hz)]), (.pointer (some ⟨b2, 0, none⟩)), (.bool false), v10, v11, v12, v13, v14, v15, v16, v17, v18, v19, v20, v21, v22, v23, v24, v25, v26, v27, v28, v29, v30, v31, undef, undef, undef, undef, undef, undef, undef, undef, undef, undef, undef, undef, undef]) rfl (fun _ => rfl) (fun u hu hF => ?_) (fun v31 => ?_)
  · have h20_ : v27 = (.bool (((finF (cf .f32 b_lx) && finF (cf .f32 b_ly) && finF (cf .f32 b_lz)) && (finF (cf .f32 b_hx) && finF (cf .f32 b_hy) && finF (cf .f32 b_hz))) && (fcmp .leq (ford .f32 (cf .f32 b_lx) (cf .f32 b_hx))))) := hF.1
    clear hF
    obtain rfl := h20_
    refine doesG_g (b := (((finF (cf .f32 b_lx) && finF (cf .f32 b_ly) && finF (cf .f32 b_lz)) && (finF (cf .f32 b_hx) && finF (cf .f32 b_hy) && finF (cf .f32 b_hz))) && (fcmp .leq (ford .f32 (cf .f32 b_lx) (cf .f32 b_hx))))) rfl (yld rfl rfl) (fun hg => ?_) (fun hg => ⟨fun h => absurd h hg, Ext.refl _⟩)
    refine (does_fieldAddr (ev rfl) fa33_1).mono ?_; rintro _ _ ⟨rfl, rfl⟩
    exact ⟨fun _ => rfl, Ext.refl _⟩
  refine RW_d (fun v32 => [(.agg #[(.float .f32 b_lx), (.float .f32 b_ly), (.float .f32 b_lz), (.float .f32 b_hx), (.float .f32 b_hy), (.float .f32 b_hz)]), (.pointer (some ⟨b2, 0, none⟩)), (.bool false), v10, v11, v12, v13, v14, v15, v16, v17, v18, v19, v20, v21, v22, v23, v24, v25, v26, v27, v28, v29, v30, v31, v32, undef, undef, undef, undef, undef, undef, undef, undef, undef, undef, undef, undef]) rfl (fun _ => rfl) (fun u hu hF => ?_) (fun v32 => ?_)
  · have h24_ : (((finF (cf .f32 b_lx) && finF (cf .f32 b_ly) && finF (cf .f32 b_lz)) && (finF (cf .f32 b_hx) && finF (cf .f32 b_hy) && finF (cf .f32 b_hz))) && (fcmp .leq (ford .f32 (cf .f32 b_lx) (cf .f32 b_hx)))) = true → v31 = (.pointer (some ⟨b2, 3, none⟩)) := hF.1
    have h20_ : v27 = (.bool (((finF (cf .f32 b_lx) && finF (cf .f32 b_ly) && finF (cf .f32 b_lz)) && (finF (cf .f32 b_hx) && finF (cf .f32 b_hy) && finF (cf .f32 b_hz))) && (fcmp .leq (ford .f32 (cf .f32 b_lx) (cf .f32 b_hx))))) := hF.2.1
    clear hF
    obtain rfl := h20_
    refine doesG_g (b := (((finF (cf .f32 b_lx) && finF (cf .f32 b_ly) && finF (cf .f32 b_lz)) && (finF (cf .f32 b_hx) && finF (cf .f32 b_hy) && finF (cf .f32 b_hz))) && (fcmp .leq (ford .f32 (cf .f32 b_lx) (cf .f32 b_hx))))) rfl (yld rfl rfl) (fun hg => ?_) (fun hg => ⟨fun h => absurd h hg, Ext.refl _⟩)
    obtain rfl := h24_ hg
    refine (does_fieldAddr (ev rfl) fa31_1).mono ?_; rintro _ _ ⟨rfl, rfl⟩
    exact ⟨fun _ => rfl, Ext.refl _⟩
  refine RW_d (fun v33 => [(.agg #[(.float .f32 b_lx), (.float .f32 b_ly), (.float .f32 b_lz), (.float .f32 b_hx), (.float .f32 b_hy), (.float .f32 b_hz)]), (.pointer (some ⟨b2, 0, none⟩)), (.bool false), v10, v11, v12, v13, v14, v15, v16, v17, v18, v19, v20, v21, v22, v23, v24, v25, v26, v27, v28, v29, v30, v31, v32, v33, undef, undef, undef, undef, undef, undef, undef, undef, undef, undef, undef]) rfl (fun _ => rfl) (fun u hu hF => ?_) (fun v33 => ?_)
  · have h25_ : (((finF (cf .f32 b_lx) && finF (cf .f32 b_ly) && finF (cf .f32 b_lz)) && (finF (cf .f32 b_hx) && finF (cf .f32 b_hy) && finF (cf .f32 b_hz))) && (fcmp .leq (ford .f32 (cf .f32 b_lx) (cf .f32 b_hx)))) = true → v32 = (.pointer (some ⟨b2, 4, none⟩)) := hF.1
    have h20_ : v27 = (.bool (((finF (cf .f32 b_lx) && finF (cf .f32 b_ly) && finF (cf .f32 b_lz)) && (finF (cf .f32 b_hx) && finF (cf .f32 b_hy) && finF (cf .f32 b_hz))) && (fcmp .leq (ford .f32 (cf .f32 b_lx) (cf .f32 b_hx))))) := hF.2.1
    clear hF
    obtain rfl := h20_
    refine doesG_g (b := (((finF (cf .f32 b_lx) && finF (cf .f32 b_ly) && finF (cf .f32 b_lz)) && (finF (cf .f32 b_hx) && finF (cf .f32 b_hy) && finF (cf .f32 b_hz))) && (fcmp .leq (ford .f32 (cf .f32 b_lx) (cf .f32 b_hx))))) rfl (yld rfl rfl) (fun hg => ?_) (fun hg => ⟨fun h => absurd h hg, Ext.refl _⟩)
    obtain rfl := h25_ hg
    refine (does_load (u := (.float .f32 b_hy)) (ev rfl) Try.isAgg25 (Cells.at (Blk.cells (hB4.ext hu)) 4 rfl)).mono ?_; rintro _ _ ⟨rfl, rfl⟩
    exact ⟨fun _ => rfl, Ext.refl _⟩
  refine RW_d (fun v34 => [(.agg #[(.float .f32 b_lx), (.float .f32 b_ly), (.float .f32 b_lz), (.float .f32 b_hx), (.float .f32 b_hy), (.float .f32 b_hz)]), (.pointer (some ⟨b2, 0, none⟩)), (.bool false), v10, v11, v12, v13, v14, v15, v16, v17, v18, v19, v20, v21, v22, v23, v24, v25, v26, v27, v28, v29, v30, v31, v32, v33, v34, undef, undef, undef, undef, undef, undef, undef, undef, undef, undef]) rfl (fun _ => rfl) (fun u hu hF => ?_) (fun v34 => ?_)
  · have h23_ : (((finF (cf .f32 b_lx) && finF (cf .f32 b_ly) && finF (cf .f32 b_lz)) && (finF (cf .f32 b_hx) && finF (cf .f32 b_hy) && finF (cf .f32 b_hz))) && (fcmp .leq (ford .f32 (cf .f32 b_lx) (cf .f32 b_hx)))) = true → v30 = (.float .f32 b_ly) := hF.1
    have h26_ : (((finF (cf .f32 b_lx) && finF (cf .f32 b_ly) && finF (cf .f32 b_lz)) && (finF (cf .f32 b_hx) && finF (cf .f32 b_hy) && finF (cf .f32 b_hz))) && (fcmp .leq (ford .f32 (cf .f32 b_lx) (cf .f32 b_hx)))) = true → v33 = (.float .f32 b_hy) := hF.2.1
    have h20_ : v27 = (.bool (((finF (cf .f32 b_lx) && finF (cf .f32 b_ly) && finF (cf .f32 b_lz)) && (finF (cf .f32 b_hx) && finF (cf .f32 b_hy) && finF (cf .f32 b_hz))) && (fcmp .leq (ford .f32 (cf .f32 b_lx) (cf .f32 b_hx))))) := hF.2.2.1
    clear hF
    obtain rfl := h20_
    refine doesG_g (b := (((finF (cf .f32 b_lx) && finF (cf .f32 b_ly) && finF (cf .f32 b_lz)) && (finF (cf .f32 b_hx) && finF (cf .f32 b_hy) && finF (cf .f32 b_hz))) && (fcmp .leq (ford .f32 (cf .f32 b_lx) (cf .f32 b_hx))))) rfl (yld rfl rfl) (fun hg => ?_) (fun hg => ⟨fun h => absurd h hg, Ext.refl _⟩)
    obtain rfl := h23_ hg
    obtain rfl := h26_ hg
    refine (does_fcmp (.inr (.inr (.inr (.inl rfl)))) (ev rfl) (ev rfl)).mono ?_; rintro _ _ ⟨rfl, rfl⟩
    exact ⟨fun _ => rfl, Ext.refl _⟩
  refine RW_d (fun v35 => [(.agg #[(.float .f32 b_lx), (.float .f32 b_ly), (.float .f32 b_lz), (.float .f32 b_hx), (.float .f32 b_hy), (.float .f32 b_hz)]), (.pointer (some ⟨b2, 0, none⟩)), (.bool false), v10, v11, v12, v13, v14, v15, v16, v17, v18, v19, v20, v21, v22, v23, v24, v25, v26, v27, v28, v29, v30, v31, v32, v33, v34, v35, undef, undef, undef, undef, undef, undef, undef, undef, undef]) rfl (fun _ => rfl) (fun u hu hF => ?_) (fun v35 => ?_)
  · have h20_ : v27 = (.bool (((finF (cf .f32 b_lx) && finF (cf .f32 b_ly) && finF (cf .f32 b_lz)) && (finF (cf .f32 b_hx) && finF (cf .f32 b_hy) && finF (cf .f32 b_hz))) && (fcmp .leq (ford .f32 (cf .f32 b_lx) (cf .f32 b_hx))))) := hF.1
    have h27_ : (((finF (cf .f32 b_lx) && finF (cf .f32 b_ly) && finF (cf .f32 b_lz)) && (finF (cf .f32 b_hx) && finF (cf .f32 b_hy) && finF (cf .f32 b_hz))) && (fcmp .leq (ford .f32 (cf .f32 b_lx) (cf .f32 b_hx)))) = true → v34 = (.bool (fcmp .leq (ford .f32 (cf .f32 b_ly) (cf .f32 b_hy)))) := hF.2.1
    clear hF
    obtain rfl := h20_
    refine doesG_un rfl ((does_pick (b := (((finF (cf .f32 b_lx) && finF (cf .f32 b_ly) && finF (cf .f32 b_lz)) && (finF (cf .f32 b_hx) && finF (cf .f32 b_hy) && finF (cf .f32 b_hz))) && (fcmp .leq (ford .f32 (cf .f32 b_lx) (cf .f32 b_hx))))) (ev rfl) (ev rfl) (ev rfl)).mono ?_); rintro _ _ ⟨rfl, rfl⟩; refine ⟨?_, Ext.refl _⟩
    cases hbb : (((finF (cf .f32 b_lx) && finF (cf .f32 b_ly) && finF (cf .f32 b_lz)) && (finF (cf .f32 b_hx) && finF (cf .f32 b_hy) && finF (cf .f32 b_hz))) && (fcmp .leq (ford .f32 (cf .f32 b_lx) (cf .f32 b_hx)))) <;> simp [hbb] at h27_ ⊢
    all_goals (first | rfl | (subst h27_; rfl) | simp_all)
  refine RW_d (fun v36 => [(.agg #[(.float .f32 b_lx), (.float .f32 b_ly), (.float .f32 b_lz), (.float .f32 b_hx), (.float .f32 b_hy), (.float .f32 b_hz)]), (.pointer (some ⟨b2, 0, none⟩)), (.bool false), v10, v11, v12, v13, v14, v15, v16, v17, v18, v19, v20, v21, v22, v23, v24, v25, v26, v27, v28, v29, v30, v31, v32, v33, v34, v35, v36, undef, undef, undef, undef, undef, undef, undef, undef]) rfl (fun _ => rfl) (fun u hu hF => ?_) (fun v36 => ?_)
  · have h28_ : v35 = (.bool ((((finF (cf .f32 b_lx) && finF (cf .f32 b_ly) && finF (cf .f32 b_lz)) && (finF (cf .f32 b_hx) && finF (cf .f32 b_hy) && finF (cf .f32 b_hz))) && (fcmp .leq (ford .f32 (cf .f32 b_lx) (cf .f32 b_hx)))) && (fcmp .leq (ford .f32 (cf .f32 b_ly) (cf .f32 b_hy))))) := hF.1
    clear hF
    obtain rfl := h28_
    refine doesG_un rfl ?_
    refine (does_move (u := (.bool ((((finF (cf .f32 b_lx) && finF (cf .f32 b_ly) && finF (cf .f32 b_lz)) && (finF (cf .f32 b_hx) && finF (cf .f32 b_hy) && finF (cf .f32 b_hz))) && (fcmp .leq (ford .f32 (cf .f32 b_lx) (cf .f32 b_hx)))) && (fcmp .leq (ford .f32 (cf .f32 b_ly) (cf .f32 b_hy)))))) (ev rfl)).mono ?_; rintro _ _ ⟨rfl, rfl⟩
    exact ⟨rfl, Ext.refl _⟩
  refine RW_d (fun v37 => [(.agg #[(.float .f32 b_lx), (.float .f32 b_ly), (.float .f32 b_lz), (.float .f32 b_hx), (.float .f32 b_hy), (.float .f32 b_hz)]), (.pointer (some ⟨b2, 0, none⟩)), (.bool false), v10, v11, v12, v13, v14, v15, v16, v17, v18, v19, v20, v21, v22, v23, v24, v25, v26, v27, v28, v29, v30, v31, v32, v33, v34, v35, v36, v37, undef, undef, undef, undef, undef, undef, undef]) rfl (fun _ => rfl) (fun u hu hF => ?_) (fun v37 => ?_)
  · have h29_ : v36 = (.bool ((((finF (cf .f32 b_lx) && finF (cf .f32 b_ly) && finF (cf .f32 b_lz)) && (finF (cf .f32 b_hx) && finF (cf .f32 b_hy) && finF (cf .f32 b_hz))) && (fcmp .leq (ford .f32 (cf .f32 b_lx) (cf .f32 b_hx)))) && (fcmp .leq (ford .f32 (cf .f32 b_ly) (cf .f32 b_hy))))) := hF.1
    clear hF
    obtain rfl := h29_
    refine doesG_g (b := ((((finF (cf .f32 b_lx) && finF (cf .f32 b_ly) && finF (cf .f32 b_lz)) && (finF (cf .f32 b_hx) && finF (cf .f32 b_hy) && finF (cf .f32 b_hz))) && (fcmp .leq (ford .f32 (cf .f32 b_lx) (cf .f32 b_hx)))) && (fcmp .leq (ford .f32 (cf .f32 b_ly) (cf .f32 b_hy))))) rfl (yld rfl rfl) (fun hg => ?_) (fun hg => ⟨fun h => absurd h hg, Ext.refl _⟩)
    refine (does_fieldAddr (ev rfl) fa33_0).mono ?_; rintro _ _ ⟨rfl, rfl⟩
    exact ⟨fun _ => rfl, Ext.refl _⟩
  refine RW_d (fun v38 => [(.agg #[(.float .f32 b_lx), (.float .f32 b_ly), (.float .f32 b_lz), (.float .f32 b_hx), (.float .f32 b_hy), (.float .f32 b_hz)]), (.pointer (some ⟨b2, 0, none⟩)), (.bool false), v10, v11, v12, v13, v14, v15, v16, v17, v18, v19, v20, v21, v22, v23, v24, v25, v26, v27, v28, v29, v30, v31, v32, v33, v34, v35, v36, v37, v38, undef, undef, undef, undef, undef, undef]) rfl (fun _ => rfl) (fun u hu hF => ?_) (fun v38 => ?_)
  · have h30_ : ((((finF (cf .f32 b_lx) && finF (cf .f32 b_ly) && finF (cf .f32 b_lz)) && (finF (cf .f32 b_hx) && finF (cf .f32 b_hy) && finF (cf .f32 b_hz))) && (fcmp .leq (ford .f32 (cf .f32 b_lx) (cf .f32 b_hx)))) && (fcmp .leq (ford .f32 (cf .f32 b_ly) (cf .f32 b_hy)))) = true → v37 = (.pointer (some ⟨b2, 0, none⟩)) := hF.1
    have h29_ : v36 = (.bool ((((finF (cf .f32 b_lx) && finF (cf .f32 b_ly) && finF (cf .f32 b_lz)) && (finF (cf .f32 b_hx) && finF (cf .f32 b_hy) && finF (cf .f32 b_hz))) && (fcmp .leq (ford .f32 (cf .f32 b_lx) (cf .f32 b_hx)))) && (fcmp .leq (ford .f32 (cf .f32 b_ly) (cf .f32 b_hy))))) := hF.2.1
    clear hF
    obtain rfl := h29_
    refine doesG_g (b := ((((finF (cf .f32 b_lx) && finF (cf .f32 b_ly) && finF (cf .f32 b_lz)) && (finF (cf .f32 b_hx) && finF (cf .f32 b_hy) && finF (cf .f32 b_hz))) && (fcmp .leq (ford .f32 (cf .f32 b_lx) (cf .f32 b_hx)))) && (fcmp .leq (ford .f32 (cf .f32 b_ly) (cf .f32 b_hy))))) rfl (yld rfl rfl) (fun hg => ?_) (fun hg => ⟨fun h => absurd h hg, Ext.refl _⟩)
    obtain rfl := h30_ hg
    refine (does_fieldAddr (ev rfl) fa31_2).mono ?_; rintro _ _ ⟨rfl, rfl⟩
    exact ⟨fun _ => rfl, Ext.refl _⟩
  refine RW_d (fun v39 => [(.agg #[(.float .f32 b_lx), (.float .f32 b_ly), (.float .f32 b_lz), (.float .f32 b_hx), (.float .f32 b_hy), (.float .f32 b_hz)]), (.pointer (some ⟨b2, 0, none⟩)), (.bool false), v10, v11, v12, v13, v14, v15, v16, v17, v18, v19, v20, v21, v22, v23, v24, v25, v26, v27, v28, v29, v30, v31, v32, v33, v34, v35, v36, v37, v38, v39, undef, undef, undef, undef, undef]) rfl (fun _ => rfl) (fun u hu hF => ?_) (fun v39 => ?_)
  · have h31_ : ((((finF (cf .f32 b_lx) && finF (cf .f32 b_ly) && finF (cf .f32 b_lz)) && (finF (cf .f32 b_hx) && finF (cf .f32 b_hy) && finF (cf .f32 b_hz))) && (fcmp .leq (ford .f32 (cf .f32 b_lx) (cf .f32 b_hx)))) && (fcmp .leq (ford .f32 (cf .f32 b_ly) (cf .f32 b_hy)))) = true → v38 = (.pointer (some ⟨b2, 2, none⟩)) := hF.1
    have h29_ : v36 = (.bool ((((finF (cf .f32 b_lx) && finF (cf .f32 b_ly) && finF (cf .f32 b_lz)) && (finF (cf .f32 b_hx) && finF (cf .f32 b_hy) && finF (cf .f32 b_hz))) && (fcmp .leq (ford .f32 (cf .f32 b_lx) (cf .f32 b_hx)))) && (fcmp .leq (ford .f32 (cf .f32 b_ly) (cf .f32 b_hy))))) := hF.2.1
    clear hF
    obtain rfl := h29_
    refine doesG_g (b := ((((finF (cf .f32 b_lx) && finF (cf .f32 b_ly) && finF (cf .f32 b_lz)) && (finF (cf .f32 b_hx) && finF (cf .f32 b_hy) && finF (cf .f32 b_hz))) && (fcmp .leq (ford .f32 (cf .f32 b_lx) (cf .f32 b_hx)))) && (fcmp .leq (ford .f32 (cf .f32 b_ly) (cf .f32 b_hy))))) rfl (yld rfl rfl) (fun hg => ?_) (fun hg => ⟨fun h => absurd h hg, Ext.refl _⟩)
    obtain rfl := h31_ hg
    refine (does_load (u := (.float .f32 b_lz)) (ev rfl) Try.isAgg25 (Cells.at (Blk.cells (hB4.ext hu)) 2 rfl)).mono ?_; rintro _ _ ⟨rfl, rfl⟩
    exact ⟨fun _ => rfl, Ext.refl _⟩
  refine RW_d (fun v40 => [(.agg #[(.float .f32 b_lx), (.float .f32 b_ly), (.float .f32 b_lz), (.float .f32 b_hx), (.float .f32 b_hy), (.float .f32 b_hz)]), (.pointer (some ⟨b2, 0, none⟩)), (.bool false), v10, v11, v12, v13, v14, v15, v16, v17, v18, v19, v20, v21, v22, v23, v24, v25, v26, v27, v28, v29, v30, v31, v32, v33, v34, v35, v36, v37, v38, v39, v40, undef, undef, undef, undef]) rfl (fun _ => rfl) (fun u hu hF => ?_) (fun v40 => ?_)
  · have h29_ : v36 = (.bool ((((finF (cf .f32 b_lx) && finF (cf .f32 b_ly) && finF (cf .f32 b_lz)) && (finF (cf .f32 b_hx) && finF (cf .f32 b_hy) && finF (cf .f32 b_hz))) && (fcmp .leq (ford .f32 (cf .f32 b_lx) (cf .f32 b_hx)))) && (fcmp .leq (ford .f32 (cf .f32 b_ly) (cf .f32 b_hy))))) := hF.1
    clear hF
    obtain rfl := h29_
    refine doesG_g (b := ((((finF (cf .f32 b_lx) && finF (cf .f32 b_ly) && finF (cf .f32 b_lz)) && (finF (cf .f32 b_hx) && finF (cf .f32 b_hy) && finF (cf .f32 b_hz))) && (fcmp .leq (ford .f32 (cf .f32 b_lx) (cf .f32 b_hx)))) && (fcmp .leq (ford .f32 (cf .f32 b_ly) (cf .f32 b_hy))))) rfl (yld rfl rfl) (fun hg => ?_) (fun hg => ⟨fun h => absurd h hg, Ext.refl _⟩)
    refine (does_fieldAddr (ev rfl) fa33_1).mono ?_; rintro _ _ ⟨rfl, rfl⟩
    exact ⟨fun _ => rfl, Ext.refl _⟩
  refine RW_d (fun v41 => [(.agg #[(.float .f32 b_lx), (.float .f32 b_ly), (.float .f32 b_lz), (.float .f32 b_hx), (.float .f32 b_hy), (.float .f32 b_hz)]), (.pointer (some ⟨b2, 0, none⟩)), (.bool false), v10, v11, v12, v13, v14, v15, v16, v17, v18, v19, v20, v21, v22, v23, v24, v25, v26, v27, v28, v29, v30, v31, v32, v33, v34, v35, v36, v37, v38, v39, v40, v41, undef, undef, undef]) rfl (fun _ => rfl) (fun u hu hF => ?_) (fun v41 => ?_)
  · have h33_ : ((((finF (cf .f32 b_lx) && finF (cf .f32 b_ly) && finF (cf .f32 b_lz)) && (finF (cf .f32 b_hx) && finF (cf .f32 b_hy) && finF (cf .f32 b_hz))) && (fcmp .leq (ford .f32 (cf .f32 b_lx) (cf .f32 b_hx)))) && (fcmp .leq (ford .f32 (cf .f32 b_ly) (cf .f32 b_hy)))) = true → v40 = (.pointer (some ⟨b2, 3, none⟩)) := hF.1
    have h29_ : v36 = (.bool ((((finF (cf .f32 b_lx) && finF (cf .f32 b_ly) && finF (cf .f32 b_lz)) && (finF (cf .f32 b_hx) && finF (cf .f32 b_hy) && finF (cf .f32 b_hz))) && (fcmp .leq (ford .f32 (cf .f32 b_lx) (cf .f32 b_hx)))) && (fcmp .leq (ford .f32 (cf .f32 b_ly) (cf .f32 b_hy))))) := hF.2.1
    clear hF
    obtain rfl := h29_
    refine doesG_g (b := ((((finF (cf .f32 b_lx) && finF (cf .f32 b_ly) && finF (cf .f32 b_lz)) && (finF (cf .f32 b_hx) && finF (cf .f32 b_hy) && finF (cf .f32 b_hz))) && (fcmp .leq (ford .f32 (cf .f32 b_lx) (cf .f32 b_hx)))) && (fcmp .leq (ford .f32 (cf .f32 b_ly) (cf .f32 b_hy))))) rfl (yld rfl rfl) (fun hg => ?_) (fun hg => ⟨fun h => absurd h hg, Ext.refl _⟩)
    obtain rfl := h33_ hg
    refine (does_fieldAddr (ev rfl) fa31_2).mono ?_; rintro _ _ ⟨rfl, rfl⟩
    exact ⟨fun _ => rfl, Ext.refl _⟩
  refine RW_d (fun v42 => [(.agg #[(.float .f32 b_lx), (.float .f32 b_ly), (.float .f32 b_lz), (.float .f32 b_hx), (.float .f32 b_hy), (.float .f32 b_hz)]), (.pointer (some ⟨b2, 0, none⟩)), (.bool false), v10, v11, v12, v13, v14, v15, v16, v17, v18, v19, v20, v21, v22, v23, v24, v25, v26, v27, v28, v29, v30, v31, v32, v33, v34, v35, v36, v37, v38, v39, v40, v41, v42, undef, undef]) rfl (fun _ => rfl) (fun u hu hF => ?_) (fun v42 => ?_)
  · have h34_ : ((((finF (cf .f32 b_lx) && finF (cf .f32 b_ly) && finF (cf .f32 b_lz)) && (finF (cf .f32 b_hx) && finF (cf .f32 b_hy) && finF (cf .f32 b_hz))) && (fcmp .leq (ford .f32 (cf .f32 b_lx) (cf .f32 b_hx)))) && (fcmp .leq (ford .f32 (cf .f32 b_ly) (cf .f32 b_hy)))) = true → v41 = (.pointer (some ⟨b2, 5, none⟩)) := hF.1
    have h29_ : v36 = (.bool ((((finF (cf .f32 b_lx) && finF (cf .f32 b_ly) && finF (cf .f32 b_lz)) && (finF (cf .f32 b_hx) && finF (cf .f32 b_hy) && finF (cf .f32 b_hz))) && (fcmp .leq (ford .f32 (cf .f32 b_lx) (cf .f32 b_hx)))) && (fcmp .leq (ford .f32 (cf .f32 b_ly) (cf .f32 b_hy))))) := hF.2.1
    clear hF
    obtain rfl := h29_
    refine doesG_g (b := ((((finF (cf .f32 b_lx) && finF (cf .f32 b_ly) && finF (cf .f32 b_lz)) && (finF (cf .f32 b_hx) && finF (cf .f32 b_hy) && finF (cf .f32 b_hz))) && (fcmp .leq (ford .f32 (cf .f32 b_lx) (cf .f32 b_hx)))) && (fcmp .leq (ford .f32 (cf .f32 b_ly) (cf .f32 b_hy))))) rfl (yld rfl rfl) (fun hg => ?_) (fun hg => ⟨fun h => absurd h hg, Ext.refl _⟩)
    obtain rfl := h34_ hg
    refine (does_load (u := (.float .f32 b_hz)) (ev rfl) Try.isAgg25 (Cells.at (Blk.cells (hB4.ext hu)) 5 rfl)).mono ?_; rintro _ _ ⟨rfl, rfl⟩
    exact ⟨fun _ => rfl, Ext.refl _⟩
  refine RW_d (fun v43 => [(.agg #[(.float .f32 b_lx), (.float .f32 b_ly), (.float .f32 b_lz), (.float .f32 b_hx), (.float .f32 b_hy), (.float .f32 b_hz)]), (.pointer (some ⟨b2, 0, none⟩)), (.bool false), v10, v11, v12, v13, v14, v15, v16, v17, v18, v19, v20, v21, v22, v23, v24, v25, v26, v27, v28, v29, v30, v31, v32, v33, v34, v35, v36, v37, v38, v39, v40, v41, v42, v43, undef]) rfl (fun _ => rfl) (fun u hu hF => ?_) (fun v43 => ?_)
  · have h32_ : ((((finF (cf .f32 b_lx) && finF (cf .f32 b_ly) && finF (cf .f32 b_lz)) && (finF (cf .f32 b_hx) && finF (cf .f32 b_hy) && finF (cf .f32 b_hz))) && (fcmp .leq (ford .f32 (cf .f32 b_lx) (cf .f32 b_hx)))) && (fcmp .leq (ford .f32 (cf .f32 b_ly) (cf .f32 b_hy)))) = true → v39 = (.float .f32 b_lz) := hF.1
    have h35_ : ((((finF (cf .f32 b_lx) && finF (cf .f32 b_ly) && finF (cf .f32 b_lz)) && (finF (cf .f32 b_hx) && finF (cf .f32 b_hy) && finF (cf .f32 b_hz))) && (fcmp .leq (ford .f32 (cf .f32 b_lx) (cf .f32 b_hx)))) && (fcmp .leq (ford .f32 (cf .f32 b_ly) (cf .f32 b_hy)))) = true → v42 = (.float .f32 b_hz) := hF.2.1
    have h29_ : v36 = (.bool ((((finF (cf .f32 b_lx) && finF (cf .f32 b_ly) && finF (cf .f32 b_lz)) && (finF (cf .f32 b_hx) && finF (cf .f32 b_hy) && finF (cf .f32 b_hz))) && (fcmp .leq (ford .f32 (cf .f32 b_lx) (cf .f32 b_hx)))) && (fcmp .leq (ford .f32 (cf .f32 b_ly) (cf .f32 b_hy))))) := hF.2.2.1
    clear hF
    obtain rfl := h29_
    refine doesG_g (b := ((((finF (cf .f32 b_lx) && finF (cf .f32 b_ly) && finF (cf .f32 b_lz)) && (finF (cf .f32 b_hx) && finF (cf .f32 b_hy) && finF (cf .f32 b_hz))) && (fcmp .leq (ford .f32 (cf .f32 b_lx) (cf .f32 b_hx)))) && (fcmp .leq (ford .f32 (cf .f32 b_ly) (cf .f32 b_hy))))) rfl (yld rfl rfl) (fun hg => ?_) (fun hg => ⟨fun h => absurd h hg, Ext.refl _⟩)
    obtain rfl := h32_ hg
    obtain rfl := h35_ hg
    refine (does_fcmp (.inr (.inr (.inr (.inl rfl)))) (ev rfl) (ev rfl)).mono ?_; rintro _ _ ⟨rfl, rfl⟩
    exact ⟨fun _ => rfl, Ext.refl _⟩
  refine RW_d (fun v44 => [(.agg #[(.float .f32 b_lx), (.float .f32 b_ly), (.float .f32 b_lz), (.float .f32 b_hx), (.float .f32 b_hy), (.float .f32 b_hz)]), (.pointer (some ⟨b2, 0, none⟩)), (.bool false), v10, v11, v12, v13, v14, v15, v16, v17, v18, v19, v20, v21, v22, v23, v24, v25, v26, v27, v28, v29, v30, v31, v32, v33, v34, v35, v36, v37, v38, v39, v40, v41, v42, v43, v44]) rfl (fun _ => rfl) (fun u hu hF => ?_) (fun v44 => ?_)
  · have h29_ : v36 = (.bool ((((finF (cf .f32 b_lx) && finF (cf .f32 b_ly) && finF (cf .f32 b_lz)) && (finF (cf .f32 b_hx) && finF (cf .f32 b_hy) && finF (cf .f32 b_hz))) && (fcmp .leq (ford .f32 (cf .f32 b_lx) (cf .f32 b_hx)))) && (fcmp .leq (ford .f32 (cf .f32 b_ly) (cf .f32 b_hy))))) := hF.1
    have h36_ : ((((finF (cf .f32 b_lx) && finF (cf .f32 b_ly) && finF (cf .f32 b_lz)) && (finF (cf .f32 b_hx) && finF (cf .f32 b_hy) && finF (cf .f32 b_hz))) && (fcmp .leq (ford .f32 (cf .f32 b_lx) (cf .f32 b_hx)))) && (fcmp .leq (ford .f32 (cf .f32 b_ly) (cf .f32 b_hy)))) = true → v43 = (.bool (fcmp .leq (ford .f32 (cf .f32 b_lz) (cf .f32 b_hz)))) := hF.2.1
    clear hF
    obtain rfl := h29_
    refine doesG_un rfl ((does_pick (b := ((((finF (cf .f32 b_lx) && finF (cf .f32 b_ly) && finF (cf .f32 b_lz)) && (finF (cf .f32 b_hx) && finF (cf .f32 b_hy) && finF (cf .f32 b_hz))) && (fcmp .leq (ford .f32 (cf .f32 b_lx) (cf .f32 b_hx)))) && (fcmp .leq (ford .f32 (cf .f32 b_ly) (cf .f32 b_hy))))) (ev rfl) (ev rfl) (ev rfl)).mono ?_); rintro _ _ ⟨rfl, rfl⟩; refine ⟨?_, Ext.refl _⟩
    cases hbb : ((((finF (cf .f32 b_lx) && finF (cf .f32 b_ly) && finF (cf .f32 b_lz)) && (finF (cf .f32 b_hx) && finF (cf .f32 b_hy) && finF (cf .f32 b_hz))) && (fcmp .leq (ford .f32 (cf .f32 b_lx) (cf .f32 b_hx)))) && (fcmp .leq (ford .f32 (cf .f32 b_ly) (cf .f32 b_hy)))) <;> simp [hbb] at h36_ ⊢
    all_goals (first | rfl | (subst h36_; rfl) | simp_all)
  refine RW_fin ?_; intro w45 E46 hP47
  obtain ⟨⟨⟨⟨⟨⟨⟨⟨⟨⟨⟨⟨⟨⟨⟨⟨⟨⟨⟨⟨⟨⟨⟨⟨⟨⟨⟨⟨⟨⟨⟨⟨⟨⟨⟨-, -⟩, -⟩, -⟩, -⟩, -⟩, -⟩, -⟩, -⟩, -⟩, -⟩, -⟩, -⟩, -⟩, -⟩, -⟩, -⟩, -⟩, -⟩, -⟩, -⟩, -⟩, -⟩, -⟩, -⟩, -⟩, -⟩, -⟩, -⟩, -⟩, -⟩, -⟩, -⟩, -⟩, -⟩, q48⟩ := hP47
  have X49 := Ext.gr X8 E46
  have q48 : v44 = (.bool (((((finF (cf .f32 b_lx) && finF (cf .f32 b_ly) && finF (cf .f32 b_lz)) && (finF (cf .f32 b_hx) && finF (cf .f32 b_hy) && finF (cf .f32 b_hz))) && (fcmp .leq (ford .f32 (cf .f32 b_lx) (cf .f32 b_hx)))) && (fcmp .leq (ford .f32 (cf .f32 b_ly) (cf .f32 b_hy)))) && (fcmp .leq (ford .f32 (cf .f32 b_lz) (cf .f32 b_hz))))) := q48
  obtain rfl := q48
  show wpList _ _ _ _ (fr [(.agg #[(.float .f32 b_lx), (.float .f32 b_ly), (.float .f32 b_lz), (.float .f32 b_hx), (.float .f32 b_hy), (.float .f32 b_hz)]), (.pointer (some ⟨b2, 0, none⟩)), (.bool false), v10, v11, v12, v13, v14, v15, v16, v17, v18, v19, v20, v21, v22, v23, v24, v25, v26, v27, v28, v29, v30, v31, v32, v33, v34, v35, v36, v37, v38, v39, v40, v41, v42, v43, (.bool (((((finF (cf .f32 b_lx) && finF (cf .f32 b_ly) && finF (cf .f32 b_lz)) && (finF (cf .f32 b_hx) && finF (cf .f32 b_hy) && finF (cf .f32 b_hz))) && (fcmp .leq (ford .f32 (cf .f32 b_lx) (cf .f32 b_hx)))) && (fcmp .leq (ford .f32 (cf .f32 b_ly) (cf .f32 b_hy)))) && (fcmp .leq (ford .f32 (cf .f32 b_lz) (cf .f32 b_hz)))))]) _
  refine q_is (l' := [(.agg #[(.float .f32 b_lx), (.float .f32 b_ly), (.float .f32 b_lz), (.float .f32 b_hx), (.float .f32 b_hy), (.float .f32 b_hz)]), (.pointer (some ⟨b2, 0, none⟩)), (.bool (((((finF (cf .f32 b_lx) && finF (cf .f32 b_ly) && finF (cf .f32 b_lz)) && (finF (cf .f32 b_hx) && finF (cf .f32 b_hy) && finF (cf .f32 b_hz))) && (fcmp .leq (ford .f32 (cf .f32 b_lx) (cf .f32 b_hx)))) && (fcmp .leq (ford .f32 (cf .f32 b_ly) (cf .f32 b_hy)))) && (fcmp .leq (ford .f32 (cf .f32 b_lz) (cf .f32 b_hz))))), v10, v11, v12, v13, v14, v15, v16, v17, v18, v19, v20, v21, v22, v23, v24, v25, v26, v27, v28, v29, v30, v31, v32, v33, v34, v35, v36, v37, v38, v39, v40, v41, v42, v43, (.bool (((((finF (cf .f32 b_lx) && finF (cf .f32 b_ly) && finF (cf .f32 b_lz)) && (finF (cf .f32 b_hx) && finF (cf .f32 b_hy) && finF (cf .f32 b_hz))) && (fcmp .leq (ford .f32 (cf .f32 b_lx) (cf .f32 b_hx)))) && (fcmp .leq (ford .f32 (cf .f32 b_ly) (cf .f32 b_hy)))) && (fcmp .leq (ford .f32 (cf .f32 b_lz) (cf .f32 b_hz)))))]) rfl rfl (does_assign (u := (.bool (((((finF (cf .f32 b_lx) && finF (cf .f32 b_ly) && finF (cf .f32 b_lz)) && (finF (cf .f32 b_hx) && finF (cf .f32 b_hy) && finF (cf .f32 b_hz))) && (fcmp .leq (ford .f32 (cf .f32 b_lx) (cf .f32 b_hx)))) && (fcmp .leq (ford .f32 (cf .f32 b_ly) (cf .f32 b_hy)))) && (fcmp .leq (ford .f32 (cf .f32 b_lz) (cf .f32 b_hz)))))) (ev rfl)) rfl ?_
  refine wpList_nil (hK9 _ _ ?_)
  refine wp_ret ?_
  refine ret_val (v := (.bool (((((finF (cf .f32 b_lx) && finF (cf .f32 b_ly) && finF (cf .f32 b_lz)) && (finF (cf .f32 b_hx) && finF (cf .f32 b_hy) && finF (cf .f32 b_hz))) && (fcmp .leq (ford .f32 (cf .f32 b_lx) (cf .f32 b_hx)))) && (fcmp .leq (ford .f32 (cf .f32 b_ly) (cf .f32 b_hy)))) && (fcmp .leq (ford .f32 (cf .f32 b_lz) (cf .f32 b_hz)))))) (res_T rfl (slot rfl)) X49 ?_
  have x50 : (isBox (cf .f32 b_lx) (cf .f32 b_ly) (cf .f32 b_lz) (cf .f32 b_hx) (cf .f32 b_hy) (cf .f32 b_hz)) = (((((finF (cf .f32 b_lx) && finF (cf .f32 b_ly) && finF (cf .f32 b_lz)) && (finF (cf .f32 b_hx) && finF (cf .f32 b_hy) && finF (cf .f32 b_hz))) && (fcmp .leq (ford .f32 (cf .f32 b_lx) (cf .f32 b_hx)))) && (fcmp .leq (ford .f32 (cf .f32 b_ly) (cf .f32 b_hy)))) && (fcmp .leq (ford .f32 (cf .f32 b_lz) (cf .f32 b_hz)))) := by first | rfl | (simp only [isBox]; done) | (simp [isBox]; done)
  exact (by first | rfl | rw [x50])

/- laws.FnExactValidBox -/
theorem c_laws_FnExactValidBox (b_lx : Nat) (b_ly : Nat) (b_lz : Nat) (b_hx : Nat) (b_hy : Nat) (b_hz : Nat) (w : World) : Gives Try.prog 4 #[(.agg #[(.float .f32 b_lx), (.float .f32 b_ly), (.float .f32 b_lz), (.float .f32 b_hx), (.float .f32 b_hy), (.float .f32 b_hz)])] w (fun v w' => v = (.bool true)) := by
  refine enter [(.agg #[(.float .f32 b_lx), (.float .f32 b_ly), (.float .f32 b_lz), (.float .f32 b_hx), (.float .f32 b_hy), (.float .f32 b_hz)]), undef, undef, undef, undef, undef, undef, undef, undef, undef, undef, undef, undef, undef] Try.func4 rfl Try.ntmps4 rfl ?_
  refine wp_seq_k fun K1 hK1 => ?_
  refine wp_region_lit ?_
  refine seqd rfl rfl (does_box (u := (.agg #[(.float .f32 b_lx), (.float .f32 b_ly), (.float .f32 b_lz), (.float .f32 b_hx), (.float .f32 b_hy), (.float .f32 b_hz)])) (ev rfl)) ?_; rintro _ w6 ⟨b2, rfl, hb3, hB4, E5⟩
  have g7 : w.heap.size ≤ b2 := Nat.le_trans (Below.size (Ext.refl w)) hb3
  change Blk _ _ [(.float .f32 b_lx), (.float .f32 b_ly), (.float .f32 b_lz), (.float .f32 b_hx), (.float .f32 b_hy), (.float .f32 b_hz)] at hB4
  have X8 := Ext.gr (Ext.refl w) E5
  show wpList _ _ _ _ (fr [(.agg #[(.float .f32 b_lx), (.float .f32 b_ly), (.float .f32 b_lz), (.float .f32 b_hx), (.float .f32 b_hy), (.float .f32 b_hz)]), (.pointer (some ⟨b2, 0, none⟩)), undef, undef, undef, undef, undef, undef, undef, undef, undef, undef, undef, undef]) _
  refine q_is (l' := [(.agg #[(.float .f32 b_lx), (.float .f32 b_ly), (.float .f32 b_lz), (.float .f32 b_hx), (.float .f32 b_hy), (.float .f32 b_hz)]), (.pointer (some ⟨b2, 0, none⟩)), (.bool false), undef, undef, undef, undef, undef, undef, undef, undef, undef, undef, undef]) rfl rfl (does_assign (u := (.bool false)) (ev rfl)) rfl ?_
  refine wpList_nil (hK1 _ _ ?_)
  refine wp_seq_k fun K9 hK9 => ?_
  refine wp_region_lit ?_
  refine q_is (l' := [(.agg #[(.float .f32 b_lx), (.float .f32 b_ly), (.float .f32 b_lz), (.float .f32 b_hx), (.float .f32 b_hy), (.float .f32 b_hz)]), (.pointer (some ⟨b2, 0, none⟩)), (.bool false), undef, undef, (.agg #[(.float .f32 b_lx), (.float .f32 b_ly), (.float .f32 b_lz), (.float .f32 b_hx), (.float .f32 b_hy), (.float .f32 b_hz)]), undef, undef, undef, undef, undef, undef, undef, undef]) rfl rfl (does_loadAgg (cs := [(.float .f32 b_lx), (.float .f32 b_ly), (.float .f32 b_lz), (.float .f32 b_hx), (.float .f32 b_hy), (.float .f32 b_hz)]) (ev rfl) Try.isAgg29 Try.sizeOf29 (Blk.cells hB4) rfl) rfl ?_
  refine seqd rfl rfl (does_call (args := #[(.agg #[(.float .f32 b_lx), (.float .f32 b_ly), (.float .f32 b_lz), (.float .f32 b_hx), (.float .f32 b_hy), (.float .f32 b_hz)])]) cal18 (evs rfl) (c_laws_toBox b_lx b_ly b_lz b_hx b_hy b_hz _)) ?_; rintro _ w11 ⟨E10, ⟨r12, r13, r14, r15, r16, r17, rfl, h18, h19, h20, h21, h22, h23⟩⟩
  have X24 := Ext.gr X8 E10
  show wpList _ _ _ _ (fr [(.agg #[(.float .f32 b_lx), (.float .f32 b_ly), (.float .f32 b_lz), (.float .f32 b_hx), (.float .f32 b_hy), (.float .f32 b_hz)]), (.pointer (some ⟨b2, 0, none⟩)), (.bool false), undef, undef, (.agg #[(.float .f32 b_lx), (.float .f32 b_ly), (.float .f32 b_lz), (.float .f32 b_hx), (.float .f32 b_hy), (.float .f32 b_hz)]), (.agg #[(.float .f32 r12), (.float .f32 r13), (.float .f32 r14), (.float .f32 r15), (.float .f32 r16), (.float .f32 r17)]), undef, undef, undef, undef, undef, undef, undef]) _
  refine seqd rfl rfl (does_call (args := #[(.agg #[(.float .f32 r12), (.float .f32 r13), (.float .f32 r14), (.float .f32 r15), (.float .f32 r16), (.float .f32 r17)])]) cal17 (evs rfl) (c_spec_ValidBox r12 r13 r14 r15 r16 r17 _)) ?_; rintro _ w26 ⟨E25, rfl⟩
  have X27 := Ext.gr X24 E25
  show wpList _ _ _ _ (fr [(.agg #[(.float .f32 b_lx), (.float .f32 b_ly), (.float .f32 b_lz), (.float .f32 b_hx), (.float .f32 b_hy), (.float .f32 b_hz)]), (.pointer (some ⟨b2, 0, none⟩)), (.bool false), undef, undef, (.agg #[(.float .f32 b_lx), (.float .f32 b_ly), (.float .f32 b_lz), (.float .f32 b_hx), (.float .f32 b_hy), (.float .f32 b_hz)]), (.agg #[(.float .f32 r12), (.float .f32 r13), (.float .f32 r14), (.float .f32 r15), (.float .f32 r16), (.float .f32 r17)]), (.bool (isBox (cf .f32 r12) (cf .f32 r13) (cf .f32 r14) (cf .f32 r15) (cf .f32 r16) (cf .f32 r17))), undef, undef, undef, undef, undef, undef]) _
  refine q_is (l' := [(.agg #[(.float .f32 b_lx), (.float .f32 b_ly), (.float .f32 b_lz), (.float .f32 b_hx), (.float .f32 b_hy), (.float .f32 b_hz)]), (.pointer (some ⟨b2, 0, none⟩)), (.bool false), (.bool (isBox (cf .f32 r12) (cf .f32 r13) (cf .f32 r14) (cf .f32 r15) (cf .f32 r16) (cf .f32 r17))), undef, (.agg #[(.float .f32 b_lx), (.float .f32 b_ly), (.float .f32 b_lz), (.float .f32 b_hx), (.float .f32 b_hy), (.float .f32 b_hz)]), (.agg #[(.float .f32 r12), (.float .f32 r13), (.float .f32 r14), (.float .f32 r15), (.float .f32 r16), (.float .f32 r17)]), (.bool (isBox (cf .f32 r12) (cf .f32 r13) (cf .f32 r14) (cf .f32 r15) (cf .f32 r16) (cf .f32 r17))), undef, undef, undef, undef, undef, undef]) rfl rfl (does_assign (u := (.bool (isBox (cf .f32 r12) (cf .f32 r13) (cf .f32 r14) (cf .f32 r15) (cf .f32 r16) (cf .f32 r17)))) (ev rfl)) rfl ?_
  refine wpList_nil (hK9 _ _ ?_)
  refine wp_seq_k fun K28 hK28 => ?_
  refine wp_region_lit ?_
  refine q_is (l' := [(.agg #[(.float .f32 b_lx), (.float .f32 b_ly), (.float .f32 b_lz), (.float .f32 b_hx), (.float .f32 b_hy), (.float .f32 b_hz)]), (.pointer (some ⟨b2, 0, none⟩)), (.bool false), (.bool (isBox (cf .f32 r12) (cf .f32 r13) (cf .f32 r14) (cf .f32 r15) (cf .f32 r16) (cf .f32 r17))), undef, (.agg #[(.float .f32 b_lx), (.float .f32 b_ly), (.float .f32 b_lz), (.float .f32 b_hx), (.float .f32 b_hy), (.float .f32 b_hz)]), (.agg #[(.float .f32 r12), (.float .f32 r13), (.float .f32 r14), (.float .f32 r15), (.float .f32 r16), (.float .f32 r17)]), (.bool (isBox (cf .f32 r12) (cf .f32 r13) (cf .f32 r14) (cf .f32 r15) (cf .f32 r16) (cf .f32 r17))), (.agg #[(.float .f32 b_lx), (.float .f32 b_ly), (.float .f32 b_lz), (.float .f32 b_hx), (.float .f32 b_hy), (.float .f32 b_hz)]), undef, undef, undef, undef, undef]) rfl rfl (does_loadAgg (cs := [(.float .f32 b_lx), (.float .f32 b_ly), (.float .f32 b_lz), (.float .f32 b_hx), (.float .f32 b_hy), (.float .f32 b_hz)]) (ev rfl) Try.isAgg29 Try.sizeOf29 (Blk.cells ((hB4.ext E10).ext E25)) rfl) rfl ?_
  refine seqd rfl rfl (does_call (args := #[(.agg #[(.float .f32 b_lx), (.float .f32 b_ly), (.float .f32 b_lz), (.float .f32 b_hx), (.float .f32 b_hy), (.float .f32 b_hz)])]) cal18 (evs rfl) (c_laws_toBox b_lx b_ly b_lz b_hx b_hy b_hz _)) ?_; rintro _ w30 ⟨E29, ⟨r31, r32, r33, r34, r35, r36, rfl, h37, h38, h39, h40, h41, h42⟩⟩
  have X43 := Ext.gr X27 E29
  show wpList _ _ _ _ (fr [(.agg #[(.float .f32 b_lx), (.float .f32 b_ly), (.float .f32 b_lz), (.float .f32 b_hx), (.float .f32 b_hy), (.float .f32 b_hz)]), (.pointer (some ⟨b2, 0, none⟩)), (.bool false), (.bool (isBox (cf .f32 r12) (cf .f32 r13) (cf .f32 r14) (cf .f32 r15) (cf .f32 r16) (cf .f32 r17))), undef, (.agg #[(.float .f32 b_lx), (.float .f32 b_ly), (.float .f32 b_lz), (.float .f32 b_hx), (.float .f32 b_hy), (.float .f32 b_hz)]), (.agg #[(.float .f32 r12), (.float .f32 r13), (.float .f32 r14), (.float .f32 r15), (.float .f32 r16), (.float .f32 r17)]), (.bool (isBox (cf .f32 r12) (cf .f32 r13) (cf .f32 r14) (cf .f32 r15) (cf .f32 r16) (cf .f32 r17))), (.agg #[(.float .f32 b_lx), (.float .f32 b_ly), (.float .f32 b_lz), (.float .f32 b_hx), (.float .f32 b_hy), (.float .f32 b_hz)]), (.agg #[(.float .f32 r31), (.float .f32 r32), (.float .f32 r33), (.float .f32 r34), (.float .f32 r35), (.float .f32 r36)]), undef, undef, undef, undef]) _
  refine seqd rfl rfl (does_call (args := #[(.agg #[(.float .f32 r31), (.float .f32 r32), (.float .f32 r33), (.float .f32 r34), (.float .f32 r35), (.float .f32 r36)])]) cal19 (evs rfl) (c_impl_ValidBox r31 r32 r33 r34 r35 r36 _)) ?_; rintro _ w45 ⟨E44, rfl⟩
  have X46 := Ext.gr X43 E44
  show wpList _ _ _ _ (fr [(.agg #[(.float .f32 b_lx), (.float .f32 b_ly), (.float .f32 b_lz), (.float .f32 b_hx), (.float .f32 b_hy), (.float .f32 b_hz)]), (.pointer (some ⟨b2, 0, none⟩)), (.bool false), (.bool (isBox (cf .f32 r12) (cf .f32 r13) (cf .f32 r14) (cf .f32 r15) (cf .f32 r16) (cf .f32 r17))), undef, (.agg #[(.float .f32 b_lx), (.float .f32 b_ly), (.float .f32 b_lz), (.float .f32 b_hx), (.float .f32 b_hy), (.float .f32 b_hz)]), (.agg #[(.float .f32 r12), (.float .f32 r13), (.float .f32 r14), (.float .f32 r15), (.float .f32 r16), (.float .f32 r17)]), (.bool (isBox (cf .f32 r12) (cf .f32 r13) (cf .f32 r14) (cf .f32 r15) (cf .f32 r16) (cf .f32 r17))), (.agg #[(.float .f32 b_lx), (.float .f32 b_ly), (.float .f32 b_lz), (.float .f32 b_hx), (.float .f32 b_hy), (.float .f32 b_hz)]), (.agg #[(.float .f32 r31), (.float .f32 r32), (.float .f32 r33), (.float .f32 r34), (.float .f32 r35), (.float .f32 r36)]), (.bool (isBox (cf .f32 r31) (cf .f32 r32) (cf .f32 r33) (cf .f32 r34) (cf .f32 r35) (cf .f32 r36))), undef, undef, undef]) _
  refine q_is (l' := [(.agg #[(.float .f32 b_lx), (.float .f32 b_ly), (.float .f32 b_lz), (.float .f32 b_hx), (.float .f32 b_hy), (.float .f32 b_hz)]), (.pointer (some ⟨b2, 0, none⟩)), (.bool false), (.bool (isBox (cf .f32 r12) (cf .f32 r13) (cf .f32 r14) (cf .f32 r15) (cf .f32 r16) (cf .f32 r17))), (.bool (isBox (cf .f32 r31) (cf .f32 r32) (cf .f32 r33) (cf .f32 r34) (cf .f32 r35) (cf .f32 r36))), (.agg #[(.float .f32 b_lx), (.float .f32 b_ly), (.float .f32 b_lz), (.float .f32 b_hx), (.float .f32 b_hy), (.float .f32 b_hz)]), (.agg #[(.float .f32 r12), (.float .f32 r13), (.float .f32 r14), (.float .f32 r15), (.float .f32 r16), (.float .f32 r17)]), (.bool (isBox (cf .f32 r12) (cf .f32 r13) (cf .f32 r14) (cf .f32 r15) (cf .f32 r16) (cf .f32 r17))), (.agg #[(.float .f32 b_lx), (.float .f32 b_ly), (.float .f32 b_lz), (.float .f32 b_hx), (.float .f32 b_hy), (.float .f32 b_hz)]), (.agg #[(.float .f32 r31), (.float .f32 r32), (.float .f32 r33), (.float .f32 r34), (.float .f32 r35), (.float .f32 r36)]), (.bool (isBox (cf .f32 r31) (cf .f32 r32) (cf .f32 r33) (cf .f32 r34) (cf .f32 r35) (cf .f32 r36))), undef, undef, undef]) rfl rfl (does_assign (u := (.bool (isBox (cf .f32 r31) (cf .f32 r32) (cf .f32 r33) (cf .f32 r34) (cf .f32 r35) (cf .f32 r36)))) (ev rfl)) rfl ?_
  refine wpList_nil (hK28 _ _ ?_)
  refine wp_seq_k fun K47 hK47 => ?_
  refine wp_seq_k fun K48 hK48 => ?_
  refine wp_region_lit ?_
  refine q_is (l' := [(.agg #[(.float .f32 b_lx), (.float .f32 b_ly), (.float .f32 b_lz), (.float .f32 b_hx), (.float .f32 b_hy), (.float .f32 b_hz)]), (.pointer (some ⟨b2, 0, none⟩)), (.bool false), (.bool (isBox (cf .f32 r12) (cf .f32 r13) (cf .f32 r14) (cf .f32 r15) (cf .f32 r16) (cf .f32 r17))), (.bool (isBox (cf .f32 r31) (cf .f32 r32) (cf .f32 r33) (cf .f32 r34) (cf .f32 r35) (cf .f32 r36))), (.agg #[(.float .f32 b_lx), (.float .f32 b_ly), (.float .f32 b_lz), (.float .f32 b_hx), (.float .f32 b_hy), (.float .f32 b_hz)]), (.agg #[(.float .f32 r12), (.float .f32 r13), (.float .f32 r14), (.float .f32 r15), (.float .f32 r16), (.float .f32 r17)]), (.bool (isBox (cf .f32 r12) (cf .f32 r13) (cf .f32 r14) (cf .f32 r15) (cf .f32 r16) (cf .f32 r17))), (.agg #[(.float .f32 b_lx), (.float .f32 b_ly), (.float .f32 b_lz), (.float .f32 b_hx), (.float .f32 b_hy), (.float .f32 b_hz)]), (.agg #[(.float .f32 r31), (.float .f32 r32), (.float .f32 r33), (.float .f32 r34), (.float .f32 r35), (.float .f32 r36)]), (.bool (isBox (cf .f32 r31) (cf .f32 r32) (cf .f32 r33) (cf .f32 r34) (cf .f32 r35) (cf .f32 r36))), (.bool (isBox (cf .f32 r31) (cf .f32 r32) (cf .f32 r33) (cf .f32 r34) (cf .f32 r35) (cf .f32 r36))), undef, undef]) rfl rfl (does_move (u := (.bool (isBox (cf .f32 r31) (cf .f32 r32) (cf .f32 r33) (cf .f32 r34) (cf .f32 r35) (cf .f32 r36)))) (ev rfl)) rfl ?_
  refine q_is (l' := [(.agg #[(.float .f32 b_lx), (.float .f32 b_ly), (.float .f32 b_lz), (.float .f32 b_hx), (.float .f32 b_hy), (.float .f32 b_hz)]), (.pointer (some ⟨b2, 0, none⟩)), (.bool false), (.bool (isBox (cf .f32 r12) (cf .f32 r13) (cf .f32 r14) (cf .f32 r15) (cf .f32 r16) (cf .f32 r17))), (.bool (isBox (cf .f32 r31) (cf .f32 r32) (cf .f32 r33) (cf .f32 r34) (cf .f32 r35) (cf .f32 r36))), (.agg #[(.float .f32 b_lx), (.float .f32 b_ly), (.float .f32 b_lz), (.float .f32 b_hx), (.float .f32 b_hy), (.float .f32 b_hz)]), (.agg #[(.float .f32 r12), (.float .f32 r13), (.float .f32 r14), (.float .f32 r15), (.float .f32 r16), (.float .f32 r17)]), (.bool (isBox (cf .f32 r12) (cf .f32 r13) (cf .f32 r14) (cf .f32 r15) (cf .f32 r16) (cf .f32 r17))), (.agg #[(.float .f32 b_lx), (.float .f32 b_ly), (.float .f32 b_lz), (.float .f32 b_hx), (.float .f32 b_hy), (.float .f32 b_hz)]), (.agg #[(.float .f32 r31), (.float .f32 r32), (.float .f32 r33), (.float .f32 r34), (.float .f32 r35), (.float .f32 r36)]), (.bool (isBox (cf .f32 r31) (cf .f32 r32) (cf .f32 r33) (cf .f32 r34) (cf .f32 r35) (cf .f32 r36))), (.bool (isBox (cf .f32 r31) (cf .f32 r32) (cf .f32 r33) (cf .f32 r34) (cf .f32 r35) (cf .f32 r36))), (.bool (isBox (cf .f32 r12) (cf .f32 r13) (cf .f32 r14) (cf .f32 r15) (cf .f32 r16) (cf .f32 r17))), undef]) rfl rfl (does_move (u := (.bool (isBox (cf .f32 r12) (cf .f32 r13) (cf .f32 r14) (cf .f32 r15) (cf .f32 r16) (cf .f32 r17)))) (ev rfl)) rfl ?_
  refine q_is (l' := [(.agg #[(.float .f32 b_lx), (.float .f32 b_ly), (.float .f32 b_lz), (.float .f32 b_hx), (.float .f32 b_hy), (.float .f32 b_hz)]), (.pointer (some ⟨b2, 0, none⟩)), (.bool false), (.bool (isBox (cf .f32 r12) (cf .f32 r13) (cf .f32 r14) (cf .f32 r15) (cf .f32 r16) (cf .f32 r17))), (.bool (isBox (cf .f32 r31) (cf .f32 r32) (cf .f32 r33) (cf .f32 r34) (cf .f32 r35) (cf .f32 r36))), (.agg #[(.float .f32 b_lx), (.float .f32 b_ly), (.float .f32 b_lz), (.float .f32 b_hx), (.float .f32 b_hy), (.float .f32 b_hz)]), (.agg #[(.float .f32 r12), (.float .f32 r13), (.float .f32 r14), (.float .f32 r15), (.float .f32 r16), (.float .f32 r17)]), (.bool (isBox (cf .f32 r12) (cf .f32 r13) (cf .f32 r14) (cf .f32 r15) (cf .f32 r16) (cf .f32 r17))), (.agg #[(.float .f32 b_lx), (.float .f32 b_ly), (.float .f32 b_lz), (.float .f32 b_hx), (.float .f32 b_hy), (.float .f32 b_hz)]), (.agg #[(.float .f32 r31), (.float .f32 r32), (.float .f32 r33), (.float .f32 r34), (.float .f32 r35), (.float .f32 r36)]), (.bool (isBox (cf .f32 r31) (cf .f32 r32) (cf .f32 r33) (cf .f32 r34) (cf .f32 r35) (cf .f32 r36))), (.bool (isBox (cf .f32 r31) (cf .f32 r32) (cf .f32 r33) (cf .f32 r34) (cf .f32 r35) (cf .f32 r36))), (.bool (isBox (cf .f32 r12) (cf .f32 r13) (cf .f32 r14) (cf .f32 r15) (cf .f32 r16) (cf .f32 r17))), (.bool ((isBox (cf .f32 r31) (cf .f32 r32) (cf .f32 r33) (cf .f32 r34) (cf .f32 r35) (cf .f32 r36)) != (isBox (cf .f32 r12) (cf .f32 r13) (cf .f32 r14) (cf .f32 r15) (cf .f32 r16) (cf .f32 r17))))]) rfl rfl (does_bne (p := (isBox (cf .f32 r31) (cf .f32 r32) (cf .f32 r33) (cf .f32 r34) (cf .f32 r35) (cf .f32 r36))) (q := (isBox (cf .f32 r12) (cf .f32 r13) (cf .f32 r14) (cf .f32 r15) (cf .f32 r16) (cf .f32 r17))) Try.underlying4 (ev rfl) (ev rfl)) rfl ?_
  refine wpList_nil (hK48 _ _ ?_)
  refine wp_cond_split (t := (isBox (cf .f32 r31) (cf .f32 r32) (cf .f32 r33) (cf .f32 r34) (cf .f32 r35) (cf .f32 r36)) != (isBox (cf .f32 r12) (cf .f32 r13) (cf .f32 r14) (cf .f32 r15) (cf .f32 r16) (cf .f32 r17))) (ev rfl) (fun c49 => ?_) (fun c49 => ?_)
  · have c49' := c49
    refine wp_seq_k fun K50 hK50 => ?_
    refine wp_region_lit ?_
    refine q_is (l' := [(.agg #[(.float .f32 b_lx), (.float .f32 b_ly), (.float .f32 b_lz), (.float .f32 b_hx), (.float .f32 b_hy), (.float .f32 b_hz)]), (.pointer (some ⟨b2, 0, none⟩)), (.bool false), (.bool (isBox (cf .f32 r12) (cf .f32 r13) (cf .f32 r14) (cf .f32 r15) (cf .f32 r16) (cf .f32 r17))), (.bool (isBox (cf .f32 r31) (cf .f32 r32) (cf .f32 r33) (cf .f32 r34) (cf .f32 r35) (cf .f32 r36))), (.agg #[(.float .f32 b_lx), (.float .f32 b_ly), (.float .f32 b_lz), (.float .f32 b_hx), (.float .f32 b_hy), (.float .f32 b_hz)]), (.agg #[(.float .f32 r12), (.float .f32 r13), (.float .f32 r14), (.float .f32 r15), (.float .f32 r16), (.float .f32 r17)]), (.bool (isBox (cf .f32 r12) (cf .f32 r13) (cf .f32 r14) (cf .f32 r15) (cf .f32 r16) (cf .f32 r17))), (.agg #[(.float .f32 b_lx), (.float .f32 b_ly), (.float .f32 b_lz), (.float .f32 b_hx), (.float .f32 b_hy), (.float .f32 b_hz)]), (.agg #[(.float .f32 r31), (.float .f32 r32), (.float .f32 r33), (.float .f32 r34), (.float .f32 r35), (.float .f32 r36)]), (.bool (isBox (cf .f32 r31) (cf .f32 r32) (cf .f32 r33) (cf .f32 r34) (cf .f32 r35) (cf .f32 r36))), (.bool (isBox (cf .f32 r31) (cf .f32 r32) (cf .f32 r33) (cf .f32 r34) (cf .f32 r35) (cf .f32 r36))), (.bool (isBox (cf .f32 r12) (cf .f32 r13) (cf .f32 r14) (cf .f32 r15) (cf .f32 r16) (cf .f32 r17))), (.bool ((isBox (cf .f32 r31) (cf .f32 r32) (cf .f32 r33) (cf .f32 r34) (cf .f32 r35) (cf .f32 r36)) != (isBox (cf .f32 r12) (cf .f32 r13) (cf .f32 r14) (cf .f32 r15) (cf .f32 r16) (cf .f32 r17))))]) rfl rfl (does_assign (u := (.bool false)) (ev rfl)) rfl ?_
    refine wpList_nil (hK50 _ _ ?_)
    refine wp_ret ?_
    dsimp only [Exit.then, Exit.inBlock]
    refine ret_val (v := (.bool false)) (res_T rfl (slot rfl)) X46 ?_
    try simp only [h18, h19, h20, h21, h22, h23, h37, h38, h39, h40, h41, h42] at c49
    have x51 : true = false := by first | rfl | (simp only [bne_self_eq_false, h18, h19, h20, h21, h22, h23, h37, h38, h39, h40, h41, h42, c49]; done) | (simp [bne_self_eq_false, h18, h19, h20, h21, h22, h23, h37, h38, h39, h40, h41, h42, c49]; done) | (revert c49; simp +contextual [bne_self_eq_false, h18, h19, h20, h21, h22, h23, h37, h38, h39, h40, h41, h42]; done)
    exact (by first | rfl | rw [x51])
  have c49' := c49
  refine wp_skip (hK47 _ _ ?_)
  refine wp_seq_k fun K52 hK52 => ?_
  refine wp_region_lit ?_
  refine q_is (l' := [(.agg #[(.float .f32 b_lx), (.float .f32 b_ly), (.float .f32 b_lz), (.float .f32 b_hx), (.float .f32 b_hy), (.float .f32 b_hz)]), (.pointer (some ⟨b2, 0, none⟩)), (.bool true), (.bool (isBox (cf .f32 r12) (cf .f32 r13) (cf .f32 r14) (cf .f32 r15) (cf .f32 r16) (cf .f32 r17))), (.bool (isBox (cf .f32 r31) (cf .f32 r32) (cf .f32 r33) (cf .f32 r34) (cf .f32 r35) (cf .f32 r36))), (.agg #[(.float .f32 b_lx), (.float .f32 b_ly), (.float .f32 b_lz), (.float .f32 b_hx), (.float .f32 b_hy), (.float .f32 b_hz)]), (.agg #[(.float .f32 r12), (.float .f32 r13), (.float .f32 r14), (.float .f32 r15), (.float .f32 r16), (.float .f32 r17)]), (.bool (isBox (cf .f32 r12) (cf .f32 r13) (cf .f32 r14) (cf .f32 r15) (cf .f32 r16) (cf .f32 r17))), (.agg #[(.float .f32 b_lx), (.float .f32 b_ly), (.float .f32 b_lz), (.float .f32 b_hx), (.float .f32 b_hy), (.float .f32 b_hz)]), (.agg #[(.float .f32 r31), (.float .f32 r32), (.float .f32 r33), (.float .f32 r34), (.float .f32 r35), (.float .f32 r36)]), (.bool (isBox (cf .f32 r31) (cf .f32 r32) (cf .f32 r33) (cf .f32 r34) (cf .f32 r35) (cf .f32 r36))), (.bool (isBox (cf .f32 r31) (cf .f32 r32) (cf .f32 r33) (cf .f32 r34) (cf .f32 r35) (cf .f32 r36))), (.bool (isBox (cf .f32 r12) (cf .f32 r13) (cf .f32 r14) (cf .f32 r15) (cf .f32 r16) (cf .f32 r17))), (.bool ((isBox (cf .f32 r31) (cf .f32 r32) (cf .f32 r33) (cf .f32 r34) (cf .f32 r35) (cf .f32 r36)) != (isBox (cf .f32 r12) (cf .f32 r13) (cf .f32 r14) (cf .f32 r15) (cf .f32 r16) (cf .f32 r17))))]) rfl rfl (does_assign (u := (.bool true)) (ev rfl)) rfl ?_
  refine wpList_nil (hK52 _ _ ?_)
  refine wp_ret ?_
  refine ret_val (v := (.bool true)) (res_T rfl (slot rfl)) X46 ?_
  try simp only [h18, h19, h20, h21, h22, h23, h37, h38, h39, h40, h41, h42] at c49
  exact rfl

end Go.Proofs.Ythmejogjmjjmgaa
