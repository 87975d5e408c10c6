/- contracts of functions, each walked once -/
import Derived.Test.YthfpgnjeahddaaaA2
namespace Go.Proofs.Ythfpgnjeahddaaa
open Go Go.RowKit
set_option maxRecDepth 100000
set_option maxHeartbeats 3200000
set_option linter.unusedVariables false
set_option linter.unusedSimpArgs false

/- impl.ValidMesh$1 -/
theorem c_impl_ValidMesh_1 (t_ : Value) (L_t_ : List Int) (m_b : Nat) (m_o : Nat) (m : List Value) (A_m : MeshT) (w : World) (hv_t_ : Sl RI 1 w t_ L_t_) (hc_m : Cells w m_b m_o m) (hv_m : RMeshT w A_m m) : Gives Try.prog 42 #[t_, (Pt m_b m_o)] w (fun v w' => v = (Bo (!triOk (A_m.places.length : Int) L_t_))) := by
  have hlen_t_ := Sl.len hv_t_; obtain ⟨p_t_, q_t_, rfl⟩ := Sl.shape hv_t_
  obtain ⟨y1, y3, rfl, h2, h4⟩ := hv_m
  have hs7 := h2; have hs7l := Sl.len h2; obtain ⟨p5, q6, rfl⟩ := Sl.shape h2
  have hs10 := h4; have hs10l := Sl.len h4; obtain ⟨p8, q9, rfl⟩ := Sl.shape h4
  refine enter [(.slice p_t_ L_t_.length q_t_), (Pt m_b m_o), Ud, Ud, Ud, Ud, Ud, Ud, Ud, Ud] Try.func42 rfl Try.ntmps42 rfl ?_
  refine wp_seq_k fun K11 hK11 => ?_
  refine wp_region_lit ?_
  refine q_is (l' := [(.slice p_t_ L_t_.length q_t_), (Pt m_b m_o), Ud, (Bo false), Ud, Ud, Ud, Ud, Ud, Ud]) rfl rfl (does_assign (u := (Bo false)) (ev rfl)) rfl ?_
  refine wpList_nil (hK11 _ _ ?_)
  refine wp_seq_k fun K12 hK12 => ?_
  refine wp_region_lit ?_
  refine q_is (l' := [(.slice p_t_ L_t_.length q_t_), (Pt m_b m_o), Ud, (Bo false), (.slice p_t_ L_t_.length q_t_), Ud, Ud, Ud, Ud, Ud]) rfl rfl (does_move (u := (.slice p_t_ L_t_.length q_t_)) (ev rfl)) rfl ?_
  refine q_is (l' := [(.slice p_t_ L_t_.length q_t_), (Pt m_b m_o), Ud, (Bo false), (.slice p_t_ L_t_.length q_t_), (Pt m_b m_o), Ud, Ud, Ud, Ud]) rfl rfl (does_fieldAddr (ev rfl) fa29_0) rfl ?_
  refine q_is (l' := [(.slice p_t_ L_t_.length q_t_), (Pt m_b m_o), Ud, (Bo false), (.slice p_t_ L_t_.length q_t_), (Pt m_b m_o), (.slice p5 A_m.places.length q6), Ud, Ud, Ud]) rfl rfl (does_load (u := (.slice p5 A_m.places.length q6)) (ev rfl) Try.isAgg27 (Cells.at hc_m 0 rfl)) rfl ?_
  refine q_is (l' := [(.slice p_t_ L_t_.length q_t_), (Pt m_b m_o), Ud, (Bo false), (.slice p_t_ L_t_.length q_t_), (Pt m_b m_o), (.slice p5 A_m.places.length q6), (Iv (A_m.places.length : Int)), Ud, Ud]) rfl rfl (does_len_slice Try.underlying27 (ev rfl)) rfl ?_
  refine seqd rfl rfl (does_call (args := #[(.slice p_t_ L_t_.length q_t_), (Iv (A_m.places.length : Int))]) cal43 (evs rfl) (c_impl_isTriangle (.slice p_t_ L_t_.length q_t_) L_t_ (A_m.places.length : Int) _ hv_t_)) ?_; rintro _ w14 ⟨E13, rfl⟩
  have X15 := Ext.gr (Ext.refl w) E13
  show wpList _ _ _ _ (fr [(.slice p_t_ L_t_.length q_t_), (Pt m_b m_o), Ud, (Bo false), (.slice p_t_ L_t_.length q_t_), (Pt m_b m_o), (.slice p5 A_m.places.length q6), (Iv (A_m.places.length : Int)), (Bo (triOk (A_m.places.length : Int) L_t_)), Ud]) _
  refine q_is (l' := [(.slice p_t_ L_t_.length q_t_), (Pt m_b m_o), Ud, (Bo false), (.slice p_t_ L_t_.length q_t_), (Pt m_b m_o), (.slice p5 A_m.places.length q6), (Iv (A_m.places.length : Int)), (Bo (triOk (A_m.places.length : Int) L_t_)), (Bo (!(triOk (A_m.places.length : Int) L_t_)))]) rfl rfl (does_not (ev rfl)) rfl ?_
  refine q_is (l' := [(.slice p_t_ L_t_.length q_t_), (Pt m_b m_o), Ud, (Bo (!(triOk (A_m.places.length : Int) L_t_))), (.slice p_t_ L_t_.length q_t_), (Pt m_b m_o), (.slice p5 A_m.places.length q6), (Iv (A_m.places.length : Int)), (Bo (triOk (A_m.places.length : Int) L_t_)), (Bo (!(triOk (A_m.places.length : Int) L_t_)))]) rfl rfl (does_assign (u := (Bo (!(triOk (A_m.places.length : Int) L_t_)))) (ev rfl)) rfl ?_
  refine wpList_nil (hK12 _ _ ?_)
  refine wp_ret ?_
  refine ret_val (v := (Bo (!(triOk (A_m.places.length : Int) L_t_)))) (res_T rfl (slot rfl)) X15 ?_
  have x16 : (!triOk (A_m.places.length : Int) L_t_) = (!(triOk (A_m.places.length : Int) L_t_)) := by first | with_reducible rfl | (simp only []; done) | (simp []; done) | rfl
  exact (by first | with_reducible rfl | rw [x16] | rfl)

/- impl.ValidMesh -/
theorem c_impl_ValidMesh (m : List Value) (A_m : MeshT) (w : World) (hv_m : RMeshT w A_m m) : Gives Try.prog 22 #[(.agg m.toArray)] w (fun v w' => v = (Bo (meshOk A_m))) := by
  obtain ⟨y1, y3, rfl, h2, h4⟩ := hv_m
  have hs7 := h2; have hs7l := Sl.len h2; obtain ⟨p5, q6, rfl⟩ := Sl.shape h2
  have hs10 := h4; have hs10l := Sl.len h4; obtain ⟨p8, q9, rfl⟩ := Sl.shape h4
  refine enter [(.agg #[(.slice p5 A_m.places.length q6), (.slice p8 A_m.tris.length q9)]), Ud, Ud, Ud, Ud, Ud, Ud, Ud, Ud, Ud, Ud, Ud, Ud, Ud, Ud, Ud, Ud, Ud, Ud, Ud, Ud, Ud] Try.func22 rfl Try.ntmps22 rfl ?_
  refine wp_seq_k fun K11 hK11 => ?_
  refine wp_region_lit ?_
  refine seqd rfl rfl (does_box (u := (.agg #[(.slice p5 A_m.places.length q6), (.slice p8 A_m.tris.length q9)])) (ev rfl)) ?_; rintro _ w16 ⟨b12, rfl, hb13, hB14, E15⟩
  have g17 : w.heap.size ≤ b12 := Nat.le_trans (Below.size (Ext.refl w)) hb13
  change Blk _ _ [(.slice p5 A_m.places.length q6), (.slice p8 A_m.tris.length q9)] at hB14
  have X18 := Ext.gr (Ext.refl w) E15
  show wpList _ _ _ _ (fr [(.agg #[(.slice p5 A_m.places.length q6), (.slice p8 A_m.tris.length q9)]), (Pt b12 0), Ud, Ud, Ud, Ud, Ud, Ud, Ud, Ud, Ud, Ud, Ud, Ud, Ud, Ud, Ud, Ud, Ud, Ud, Ud, Ud]) _
  refine q_is (l' := [(.agg #[(.slice p5 A_m.places.length q6), (.slice p8 A_m.tris.length q9)]), (Pt b12 0), (Bo false), Ud, Ud, Ud, Ud, Ud, Ud, Ud, Ud, Ud, Ud, Ud, Ud, Ud, Ud, Ud, Ud, Ud, Ud, Ud]) rfl rfl (does_assign (u := (Bo false)) (ev rfl)) rfl ?_
  refine wpList_nil (hK11 _ _ ?_)
  refine wp_seq_k fun K19 hK19 => ?_
  refine wp_region_lit ?_
  refine q_is (l' := [(.agg #[(.slice p5 A_m.places.length q6), (.slice p8 A_m.tris.length q9)]), (Pt b12 0), (Bo false), Ud, (Pt b12 1), Ud, Ud, Ud, Ud, Ud, Ud, Ud, Ud, Ud, Ud, Ud, Ud, Ud, Ud, Ud, Ud, Ud]) rfl rfl (does_fieldAddr (ev rfl) fa29_1) rfl ?_
  refine q_is (l' := [(.agg #[(.slice p5 A_m.places.length q6), (.slice p8 A_m.tris.length q9)]), (Pt b12 0), (Bo false), Ud, (Pt b12 1), (.slice p8 A_m.tris.length q9), Ud, Ud, Ud, Ud, Ud, Ud, Ud, Ud, Ud, Ud, Ud, Ud, Ud, Ud, Ud, Ud]) rfl rfl (does_load (u := (.slice p8 A_m.tris.length q9)) (ev rfl) Try.isAgg23 (Cells.at (Blk.cells hB14) 1 rfl)) rfl ?_
  refine q_is (l' := [(.agg #[(.slice p5 A_m.places.length q6), (.slice p8 A_m.tris.length q9)]), (Pt b12 0), (Bo false), Ud, (Pt b12 1), (.slice p8 A_m.tris.length q9), (.func (.func 42) #[] #[(Pt b12 0)]), Ud, Ud, Ud, Ud, Ud, Ud, Ud, Ud, Ud, Ud, Ud, Ud, Ud, Ud, Ud]) rfl rfl (does_makeFunc (u := (.func (.func 42) #[] #[(Pt b12 0)])) (evs rfl) (evs rfl) rfl) rfl ?_
  refine seqd rfl rfl (does_call (args := #[(.slice p8 A_m.tris.length q9), (.func (.func 42) #[] #[(Pt b12 0)])]) cal41 (evs rfl) (c_slices_ContainsFunc_SS_int64_int64 (.slice p8 A_m.tris.length q9) A_m.tris (.func (.func 42) #[] #[(Pt b12 0)]) (fun x => !triOk (A_m.places.length : Int) x) _ (Sl.ext hs10 (RS.mono RI.mono) X18) ⟨42, #[], #[(Pt b12 0)], rfl, cal42, fun y0 X0 u hu' ha0 => by simpa using (c_impl_ValidMesh_1 y0 X0 b12 0 [(.slice p5 A_m.places.length q6), (.slice p8 A_m.tris.length q9)] A_m u ha0 (Blk.cells (hB14.ext hu')) ⟨(.slice p5 A_m.places.length q6), (.slice p8 A_m.tris.length q9), rfl, (Sl.ext (Sl.ext hs7 RV3.mono X18) RV3.mono hu'), (Sl.ext (Sl.ext hs10 (RS.mono RI.mono) X18) (RS.mono RI.mono) hu')⟩)⟩)) ?_; rintro _ w21 ⟨E20, rfl⟩
  have X22 := Ext.gr X18 E20
  show wpList _ _ _ _ (fr [(.agg #[(.slice p5 A_m.places.length q6), (.slice p8 A_m.tris.length q9)]), (Pt b12 0), (Bo false), Ud, (Pt b12 1), (.slice p8 A_m.tris.length q9), (.func (.func 42) #[] #[(Pt b12 0)]), (Bo (A_m.tris.any (fun x => !triOk (A_m.places.length : Int) x))), Ud, Ud, Ud, Ud, Ud, Ud, Ud, Ud, Ud, Ud, Ud, Ud, Ud, Ud]) _
  refine q_is (l' := [(.agg #[(.slice p5 A_m.places.length q6), (.slice p8 A_m.tris.length q9)]), (Pt b12 0), (Bo false), (Bo (A_m.tris.any (fun x => !triOk (A_m.places.length : Int) x))), (Pt b12 1), (.slice p8 A_m.tris.length q9), (.func (.func 42) #[] #[(Pt b12 0)]), (Bo (A_m.tris.any (fun x => !triOk (A_m.places.length : Int) x))), Ud, Ud, Ud, Ud, Ud, Ud, Ud, Ud, Ud, Ud, Ud, Ud, Ud, Ud]) rfl rfl (does_assign (u := (Bo (A_m.tris.any (fun x => !triOk (A_m.places.length : Int) x)))) (ev rfl)) rfl ?_
  refine wpList_nil (hK19 _ _ ?_)
  refine wp_seq_k fun K23 hK23 => ?_
  obtain ⟨β1, hβ1⟩ : ∃ b : Bool, b = (A_m.tris.any (fun x => !triOk (A_m.places.length : Int) x)) := ⟨_, rfl⟩
  obtain ⟨β2, hβ2⟩ : ∃ b : Bool, b = (icmp .leq (A_m.places.length : Int) 8192) := ⟨_, rfl⟩
  obtain ⟨β3, hβ3⟩ : ∃ b : Bool, b = (icmp .leq (A_m.tris.length : Int) 9000) := ⟨_, rfl⟩
  refine region_text (
    [Fact.pure [] (fun v => v = (Bo β1)),
    Fact.pure [8] (fun v => v = (Bo (!β1))),
    Fact.pure [9] (fun v => v = (Bo (!β1))),
    Fact.pure [10] (fun v => (!β1) = true → v = (Pt b12 0)),
    Fact.pure [11, 10] (fun v => (!β1) = true → v = (.slice p5 A_m.places.length q6)),
    Fact.pure [12, 10] (fun v => (!β1) = true → v = (Iv (A_m.places.length : Int))),
    Fact.pure [13, 10] (fun v => (!β1) = true → v = (Bo β2)),
    Fact.pure [10, 14] (fun v => v = (Bo ((!β1) && β2))),
    Fact.pure [15] (fun v => v = (Bo ((!β1) && β2))),
    Fact.pure [16] (fun v => ((!β1) && β2) = true → v = (Pt b12 1)),
    Fact.pure [17, 16] (fun v => ((!β1) && β2) = true → v = (.slice p8 A_m.tris.length q9)),
    Fact.pure [18, 16] (fun v => ((!β1) && β2) = true → v = (Iv (A_m.tris.length : Int))),
    Fact.pure [19, 16] (fun v => ((!β1) && β2) = true → v = (Bo β3)),
    Fact.pure [16, 20] (fun v => v = (Bo (((!β1) && β2) && β3)))]) (by simp [Fact.pure, Fact.mem]) ?_
  refine RW_d (fun v24 => [(.agg #[(.slice p5 A_m.places.length q6), (.slice p8 A_m.tris.length q9)]), (Pt b12 0), (Bo false), (Bo (A_m.tris.any (fun x => !triOk (A_m.places.length : Int) x))), (Pt b12 1), (.slice p8 A_m.tris.length q9), (.func (.func 42) #[] #[(Pt b12 0)]), (Bo (A_m.tris.any (fun x => !triOk (A_m.places.length : Int) x))), v24, Ud, Ud, Ud, Ud, Ud, Ud, Ud, Ud, Ud, Ud, Ud, Ud, Ud]) rfl (fun _ => rfl) (fun u hu hF => ?_) (fun v24 => ?_)
  · clear hF
    refine doesG_un rfl ?_
    refine (does_move (u := (Bo (A_m.tris.any (fun x => !triOk (A_m.places.length : Int) x)))) (ev rfl)).mono ?_; rintro _ _ ⟨rfl, rfl⟩
    exact ⟨(by first | rfl | (show _ = _; simp only [hβ1]; done) | (show _ = _; simp only [hβ1]; rfl)), Ext.refl _⟩
  refine RW_d (fun v25 => [(.agg #[(.slice p5 A_m.places.length q6), (.slice p8 A_m.tris.length q9)]), (Pt b12 0), (Bo false), (Bo (A_m.tris.any (fun x => !triOk (A_m.places.length : Int) x))), (Pt b12 1), (.slice p8 A_m.tris.length q9), (.func (.func 42) #[] #[(Pt b12 0)]), (Bo (A_m.tris.any (fun x => !triOk (A_m.places.length : Int) x))), v24, v25, Ud, Ud, Ud, Ud, Ud, Ud, Ud, Ud, Ud, Ud, Ud, Ud]) rfl (fun _ => rfl) (fun u hu hF => ?_) (fun v25 => ?_)
  · have h8_ : v24 = (Bo β1) := hF.1
    clear hF
    refine doesG_un rfl ?_
    obtain rfl := h8_
    refine (does_not (ev rfl)).mono ?_; rintro _ _ ⟨rfl, rfl⟩
    exact ⟨rfl, Ext.refl _⟩
  refine RW_d (fun v26 => [(.agg #[(.slice p5 A_m.places.length q6), (.slice p8 A_m.tris.length q9)]), (Pt b12 0), (Bo false), (Bo (A_m.tris.any (fun x => !triOk (A_m.places.length : Int) x))), (Pt b12 1), (.slice p8 A_m.tris.length q9), (.func (.func 42) #[] #[(Pt b12 0)]), (Bo (A_m.tris.any (fun x => !triOk (A_m.places.length : Int) x))), v24, v25, v26, Ud, Ud, Ud, Ud, Ud, Ud, Ud, Ud, Ud, Ud, Ud]) rfl (fun _ => rfl) (fun u hu hF => ?_) (fun v26 => ?_)
  · have h9_ : v25 = (Bo (!β1)) := hF.1
    clear hF
    refine doesG_un rfl ?_
    obtain rfl := h9_
    refine (does_move (u := (Bo (!β1))) (ev rfl)).mono ?_; rintro _ _ ⟨rfl, rfl⟩
    exact ⟨rfl, Ext.refl _⟩
  refine RW_d (fun v27 => [(.agg #[(.slice p5 A_m.places.length q6), (.slice p8 A_m.tris.length q9)]), (Pt b12 0), (Bo false), (Bo (A_m.tris.any (fun x => !triOk (A_m.places.length : Int) x))), (Pt b12 1), (.slice p8 A_m.tris.length q9), (.func (.func 42) #[] #[(Pt b12 0)]), (Bo (A_m.tris.any (fun x => !triOk (A_m.places.length : Int) x))), v24, v25, v26, v27, Ud, Ud, Ud, Ud, Ud, Ud, Ud, Ud, Ud, Ud]) rfl (fun _ => rfl) (fun u hu hF => ?_) (fun v27 => ?_)
  · have h10_ : v26 = (Bo (!β1)) := hF.1
    clear hF
    obtain rfl := h10_
    refine doesG_g (b := (!β1)) rfl (yld rfl rfl) (fun hg1 => ?_) (fun hc => ⟨fun hg1 => absurd hg1 hc, Ext.refl _⟩)
    refine (does_fieldAddr (ev rfl) fa29_0).mono ?_; rintro _ _ ⟨rfl, rfl⟩
    exact ⟨fun _ => rfl, Ext.refl _⟩
  refine RW_d (fun v28 => [(.agg #[(.slice p5 A_m.places.length q6), (.slice p8 A_m.tris.length q9)]), (Pt b12 0), (Bo false), (Bo (A_m.tris.any (fun x => !triOk (A_m.places.length : Int) x))), (Pt b12 1), (.slice p8 A_m.tris.length q9), (.func (.func 42) #[] #[(Pt b12 0)]), (Bo (A_m.tris.any (fun x => !triOk (A_m.places.length : Int) x))), v24, v25, v26, v27, v28, Ud, Ud, Ud, Ud, Ud, Ud, Ud, Ud, Ud]) rfl (fun _ => rfl) (fun u hu hF => ?_) (fun v28 => ?_)
  · have h11_ : (!β1) = true → v27 = (Pt b12 0) := hF.1
    have h10_ : v26 = (Bo (!β1)) := hF.2.1
    clear hF
    obtain rfl := h10_
    refine doesG_g (b := (!β1)) rfl (yld rfl rfl) (fun hg1 => ?_) (fun hc => ⟨fun hg1 => absurd hg1 hc, Ext.refl _⟩)
    obtain rfl := h11_ hg1
    refine (does_load (u := (.slice p5 A_m.places.length q6)) (ev rfl) Try.isAgg27 (Cells.at (Blk.cells ((hB14.ext E20).ext hu)) 0 rfl)).mono ?_; rintro _ _ ⟨rfl, rfl⟩
    exact ⟨fun _ => rfl, Ext.refl _⟩
  refine RW_d (fun v29 => [(.agg #[(.slice p5 A_m.places.length q6), (.slice p8 A_m.tris.length q9)]), (Pt b12 0), (Bo false), (Bo (A_m.tris.any (fun x => !triOk (A_m.places.length : Int) x))), (Pt b12 1), (.slice p8 A_m.tris.length q9), (.func (.func 42) #[] #[(Pt b12 0)]), (Bo (A_m.tris.any (fun x => !triOk (A_m.places.length : Int) x))), v24, v25, v26, v27, v28, v29, Ud, Ud, Ud, Ud, Ud, Ud, Ud, Ud]) rfl (fun _ => rfl) (fun u hu hF => ?_) (fun v29 => ?_)
  · have h12_ : (!β1) = true → v28 = (.slice p5 A_m.places.length q6) := hF.1
    have h10_ : v26 = (Bo (!β1)) := hF.2.1
    clear hF
    obtain rfl := h10_
    refine doesG_g (b := (!β1)) rfl (yld rfl rfl) (fun hg1 => ?_) (fun hc => ⟨fun hg1 => absurd hg1 hc, Ext.refl _⟩)
    obtain rfl := h12_ hg1
    refine (does_len_slice Try.underlying27 (ev rfl)).mono ?_; rintro _ _ ⟨rfl, rfl⟩
    exact ⟨fun _ => rfl, Ext.refl _⟩
  refine RW_d (fun v30 => [(.agg #[(.slice p5 A_m.places.length q6), (.slice p8 A_m.tris.length q9)]), (Pt b12 0), (Bo false), (Bo (A_m.tris.any (fun x => !triOk (A_m.places.length : Int) x))), (Pt b12 1), (.slice p8 A_m.tris.length q9), (.func (.func 42) #[] #[(Pt b12 0)]), (Bo (A_m.tris.any (fun x => !triOk (A_m.places.length : Int) x))), v24, v25, v26, v27, v28, v29, v30, Ud, Ud, Ud, Ud, Ud, Ud, Ud]) rfl (fun _ => rfl) (fun u hu hF => ?_) (fun v30 => ?_)
  · have h13_ : (!β1) = true → v29 = (Iv (A_m.places.length : Int)) := hF.1
    have h10_ : v26 = (Bo (!β1)) := hF.2.1
    clear hF
    obtain rfl := h10_
    refine doesG_g (b := (!β1)) rfl (yld rfl rfl) (fun hg1 => ?_) (fun hc => ⟨fun hg1 => absurd hg1 hc, Ext.refl _⟩)
    obtain rfl := h13_ hg1
    refine (does_icmp (p := (A_m.places.length : Int)) (q := 8192) (.inr (.inr (.inr (.inl rfl)))) (ev rfl) (ev rfl)).mono ?_; rintro _ _ ⟨rfl, rfl⟩
    exact ⟨fun _ => (by first | rfl | (show _ = _; simp only [hβ2]; done) | (show _ = _; simp only [hβ2]; rfl)), Ext.refl _⟩
  refine RW_d (fun v31 => [(.agg #[(.slice p5 A_m.places.length q6), (.slice p8 A_m.tris.length q9)]), (Pt b12 0), (Bo false), (Bo (A_m.tris.any (fun x => !triOk (A_m.places.length : Int) x))), (Pt b12 1), (.slice p8 A_m.tris.length q9), (.func (.func 42) #[] #[(Pt b12 0)]), (Bo (A_m.tris.any (fun x => !triOk (A_m.places.length : Int) x))), v24, v25, v26, v27, v28, v29, v30, v31, Ud, Ud, Ud, Ud, Ud, Ud]) rfl (fun _ => rfl) (fun u hu hF => ?_) (fun v31 => ?_)
  · have h10_ : v26 = (Bo (!β1)) := hF.1
    have h14_ : (!β1) = true → v30 = (Bo β2) := hF.2.1
    clear hF
    refine doesG_un rfl ?_
    skip
    obtain rfl := h10_
    refine (does_pick (b := (!β1)) (u := v30) (v := (Bo false)) (ev rfl) (ev rfl) (ev rfl)).mono ?_; rintro _ _ ⟨rfl, rfl⟩; refine ⟨?_, Ext.refl _⟩; skip
    cases hbb : (!β1)
    all_goals first | (show _ = _; simp only [↓reduceIte, Bool.true_and, Bool.false_and, Bool.true_or, Bool.false_or, Bool.false_eq_true]; done) | (have e_ := h14_ hbb; subst e_; show _ = _; simp only [↓reduceIte, Bool.true_and, Bool.false_and, Bool.true_or, Bool.false_or, Bool.false_eq_true]; done) | rfl | (have e_ := h14_ hbb; subst e_; rfl) | (simp [hbb] at h14_ ⊢; first | done | rfl | (subst h14_; rfl) | simp_all) | (simp [hbb] at h14_ ⊢; done)
  refine RW_d (fun v32 => [(.agg #[(.slice p5 A_m.places.length q6), (.slice p8 A_m.tris.length q9)]), (Pt b12 0), (Bo false), (Bo (A_m.tris.any (fun x => !triOk (A_m.places.length : Int) x))), (Pt b12 1), (.slice p8 A_m.tris.length q9), (.func (.func 42) #[] #[(Pt b12 0)]), (Bo (A_m.tris.any (fun x => !triOk (A_m.places.length : Int) x))), v24, v25, v26, v27, v28, v29, v30, v31, v32, Ud, Ud, Ud, Ud, Ud]) rfl (fun _ => rfl) (fun u hu hF => ?_) (fun v32 => ?_)
  · have h15_ : v31 = (Bo ((!β1) && β2)) := hF.1
    clear hF
    refine doesG_un rfl ?_
    obtain rfl := h15_
    refine (does_move (u := (Bo ((!β1) && β2))) (ev rfl)).mono ?_; rintro _ _ ⟨rfl, rfl⟩
    exact ⟨rfl, Ext.refl _⟩
  refine RW_d (fun v33 => [(.agg #[(.slice p5 A_m.places.length q6), (.slice p8 A_m.tris.length q9)]), (Pt b12 0), (Bo false), (Bo (A_m.tris.any (fun x => !triOk (A_m.places.length : Int) x))), (Pt b12 1), (.slice p8 A_m.tris.length q9), (.func (.func 42) #[] #[(Pt b12 0)]), (Bo (A_m.tris.any (fun x => !triOk (A_m.places.length : Int) x))), v24, v25, v26, v27, v28, v29, v30, v31, v32, v33, Ud, Ud, Ud, Ud]) rfl (fun _ => rfl) (fun u hu hF => ?_) (fun v33 => ?_)
  · have h16_ : v32 = (Bo ((!β1) && β2)) := hF.1
    clear hF
    obtain rfl := h16_
    refine doesG_g (b := ((!β1) && β2)) rfl (yld rfl rfl) (fun hg1 => ?_) (fun hc => ⟨fun hg1 => absurd hg1 hc, Ext.refl _⟩)
    refine (does_fieldAddr (ev rfl) fa29_1).mono ?_; rintro _ _ ⟨rfl, rfl⟩
    exact ⟨fun _ => rfl, Ext.refl _⟩
  refine RW_d (fun v34 => [(.agg #[(.slice p5 A_m.places.length q6), (.slice p8 A_m.tris.length q9)]), (Pt b12 0), (Bo false), (Bo (A_m.tris.any (fun x => !triOk (A_m.places.length : Int) x))), (Pt b12 1), (.slice p8 A_m.tris.length q9), (.func (.func 42) #[] #[(Pt b12 0)]), (Bo (A_m.tris.any (fun x => !triOk (A_m.places.length : Int) x))), v24, v25, v26, v27, v28, v29, v30, v31, v32, v33, v34, Ud, Ud, Ud]) rfl (fun _ => rfl) (fun u hu hF => ?_) (fun v34 => ?_)
  · have h17_ : ((!β1) && β2) = true → v33 = (Pt b12 1) := hF.1
    have h16_ : v32 = (Bo ((!β1) && β2)) := hF.2.1
    clear hF
    obtain rfl := h16_
    refine doesG_g (b := ((!β1) && β2)) rfl (yld rfl rfl) (fun hg1 => ?_) (fun hc => ⟨fun hg1 => absurd hg1 hc, Ext.refl _⟩)
    obtain rfl := h17_ hg1
    refine (does_load (u := (.slice p8 A_m.tris.length q9)) (ev rfl) Try.isAgg23 (Cells.at (Blk.cells ((hB14.ext E20).ext hu)) 1 rfl)).mono ?_; rintro _ _ ⟨rfl, rfl⟩
    exact ⟨fun _ => rfl, Ext.refl _⟩
  refine RW_d (fun v35 => [(.agg #[(.slice p5 A_m.places.length q6), (.slice p8 A_m.tris.length q9)]), (Pt b12 0), (Bo false), (Bo (A_m.tris.any (fun x => !triOk (A_m.places.length : Int) x))), (Pt b12 1), (.slice p8 A_m.tris.length q9), (.func (.func 42) #[] #[(Pt b12 0)]), (Bo (A_m.tris.any (fun x => !triOk (A_m.places.length : Int) x))), v24, v25, v26, v27, v28, v29, v30, v31, v32, v33, v34, v35, Ud, Ud]) rfl (fun _ => rfl) (fun u hu hF => ?_) (fun v35 => ?_)
  · have h18_ : ((!β1) && β2) = true → v34 = (.slice p8 A_m.tris.length q9) := hF.1
    have h16_ : v32 = (Bo ((!β1) && β2)) := hF.2.1
    clear hF
    obtain rfl := h16_
    refine doesG_g (b := ((!β1) && β2)) rfl (yld rfl rfl) (fun hg1 => ?_) (fun hc => ⟨fun hg1 => absurd hg1 hc, Ext.refl _⟩)
    obtain rfl := h18_ hg1
    refine (does_len_slice Try.underlying23 (ev rfl)).mono ?_; rintro _ _ ⟨rfl, rfl⟩
    exact ⟨fun _ => rfl, Ext.refl _⟩
  refine RW_d (fun v36 => [(.agg #[(.slice p5 A_m.places.length q6), (.slice p8 A_m.tris.length q9)]), (Pt b12 0), (Bo false), (Bo (A_m.tris.any (fun x => !triOk (A_m.places.length : Int) x))), (Pt b12 1), (.slice p8 A_m.tris.length q9), (.func (.func 42) #[] #[(Pt b12 0)]), (Bo (A_m.tris.any (fun x => !triOk (A_m.places.length : Int) x))), v24, v25, v26, v27, v28, v29, v30, v31, v32, v33, v34, v35, v36, Ud]) rfl (fun _ => rfl) (fun u hu hF => ?_) (fun v36 => ?_)
  · have h19_ : ((!β1) && β2) = true → v35 = (Iv (A_m.tris.length : Int)) := hF.1
    have h16_ : v32 = (Bo ((!β1) && β2)) := hF.2.1
    clear hF
    obtain rfl := h16_
    refine doesG_g (b := ((!β1) && β2)) rfl (yld rfl rfl) (fun hg1 => ?_) (fun hc => ⟨fun hg1 => absurd hg1 hc, Ext.refl _⟩)
    obtain rfl := h19_ hg1
    refine (does_icmp (p := (A_m.tris.length : Int)) (q := 9000) (.inr (.inr (.inr (.inl rfl)))) (ev rfl) (ev rfl)).mono ?_; rintro _ _ ⟨rfl, rfl⟩
    exact ⟨fun _ => (by first | rfl | (show _ = _; simp only [hβ3]; done) | (show _ = _; simp only [hβ3]; rfl)), Ext.refl _⟩
  refine RW_d (fun v37 => [(.agg #[(.slice p5 A_m.places.length q6), (.slice p8 A_m.tris.length q9)]), (Pt b12 0), (Bo false), (Bo (A_m.tris.any (fun x => !triOk (A_m.places.length : Int) x))), (Pt b12 1), (.slice p8 A_m.tris.length q9), (.func (.func 42) #[] #[(Pt b12 0)]), (Bo (A_m.tris.any (fun x => !triOk (A_m.places.length : Int) x))), v24, v25, v26, v27, v28, v29, v30, v31, v32, v33, v34, v35, v36, v37]) rfl (fun _ => rfl) (fun u hu hF => ?_) (fun v37 => ?_)
  · have h16_ : v32 = (Bo ((!β1) && β2)) := hF.1
    have h20_ : ((!β1) && β2) = true → v36 = (Bo β3) := hF.2.1
    clear hF
    refine doesG_un rfl ?_
    skip
    obtain rfl := h16_
    refine (does_pick (b := ((!β1) && β2)) (u := v36) (v := (Bo false)) (ev rfl) (ev rfl) (ev rfl)).mono ?_; rintro _ _ ⟨rfl, rfl⟩; refine ⟨?_, Ext.refl _⟩; skip
    cases hbb : ((!β1) && β2)
    all_goals first | (show _ = _; simp only [↓reduceIte, Bool.true_and, Bool.false_and, Bool.true_or, Bool.false_or, Bool.false_eq_true]; done) | (have e_ := h20_ hbb; subst e_; show _ = _; simp only [↓reduceIte, Bool.true_and, Bool.false_and, Bool.true_or, Bool.false_or, Bool.false_eq_true]; done) | rfl | (have e_ := h20_ hbb; subst e_; rfl) | (simp [hbb] at h20_ ⊢; first | done | rfl | (subst h20_; rfl) | simp_all) | (simp [hbb] at h20_ ⊢; done)
  refine RW_fin ?_; intro w38 E39 hP40
  obtain ⟨⟨⟨⟨⟨⟨⟨⟨⟨⟨⟨⟨⟨⟨-, -⟩, -⟩, -⟩, -⟩, -⟩, -⟩, -⟩, -⟩, -⟩, -⟩, -⟩, -⟩, -⟩, q41⟩ := hP40
  have X42 := Ext.gr X22 E39
  have q41 : v37 = (Bo (((!β1) && β2) && β3)) := q41
  obtain rfl := q41
  show wpList _ _ _ _ (fr [(.agg #[(.slice p5 A_m.places.length q6), (.slice p8 A_m.tris.length q9)]), (Pt b12 0), (Bo false), (Bo (A_m.tris.any (fun x => !triOk (A_m.places.length : Int) x))), (Pt b12 1), (.slice p8 A_m.tris.length q9), (.func (.func 42) #[] #[(Pt b12 0)]), (Bo (A_m.tris.any (fun x => !triOk (A_m.places.length : Int) x))), v24, v25, v26, v27, v28, v29, v30, v31, v32, v33, v34, v35, v36, (Bo (((!β1) && β2) && β3))]) _
  refine q_is (l' := [(.agg #[(.slice p5 A_m.places.length q6), (.slice p8 A_m.tris.length q9)]), (Pt b12 0), (Bo (((!β1) && β2) && β3)), (Bo (A_m.tris.any (fun x => !triOk (A_m.places.length : Int) x))), (Pt b12 1), (.slice p8 A_m.tris.length q9), (.func (.func 42) #[] #[(Pt b12 0)]), (Bo (A_m.tris.any (fun x => !triOk (A_m.places.length : Int) x))), v24, v25, v26, v27, v28, v29, v30, v31, v32, v33, v34, v35, v36, (Bo (((!β1) && β2) && β3))]) rfl rfl (does_assign (u := (Bo (((!β1) && β2) && β3))) (ev rfl)) rfl ?_
  refine wpList_nil (hK23 _ _ ?_)
  refine wp_ret ?_
  refine ret_val (v := (Bo (((!β1) && β2) && β3))) (res_T rfl (slot rfl)) X42 ?_
  have x43 : (meshOk A_m) = (((!β1) && β2) && β3) := by first | with_reducible rfl | (simp only [meshOk, hβ1, hβ2, hβ3]; done) | (simp [meshOk, hβ1, hβ2, hβ3]; done) | rfl
  exact (by first | with_reducible rfl | rw [x43] | rfl)

/- impl.crossed -/
theorem c_impl_crossed (c1 : Nat) (c2 : Nat) (c3 : Nat) (c4 : Nat) (w : World) : Gives Try.prog 51 #[(Fl c1), (Fl c2), (Fl c3), (Fl c4)] w (fun v w' => ∃ r_1 : Nat, v = (Fl r_1) ∧ cf .f32 r_1 = fop .sub .f32 (fop .mul .f32 (cf .f32 c1) (cf .f32 c2)) (fop .mul .f32 (cf .f32 c3) (cf .f32 c4))) := by
  refine enter [(Fl c1), (Fl c2), (Fl c3), (Fl c4), Ud, Ud, Ud, Ud, Ud, Ud, Ud, Ud, Ud, Ud, Ud, Ud] Try.func51 rfl Try.ntmps51 rfl ?_
  refine wp_seq_k fun K1 hK1 => ?_
  refine wp_region_lit ?_
  refine q_is (l' := [(Fl c1), (Fl c2), (Fl c3), (Fl c4), Ud, Ud, Ud, Ud, (Fl 0), Ud, Ud, Ud, Ud, Ud, Ud, Ud]) rfl rfl (does_assign (u := (Fl 0)) (ev rfl)) rfl ?_
  refine wpList_nil (hK1 _ _ ?_)
  refine wp_seq_k fun K2 hK2 => ?_
  refine wp_region_lit ?_
  refine q_is (l' := [(Fl c1), (Fl c2), (Fl c3), (Fl c4), Ud, Ud, Ud, Ud, (Fl 0), (Fl c1), Ud, Ud, Ud, Ud, Ud, Ud]) rfl rfl (does_move (u := (Fl c1)) (ev rfl)) rfl ?_
  refine q_is (l' := [(Fl c1), (Fl c2), (Fl c3), (Fl c4), Ud, Ud, Ud, Ud, (Fl 0), (Fl c1), (Fl c2), Ud, Ud, Ud, Ud, Ud]) rfl rfl (does_move (u := (Fl c2)) (ev rfl)) rfl ?_
  refine seqd rfl rfl (does_float (.inr (.inr (.inl rfl))) (ev rfl) (ev rfl)) ?_; rintro _ w6 ⟨r3, rfl, h4, E5⟩
  have X7 := Ext.gr (Ext.refl w) E5
  show wpList _ _ _ _ (fr [(Fl c1), (Fl c2), (Fl c3), (Fl c4), Ud, Ud, Ud, Ud, (Fl 0), (Fl c1), (Fl c2), (Fl r3), Ud, Ud, Ud, Ud]) _
  refine q_is (l' := [(Fl c1), (Fl c2), (Fl c3), (Fl c4), Ud, Ud, Ud, Ud, (Fl 0), (Fl c1), (Fl c2), (Fl r3), (Fl c3), Ud, Ud, Ud]) rfl rfl (does_move (u := (Fl c3)) (ev rfl)) rfl ?_
  refine q_is (l' := [(Fl c1), (Fl c2), (Fl c3), (Fl c4), Ud, Ud, Ud, Ud, (Fl 0), (Fl c1), (Fl c2), (Fl r3), (Fl c3), (Fl c4), Ud, Ud]) rfl rfl (does_move (u := (Fl c4)) (ev rfl)) rfl ?_
  refine seqd rfl rfl (does_float (.inr (.inr (.inl rfl))) (ev rfl) (ev rfl)) ?_; rintro _ w11 ⟨r8, rfl, h9, E10⟩
  have X12 := Ext.gr X7 E10
  show wpList _ _ _ _ (fr [(Fl c1), (Fl c2), (Fl c3), (Fl c4), Ud, Ud, Ud, Ud, (Fl 0), (Fl c1), (Fl c2), (Fl r3), (Fl c3), (Fl c4), (Fl r8), Ud]) _
  refine seqd rfl rfl (does_float (.inr (.inl rfl)) (ev rfl) (ev rfl)) ?_; rintro _ w16 ⟨r13, rfl, h14, E15⟩
  have X17 := Ext.gr X12 E15
  show wpList _ _ _ _ (fr [(Fl c1), (Fl c2), (Fl c3), (Fl c4), Ud, Ud, Ud, Ud, (Fl 0), (Fl c1), (Fl c2), (Fl r3), (Fl c3), (Fl c4), (Fl r8), (Fl r13)]) _
  refine q_is (l' := [(Fl c1), (Fl c2), (Fl c3), (Fl c4), Ud, Ud, Ud, Ud, (Fl r13), (Fl c1), (Fl c2), (Fl r3), (Fl c3), (Fl c4), (Fl r8), (Fl r13)]) rfl rfl (does_assign (u := (Fl r13)) (ev rfl)) rfl ?_
  refine wpList_nil (hK2 _ _ ?_)
  refine wp_ret ?_
  refine ret_val (v := (Fl r13)) (res_T rfl (slot rfl)) X17 ?_
  have x18 : cf .f32 r13 = fop .sub .f32 (fop .mul .f32 (cf .f32 c1) (cf .f32 c2)) (fop .mul .f32 (cf .f32 c3) (cf .f32 c4)) := by first | with_reducible rfl | (simp only [h4, h9, h14]; done) | (simp [h4, h9, h14]; done) | rfl
  exact ⟨r13, rfl, x18⟩

/- impl.CrossOf -/
theorem c_impl_CrossOf (a : List Value) (A_a : V3) (b : List Value) (A_b : V3) (w : World) (hv_a : RV3 w A_a a) (hv_b : RV3 w A_b b) : Gives Try.prog 32 #[(.agg a.toArray), (.agg b.toArray)] w (fun v w' => ∃ cs_1 : List Value, v = (.agg cs_1.toArray) ∧ RV3 w (crossF A_a A_b) cs_1) := by
  obtain ⟨r1, r3, r5, rfl, h2, h4, h6⟩ := hv_a
  obtain ⟨r7, r9, r11, rfl, h8, h10, h12⟩ := hv_b
  refine enter [(.agg #[(Fl r1), (Fl r3), (Fl r5)]), (.agg #[(Fl r7), (Fl r9), (Fl r11)]), Ud, Ud, Ud, Ud, Ud, Ud, Ud, Ud, Ud, Ud, Ud, Ud, Ud, Ud, Ud, Ud, Ud, Ud, Ud, Ud, Ud, Ud, Ud, Ud, Ud, Ud, Ud, Ud, Ud, Ud, Ud] Try.func32 rfl Try.ntmps32 rfl ?_
  refine wp_seq_k fun K13 hK13 => ?_
  refine wp_region_lit ?_
  refine seqd rfl rfl (does_box (u := (.agg #[(Fl r1), (Fl r3), (Fl r5)])) (ev rfl)) ?_; rintro _ w18 ⟨b14, rfl, hb15, hB16, E17⟩
  have g19 : w.heap.size ≤ b14 := Nat.le_trans (Below.size (Ext.refl w)) hb15
  change Blk _ _ [(Fl r1), (Fl r3), (Fl r5)] at hB16
  have X20 := Ext.gr (Ext.refl w) E17
  show wpList _ _ _ _ (fr [_, _, _, _, _, _, _, _, _, _, _, _, _, _, _, _, _, _, _, _, _, _, _, _, _, _, _, _, _, _, _, _, _]) _
  refine seqd rfl rfl (does_box (u := (.agg #[(Fl r7), (Fl r9), (Fl r11)])) (ev rfl)) ?_; rintro _ w25 ⟨b21, rfl, hb22, hB23, E24⟩
  have n26 : b14 < b21 := Nat.lt_of_lt_of_le (Blk.lt hB16) hb22
  have g27 : w.heap.size ≤ b21 := Nat.le_trans (Below.size X20) hb22
  change Blk _ _ [(Fl r7), (Fl r9), (Fl r11)] at hB23
  have X28 := Ext.gr X20 E24
  show wpList _ _ _ _ (fr [_, _, _, _, _, _, _, _, _, _, _, _, _, _, _, _, _, _, _, _, _, _, _, _, _, _, _, _, _, _, _, _, _]) _
  refine seqd rfl rfl (does_alloc z53) ?_; rintro _ w33 ⟨b29, rfl, hb30, hB31, E32⟩
  have n34 : b14 < b29 := Nat.lt_of_lt_of_le (Blk.lt (hB16.ext E24)) hb30
  have n35 : b21 < b29 := Nat.lt_of_lt_of_le (Blk.lt hB23) hb30
  have g36 : w.heap.size ≤ b29 := Nat.le_trans (Below.size X28) hb30
  change Blk _ _ [(Fl 0), (Fl 0), (Fl 0)] at hB31
  have X37 := Ext.gr X28 E32
  show wpList _ _ _ _ (fr [_, _, _, _, _, _, _, _, _, _, _, _, _, _, _, _, _, _, _, _, _, _, _, _, _, _, _, _, _, _, _, _, _]) _
  refine wpList_nil (hK13 _ _ ?_)
  refine wp_seq_k fun K38 hK38 => ?_
  refine region_draw (
    [Fact.pure [] (fun v => v = (Pt b14 1)),
    Fact.pure [5] (fun v => v = (Fl r3)),
    Fact.pure [] (fun v => v = (Pt b21 2)),
    Fact.pure [7] (fun v => v = (Fl r11)),
    Fact.pure [] (fun v => v = (Pt b14 2)),
    Fact.pure [9] (fun v => v = (Fl r5)),
    Fact.pure [] (fun v => v = (Pt b21 1)),
    Fact.pure [11] (fun v => v = (Fl r9)),
    Fact.pure [6, 8, 10, 12] (fun v => ∃ r_1 : Nat, v = (Fl r_1) ∧ cf .f32 r_1 = fop .sub .f32 (fop .mul .f32 (cf .f32 r3) (cf .f32 r11)) (fop .mul .f32 (cf .f32 r5) (cf .f32 r9))),
    Fact.pure [] (fun v => v = (Pt b14 2)),
    Fact.pure [14] (fun v => v = (Fl r5)),
    Fact.pure [] (fun v => v = (Pt b21 0)),
    Fact.pure [16] (fun v => v = (Fl r7)),
    Fact.pure [] (fun v => v = (Pt b14 0)),
    Fact.pure [18] (fun v => v = (Fl r1)),
    Fact.pure [] (fun v => v = (Pt b21 2)),
    Fact.pure [20] (fun v => v = (Fl r11)),
    Fact.pure [15, 17, 19, 21] (fun v => ∃ r_1 : Nat, v = (Fl r_1) ∧ cf .f32 r_1 = fop .sub .f32 (fop .mul .f32 (cf .f32 r5) (cf .f32 r7)) (fop .mul .f32 (cf .f32 r1) (cf .f32 r11))),
    Fact.pure [] (fun v => v = (Pt b14 0)),
    Fact.pure [23] (fun v => v = (Fl r1)),
    Fact.pure [] (fun v => v = (Pt b21 1)),
    Fact.pure [25] (fun v => v = (Fl r9)),
    Fact.pure [] (fun v => v = (Pt b14 1)),
    Fact.pure [27] (fun v => v = (Fl r3)),
    Fact.pure [] (fun v => v = (Pt b21 0)),
    Fact.pure [29] (fun v => v = (Fl r7)),
    Fact.pure [24, 26, 28, 30] (fun v => ∃ r_1 : Nat, v = (Fl r_1) ∧ cf .f32 r_1 = fop .sub .f32 (fop .mul .f32 (cf .f32 r1) (cf .f32 r9)) (fop .mul .f32 (cf .f32 r3) (cf .f32 r7))),
    Fact.pure [13, 22, 31] (fun v => ∃ r_1 : Nat, ∃ r_2 : Nat, ∃ r_3 : Nat, v = (.agg #[(Fl r_1), (Fl r_2), (Fl r_3)]) ∧ cf .f32 r_1 = fop .sub .f32 (fop .mul .f32 (cf .f32 r3) (cf .f32 r11)) (fop .mul .f32 (cf .f32 r5) (cf .f32 r9)) ∧ cf .f32 r_2 = fop .sub .f32 (fop .mul .f32 (cf .f32 r5) (cf .f32 r7)) (fop .mul .f32 (cf .f32 r1) (cf .f32 r11)) ∧ cf .f32 r_3 = fop .sub .f32 (fop .mul .f32 (cf .f32 r1) (cf .f32 r9)) (fop .mul .f32 (cf .f32 r3) (cf .f32 r7)))]) mixed (by kernel_rfl) (by intro _ _ d _ _ h; cases d <;> exact h) ?_
  obtain ⟨w39, hw41⟩ : ∃ w', w' = World.drew w33 := ⟨_, rfl⟩; rw [← hw41]; have E40 : Ext w33 w39 := by rw [hw41]; exact Ext.draw _
  clear hw41
  have X42 := Ext.gr X37 E40
  refine RW_d _ rfl (fun v => by dsimp only [List.set]; try rfl) (fun u hu hF => ?_) (fun v43 => ?_)
  · clear hF
    refine doesG_un rfl ?_
    refine (does_fieldAddr (ev rfl) fa53_1).mono ?_; rintro _ _ ⟨rfl, rfl⟩
    exact ⟨rfl, Ext.refl _⟩
  refine RW_d _ rfl (fun v => by dsimp only [List.set]; try rfl) (fun u hu hF => ?_) (fun v44 => ?_)
  · have h5_ : v43 = (Pt b14 1) := hF.1
    clear hF
    refine doesG_un rfl ?_
    obtain rfl := h5_
    refine (does_load (u := (Fl r3)) (ev rfl) Try.isAgg51 (Cells.at (Blk.cells ((((hB16.ext E24).ext E32).ext E40).ext hu)) 1 rfl)).mono ?_; rintro _ _ ⟨rfl, rfl⟩
    exact ⟨rfl, Ext.refl _⟩
  refine RW_d _ rfl (fun v => by dsimp only [List.set]; try rfl) (fun u hu hF => ?_) (fun v45 => ?_)
  · clear hF
    refine doesG_un rfl ?_
    refine (does_fieldAddr (ev rfl) fa53_2).mono ?_; rintro _ _ ⟨rfl, rfl⟩
    exact ⟨rfl, Ext.refl _⟩
  refine RW_d _ rfl (fun v => by dsimp only [List.set]; try rfl) (fun u hu hF => ?_) (fun v46 => ?_)
  · have h7_ : v45 = (Pt b21 2) := hF.1
    clear hF
    refine doesG_un rfl ?_
    obtain rfl := h7_
    refine (does_load (u := (Fl r11)) (ev rfl) Try.isAgg51 (Cells.at (Blk.cells (((hB23.ext E32).ext E40).ext hu)) 2 rfl)).mono ?_; rintro _ _ ⟨rfl, rfl⟩
    exact ⟨rfl, Ext.refl _⟩
  refine RW_d _ rfl (fun v => by dsimp only [List.set]; try rfl) (fun u hu hF => ?_) (fun v47 => ?_)
  · clear hF
    refine doesG_un rfl ?_
    refine (does_fieldAddr (ev rfl) fa53_2).mono ?_; rintro _ _ ⟨rfl, rfl⟩
    exact ⟨rfl, Ext.refl _⟩
  refine RW_d _ rfl (fun v => by dsimp only [List.set]; try rfl) (fun u hu hF => ?_) (fun v48 => ?_)
  · have h9_ : v47 = (Pt b14 2) := hF.1
    clear hF
    refine doesG_un rfl ?_
    obtain rfl := h9_
    refine (does_load (u := (Fl r5)) (ev rfl) Try.isAgg51 (Cells.at (Blk.cells ((((hB16.ext E24).ext E32).ext E40).ext hu)) 2 rfl)).mono ?_; rintro _ _ ⟨rfl, rfl⟩
    exact ⟨rfl, Ext.refl _⟩
  refine RW_d _ rfl (fun v => by dsimp only [List.set]; try rfl) (fun u hu hF => ?_) (fun v49 => ?_)
  · clear hF
    refine doesG_un rfl ?_
    refine (does_fieldAddr (ev rfl) fa53_1).mono ?_; rintro _ _ ⟨rfl, rfl⟩
    exact ⟨rfl, Ext.refl _⟩
  refine RW_d _ rfl (fun v => by dsimp only [List.set]; try rfl) (fun u hu hF => ?_) (fun v50 => ?_)
  · have h11_ : v49 = (Pt b21 1) := hF.1
    clear hF
    refine doesG_un rfl ?_
    obtain rfl := h11_
    refine (does_load (u := (Fl r9)) (ev rfl) Try.isAgg51 (Cells.at (Blk.cells (((hB23.ext E32).ext E40).ext hu)) 1 rfl)).mono ?_; rintro _ _ ⟨rfl, rfl⟩
    exact ⟨rfl, Ext.refl _⟩
  refine RW_d _ rfl (fun v => by dsimp only [List.set]; try rfl) (fun u hu hF => ?_) (fun v51 => ?_)
  · have h6_ : v44 = (Fl r3) := hF.1
    have h8_ : v46 = (Fl r11) := hF.2.1
    have h10_ : v48 = (Fl r5) := hF.2.2.1
    have h12_ : v50 = (Fl r9) := hF.2.2.2.1
    clear hF
    refine doesG_un rfl ?_
    obtain rfl := h6_
    obtain rfl := h8_
    obtain rfl := h10_
    obtain rfl := h12_
    refine (does_call (args := #[(Fl r3), (Fl r11), (Fl r5), (Fl r9)]) cal51 (evs rfl) (c_impl_crossed r3 r11 r5 r9 _)).mono ?_; rintro v u' ⟨hx, ⟨rn1, hv, k0⟩⟩
    exact ⟨⟨rn1, hv, (by simp only [k0])⟩, hx⟩
  refine RW_d _ rfl (fun v => by dsimp only [List.set]; try rfl) (fun u hu hF => ?_) (fun v52 => ?_)
  · clear hF
    refine doesG_un rfl ?_
    refine (does_fieldAddr (ev rfl) fa53_2).mono ?_; rintro _ _ ⟨rfl, rfl⟩
    exact ⟨rfl, Ext.refl _⟩
  refine RW_d _ rfl (fun v => by dsimp only [List.set]; try rfl) (fun u hu hF => ?_) (fun v53 => ?_)
  · have h14_ : v52 = (Pt b14 2) := hF.1
    clear hF
    refine doesG_un rfl ?_
    obtain rfl := h14_
    refine (does_load (u := (Fl r5)) (ev rfl) Try.isAgg51 (Cells.at (Blk.cells ((((hB16.ext E24).ext E32).ext E40).ext hu)) 2 rfl)).mono ?_; rintro _ _ ⟨rfl, rfl⟩
    exact ⟨rfl, Ext.refl _⟩
  refine RW_d _ rfl (fun v => by dsimp only [List.set]; try rfl) (fun u hu hF => ?_) (fun v54 => ?_)
  · clear hF
    refine doesG_un rfl ?_
    refine (does_fieldAddr (ev rfl) fa53_0).mono ?_; rintro _ _ ⟨rfl, rfl⟩
    exact ⟨rfl, Ext.refl _⟩
  refine RW_d _ rfl (fun v => by dsimp only [List.set]; try rfl) (fun u hu hF => ?_) (fun v55 => ?_)
  · have h16_ : v54 = (Pt b21 0) := hF.1
    clear hF
    refine doesG_un rfl ?_
    obtain rfl := h16_
    refine (does_load (u := (Fl r7)) (ev rfl) Try.isAgg51 (Cells.at (Blk.cells (((hB23.ext E32).ext E40).ext hu)) 0 rfl)).mono ?_; rintro _ _ ⟨rfl, rfl⟩
    exact ⟨rfl, Ext.refl _⟩
  refine RW_d _ rfl (fun v => by dsimp only [List.set]; try rfl) (fun u hu hF => ?_) (fun v56 => ?_)
  · clear hF
    refine doesG_un rfl ?_
    refine (does_fieldAddr (ev rfl) fa53_0).mono ?_; rintro _ _ ⟨rfl, rfl⟩
    exact ⟨rfl, Ext.refl _⟩
  refine RW_d _ rfl (fun v => by dsimp only [List.set]; try rfl) (fun u hu hF => ?_) (fun v57 => ?_)
  · have h18_ : v56 = (Pt b14 0) := hF.1
    clear hF
    refine doesG_un rfl ?_
    obtain rfl := h18_
    refine (does_load (u := (Fl r1)) (ev rfl) Try.isAgg51 (Cells.at (Blk.cells ((((hB16.ext E24).ext E32).ext E40).ext hu)) 0 rfl)).mono ?_; rintro _ _ ⟨rfl, rfl⟩
    exact ⟨rfl, Ext.refl _⟩
  refine RW_d _ rfl (fun v => by dsimp only [List.set]; try rfl) (fun u hu hF => ?_) (fun v58 => ?_)
  · clear hF
    refine doesG_un rfl ?_
    refine (does_fieldAddr (ev rfl) fa53_2).mono ?_; rintro _ _ ⟨rfl, rfl⟩
    exact ⟨rfl, Ext.refl _⟩
  refine RW_d _ rfl (fun v => by dsimp only [List.set]; try rfl) (fun u hu hF => ?_) (fun v59 => ?_)
  · have h20_ : v58 = (Pt b21 2) := hF.1
    clear hF
    refine doesG_un rfl ?_
    obtain rfl := h20_
    refine (does_load (u := (Fl r11)) (ev rfl) Try.isAgg51 (Cells.at (Blk.cells (((hB23.ext E32).ext E40).ext hu)) 2 rfl)).mono ?_; rintro _ _ ⟨rfl, rfl⟩
    exact ⟨rfl, Ext.refl _⟩
  refine RW_d _ rfl (fun v => by dsimp only [List.set]; try rfl) (fun u hu hF => ?_) (fun v60 => ?_)
  · have h15_ : v53 = (Fl r5) := hF.1
    have h17_ : v55 = (Fl r7) := hF.2.1
    have h19_ : v57 = (Fl r1) := hF.2.2.1
    have h21_ : v59 = (Fl r11) := hF.2.2.2.1
    clear hF
    refine doesG_un rfl ?_
    obtain rfl := h15_
    obtain rfl := h17_
    obtain rfl := h19_
    obtain rfl := h21_
    refine (does_call (args := #[(Fl r5), (Fl r7), (Fl r1), (Fl r11)]) cal51 (evs rfl) (c_impl_crossed r5 r7 r1 r11 _)).mono ?_; rintro v u' ⟨hx, ⟨rn1, hv, k0⟩⟩
    exact ⟨⟨rn1, hv, (by simp only [k0])⟩, hx⟩
  refine RW_d _ rfl (fun v => by dsimp only [List.set]; try rfl) (fun u hu hF => ?_) (fun v61 => ?_)
  · clear hF
    refine doesG_un rfl ?_
    refine (does_fieldAddr (ev rfl) fa53_0).mono ?_; rintro _ _ ⟨rfl, rfl⟩
    exact ⟨rfl, Ext.refl _⟩
  refine RW_d _ rfl (fun v => by dsimp only [List.set]; try rfl) (fun u hu hF => ?_) (fun v62 => ?_)
  · have h23_ : v61 = (Pt b14 0) := hF.1
    clear hF
    refine doesG_un rfl ?_
    obtain rfl := h23_
    refine (does_load (u := (Fl r1)) (ev rfl) Try.isAgg51 (Cells.at (Blk.cells ((((hB16.ext E24).ext E32).ext E40).ext hu)) 0 rfl)).mono ?_; rintro _ _ ⟨rfl, rfl⟩
    exact ⟨rfl, Ext.refl _⟩
  refine RW_d _ rfl (fun v => by dsimp only [List.set]; try rfl) (fun u hu hF => ?_) (fun v63 => ?_)
  · clear hF
    refine doesG_un rfl ?_
    refine (does_fieldAddr (ev rfl) fa53_1).mono ?_; rintro _ _ ⟨rfl, rfl⟩
    exact ⟨rfl, Ext.refl _⟩
  refine RW_d _ rfl (fun v => by dsimp only [List.set]; try rfl) (fun u hu hF => ?_) (fun v64 => ?_)
  · have h25_ : v63 = (Pt b21 1) := hF.1
    clear hF
    refine doesG_un rfl ?_
    obtain rfl := h25_
    refine (does_load (u := (Fl r9)) (ev rfl) Try.isAgg51 (Cells.at (Blk.cells (((hB23.ext E32).ext E40).ext hu)) 1 rfl)).mono ?_; rintro _ _ ⟨rfl, rfl⟩
    exact ⟨rfl, Ext.refl _⟩
  refine RW_d _ rfl (fun v => by dsimp only [List.set]; try rfl) (fun u hu hF => ?_) (fun v65 => ?_)
  · clear hF
    refine doesG_un rfl ?_
    refine (does_fieldAddr (ev rfl) fa53_1).mono ?_; rintro _ _ ⟨rfl, rfl⟩
    exact ⟨rfl, Ext.refl _⟩
  refine RW_d _ rfl (fun v => by dsimp only [List.set]; try rfl) (fun u hu hF => ?_) (fun v66 => ?_)
  · have h27_ : v65 = (Pt b14 1) := hF.1
    clear hF
    refine doesG_un rfl ?_
    obtain rfl := h27_
    refine (does_load (u := (Fl r3)) (ev rfl) Try.isAgg51 (Cells.at (Blk.cells ((((hB16.ext E24).ext E32).ext E40).ext hu)) 1 rfl)).mono ?_; rintro _ _ ⟨rfl, rfl⟩
    exact ⟨rfl, Ext.refl _⟩
  refine RW_d _ rfl (fun v => by dsimp only [List.set]; try rfl) (fun u hu hF => ?_) (fun v67 => ?_)
  · clear hF
    refine doesG_un rfl ?_
    refine (does_fieldAddr (ev rfl) fa53_0).mono ?_; rintro _ _ ⟨rfl, rfl⟩
    exact ⟨rfl, Ext.refl _⟩
  refine RW_d _ rfl (fun v => by dsimp only [List.set]; try rfl) (fun u hu hF => ?_) (fun v68 => ?_)
  · have h29_ : v67 = (Pt b21 0) := hF.1
    clear hF
    refine doesG_un rfl ?_
    obtain rfl := h29_
    refine (does_load (u := (Fl r7)) (ev rfl) Try.isAgg51 (Cells.at (Blk.cells (((hB23.ext E32).ext E40).ext hu)) 0 rfl)).mono ?_; rintro _ _ ⟨rfl, rfl⟩
    exact ⟨rfl, Ext.refl _⟩
  refine RW_d _ rfl (fun v => by dsimp only [List.set]; try rfl) (fun u hu hF => ?_) (fun v69 => ?_)
  · have h24_ : v62 = (Fl r1) := hF.1
    have h26_ : v64 = (Fl r9) := hF.2.1
    have h28_ : v66 = (Fl r3) := hF.2.2.1
    have h30_ : v68 = (Fl r7) := hF.2.2.2.1
    clear hF
    refine doesG_un rfl ?_
    obtain rfl := h24_
    obtain rfl := h26_
    obtain rfl := h28_
    obtain rfl := h30_
    refine (does_call (args := #[(Fl r1), (Fl r9), (Fl r3), (Fl r7)]) cal51 (evs rfl) (c_impl_crossed r1 r9 r3 r7 _)).mono ?_; rintro v u' ⟨hx, ⟨rn1, hv, k0⟩⟩
    exact ⟨⟨rn1, hv, (by simp only [k0])⟩, hx⟩
  refine RW_d _ rfl (fun v => by dsimp only [List.set]; try rfl) (fun u hu hF => ?_) (fun v70 => ?_)
  · have h13_ : ∃ r_1 : Nat, v51 = (Fl r_1) ∧ cf .f32 r_1 = fop .sub .f32 (fop .mul .f32 (cf .f32 r3) (cf .f32 r11)) (fop .mul .f32 (cf .f32 r5) (cf .f32 r9)) := hF.1
    have h22_ : ∃ r_1 : Nat, v60 = (Fl r_1) ∧ cf .f32 r_1 = fop .sub .f32 (fop .mul .f32 (cf .f32 r5) (cf .f32 r7)) (fop .mul .f32 (cf .f32 r1) (cf .f32 r11)) := hF.2.1
    have h31_ : ∃ r_1 : Nat, v69 = (Fl r_1) ∧ cf .f32 r_1 = fop .sub .f32 (fop .mul .f32 (cf .f32 r1) (cf .f32 r9)) (fop .mul .f32 (cf .f32 r3) (cf .f32 r7)) := hF.2.2.1
    clear hF
    refine doesG_un rfl ?_
    obtain ⟨r13_1, rfl, h13_2⟩ := h13_
    obtain ⟨r22_1, rfl, h22_2⟩ := h22_
    obtain ⟨r31_1, rfl, h31_2⟩ := h31_
    refine (does_build (parts' := [(0, (Fl r13_1)), (1, (Fl r22_1)), (2, (Fl r31_1))]) (cells := #[(Fl r13_1), (Fl r22_1), (Fl r31_1)]) (evp rfl) (by kernel_rfl)).mono ?_; rintro _ _ ⟨rfl, rfl⟩
    exact ⟨⟨r13_1, r22_1, r31_1, rfl, (by simp only [h13_2, h22_2, h31_2]), (by simp only [h13_2, h22_2, h31_2]), (by simp only [h13_2, h22_2, h31_2])⟩, Ext.refl _⟩
  refine RW_fin ?_; intro w71 E72 hP73
  obtain ⟨⟨⟨⟨⟨⟨⟨⟨⟨⟨⟨⟨⟨⟨⟨⟨⟨⟨⟨⟨⟨⟨⟨⟨⟨⟨⟨⟨-, -⟩, -⟩, -⟩, -⟩, -⟩, -⟩, -⟩, -⟩, -⟩, -⟩, -⟩, -⟩, -⟩, -⟩, -⟩, -⟩, -⟩, -⟩, -⟩, -⟩, -⟩, -⟩, -⟩, -⟩, -⟩, -⟩, -⟩, q74⟩ := hP73
  have X75 := Ext.gr X42 E72
  have q74 : ∃ r_1 : Nat, ∃ r_2 : Nat, ∃ r_3 : Nat, v70 = (.agg #[(Fl r_1), (Fl r_2), (Fl r_3)]) ∧ cf .f32 r_1 = fop .sub .f32 (fop .mul .f32 (cf .f32 r3) (cf .f32 r11)) (fop .mul .f32 (cf .f32 r5) (cf .f32 r9)) ∧ cf .f32 r_2 = fop .sub .f32 (fop .mul .f32 (cf .f32 r5) (cf .f32 r7)) (fop .mul .f32 (cf .f32 r1) (cf .f32 r11)) ∧ cf .f32 r_3 = fop .sub .f32 (fop .mul .f32 (cf .f32 r1) (cf .f32 r9)) (fop .mul .f32 (cf .f32 r3) (cf .f32 r7)) := q74
  obtain ⟨r76, r78, r80, rfl, h77, h79, h81⟩ := q74
  show wpList _ _ _ _ (fr [_, _, _, _, _, _, _, _, _, _, _, _, _, _, _, _, _, _, _, _, _, _, _, _, _, _, _, _, _, _, _, _, _]) _
  refine seqn rfl rfl (does_store (n := 3) (cs := [(Fl 0), (Fl 0), (Fl 0)]) (u := (.agg #[(Fl r76), (Fl r78), (Fl r80)])) (ev rfl) (ev rfl) Try.sizeOf53 rfl ((hB31.ext E40).ext E72) (Nat.le_of_ble_eq_true rfl) rfl) ?_; rintro _ w84 ⟨rfl, W82, hB83⟩
  change Blk _ _ [(Fl r76), (Fl r78), (Fl r80)] at hB83
  have X85 := Below.wr X75 W82 g36
  refine wpList_nil (hK38 _ _ ?_)
  refine wp_ret ?_
  refine ret_val (v := (.agg #[(Fl r76), (Fl r78), (Fl r80)])) (res_C rfl (slot rfl) (run_loadAgg (cs := [(Fl r76), (Fl r78), (Fl r80)]) Try.isAgg53 Try.sizeOf53 (Blk.cells hB83) rfl)) X85 ?_
  have x86 : cf .f32 r76 = (crossF A_a A_b).x := by first | with_reducible rfl | (simp only [crossF, h2, h4, h6, h8, h10, h12, h77, h79, h81]; done) | (simp [crossF, h2, h4, h6, h8, h10, h12, h77, h79, h81]; done) | rfl
  have x87 : cf .f32 r78 = (crossF A_a A_b).y := by first | with_reducible rfl | (simp only [crossF, h2, h4, h6, h8, h10, h12, h77, h79, h81]; done) | (simp [crossF, h2, h4, h6, h8, h10, h12, h77, h79, h81]; done) | rfl
  have x88 : cf .f32 r80 = (crossF A_a A_b).z := by first | with_reducible rfl | (simp only [crossF, h2, h4, h6, h8, h10, h12, h77, h79, h81]; done) | (simp [crossF, h2, h4, h6, h8, h10, h12, h77, h79, h81]; done) | rfl
  exact ⟨[(Fl r76), (Fl r78), (Fl r80)], rfl, ⟨r76, r78, r80, rfl, x86, x87, x88⟩⟩

/- impl.LessVectors -/
theorem c_impl_LessVectors (a : List Value) (A_a : V3) (b : List Value) (A_b : V3) (w : World) (hv_a : RV3 w A_a a) (hv_b : RV3 w A_b b) : Gives Try.prog 33 #[(.agg a.toArray), (.agg b.toArray)] w (fun v w' => ∃ cs_1 : List Value, v = (.agg cs_1.toArray) ∧ RV3 w (vsub A_a A_b) cs_1) := by
  obtain ⟨r1, r3, r5, rfl, h2, h4, h6⟩ := hv_a
  obtain ⟨r7, r9, r11, rfl, h8, h10, h12⟩ := hv_b
  refine enter [(.agg #[(Fl r1), (Fl r3), (Fl r5)]), (.agg #[(Fl r7), (Fl r9), (Fl r11)]), Ud, Ud, Ud, Ud, Ud, Ud, Ud, Ud, Ud, Ud, Ud, Ud, Ud, Ud, Ud, Ud, Ud, Ud, Ud] Try.func33 rfl Try.ntmps33 rfl ?_
  refine wp_seq_k fun K13 hK13 => ?_
  refine wp_region_lit ?_
  refine seqd rfl rfl (does_box (u := (.agg #[(Fl r1), (Fl r3), (Fl r5)])) (ev rfl)) ?_; rintro _ w18 ⟨b14, rfl, hb15, hB16, E17⟩
  have g19 : w.heap.size ≤ b14 := Nat.le_trans (Below.size (Ext.refl w)) hb15
  change Blk _ _ [(Fl r1), (Fl r3), (Fl r5)] at hB16
  have X20 := Ext.gr (Ext.refl w) E17
  show wpList _ _ _ _ (fr [(.agg #[(Fl r1), (Fl r3), (Fl r5)]), (.agg #[(Fl r7), (Fl r9), (Fl r11)]), (Pt b14 0), Ud, Ud, Ud, Ud, Ud, Ud, Ud, Ud, Ud, Ud, Ud, Ud, Ud, Ud, Ud, Ud, Ud, Ud]) _
  refine seqd rfl rfl (does_box (u := (.agg #[(Fl r7), (Fl r9), (Fl r11)])) (ev rfl)) ?_; rintro _ w25 ⟨b21, rfl, hb22, hB23, E24⟩
  have n26 : b14 < b21 := Nat.lt_of_lt_of_le (Blk.lt hB16) hb22
  have g27 : w.heap.size ≤ b21 := Nat.le_trans (Below.size X20) hb22
  change Blk _ _ [(Fl r7), (Fl r9), (Fl r11)] at hB23
  have X28 := Ext.gr X20 E24
  show wpList _ _ _ _ (fr [(.agg #[(Fl r1), (Fl r3), (Fl r5)]), (.agg #[(Fl r7), (Fl r9), (Fl r11)]), (Pt b14 0), (Pt b21 0), Ud, Ud, Ud, Ud, Ud, Ud, Ud, Ud, Ud, Ud, Ud, Ud, Ud, Ud, Ud, Ud, Ud]) _
  refine seqd rfl rfl (does_alloc z53) ?_; rintro _ w33 ⟨b29, rfl, hb30, hB31, E32⟩
  have n34 : b14 < b29 := Nat.lt_of_lt_of_le (Blk.lt (hB16.ext E24)) hb30
  have n35 : b21 < b29 := Nat.lt_of_lt_of_le (Blk.lt hB23) hb30
  have g36 : w.heap.size ≤ b29 := Nat.le_trans (Below.size X28) hb30
  change Blk _ _ [(Fl 0), (Fl 0), (Fl 0)] at hB31
  have X37 := Ext.gr X28 E32
  show wpList _ _ _ _ (fr [(.agg #[(Fl r1), (Fl r3), (Fl r5)]), (.agg #[(Fl r7), (Fl r9), (Fl r11)]), (Pt b14 0), (Pt b21 0), (Pt b29 0), Ud, Ud, Ud, Ud, Ud, Ud, Ud, Ud, Ud, Ud, Ud, Ud, Ud, Ud, Ud, Ud]) _
  refine wpList_nil (hK13 _ _ ?_)
  refine wp_seq_k fun K38 hK38 => ?_
  refine wp_region_lit ?_
  refine q_is (l' := [(.agg #[(Fl r1), (Fl r3), (Fl r5)]), (.agg #[(Fl r7), (Fl r9), (Fl r11)]), (Pt b14 0), (Pt b21 0), (Pt b29 0), (Pt b14 0), Ud, Ud, Ud, Ud, Ud, Ud, Ud, Ud, Ud, Ud, Ud, Ud, Ud, Ud, Ud]) rfl rfl (does_fieldAddr (ev rfl) fa53_0) rfl ?_
  refine q_is (l' := [(.agg #[(Fl r1), (Fl r3), (Fl r5)]), (.agg #[(Fl r7), (Fl r9), (Fl r11)]), (Pt b14 0), (Pt b21 0), (Pt b29 0), (Pt b14 0), (Fl r1), Ud, Ud, Ud, Ud, Ud, Ud, Ud, Ud, Ud, Ud, Ud, Ud, Ud, Ud]) rfl rfl (does_load (u := (Fl r1)) (ev rfl) Try.isAgg51 (Cells.at (Blk.cells ((hB16.ext E24).ext E32)) 0 rfl)) rfl ?_
  refine q_is (l' := [(.agg #[(Fl r1), (Fl r3), (Fl r5)]), (.agg #[(Fl r7), (Fl r9), (Fl r11)]), (Pt b14 0), (Pt b21 0), (Pt b29 0), (Pt b14 0), (Fl r1), (Pt b21 0), Ud, Ud, Ud, Ud, Ud, Ud, Ud, Ud, Ud, Ud, Ud, Ud, Ud]) rfl rfl (does_fieldAddr (ev rfl) fa53_0) rfl ?_
  refine q_is (l' := [(.agg #[(Fl r1), (Fl r3), (Fl r5)]), (.agg #[(Fl r7), (Fl r9), (Fl r11)]), (Pt b14 0), (Pt b21 0), (Pt b29 0), (Pt b14 0), (Fl r1), (Pt b21 0), (Fl r7), Ud, Ud, Ud, Ud, Ud, Ud, Ud, Ud, Ud, Ud, Ud, Ud]) rfl rfl (does_load (u := (Fl r7)) (ev rfl) Try.isAgg51 (Cells.at (Blk.cells (hB23.ext E32)) 0 rfl)) rfl ?_
  refine seqd rfl rfl (does_float (.inr (.inl rfl)) (ev rfl) (ev rfl)) ?_; rintro _ w42 ⟨r39, rfl, h40, E41⟩
  have X43 := Ext.gr X37 E41
  show wpList _ _ _ _ (fr [(.agg #[(Fl r1), (Fl r3), (Fl r5)]), (.agg #[(Fl r7), (Fl r9), (Fl r11)]), (Pt b14 0), (Pt b21 0), (Pt b29 0), (Pt b14 0), (Fl r1), (Pt b21 0), (Fl r7), (Fl r39), Ud, Ud, Ud, Ud, Ud, Ud, Ud, Ud, Ud, Ud, Ud]) _
  refine q_is (l' := [(.agg #[(Fl r1), (Fl r3), (Fl r5)]), (.agg #[(Fl r7), (Fl r9), (Fl r11)]), (Pt b14 0), (Pt b21 0), (Pt b29 0), (Pt b14 0), (Fl r1), (Pt b21 0), (Fl r7), (Fl r39), (Pt b14 1), Ud, Ud, Ud, Ud, Ud, Ud, Ud, Ud, Ud, Ud]) rfl rfl (does_fieldAddr (ev rfl) fa53_1) rfl ?_
  refine q_is (l' := [(.agg #[(Fl r1), (Fl r3), (Fl r5)]), (.agg #[(Fl r7), (Fl r9), (Fl r11)]), (Pt b14 0), (Pt b21 0), (Pt b29 0), (Pt b14 0), (Fl r1), (Pt b21 0), (Fl r7), (Fl r39), (Pt b14 1), (Fl r3), Ud, Ud, Ud, Ud, Ud, Ud, Ud, Ud, Ud]) rfl rfl (does_load (u := (Fl r3)) (ev rfl) Try.isAgg51 (Cells.at (Blk.cells (((hB16.ext E24).ext E32).ext E41)) 1 rfl)) rfl ?_
  refine q_is (l' := [(.agg #[(Fl r1), (Fl r3), (Fl r5)]), (.agg #[(Fl r7), (Fl r9), (Fl r11)]), (Pt b14 0), (Pt b21 0), (Pt b29 0), (Pt b14 0), (Fl r1), (Pt b21 0), (Fl r7), (Fl r39), (Pt b14 1), (Fl r3), (Pt b21 1), Ud, Ud, Ud, Ud, Ud, Ud, Ud, Ud]) rfl rfl (does_fieldAddr (ev rfl) fa53_1) rfl ?_
  refine q_is (l' := [(.agg #[(Fl r1), (Fl r3), (Fl r5)]), (.agg #[(Fl r7), (Fl r9), (Fl r11)]), (Pt b14 0), (Pt b21 0), (Pt b29 0), (Pt b14 0), (Fl r1), (Pt b21 0), (Fl r7), (Fl r39), (Pt b14 1), (Fl r3), (Pt b21 1), (Fl r9), Ud, Ud, Ud, Ud, Ud, Ud, Ud]) rfl rfl (does_load (u := (Fl r9)) (ev rfl) Try.isAgg51 (Cells.at (Blk.cells ((hB23.ext E32).ext E41)) 1 rfl)) rfl ?_
  refine seqd rfl rfl (does_float (.inr (.inl rfl)) (ev rfl) (ev rfl)) ?_; rintro _ w47 ⟨r44, rfl, h45, E46⟩
  have X48 := Ext.gr X43 E46
  show wpList _ _ _ _ (fr [(.agg #[(Fl r1), (Fl r3), (Fl r5)]), (.agg #[(Fl r7), (Fl r9), (Fl r11)]), (Pt b14 0), (Pt b21 0), (Pt b29 0), (Pt b14 0), (Fl r1), (Pt b21 0), (Fl r7), (Fl r39), (Pt b14 1), (Fl r3), (Pt b21 1), (Fl r9), (Fl r44), Ud, Ud, Ud, Ud, Ud, Ud]) _
  refine q_is (l' := [(.agg #[(Fl r1), (Fl r3), (Fl r5)]), (.agg #[(Fl r7), (Fl r9), (Fl r11)]), (Pt b14 0), (Pt b21 0), (Pt b29 0), (Pt b14 0), (Fl r1), (Pt b21 0), (Fl r7), (Fl r39), (Pt b14 1), (Fl r3), (Pt b21 1), (Fl r9), (Fl r44), (Pt b14 2), Ud, Ud, Ud, Ud, Ud]) rfl rfl (does_fieldAddr (ev rfl) fa53_2) rfl ?_
  refine q_is (l' := [(.agg #[(Fl r1), (Fl r3), (Fl r5)]), (.agg #[(Fl r7), (Fl r9), (Fl r11)]), (Pt b14 0), (Pt b21 0), (Pt b29 0), (Pt b14 0), (Fl r1), (Pt b21 0), (Fl r7), (Fl r39), (Pt b14 1), (Fl r3), (Pt b21 1), (Fl r9), (Fl r44), (Pt b14 2), (Fl r5), Ud, Ud, Ud, Ud]) rfl rfl (does_load (u := (Fl r5)) (ev rfl) Try.isAgg51 (Cells.at (Blk.cells ((((hB16.ext E24).ext E32).ext E41).ext E46)) 2 rfl)) rfl ?_
  refine q_is (l' := [(.agg #[(Fl r1), (Fl r3), (Fl r5)]), (.agg #[(Fl r7), (Fl r9), (Fl r11)]), (Pt b14 0), (Pt b21 0), (Pt b29 0), (Pt b14 0), (Fl r1), (Pt b21 0), (Fl r7), (Fl r39), (Pt b14 1), (Fl r3), (Pt b21 1), (Fl r9), (Fl r44), (Pt b14 2), (Fl r5), (Pt b21 2), Ud, Ud, Ud]) rfl rfl (does_fieldAddr (ev rfl) fa53_2) rfl ?_
  refine q_is (l' := [(.agg #[(Fl r1), (Fl r3), (Fl r5)]), (.agg #[(Fl r7), (Fl r9), (Fl r11)]), (Pt b14 0), (Pt b21 0), (Pt b29 0), (Pt b14 0), (Fl r1), (Pt b21 0), (Fl r7), (Fl r39), (Pt b14 1), (Fl r3), (Pt b21 1), (Fl r9), (Fl r44), (Pt b14 2), (Fl r5), (Pt b21 2), (Fl r11), Ud, Ud]) rfl rfl (does_load (u := (Fl r11)) (ev rfl) Try.isAgg51 (Cells.at (Blk.cells (((hB23.ext E32).ext E41).ext E46)) 2 rfl)) rfl ?_
  refine seqd rfl rfl (does_float (.inr (.inl rfl)) (ev rfl) (ev rfl)) ?_; rintro _ w52 ⟨r49, rfl, h50, E51⟩
  have X53 := Ext.gr X48 E51
  show wpList _ _ _ _ (fr [(.agg #[(Fl r1), (Fl r3), (Fl r5)]), (.agg #[(Fl r7), (Fl r9), (Fl r11)]), (Pt b14 0), (Pt b21 0), (Pt b29 0), (Pt b14 0), (Fl r1), (Pt b21 0), (Fl r7), (Fl r39), (Pt b14 1), (Fl r3), (Pt b21 1), (Fl r9), (Fl r44), (Pt b14 2), (Fl r5), (Pt b21 2), (Fl r11), (Fl r49), Ud]) _
  refine q_is (l' := [(.agg #[(Fl r1), (Fl r3), (Fl r5)]), (.agg #[(Fl r7), (Fl r9), (Fl r11)]), (Pt b14 0), (Pt b21 0), (Pt b29 0), (Pt b14 0), (Fl r1), (Pt b21 0), (Fl r7), (Fl r39), (Pt b14 1), (Fl r3), (Pt b21 1), (Fl r9), (Fl r44), (Pt b14 2), (Fl r5), (Pt b21 2), (Fl r11), (Fl r49), (.agg #[(Fl r39), (Fl r44), (Fl r49)])]) rfl rfl (does_build (parts' := [(0, (Fl r39)), (1, (Fl r44)), (2, (Fl r49))]) (cells := #[(Fl r39), (Fl r44), (Fl r49)]) (evp rfl) (by kernel_rfl)) rfl ?_
  refine seqn rfl rfl (does_store (n := 3) (cs := [(Fl 0), (Fl 0), (Fl 0)]) (u := (.agg #[(Fl r39), (Fl r44), (Fl r49)])) (ev rfl) (ev rfl) Try.sizeOf53 rfl (((hB31.ext E41).ext E46).ext E51) (Nat.le_of_ble_eq_true rfl) rfl) ?_; rintro _ w56 ⟨rfl, W54, hB55⟩
  change Blk _ _ [(Fl r39), (Fl r44), (Fl r49)] at hB55
  have X57 := Below.wr X53 W54 g36
  refine wpList_nil (hK38 _ _ ?_)
  refine wp_ret ?_
  refine ret_val (v := (.agg #[(Fl r39), (Fl r44), (Fl r49)])) (res_C rfl (slot rfl) (run_loadAgg (cs := [(Fl r39), (Fl r44), (Fl r49)]) Try.isAgg53 Try.sizeOf53 (Blk.cells hB55) rfl)) X57 ?_
  have x58 : cf .f32 r39 = (vsub A_a A_b).x := by first | with_reducible rfl | (simp only [vsub, h2, h4, h6, h8, h10, h12, h40, h45, h50]; done) | (simp [vsub, h2, h4, h6, h8, h10, h12, h40, h45, h50]; done) | rfl
  have x59 : cf .f32 r44 = (vsub A_a A_b).y := by first | with_reducible rfl | (simp only [vsub, h2, h4, h6, h8, h10, h12, h40, h45, h50]; done) | (simp [vsub, h2, h4, h6, h8, h10, h12, h40, h45, h50]; done) | rfl
  have x60 : cf .f32 r49 = (vsub A_a A_b).z := by first | with_reducible rfl | (simp only [vsub, h2, h4, h6, h8, h10, h12, h40, h45, h50]; done) | (simp [vsub, h2, h4, h6, h8, h10, h12, h40, h45, h50]; done) | rfl
  exact ⟨[(Fl r39), (Fl r44), (Fl r49)], rfl, ⟨r39, r44, r49, rfl, x58, x59, x60⟩⟩

/- impl.AddVectors -/
theorem c_impl_AddVectors (a : List Value) (A_a : V3) (b : List Value) (A_b : V3) (w : World) (hv_a : RV3 w A_a a) (hv_b : RV3 w A_b b) : Gives Try.prog 34 #[(.agg a.toArray), (.agg b.toArray)] w (fun v w' => ∃ cs_1 : List Value, v = (.agg cs_1.toArray) ∧ RV3 w (vadd A_a A_b) cs_1) := by
  obtain ⟨r1, r3, r5, rfl, h2, h4, h6⟩ := hv_a
  obtain ⟨r7, r9, r11, rfl, h8, h10, h12⟩ := hv_b
  refine enter [(.agg #[(Fl r1), (Fl r3), (Fl r5)]), (.agg #[(Fl r7), (Fl r9), (Fl r11)]), Ud, Ud, Ud, Ud, Ud, Ud, Ud, Ud, Ud, Ud, Ud, Ud, Ud, Ud, Ud, Ud, Ud, Ud, Ud] Try.func34 rfl Try.ntmps34 rfl ?_
  refine wp_seq_k fun K13 hK13 => ?_
  refine wp_region_lit ?_
  refine seqd rfl rfl (does_box (u := (.agg #[(Fl r1), (Fl r3), (Fl r5)])) (ev rfl)) ?_; rintro _ w18 ⟨b14, rfl, hb15, hB16, E17⟩
  have g19 : w.heap.size ≤ b14 := Nat.le_trans (Below.size (Ext.refl w)) hb15
  change Blk _ _ [(Fl r1), (Fl r3), (Fl r5)] at hB16
  have X20 := Ext.gr (Ext.refl w) E17
  show wpList _ _ _ _ (fr [(.agg #[(Fl r1), (Fl r3), (Fl r5)]), (.agg #[(Fl r7), (Fl r9), (Fl r11)]), (Pt b14 0), Ud, Ud, Ud, Ud, Ud, Ud, Ud, Ud, Ud, Ud, Ud, Ud, Ud, Ud, Ud, Ud, Ud, Ud]) _
  refine seqd rfl rfl (does_box (u := (.agg #[(Fl r7), (Fl r9), (Fl r11)])) (ev rfl)) ?_; rintro _ w25 ⟨b21, rfl, hb22, hB23, E24⟩
  have n26 : b14 < b21 := Nat.lt_of_lt_of_le (Blk.lt hB16) hb22
  have g27 : w.heap.size ≤ b21 := Nat.le_trans (Below.size X20) hb22
  change Blk _ _ [(Fl r7), (Fl r9), (Fl r11)] at hB23
  have X28 := Ext.gr X20 E24
  show wpList _ _ _ _ (fr [(.agg #[(Fl r1), (Fl r3), (Fl r5)]), (.agg #[(Fl r7), (Fl r9), (Fl r11)]), (Pt b14 0), (Pt b21 0), Ud, Ud, Ud, Ud, Ud, Ud, Ud, Ud, Ud, Ud, Ud, Ud, Ud, Ud, Ud, Ud, Ud]) _
  refine seqd rfl rfl (does_alloc z53) ?_; rintro _ w33 ⟨b29, rfl, hb30, hB31, E32⟩
  have n34 : b14 < b29 := Nat.lt_of_lt_of_le (Blk.lt (hB16.ext E24)) hb30
  have n35 : b21 < b29 := Nat.lt_of_lt_of_le (Blk.lt hB23) hb30
  have g36 : w.heap.size ≤ b29 := Nat.le_trans (Below.size X28) hb30
  change Blk _ _ [(Fl 0), (Fl 0), (Fl 0)] at hB31
  have X37 := Ext.gr X28 E32
  show wpList _ _ _ _ (fr [(.agg #[(Fl r1), (Fl r3), (Fl r5)]), (.agg #[(Fl r7), (Fl r9), (Fl r11)]), (Pt b14 0), (Pt b21 0), (Pt b29 0), Ud, Ud, Ud, Ud, Ud, Ud, Ud, Ud, Ud, Ud, Ud, Ud, Ud, Ud, Ud, Ud]) _
  refine wpList_nil (hK13 _ _ ?_)
  refine wp_seq_k fun K38 hK38 => ?_
  refine wp_region_lit ?_
  refine q_is (l' := [(.agg #[(Fl r1), (Fl r3), (Fl r5)]), (.agg #[(Fl r7), (Fl r9), (Fl r11)]), (Pt b14 0), (Pt b21 0), (Pt b29 0), (Pt b14 0), Ud, Ud, Ud, Ud, Ud, Ud, Ud, Ud, Ud, Ud, Ud, Ud, Ud, Ud, Ud]) rfl rfl (does_fieldAddr (ev rfl) fa53_0) rfl ?_
  refine q_is (l' := [(.agg #[(Fl r1), (Fl r3), (Fl r5)]), (.agg #[(Fl r7), (Fl r9), (Fl r11)]), (Pt b14 0), (Pt b21 0), (Pt b29 0), (Pt b14 0), (Fl r1), Ud, Ud, Ud, Ud, Ud, Ud, Ud, Ud, Ud, Ud, Ud, Ud, Ud, Ud]) rfl rfl (does_load (u := (Fl r1)) (ev rfl) Try.isAgg51 (Cells.at (Blk.cells ((hB16.ext E24).ext E32)) 0 rfl)) rfl ?_
  refine q_is (l' := [(.agg #[(Fl r1), (Fl r3), (Fl r5)]), (.agg #[(Fl r7), (Fl r9), (Fl r11)]), (Pt b14 0), (Pt b21 0), (Pt b29 0), (Pt b14 0), (Fl r1), (Pt b21 0), Ud, Ud, Ud, Ud, Ud, Ud, Ud, Ud, Ud, Ud, Ud, Ud, Ud]) rfl rfl (does_fieldAddr (ev rfl) fa53_0) rfl ?_
  refine q_is (l' := [(.agg #[(Fl r1), (Fl r3), (Fl r5)]), (.agg #[(Fl r7), (Fl r9), (Fl r11)]), (Pt b14 0), (Pt b21 0), (Pt b29 0), (Pt b14 0), (Fl r1), (Pt b21 0), (Fl r7), Ud, Ud, Ud, Ud, Ud, Ud, Ud, Ud, Ud, Ud, Ud, Ud]) rfl rfl (does_load (u := (Fl r7)) (ev rfl) Try.isAgg51 (Cells.at (Blk.cells (hB23.ext E32)) 0 rfl)) rfl ?_
  refine seqd rfl rfl (does_float (.inl rfl) (ev rfl) (ev rfl)) ?_; rintro _ w42 ⟨r39, rfl, h40, E41⟩
  have X43 := Ext.gr X37 E41
  show wpList _ _ _ _ (fr [(.agg #[(Fl r1), (Fl r3), (Fl r5)]), (.agg #[(Fl r7), (Fl r9), (Fl r11)]), (Pt b14 0), (Pt b21 0), (Pt b29 0), (Pt b14 0), (Fl r1), (Pt b21 0), (Fl r7), (Fl r39), Ud, Ud, Ud, Ud, Ud, Ud, Ud, Ud, Ud, Ud, Ud]) _
  refine q_is (l' := [(.agg #[(Fl r1), (Fl r3), (Fl r5)]), (.agg #[(Fl r7), (Fl r9), (Fl r11)]), (Pt b14 0), (Pt b21 0), (Pt b29 0), (Pt b14 0), (Fl r1), (Pt b21 0), (Fl r7), (Fl r39), (Pt b14 1), Ud, Ud, Ud, Ud, Ud, Ud, Ud, Ud, Ud, Ud]) rfl rfl (does_fieldAddr (ev rfl) fa53_1) rfl ?_
  refine q_is (l' := [(.agg #[(Fl r1), (Fl r3), (Fl r5)]), (.agg #[(Fl r7), (Fl r9), (Fl r11)]), (Pt b14 0), (Pt b21 0), (Pt b29 0), (Pt b14 0), (Fl r1), (Pt b21 0), (Fl r7), (Fl r39), (Pt b14 1), (Fl r3), Ud, Ud, Ud, Ud, Ud, Ud, Ud, Ud, Ud]) rfl rfl (does_load (u := (Fl r3)) (ev rfl) Try.isAgg51 (Cells.at (Blk.cells (((hB16.ext E24).ext E32).ext E41)) 1 rfl)) rfl ?_
  refine q_is (l' := [(.agg #[(Fl r1), (Fl r3), (Fl r5)]), (.agg #[(Fl r7), (Fl r9), (Fl r11)]), (Pt b14 0), (Pt b21 0), (Pt b29 0), (Pt b14 0), (Fl r1), (Pt b21 0), (Fl r7), (Fl r39), (Pt b14 1), (Fl r3), (Pt b21 1), Ud, Ud, Ud, Ud, Ud, Ud, Ud, Ud]) rfl rfl (does_fieldAddr (ev rfl) fa53_1) rfl ?_
  refine q_is (l' := [(.agg #[(Fl r1), (Fl r3), (Fl r5)]), (.agg #[(Fl r7), (Fl r9), (Fl r11)]), (Pt b14 0), (Pt b21 0), (Pt b29 0), (Pt b14 0), (Fl r1), (Pt b21 0), (Fl r7), (Fl r39), (Pt b14 1), (Fl r3), (Pt b21 1), (Fl r9), Ud, Ud, Ud, Ud, Ud, Ud, Ud]) rfl rfl (does_load (u := (Fl r9)) (ev rfl) Try.isAgg51 (Cells.at (Blk.cells ((hB23.ext E32).ext E41)) 1 rfl)) rfl ?_
  refine seqd rfl rfl (does_float (.inl rfl) (ev rfl) (ev rfl)) ?_; rintro _ w47 ⟨r44, rfl, h45, E46⟩
  have X48 := Ext.gr X43 E46
  show wpList _ _ _ _ (fr [(.agg #[(Fl r1), (Fl r3), (Fl r5)]), (.agg #[(Fl r7), (Fl r9), (Fl r11)]), (Pt b14 0), (Pt b21 0), (Pt b29 0), (Pt b14 0), (Fl r1), (Pt b21 0), (Fl r7), (Fl r39), (Pt b14 1), (Fl r3), (Pt b21 1), (Fl r9), (Fl r44), Ud, Ud, Ud, Ud, Ud, Ud]) _
  refine q_is (l' := [(.agg #[(Fl r1), (Fl r3), (Fl r5)]), (.agg #[(Fl r7), (Fl r9), (Fl r11)]), (Pt b14 0), (Pt b21 0), (Pt b29 0), (Pt b14 0), (Fl r1), (Pt b21 0), (Fl r7), (Fl r39), (Pt b14 1), (Fl r3), (Pt b21 1), (Fl r9), (Fl r44), (Pt b14 2), Ud, Ud, Ud, Ud, Ud]) rfl rfl (does_fieldAddr (ev rfl) fa53_2) rfl ?_
  refine q_is (l' := [(.agg #[(Fl r1), (Fl r3), (Fl r5)]), (.agg #[(Fl r7), (Fl r9), (Fl r11)]), (Pt b14 0), (Pt b21 0), (Pt b29 0), (Pt b14 0), (Fl r1), (Pt b21 0), (Fl r7), (Fl r39), (Pt b14 1), (Fl r3), (Pt b21 1), (Fl r9), (Fl r44), (Pt b14 2), (Fl r5), Ud, Ud, Ud, Ud]) rfl rfl (does_load (u := (Fl r5)) (ev rfl) Try.isAgg51 (Cells.at (Blk.cells ((((hB16.ext E24).ext E32).ext E41).ext E46)) 2 rfl)) rfl ?_
  refine q_is (l' := [(.agg #[(Fl r1), (Fl r3), (Fl r5)]), (.agg #[(Fl r7), (Fl r9), (Fl r11)]), (Pt b14 0), (Pt b21 0), (Pt b29 0), (Pt b14 0), (Fl r1), (Pt b21 0), (Fl r7), (Fl r39), (Pt b14 1), (Fl r3), (Pt b21 1), (Fl r9), (Fl r44), (Pt b14 2), (Fl r5), (Pt b21 2), Ud, Ud, Ud]) rfl rfl (does_fieldAddr (ev rfl) fa53_2) rfl ?_
  refine q_is (l' := [(.agg #[(Fl r1), (Fl r3), (Fl r5)]), (.agg #[(Fl r7), (Fl r9), (Fl r11)]), (Pt b14 0), (Pt b21 0), (Pt b29 0), (Pt b14 0), (Fl r1), (Pt b21 0), (Fl r7), (Fl r39), (Pt b14 1), (Fl r3), (Pt b21 1), (Fl r9), (Fl r44), (Pt b14 2), (Fl r5), (Pt b21 2), (Fl r11), Ud, Ud]) rfl rfl (does_load (u := (Fl r11)) (ev rfl) Try.isAgg51 (Cells.at (Blk.cells (((hB23.ext E32).ext E41).ext E46)) 2 rfl)) rfl ?_
  refine seqd rfl rfl (does_float (.inl rfl) (ev rfl) (ev rfl)) ?_; rintro _ w52 ⟨r49, rfl, h50, E51⟩
  have X53 := Ext.gr X48 E51
  show wpList _ _ _ _ (fr [(.agg #[(Fl r1), (Fl r3), (Fl r5)]), (.agg #[(Fl r7), (Fl r9), (Fl r11)]), (Pt b14 0), (Pt b21 0), (Pt b29 0), (Pt b14 0), (Fl r1), (Pt b21 0), (Fl r7), (Fl r39), (Pt b14 1), (Fl r3), (Pt b21 1), (Fl r9), (Fl r44), (Pt b14 2), (Fl r5), (Pt b21 2), (Fl r11), (Fl r49), Ud]) _
  refine q_is (l' := [(.agg #[(Fl r1), (Fl r3), (Fl r5)]), (.agg #[(Fl r7), (Fl r9), (Fl r11)]), (Pt b14 0), (Pt b21 0), (Pt b29 0), (Pt b14 0), (Fl r1), (Pt b21 0), (Fl r7), (Fl r39), (Pt b14 1), (Fl r3), (Pt b21 1), (Fl r9), (Fl r44), (Pt b14 2), (Fl r5), (Pt b21 2), (Fl r11), (Fl r49), (.agg #[(Fl r39), (Fl r44), (Fl r49)])]) rfl rfl (does_build (parts' := [(0, (Fl r39)), (1, (Fl r44)), (2, (Fl r49))]) (cells := #[(Fl r39), (Fl r44), (Fl r49)]) (evp rfl) (by kernel_rfl)) rfl ?_
  refine seqn rfl rfl (does_store (n := 3) (cs := [(Fl 0), (Fl 0), (Fl 0)]) (u := (.agg #[(Fl r39), (Fl r44), (Fl r49)])) (ev rfl) (ev rfl) Try.sizeOf53 rfl (((hB31.ext E41).ext E46).ext E51) (Nat.le_of_ble_eq_true rfl) rfl) ?_; rintro _ w56 ⟨rfl, W54, hB55⟩
  change Blk _ _ [(Fl r39), (Fl r44), (Fl r49)] at hB55
  have X57 := Below.wr X53 W54 g36
  refine wpList_nil (hK38 _ _ ?_)
  refine wp_ret ?_
  refine ret_val (v := (.agg #[(Fl r39), (Fl r44), (Fl r49)])) (res_C rfl (slot rfl) (run_loadAgg (cs := [(Fl r39), (Fl r44), (Fl r49)]) Try.isAgg53 Try.sizeOf53 (Blk.cells hB55) rfl)) X57 ?_
  have x58 : cf .f32 r39 = (vadd A_a A_b).x := by first | with_reducible rfl | (simp only [vadd, h2, h4, h6, h8, h10, h12, h40, h45, h50]; done) | (simp [vadd, h2, h4, h6, h8, h10, h12, h40, h45, h50]; done) | rfl
  have x59 : cf .f32 r44 = (vadd A_a A_b).y := by first | with_reducible rfl | (simp only [vadd, h2, h4, h6, h8, h10, h12, h40, h45, h50]; done) | (simp [vadd, h2, h4, h6, h8, h10, h12, h40, h45, h50]; done) | rfl
  have x60 : cf .f32 r49 = (vadd A_a A_b).z := by first | with_reducible rfl | (simp only [vadd, h2, h4, h6, h8, h10, h12, h40, h45, h50]; done) | (simp [vadd, h2, h4, h6, h8, h10, h12, h40, h45, h50]; done) | rfl
  exact ⟨[(Fl r39), (Fl r44), (Fl r49)], rfl, ⟨r39, r44, r49, rfl, x58, x59, x60⟩⟩

/- impl.RootNumber -/
theorem c_impl_RootNumber (x : Nat) (w : World) : Gives Try.prog 62 #[(Fl x)] w (fun v w' => ∃ r_1 : Nat, v = (Fl r_1) ∧ cf .f32 r_1 = rootF (cf .f32 x)) := by
  refine enter [(Fl x), Ud, Ud, Ud, Ud, Ud, Ud] Try.func62 rfl Try.ntmps62 rfl ?_
  refine wp_seq_k fun K1 hK1 => ?_
  refine wp_region_lit ?_
  refine q_is (l' := [(Fl x), Ud, (Fl 0), Ud, Ud, Ud, Ud]) rfl rfl (does_assign (u := (Fl 0)) (ev rfl)) rfl ?_
  refine wpList_nil (hK1 _ _ ?_)
  refine wp_seq_k fun K2 hK2 => ?_
  refine wp_region_lit ?_
  refine q_is (l' := [(Fl x), Ud, (Fl 0), (Fl x), Ud, Ud, Ud]) rfl rfl (does_move (u := (Fl x)) (ev rfl)) rfl ?_
  refine seqd rfl rfl (does_widen Try.underlying51 Try.underlying72 (ev rfl)) ?_; rintro _ w6 ⟨r3, rfl, h4, E5⟩
  have X7 := Ext.gr (Ext.refl w) E5
  show wpList _ _ _ _ (fr [(Fl x), Ud, (Fl 0), (Fl x), (Fd r3), Ud, Ud]) _
  refine seqd rfl rfl (does_call (args := #[(Fd r3)]) cal69 (evs rfl) (c_math_Sqrt r3 _)) ?_; rintro _ w9 ⟨E8, ⟨r10, rfl, h11⟩⟩
  have X12 := Ext.gr X7 E8
  show wpList _ _ _ _ (fr [(Fl x), Ud, (Fl 0), (Fl x), (Fd r3), (Fd r10), Ud]) _
  refine seqd rfl rfl (does_narrow Try.underlying72 Try.underlying51 (ev rfl) (by first | assumption | (simp only [h4, h11]; exact nov_sqrt _))) ?_; rintro _ w16 ⟨r13, rfl, h14, E15⟩
  have X17 := Ext.gr X12 E15
  show wpList _ _ _ _ (fr [(Fl x), Ud, (Fl 0), (Fl x), (Fd r3), (Fd r10), (Fl r13)]) _
  refine q_is (l' := [(Fl x), Ud, (Fl r13), (Fl x), (Fd r3), (Fd r10), (Fl r13)]) rfl rfl (does_assign (u := (Fl r13)) (ev rfl)) rfl ?_
  refine wpList_nil (hK2 _ _ ?_)
  refine wp_ret ?_
  refine ret_val (v := (Fl r13)) (res_T rfl (slot rfl)) X17 ?_
  have x18 : cf .f32 r13 = rootF (cf .f32 x) := by first | with_reducible rfl | (simp only [rootF, h4, h11, h14]; done) | (simp [rootF, h4, h11, h14]; done) | rfl
  exact ⟨r13, rfl, x18⟩

/- impl.InnerOf -/
theorem c_impl_InnerOf (a : List Value) (A_a : V3) (b : List Value) (A_b : V3) (w : World) (hv_a : RV3 w A_a a) (hv_b : RV3 w A_b b) : Gives Try.prog 63 #[(.agg a.toArray), (.agg b.toArray)] w (fun v w' => ∃ r_1 : Nat, v = (Fl r_1) ∧ cf .f32 r_1 = innerF A_a A_b) := by
  obtain ⟨r1, r3, r5, rfl, h2, h4, h6⟩ := hv_a
  obtain ⟨r7, r9, r11, rfl, h8, h10, h12⟩ := hv_b
  refine enter [(.agg #[(Fl r1), (Fl r3), (Fl r5)]), (.agg #[(Fl r7), (Fl r9), (Fl r11)]), Ud, Ud, Ud, Ud, Ud, Ud, Ud, Ud, Ud, Ud, Ud, Ud, Ud, Ud, Ud, Ud, Ud, Ud, Ud, Ud] Try.func63 rfl Try.ntmps63 rfl ?_
  refine wp_seq_k fun K13 hK13 => ?_
  refine wp_region_lit ?_
  refine seqd rfl rfl (does_box (u := (.agg #[(Fl r1), (Fl r3), (Fl r5)])) (ev rfl)) ?_; rintro _ w18 ⟨b14, rfl, hb15, hB16, E17⟩
  have g19 : w.heap.size ≤ b14 := Nat.le_trans (Below.size (Ext.refl w)) hb15
  change Blk _ _ [(Fl r1), (Fl r3), (Fl r5)] at hB16
  have X20 := Ext.gr (Ext.refl w) E17
  show wpList _ _ _ _ (fr [(.agg #[(Fl r1), (Fl r3), (Fl r5)]), (.agg #[(Fl r7), (Fl r9), (Fl r11)]), (Pt b14 0), Ud, Ud, Ud, Ud, Ud, Ud, Ud, Ud, Ud, Ud, Ud, Ud, Ud, Ud, Ud, Ud, Ud, Ud, Ud]) _
  refine seqd rfl rfl (does_box (u := (.agg #[(Fl r7), (Fl r9), (Fl r11)])) (ev rfl)) ?_; rintro _ w25 ⟨b21, rfl, hb22, hB23, E24⟩
  have n26 : b14 < b21 := Nat.lt_of_lt_of_le (Blk.lt hB16) hb22
  have g27 : w.heap.size ≤ b21 := Nat.le_trans (Below.size X20) hb22
  change Blk _ _ [(Fl r7), (Fl r9), (Fl r11)] at hB23
  have X28 := Ext.gr X20 E24
  show wpList _ _ _ _ (fr [(.agg #[(Fl r1), (Fl r3), (Fl r5)]), (.agg #[(Fl r7), (Fl r9), (Fl r11)]), (Pt b14 0), (Pt b21 0), Ud, Ud, Ud, Ud, Ud, Ud, Ud, Ud, Ud, Ud, Ud, Ud, Ud, Ud, Ud, Ud, Ud, Ud]) _
  refine q_is (l' := [(.agg #[(Fl r1), (Fl r3), (Fl r5)]), (.agg #[(Fl r7), (Fl r9), (Fl r11)]), (Pt b14 0), (Pt b21 0), (Fl 0), Ud, Ud, Ud, Ud, Ud, Ud, Ud, Ud, Ud, Ud, Ud, Ud, Ud, Ud, Ud, Ud, Ud]) rfl rfl (does_assign (u := (Fl 0)) (ev rfl)) rfl ?_
  refine wpList_nil (hK13 _ _ ?_)
  refine wp_seq_k fun K29 hK29 => ?_
  refine wp_region_lit ?_
  refine q_is (l' := [(.agg #[(Fl r1), (Fl r3), (Fl r5)]), (.agg #[(Fl r7), (Fl r9), (Fl r11)]), (Pt b14 0), (Pt b21 0), (Fl 0), (Pt b14 0), Ud, Ud, Ud, Ud, Ud, Ud, Ud, Ud, Ud, Ud, Ud, Ud, Ud, Ud, Ud, Ud]) rfl rfl (does_fieldAddr (ev rfl) fa53_0) rfl ?_
  refine q_is (l' := [(.agg #[(Fl r1), (Fl r3), (Fl r5)]), (.agg #[(Fl r7), (Fl r9), (Fl r11)]), (Pt b14 0), (Pt b21 0), (Fl 0), (Pt b14 0), (Fl r1), Ud, Ud, Ud, Ud, Ud, Ud, Ud, Ud, Ud, Ud, Ud, Ud, Ud, Ud, Ud]) rfl rfl (does_load (u := (Fl r1)) (ev rfl) Try.isAgg51 (Cells.at (Blk.cells (hB16.ext E24)) 0 rfl)) rfl ?_
  refine q_is (l' := [(.agg #[(Fl r1), (Fl r3), (Fl r5)]), (.agg #[(Fl r7), (Fl r9), (Fl r11)]), (Pt b14 0), (Pt b21 0), (Fl 0), (Pt b14 0), (Fl r1), (Pt b21 0), Ud, Ud, Ud, Ud, Ud, Ud, Ud, Ud, Ud, Ud, Ud, Ud, Ud, Ud]) rfl rfl (does_fieldAddr (ev rfl) fa53_0) rfl ?_
  refine q_is (l' := [(.agg #[(Fl r1), (Fl r3), (Fl r5)]), (.agg #[(Fl r7), (Fl r9), (Fl r11)]), (Pt b14 0), (Pt b21 0), (Fl 0), (Pt b14 0), (Fl r1), (Pt b21 0), (Fl r7), Ud, Ud, Ud, Ud, Ud, Ud, Ud, Ud, Ud, Ud, Ud, Ud, Ud]) rfl rfl (does_load (u := (Fl r7)) (ev rfl) Try.isAgg51 (Cells.at (Blk.cells hB23) 0 rfl)) rfl ?_
  refine seqd rfl rfl (does_float (.inr (.inr (.inl rfl))) (ev rfl) (ev rfl)) ?_; rintro _ w33 ⟨r30, rfl, h31, E32⟩
  have X34 := Ext.gr X28 E32
  show wpList _ _ _ _ (fr [(.agg #[(Fl r1), (Fl r3), (Fl r5)]), (.agg #[(Fl r7), (Fl r9), (Fl r11)]), (Pt b14 0), (Pt b21 0), (Fl 0), (Pt b14 0), (Fl r1), (Pt b21 0), (Fl r7), (Fl r30), Ud, Ud, Ud, Ud, Ud, Ud, Ud, Ud, Ud, Ud, Ud, Ud]) _
  refine q_is (l' := [(.agg #[(Fl r1), (Fl r3), (Fl r5)]), (.agg #[(Fl r7), (Fl r9), (Fl r11)]), (Pt b14 0), (Pt b21 0), (Fl 0), (Pt b14 0), (Fl r1), (Pt b21 0), (Fl r7), (Fl r30), (Pt b14 1), Ud, Ud, Ud, Ud, Ud, Ud, Ud, Ud, Ud, Ud, Ud]) rfl rfl (does_fieldAddr (ev rfl) fa53_1) rfl ?_
  refine q_is (l' := [(.agg #[(Fl r1), (Fl r3), (Fl r5)]), (.agg #[(Fl r7), (Fl r9), (Fl r11)]), (Pt b14 0), (Pt b21 0), (Fl 0), (Pt b14 0), (Fl r1), (Pt b21 0), (Fl r7), (Fl r30), (Pt b14 1), (Fl r3), Ud, Ud, Ud, Ud, Ud, Ud, Ud, Ud, Ud, Ud]) rfl rfl (does_load (u := (Fl r3)) (ev rfl) Try.isAgg51 (Cells.at (Blk.cells ((hB16.ext E24).ext E32)) 1 rfl)) rfl ?_
  refine q_is (l' := [(.agg #[(Fl r1), (Fl r3), (Fl r5)]), (.agg #[(Fl r7), (Fl r9), (Fl r11)]), (Pt b14 0), (Pt b21 0), (Fl 0), (Pt b14 0), (Fl r1), (Pt b21 0), (Fl r7), (Fl r30), (Pt b14 1), (Fl r3), (Pt b21 1), Ud, Ud, Ud, Ud, Ud, Ud, Ud, Ud, Ud]) rfl rfl (does_fieldAddr (ev rfl) fa53_1) rfl ?_
  refine q_is (l' := [(.agg #[(Fl r1), (Fl r3), (Fl r5)]), (.agg #[(Fl r7), (Fl r9), (Fl r11)]), (Pt b14 0), (Pt b21 0), (Fl 0), (Pt b14 0), (Fl r1), (Pt b21 0), (Fl r7), (Fl r30), (Pt b14 1), (Fl r3), (Pt b21 1), (Fl r9), Ud, Ud, Ud, Ud, Ud, Ud, Ud, Ud]) rfl rfl (does_load (u := (Fl r9)) (ev rfl) Try.isAgg51 (Cells.at (Blk.cells (hB23.ext E32)) 1 rfl)) rfl ?_
  refine seqd rfl rfl (does_float (.inr (.inr (.inl rfl))) (ev rfl) (ev rfl)) ?_; rintro _ w38 ⟨r35, rfl, h36, E37⟩
  have X39 := Ext.gr X34 E37
  show wpList _ _ _ _ (fr [(.agg #[(Fl r1), (Fl r3), (Fl r5)]), (.agg #[(Fl r7), (Fl r9), (Fl r11)]), (Pt b14 0), (Pt b21 0), (Fl 0), (Pt b14 0), (Fl r1), (Pt b21 0), (Fl r7), (Fl r30), (Pt b14 1), (Fl r3), (Pt b21 1), (Fl r9), (Fl r35), Ud, Ud, Ud, Ud, Ud, Ud, Ud]) _
  refine seqd rfl rfl (does_float (.inl rfl) (ev rfl) (ev rfl)) ?_; rintro _ w43 ⟨r40, rfl, h41, E42⟩
  have X44 := Ext.gr X39 E42
  show wpList _ _ _ _ (fr [(.agg #[(Fl r1), (Fl r3), (Fl r5)]), (.agg #[(Fl r7), (Fl r9), (Fl r11)]), (Pt b14 0), (Pt b21 0), (Fl 0), (Pt b14 0), (Fl r1), (Pt b21 0), (Fl r7), (Fl r30), (Pt b14 1), (Fl r3), (Pt b21 1), (Fl r9), (Fl r35), (Fl r40), Ud, Ud, Ud, Ud, Ud, Ud]) _
  refine q_is (l' := [(.agg #[(Fl r1), (Fl r3), (Fl r5)]), (.agg #[(Fl r7), (Fl r9), (Fl r11)]), (Pt b14 0), (Pt b21 0), (Fl 0), (Pt b14 0), (Fl r1), (Pt b21 0), (Fl r7), (Fl r30), (Pt b14 1), (Fl r3), (Pt b21 1), (Fl r9), (Fl r35), (Fl r40), (Pt b14 2), Ud, Ud, Ud, Ud, Ud]) rfl rfl (does_fieldAddr (ev rfl) fa53_2) rfl ?_
  refine q_is (l' := [(.agg #[(Fl r1), (Fl r3), (Fl r5)]), (.agg #[(Fl r7), (Fl r9), (Fl r11)]), (Pt b14 0), (Pt b21 0), (Fl 0), (Pt b14 0), (Fl r1), (Pt b21 0), (Fl r7), (Fl r30), (Pt b14 1), (Fl r3), (Pt b21 1), (Fl r9), (Fl r35), (Fl r40), (Pt b14 2), (Fl r5), Ud, Ud, Ud, Ud]) rfl rfl (does_load (u := (Fl r5)) (ev rfl) Try.isAgg51 (Cells.at (Blk.cells ((((hB16.ext E24).ext E32).ext E37).ext E42)) 2 rfl)) rfl ?_
  refine q_is (l' := [(.agg #[(Fl r1), (Fl r3), (Fl r5)]), (.agg #[(Fl r7), (Fl r9), (Fl r11)]), (Pt b14 0), (Pt b21 0), (Fl 0), (Pt b14 0), (Fl r1), (Pt b21 0), (Fl r7), (Fl r30), (Pt b14 1), (Fl r3), (Pt b21 1), (Fl r9), (Fl r35), (Fl r40), (Pt b14 2), (Fl r5), (Pt b21 2), Ud, Ud, Ud]) rfl rfl (does_fieldAddr (ev rfl) fa53_2) rfl ?_
  refine q_is (l' := [(.agg #[(Fl r1), (Fl r3), (Fl r5)]), (.agg #[(Fl r7), (Fl r9), (Fl r11)]), (Pt b14 0), (Pt b21 0), (Fl 0), (Pt b14 0), (Fl r1), (Pt b21 0), (Fl r7), (Fl r30), (Pt b14 1), (Fl r3), (Pt b21 1), (Fl r9), (Fl r35), (Fl r40), (Pt b14 2), (Fl r5), (Pt b21 2), (Fl r11), Ud, Ud]) rfl rfl (does_load (u := (Fl r11)) (ev rfl) Try.isAgg51 (Cells.at (Blk.cells (((hB23.ext E32).ext E37).ext E42)) 2 rfl)) rfl ?_
  refine seqd rfl rfl (does_float (.inr (.inr (.inl rfl))) (ev rfl) (ev rfl)) ?_; rintro _ w48 ⟨r45, rfl, h46, E47⟩
  have X49 := Ext.gr X44 E47
  show wpList _ _ _ _ (fr [(.agg #[(Fl r1), (Fl r3), (Fl r5)]), (.agg #[(Fl r7), (Fl r9), (Fl r11)]), (Pt b14 0), (Pt b21 0), (Fl 0), (Pt b14 0), (Fl r1), (Pt b21 0), (Fl r7), (Fl r30), (Pt b14 1), (Fl r3), (Pt b21 1), (Fl r9), (Fl r35), (Fl r40), (Pt b14 2), (Fl r5), (Pt b21 2), (Fl r11), (Fl r45), Ud]) _
  refine seqd rfl rfl (does_float (.inl rfl) (ev rfl) (ev rfl)) ?_; rintro _ w53 ⟨r50, rfl, h51, E52⟩
  have X54 := Ext.gr X49 E52
  show wpList _ _ _ _ (fr [(.agg #[(Fl r1), (Fl r3), (Fl r5)]), (.agg #[(Fl r7), (Fl r9), (Fl r11)]), (Pt b14 0), (Pt b21 0), (Fl 0), (Pt b14 0), (Fl r1), (Pt b21 0), (Fl r7), (Fl r30), (Pt b14 1), (Fl r3), (Pt b21 1), (Fl r9), (Fl r35), (Fl r40), (Pt b14 2), (Fl r5), (Pt b21 2), (Fl r11), (Fl r45), (Fl r50)]) _
  refine q_is (l' := [(.agg #[(Fl r1), (Fl r3), (Fl r5)]), (.agg #[(Fl r7), (Fl r9), (Fl r11)]), (Pt b14 0), (Pt b21 0), (Fl r50), (Pt b14 0), (Fl r1), (Pt b21 0), (Fl r7), (Fl r30), (Pt b14 1), (Fl r3), (Pt b21 1), (Fl r9), (Fl r35), (Fl r40), (Pt b14 2), (Fl r5), (Pt b21 2), (Fl r11), (Fl r45), (Fl r50)]) rfl rfl (does_assign (u := (Fl r50)) (ev rfl)) rfl ?_
  refine wpList_nil (hK29 _ _ ?_)
  refine wp_ret ?_
  refine ret_val (v := (Fl r50)) (res_T rfl (slot rfl)) X54 ?_
  have x55 : cf .f32 r50 = innerF A_a A_b := by first | with_reducible rfl | (simp only [innerF, h2, h4, h6, h8, h10, h12, h31, h36, h41, h46, h51]; done) | (simp [innerF, h2, h4, h6, h8, h10, h12, h31, h36, h41, h46, h51]; done) | rfl
  exact ⟨r50, rfl, x55⟩

/- impl.LongOf -/
theorem c_impl_LongOf (v : List Value) (A_v : V3) (w : World) (hv_v : RV3 w A_v v) : Gives Try.prog 52 #[(.agg v.toArray)] w (fun v w' => ∃ r_1 : Nat, v = (Fl r_1) ∧ cf .f32 r_1 = longF A_v) := by
  obtain ⟨r1, r3, r5, rfl, h2, h4, h6⟩ := hv_v
  refine enter [(.agg #[(Fl r1), (Fl r3), (Fl r5)]), Ud, Ud, Ud, Ud, Ud, Ud] Try.func52 rfl Try.ntmps52 rfl ?_
  refine wp_seq_k fun K7 hK7 => ?_
  refine wp_region_lit ?_
  refine seqd rfl rfl (does_box (u := (.agg #[(Fl r1), (Fl r3), (Fl r5)])) (ev rfl)) ?_; rintro _ w12 ⟨b8, rfl, hb9, hB10, E11⟩
  have g13 : w.heap.size ≤ b8 := Nat.le_trans (Below.size (Ext.refl w)) hb9
  change Blk _ _ [(Fl r1), (Fl r3), (Fl r5)] at hB10
  have X14 := Ext.gr (Ext.refl w) E11
  show wpList _ _ _ _ (fr [(.agg #[(Fl r1), (Fl r3), (Fl r5)]), (Pt b8 0), Ud, Ud, Ud, Ud, Ud]) _
  refine q_is (l' := [(.agg #[(Fl r1), (Fl r3), (Fl r5)]), (Pt b8 0), (Fl 0), Ud, Ud, Ud, Ud]) rfl rfl (does_assign (u := (Fl 0)) (ev rfl)) rfl ?_
  refine wpList_nil (hK7 _ _ ?_)
  refine wp_seq_k fun K15 hK15 => ?_
  refine wp_region_lit ?_
  refine q_is (l' := [(.agg #[(Fl r1), (Fl r3), (Fl r5)]), (Pt b8 0), (Fl 0), (.agg #[(Fl r1), (Fl r3), (Fl r5)]), Ud, Ud, Ud]) rfl rfl (does_loadAgg (cs := [(Fl r1), (Fl r3), (Fl r5)]) (ev rfl) Try.isAgg53 Try.sizeOf53 (Blk.cells hB10) rfl) rfl ?_
  refine q_is (l' := [(.agg #[(Fl r1), (Fl r3), (Fl r5)]), (Pt b8 0), (Fl 0), (.agg #[(Fl r1), (Fl r3), (Fl r5)]), (.agg #[(Fl r1), (Fl r3), (Fl r5)]), Ud, Ud]) rfl rfl (does_loadAgg (cs := [(Fl r1), (Fl r3), (Fl r5)]) (ev rfl) Try.isAgg53 Try.sizeOf53 (Blk.cells hB10) rfl) rfl ?_
  refine seqd rfl rfl (does_call (args := #[(.agg #[(Fl r1), (Fl r3), (Fl r5)]), (.agg #[(Fl r1), (Fl r3), (Fl r5)])]) cal63 (evs rfl) (c_impl_InnerOf [(Fl r1), (Fl r3), (Fl r5)] A_v [(Fl r1), (Fl r3), (Fl r5)] A_v _ ⟨r1, r3, r5, rfl, h2, h4, h6⟩ ⟨r1, r3, r5, rfl, h2, h4, h6⟩)) ?_; rintro _ w17 ⟨E16, ⟨r18, rfl, h19⟩⟩
  have X20 := Ext.gr X14 E16
  show wpList _ _ _ _ (fr [(.agg #[(Fl r1), (Fl r3), (Fl r5)]), (Pt b8 0), (Fl 0), (.agg #[(Fl r1), (Fl r3), (Fl r5)]), (.agg #[(Fl r1), (Fl r3), (Fl r5)]), (Fl r18), Ud]) _
  refine seqd rfl rfl (does_call (args := #[(Fl r18)]) cal62 (evs rfl) (c_impl_RootNumber r18 _)) ?_; rintro _ w22 ⟨E21, ⟨r23, rfl, h24⟩⟩
  have X25 := Ext.gr X20 E21
  show wpList _ _ _ _ (fr [(.agg #[(Fl r1), (Fl r3), (Fl r5)]), (Pt b8 0), (Fl 0), (.agg #[(Fl r1), (Fl r3), (Fl r5)]), (.agg #[(Fl r1), (Fl r3), (Fl r5)]), (Fl r18), (Fl r23)]) _
  refine q_is (l' := [(.agg #[(Fl r1), (Fl r3), (Fl r5)]), (Pt b8 0), (Fl r23), (.agg #[(Fl r1), (Fl r3), (Fl r5)]), (.agg #[(Fl r1), (Fl r3), (Fl r5)]), (Fl r18), (Fl r23)]) rfl rfl (does_assign (u := (Fl r23)) (ev rfl)) rfl ?_
  refine wpList_nil (hK15 _ _ ?_)
  refine wp_ret ?_
  refine ret_val (v := (Fl r23)) (res_T rfl (slot rfl)) X25 ?_
  have x26 : cf .f32 r23 = longF A_v := by first | with_reducible rfl | (simp only [longF, h2, h4, h6, h19, h24]; done) | (simp [longF, h2, h4, h6, h19, h24]; done) | rfl
  exact ⟨r23, rfl, x26⟩

/- slices.IndexFunc[[]float32,float32] -/
theorem c_slices_IndexFunc_float32_float32 (xs : Value) (L_xs : List Nat) (f : Value) (pr_f : Nat → Bool) (w : World) (hv_xs : Sl RF 1 w xs L_xs) (hv_f : TellsF Try.prog f w pr_f) : Gives Try.prog 70 #[xs, f] w (fun v w' => v = (Iv (findI pr_f L_xs))) := by
  have hlen_xs := Sl.len hv_xs; obtain ⟨p_xs, q_xs, rfl⟩ := Sl.shape hv_xs
  obtain ⟨f_f, s_f, c_f, rfl, hcal_f, hg_f⟩ := hv_f
  refine enter [(.slice p_xs L_xs.length q_xs), (.func (.func f_f) s_f c_f), Ud, Ud, Ud, Ud, Ud, Ud, Ud, Ud, Ud, Ud, Ud, Ud, Ud, Ud, Ud, Ud, Ud] Try.func70 rfl Try.ntmps70 rfl ?_
  refine wp_seq_k fun K1 hK1 => ?_
  refine wp_region_lit ?_
  refine q_is (l' := [(.slice p_xs L_xs.length q_xs), (.func (.func f_f) s_f c_f), Ud, Ud, (Iv 0), Ud, Ud, Ud, Ud, Ud, Ud, Ud, Ud, Ud, Ud, Ud, Ud, Ud, Ud]) rfl rfl (does_assign (u := (Iv 0)) (ev rfl)) rfl ?_
  refine wpList_nil (hK1 _ _ ?_)
  refine wp_seq_k fun K2 hK2 => ?_
  refine wp_seq_k fun K3 hK3 => ?_
  refine wp_region_lit ?_
  refine q_is (l' := [(.slice p_xs L_xs.length q_xs), (.func (.func f_f) s_f c_f), Ud, Ud, (Iv 0), Ud, (.slice p_xs L_xs.length q_xs), Ud, Ud, Ud, Ud, Ud, Ud, Ud, Ud, Ud, Ud, Ud, Ud]) rfl rfl (does_move (u := (.slice p_xs L_xs.length q_xs)) (ev rfl)) rfl ?_
  refine q_is (l' := [(.slice p_xs L_xs.length q_xs), (.func (.func f_f) s_f c_f), Ud, Ud, (Iv 0), Ud, (.slice p_xs L_xs.length q_xs), (Iv (L_xs.length : Int)), Ud, Ud, Ud, Ud, Ud, Ud, Ud, Ud, Ud, Ud, Ud]) rfl rfl (does_len_slice Try.underlying78 (ev rfl)) rfl ?_
  refine q_is (l' := [(.slice p_xs L_xs.length q_xs), (.func (.func f_f) s_f c_f), Ud, Ud, (Iv 0), Ud, (.slice p_xs L_xs.length q_xs), (Iv (L_xs.length : Int)), (Iv 0), Ud, Ud, Ud, Ud, Ud, Ud, Ud, Ud, Ud, Ud]) rfl rfl (does_move (u := (Iv 0)) (ev rfl)) rfl ?_
  refine wpList_nil (hK3 _ _ ?_)
  refine wp_block ?_
  refine loop_ghost (σ := Nat) (fun k a w' => ∃ u4 : Nat → Value, a = fr [(.slice p_xs L_xs.length q_xs), (.func (.func f_f) s_f c_f), Ud, Ud, (u4 4), (u4 5), (.slice p_xs L_xs.length q_xs), (Iv (L_xs.length : Int)), (Iv (k : Int)), (u4 9), (u4 10), (u4 11), (u4 12), (u4 13), (u4 14), (u4 15), (u4 16), (u4 17), (u4 18)] ∧ Ext w w' ∧ (k ≤ L_xs.length ∧ NoneTo pr_f L_xs k)) (fun k => L_xs.length - k) 0 ?_ ?_
  · refine ⟨fun t => (([(.slice p_xs L_xs.length q_xs), (.func (.func f_f) s_f c_f), Ud, Ud, (Iv 0), Ud, (.slice p_xs L_xs.length q_xs), (Iv (L_xs.length : Int)), (Iv 0), Ud, Ud, Ud, Ud, Ud, Ud, Ud, Ud, Ud, Ud] : List Value)[t]?).getD undef, rfl, Ext.refl _, ?_⟩
    exact ⟨Nat.zero_le _, NoneTo.zero⟩
  · rintro k a w5 ⟨u4, rfl, E6, ⟨hk, hno⟩⟩
    have X8 := Ext.gr (Ext.refl w) E6
    refine wp_seq_k fun K9 hK9 => ?_
    refine wp_region_lit ?_
    refine q_is (l' := [(.slice p_xs L_xs.length q_xs), (.func (.func f_f) s_f c_f), Ud, Ud, (u4 4), (u4 5), (.slice p_xs L_xs.length q_xs), (Iv (L_xs.length : Int)), (Iv (k : Int)), (Bo (icmp .lss (k : Int) (L_xs.length : Int))), (u4 10), (u4 11), (u4 12), (u4 13), (u4 14), (u4 15), (u4 16), (u4 17), (u4 18)]) rfl rfl (does_icmp (p := (k : Int)) (q := (L_xs.length : Int)) (.inr (.inr (.inl rfl))) (ev rfl) (ev rfl)) rfl ?_
    refine wpList_nil (hK9 _ _ ?_)
    refine wp_seq_k fun K10 hK10 => ?_
    refine wp_cond_split (t := icmp .lss (k : Int) (L_xs.length : Int)) (ev rfl) (fun c11 => ?_) (fun c11 => ?_)
    · have c11' := c11
      (try simp only [icmp, Bool.and_eq_true, Bool.or_eq_true, Bool.and_eq_false_iff, Bool.or_eq_false_iff, Bool.not_eq_true', Bool.not_eq_false', decide_eq_true_eq, decide_eq_false_iff_not, beq_iff_eq, bne_iff_ne, beq_eq_false_iff_ne, bne_eq_false_iff_eq] at c11')
      refine wp_skip (hK10 _ _ ?_)
      refine wp_seq_k fun K12 hK12 => ?_
      refine wp_block ?_
      refine wp_seq_k fun K13 hK13 => ?_
      refine wp_region_lit ?_
      refine q_is (l' := [(.slice p_xs L_xs.length q_xs), (.func (.func f_f) s_f c_f), Ud, Ud, (u4 4), (u4 5), (.slice p_xs L_xs.length q_xs), (Iv (L_xs.length : Int)), (Iv (k : Int)), (Bo (icmp .lss (k : Int) (L_xs.length : Int))), (Iv (k : Int)), (u4 11), (u4 12), (u4 13), (u4 14), (u4 15), (u4 16), (u4 17), (u4 18)]) rfl rfl (does_move (u := (Iv (k : Int))) (ev rfl)) rfl ?_
      refine q_is (l' := [(.slice p_xs L_xs.length q_xs), (.func (.func f_f) s_f c_f), Ud, Ud, (u4 4), (Iv (k : Int)), (.slice p_xs L_xs.length q_xs), (Iv (L_xs.length : Int)), (Iv (k : Int)), (Bo (icmp .lss (k : Int) (L_xs.length : Int))), (Iv (k : Int)), (u4 11), (u4 12), (u4 13), (u4 14), (u4 15), (u4 16), (u4 17), (u4 18)]) rfl rfl (does_assign (u := (Iv (k : Int))) (ev rfl)) rfl ?_
      refine wpList_nil (hK13 _ _ ?_)
      refine wp_seq_k fun K14 hK14 => ?_
      refine wp_region_lit ?_
      refine q_is (l' := [(.slice p_xs L_xs.length q_xs), (.func (.func f_f) s_f c_f), Ud, Ud, (u4 4), (Iv (k : Int)), (.slice p_xs L_xs.length q_xs), (Iv (L_xs.length : Int)), (Iv (k : Int)), (Bo (icmp .lss (k : Int) (L_xs.length : Int))), (Iv (k : Int)), (.func (.func f_f) s_f c_f), (u4 12), (u4 13), (u4 14), (u4 15), (u4 16), (u4 17), (u4 18)]) rfl rfl (does_move (u := (.func (.func f_f) s_f c_f)) (ev rfl)) rfl ?_
      refine q_is (l' := [(.slice p_xs L_xs.length q_xs), (.func (.func f_f) s_f c_f), Ud, Ud, (u4 4), (Iv (k : Int)), (.slice p_xs L_xs.length q_xs), (Iv (L_xs.length : Int)), (Iv (k : Int)), (Bo (icmp .lss (k : Int) (L_xs.length : Int))), (Iv (k : Int)), (.func (.func f_f) s_f c_f), (.slice p_xs L_xs.length q_xs), (u4 13), (u4 14), (u4 15), (u4 16), (u4 17), (u4 18)]) rfl rfl (does_move (u := (.slice p_xs L_xs.length q_xs)) (ev rfl)) rfl ?_
      refine q_is (l' := [(.slice p_xs L_xs.length q_xs), (.func (.func f_f) s_f c_f), Ud, Ud, (u4 4), (Iv (k : Int)), (.slice p_xs L_xs.length q_xs), (Iv (L_xs.length : Int)), (Iv (k : Int)), (Bo (icmp .lss (k : Int) (L_xs.length : Int))), (Iv (k : Int)), (.func (.func f_f) s_f c_f), (.slice p_xs L_xs.length q_xs), (Iv (k : Int)), (u4 14), (u4 15), (u4 16), (u4 17), (u4 18)]) rfl rfl (does_move (u := (Iv (k : Int))) (ev rfl)) rfl ?_
      obtain ⟨el1, hel1⟩ : ∃ e, L_xs[k]? = some e := ⟨_, List.getElem?_eq_getElem (by omega)⟩
      refine seqd rfl rfl (does_indexSl (R := RF) (i := (k : Int)) (xs := L_xs) (e := el1) Try.underlying78 Try.sizeOf51 (ev rfl) (ev rfl) (Sl.ext hv_xs RF.mono X8) (by omega) hel1) ?_; rintro _ w5 ⟨b15, o16, _, rfl, hc18, ⟨r19, rfl, h20⟩, rfl⟩
      show wpList _ _ _ _ (fr [(.slice p_xs L_xs.length q_xs), (.func (.func f_f) s_f c_f), Ud, Ud, (u4 4), (Iv (k : Int)), (.slice p_xs L_xs.length q_xs), (Iv (L_xs.length : Int)), (Iv (k : Int)), (Bo (icmp .lss (k : Int) (L_xs.length : Int))), (Iv (k : Int)), (.func (.func f_f) s_f c_f), (.slice p_xs L_xs.length q_xs), (Iv (k : Int)), (Pt b15 o16), (u4 15), (u4 16), (u4 17), (u4 18)]) _
      refine q_is (l' := [(.slice p_xs L_xs.length q_xs), (.func (.func f_f) s_f c_f), Ud, Ud, (u4 4), (Iv (k : Int)), (.slice p_xs L_xs.length q_xs), (Iv (L_xs.length : Int)), (Iv (k : Int)), (Bo (icmp .lss (k : Int) (L_xs.length : Int))), (Iv (k : Int)), (.func (.func f_f) s_f c_f), (.slice p_xs L_xs.length q_xs), (Iv (k : Int)), (Pt b15 o16), (Fl r19), (u4 16), (u4 17), (u4 18)]) rfl rfl (does_load (u := (Fl r19)) (ev rfl) Try.isAgg51 (Cells.at hc18 0 rfl)) rfl ?_
      refine seqd rfl rfl (does_callf (args := #[(Fl r19)]) (ev rfl) hcal_f (evs rfl) (hg_f r19 _ X8)) ?_; rintro _ w22 ⟨E21, rfl⟩
      have X23 := Ext.gr X8 E21
      show wpList _ _ _ _ (fr [(.slice p_xs L_xs.length q_xs), (.func (.func f_f) s_f c_f), Ud, Ud, (u4 4), (Iv (k : Int)), (.slice p_xs L_xs.length q_xs), (Iv (L_xs.length : Int)), (Iv (k : Int)), (Bo (icmp .lss (k : Int) (L_xs.length : Int))), (Iv (k : Int)), (.func (.func f_f) s_f c_f), (.slice p_xs L_xs.length q_xs), (Iv (k : Int)), (Pt b15 o16), (Fl r19), (Bo (pr_f (cf .f32 r19))), (u4 17), (u4 18)]) _
      refine wpList_nil (hK14 _ _ ?_)
      refine wp_cond_split (t := pr_f (cf .f32 r19)) (ev rfl) (fun c24 => ?_) (fun c24 => ?_)
      · have c24' := c24
        refine wp_seq_k fun K25 hK25 => ?_
        refine wp_region_lit ?_
        refine q_is (l' := [(.slice p_xs L_xs.length q_xs), (.func (.func f_f) s_f c_f), Ud, Ud, (u4 4), (Iv (k : Int)), (.slice p_xs L_xs.length q_xs), (Iv (L_xs.length : Int)), (Iv (k : Int)), (Bo (icmp .lss (k : Int) (L_xs.length : Int))), (Iv (k : Int)), (.func (.func f_f) s_f c_f), (.slice p_xs L_xs.length q_xs), (Iv (k : Int)), (Pt b15 o16), (Fl r19), (Bo (pr_f (cf .f32 r19))), (Iv (k : Int)), (u4 18)]) rfl rfl (does_move (u := (Iv (k : Int))) (ev rfl)) rfl ?_
        refine q_is (l' := [(.slice p_xs L_xs.length q_xs), (.func (.func f_f) s_f c_f), Ud, Ud, (Iv (k : Int)), (Iv (k : Int)), (.slice p_xs L_xs.length q_xs), (Iv (L_xs.length : Int)), (Iv (k : Int)), (Bo (icmp .lss (k : Int) (L_xs.length : Int))), (Iv (k : Int)), (.func (.func f_f) s_f c_f), (.slice p_xs L_xs.length q_xs), (Iv (k : Int)), (Pt b15 o16), (Fl r19), (Bo (pr_f (cf .f32 r19))), (Iv (k : Int)), (u4 18)]) rfl rfl (does_assign (u := (Iv (k : Int))) (ev rfl)) rfl ?_
        refine wpList_nil (hK25 _ _ ?_)
        refine wp_ret ?_
        dsimp only [Exit.then, Exit.inBlock]
        refine ret_val (v := (Iv (k : Int))) (res_T rfl (slot rfl)) X23 ?_
        try simp only [hel1, h20] at c11 c24
        have x26 : (findI pr_f L_xs : Int) = (k : Int) := by first | exact findI_at hno (by assumption) (by simp_all) | exact findI_none hno (by omega)
        exact (by first | with_reducible rfl | rw [x26] | rfl)
      have c24' := c24
      refine wp_skip (hK12 _ _ ?_)
      refine wp_region_lit ?_
      refine q_is (l' := [(.slice p_xs L_xs.length q_xs), (.func (.func f_f) s_f c_f), Ud, Ud, (u4 4), (Iv (k : Int)), (.slice p_xs L_xs.length q_xs), (Iv (L_xs.length : Int)), (Iv (k : Int)), (Bo (icmp .lss (k : Int) (L_xs.length : Int))), (Iv (k : Int)), (.func (.func f_f) s_f c_f), (.slice p_xs L_xs.length q_xs), (Iv (k : Int)), (Pt b15 o16), (Fl r19), (Bo (pr_f (cf .f32 r19))), (u4 17), (Iv ((k : Int) + 1))]) rfl rfl (does_iarith (p := (k : Int)) (q := 1) (r := (k : Int) + 1) (ev rfl) (ev rfl) (.inl ⟨rfl, (in_i64 (by omega) (by omega)).symm⟩)) rfl ?_
      refine q_is (l' := [(.slice p_xs L_xs.length q_xs), (.func (.func f_f) s_f c_f), Ud, Ud, (u4 4), (Iv (k : Int)), (.slice p_xs L_xs.length q_xs), (Iv (L_xs.length : Int)), (Iv ((k : Int) + 1)), (Bo (icmp .lss (k : Int) (L_xs.length : Int))), (Iv (k : Int)), (.func (.func f_f) s_f c_f), (.slice p_xs L_xs.length q_xs), (Iv (k : Int)), (Pt b15 o16), (Fl r19), (Bo (pr_f (cf .f32 r19))), (u4 17), (Iv ((k : Int) + 1))]) rfl rfl (does_move (u := (Iv ((k : Int) + 1))) (ev rfl)) rfl ?_
      refine wpList_nil ?_
      refine ⟨k + 1, ⟨fun t => (([(.slice p_xs L_xs.length q_xs), (.func (.func f_f) s_f c_f), Ud, Ud, (u4 4), (Iv (k : Int)), (.slice p_xs L_xs.length q_xs), (Iv (L_xs.length : Int)), (Iv ((k : Int) + 1)), (Bo (icmp .lss (k : Int) (L_xs.length : Int))), (Iv (k : Int)), (.func (.func f_f) s_f c_f), (.slice p_xs L_xs.length q_xs), (Iv (k : Int)), (Pt b15 o16), (Fl r19), (Bo (pr_f (cf .f32 r19))), (u4 17), (Iv ((k : Int) + 1))] : List Value)[t]?).getD undef, ?_, (Ext.gr E6 E21), ?_⟩, ?_⟩
      · first | rfl | (simp only [Int.natCast_add, Int.natCast_one]; rfl)
      · exact ⟨by omega, NoneTo.step hno (by assumption) (by simp_all)⟩
      · omega
    have c11' := c11
    (try simp only [icmp, Bool.and_eq_true, Bool.or_eq_true, Bool.and_eq_false_iff, Bool.or_eq_false_iff, Bool.not_eq_true', Bool.not_eq_false', decide_eq_true_eq, decide_eq_false_iff_not, beq_iff_eq, bne_iff_ne, beq_eq_false_iff_ne, bne_eq_false_iff_eq] at c11')
    refine wp_exit ?_
    refine hK2 _ _ ?_
    refine wp_seq_k fun K27 hK27 => ?_
    refine wp_region_lit ?_
    refine q_is (l' := [(.slice p_xs L_xs.length q_xs), (.func (.func f_f) s_f c_f), Ud, Ud, (Iv (-1)), (u4 5), (.slice p_xs L_xs.length q_xs), (Iv (L_xs.length : Int)), (Iv (k : Int)), (Bo (icmp .lss (k : Int) (L_xs.length : Int))), (u4 10), (u4 11), (u4 12), (u4 13), (u4 14), (u4 15), (u4 16), (u4 17), (u4 18)]) rfl rfl (does_assign (u := (Iv (-1))) (ev rfl)) rfl ?_
    refine wpList_nil (hK27 _ _ ?_)
    refine wp_ret ?_
    refine ret_val (v := (Iv (-1))) (res_T rfl (slot rfl)) X8 ?_
    have x28 : (findI pr_f L_xs : Int) = (-1) := by first | exact findI_at hno (by assumption) (by simp_all) | exact findI_none hno (by omega)
    exact (by first | with_reducible rfl | rw [x28] | rfl)

/- slices.ContainsFunc[[]float32,float32] -/
theorem c_slices_ContainsFunc_float32_float32 (xs : Value) (L_xs : List Nat) (f : Value) (pr_f : Nat → Bool) (w : World) (hv_xs : Sl RF 1 w xs L_xs) (hv_f : TellsF Try.prog f w pr_f) : Gives Try.prog 64 #[xs, f] w (fun v w' => v = (Bo (L_xs.any pr_f))) := by
  have hlen_xs := Sl.len hv_xs; obtain ⟨p_xs, q_xs, rfl⟩ := Sl.shape hv_xs
  obtain ⟨f_f, s_f, c_f, rfl, hcal_f, hg_f⟩ := hv_f
  refine enter [(.slice p_xs L_xs.length q_xs), (.func (.func f_f) s_f c_f), Ud, Ud, Ud, Ud, Ud, Ud, Ud] Try.func64 rfl Try.ntmps64 rfl ?_
  refine wp_seq_k fun K1 hK1 => ?_
  refine wp_region_lit ?_
  refine q_is (l' := [(.slice p_xs L_xs.length q_xs), (.func (.func f_f) s_f c_f), Ud, Ud, (Bo false), Ud, Ud, Ud, Ud]) rfl rfl (does_assign (u := (Bo false)) (ev rfl)) rfl ?_
  refine wpList_nil (hK1 _ _ ?_)
  refine wp_seq_k fun K2 hK2 => ?_
  refine wp_region_lit ?_
  refine q_is (l' := [(.slice p_xs L_xs.length q_xs), (.func (.func f_f) s_f c_f), Ud, Ud, (Bo false), (.slice p_xs L_xs.length q_xs), Ud, Ud, Ud]) rfl rfl (does_move (u := (.slice p_xs L_xs.length q_xs)) (ev rfl)) rfl ?_
  refine q_is (l' := [(.slice p_xs L_xs.length q_xs), (.func (.func f_f) s_f c_f), Ud, Ud, (Bo false), (.slice p_xs L_xs.length q_xs), (.func (.func f_f) s_f c_f), Ud, Ud]) rfl rfl (does_move (u := (.func (.func f_f) s_f c_f)) (ev rfl)) rfl ?_
  refine seqd rfl rfl (does_call (args := #[(.slice p_xs L_xs.length q_xs), (.func (.func f_f) s_f c_f)]) cal70 (evs rfl) (c_slices_IndexFunc_float32_float32 (.slice p_xs L_xs.length q_xs) L_xs (.func (.func f_f) s_f c_f) pr_f _ hv_xs ⟨_, _, _, rfl, hcal_f, fun r u hu' => hg_f r u (Ext.gr (Ext.refl w) hu')⟩)) ?_; rintro _ w4 ⟨E3, rfl⟩
  have X5 := Ext.gr (Ext.refl w) E3
  show wpList _ _ _ _ (fr [(.slice p_xs L_xs.length q_xs), (.func (.func f_f) s_f c_f), Ud, Ud, (Bo false), (.slice p_xs L_xs.length q_xs), (.func (.func f_f) s_f c_f), (Iv (findI pr_f L_xs)), Ud]) _
  refine q_is (l' := [(.slice p_xs L_xs.length q_xs), (.func (.func f_f) s_f c_f), Ud, Ud, (Bo false), (.slice p_xs L_xs.length q_xs), (.func (.func f_f) s_f c_f), (Iv (findI pr_f L_xs)), (Bo (icmp .geq (findI pr_f L_xs) 0))]) rfl rfl (does_icmp (p := findI pr_f L_xs) (q := 0) (.inr (.inr (.inr (.inr (.inr rfl))))) (ev rfl) (ev rfl)) rfl ?_
  refine q_is (l' := [(.slice p_xs L_xs.length q_xs), (.func (.func f_f) s_f c_f), Ud, Ud, (Bo (icmp .geq (findI pr_f L_xs) 0)), (.slice p_xs L_xs.length q_xs), (.func (.func f_f) s_f c_f), (Iv (findI pr_f L_xs)), (Bo (icmp .geq (findI pr_f L_xs) 0))]) rfl rfl (does_assign (u := (Bo (icmp .geq (findI pr_f L_xs) 0))) (ev rfl)) rfl ?_
  refine wpList_nil (hK2 _ _ ?_)
  refine wp_ret ?_
  refine ret_val (v := (Bo (icmp .geq (findI pr_f L_xs) 0))) (res_T rfl (slot rfl)) X5 ?_
  have x6 : (L_xs.any pr_f) = (icmp .geq (findI pr_f L_xs) 0) := by first | with_reducible rfl | (simp only [findI_any]; done) | (simp [findI_any]; done) | rfl
  exact (by first | with_reducible rfl | rw [x6] | rfl)

/- impl.IsFinite -/
theorem c_impl_IsFinite (x : Nat) (w : World) : Gives Try.prog 66 #[(Fl x)] w (fun v w' => v = (Bo (finF (cf .f32 x)))) := by
  refine enter [(Fl x), Ud, Ud, Ud, Ud, Ud, Ud] Try.func66 rfl Try.ntmps66 rfl ?_
  refine wp_seq_k fun K1 hK1 => ?_
  refine wp_region_lit ?_
  refine q_is (l' := [(Fl x), Ud, (Bo false), Ud, Ud, Ud, Ud]) rfl rfl (does_assign (u := (Bo false)) (ev rfl)) rfl ?_
  refine wpList_nil (hK1 _ _ ?_)
  refine wp_seq_k fun K2 hK2 => ?_
  refine wp_region_lit ?_
  refine q_is (l' := [(Fl x), Ud, (Bo false), (Fl x), Ud, Ud, Ud]) rfl rfl (does_move (u := (Fl x)) (ev rfl)) rfl ?_
  refine q_is (l' := [(Fl x), Ud, (Bo false), (Fl x), (Fl x), Ud, Ud]) rfl rfl (does_move (u := (Fl x)) (ev rfl)) rfl ?_
  refine seqd rfl rfl (does_float (.inr (.inl rfl)) (ev rfl) (ev rfl)) ?_; rintro _ w6 ⟨r3, rfl, h4, E5⟩
  have X7 := Ext.gr (Ext.refl w) E5
  show wpList _ _ _ _ (fr [(Fl x), Ud, (Bo false), (Fl x), (Fl x), (Fl r3), Ud]) _
  refine q_is (l' := [(Fl x), Ud, (Bo false), (Fl x), (Fl x), (Fl r3), (Bo (fcmp .eql (ford .f32 (cf .f32 r3) (cf .f32 0))))]) rfl rfl (does_fcmp (.inl rfl) (ev rfl) (ev rfl)) rfl ?_
  refine q_is (l' := [(Fl x), Ud, (Bo (fcmp .eql (ford .f32 (cf .f32 r3) (cf .f32 0)))), (Fl x), (Fl x), (Fl r3), (Bo (fcmp .eql (ford .f32 (cf .f32 r3) (cf .f32 0))))]) rfl rfl (does_assign (u := (Bo (fcmp .eql (ford .f32 (cf .f32 r3) (cf .f32 0))))) (ev rfl)) rfl ?_
  refine wpList_nil (hK2 _ _ ?_)
  refine wp_ret ?_
  refine ret_val (v := (Bo (fcmp .eql (ford .f32 (cf .f32 r3) (cf .f32 0))))) (res_T rfl (slot rfl)) X7 ?_
  have x8 : (finF (cf .f32 x)) = (fcmp .eql (ford .f32 (cf .f32 r3) (cf .f32 0))) := by first | with_reducible rfl | (simp only [finF, h4]; done) | (simp [finF, h4]; done) | rfl
  exact (by first | with_reducible rfl | rw [x8] | rfl)

/- impl.finite$1 -/
theorem c_impl_finite_1 (x : Nat) (w : World) : Gives Try.prog 65 #[(Fl x)] w (fun v w' => v = (Bo (!finF (cf .f32 x)))) := by
  refine enter [(Fl x), Ud, Ud, Ud, Ud, Ud] Try.func65 rfl Try.ntmps65 rfl ?_
  refine wp_seq_k fun K1 hK1 => ?_
  refine wp_region_lit ?_
  refine q_is (l' := [(Fl x), Ud, (Bo false), Ud, Ud, Ud]) rfl rfl (does_assign (u := (Bo false)) (ev rfl)) rfl ?_
  refine wpList_nil (hK1 _ _ ?_)
  refine wp_seq_k fun K2 hK2 => ?_
  refine wp_region_lit ?_
  refine q_is (l' := [(Fl x), Ud, (Bo false), (Fl x), Ud, Ud]) rfl rfl (does_move (u := (Fl x)) (ev rfl)) rfl ?_
  refine seqd rfl rfl (does_call (args := #[(Fl x)]) cal66 (evs rfl) (c_impl_IsFinite x _)) ?_; rintro _ w4 ⟨E3, rfl⟩
  have X5 := Ext.gr (Ext.refl w) E3
  show wpList _ _ _ _ (fr [(Fl x), Ud, (Bo false), (Fl x), (Bo (finF (cf .f32 x))), Ud]) _
  refine q_is (l' := [(Fl x), Ud, (Bo false), (Fl x), (Bo (finF (cf .f32 x))), (Bo (!(finF (cf .f32 x))))]) rfl rfl (does_not (ev rfl)) rfl ?_
  refine q_is (l' := [(Fl x), Ud, (Bo (!(finF (cf .f32 x)))), (Fl x), (Bo (finF (cf .f32 x))), (Bo (!(finF (cf .f32 x))))]) rfl rfl (does_assign (u := (Bo (!(finF (cf .f32 x))))) (ev rfl)) rfl ?_
  refine wpList_nil (hK2 _ _ ?_)
  refine wp_ret ?_
  refine ret_val (v := (Bo (!(finF (cf .f32 x))))) (res_T rfl (slot rfl)) X5 ?_
  have x6 : (!finF (cf .f32 x)) = (!(finF (cf .f32 x))) := by first | with_reducible rfl | (simp only []; done) | (simp []; done) | rfl
  exact (by first | with_reducible rfl | rw [x6] | rfl)

/- impl.finite -/
theorem c_impl_finite (xs : Value) (L_xs : List Nat) (w : World) (hv_xs : Sl RF 1 w xs L_xs) : Gives Try.prog 53 #[xs] w (fun v w' => v = (Bo (!L_xs.any (fun x => !finF x)))) := by
  have hlen_xs := Sl.len hv_xs; obtain ⟨p_xs, q_xs, rfl⟩ := Sl.shape hv_xs
  refine enter [(.slice p_xs L_xs.length q_xs), Ud, Ud, Ud, Ud, Ud] Try.func53 rfl Try.ntmps53 rfl ?_
  refine wp_seq_k fun K1 hK1 => ?_
  refine wp_region_lit ?_
  refine q_is (l' := [(.slice p_xs L_xs.length q_xs), Ud, (Bo false), Ud, Ud, Ud]) rfl rfl (does_assign (u := (Bo false)) (ev rfl)) rfl ?_
  refine wpList_nil (hK1 _ _ ?_)
  refine wp_seq_k fun K2 hK2 => ?_
  refine wp_region_lit ?_
  refine q_is (l' := [(.slice p_xs L_xs.length q_xs), Ud, (Bo false), (.slice p_xs L_xs.length q_xs), Ud, Ud]) rfl rfl (does_move (u := (.slice p_xs L_xs.length q_xs)) (ev rfl)) rfl ?_
  refine seqd rfl rfl (does_call (args := #[(.slice p_xs L_xs.length q_xs), (.func (.func 65) #[] #[])]) cal64 (evs rfl) (c_slices_ContainsFunc_float32_float32 (.slice p_xs L_xs.length q_xs) L_xs (.func (.func 65) #[] #[]) (fun x => !finF x) _ hv_xs ⟨65, #[], #[], rfl, cal65, fun r u hu' => by simpa using (c_impl_finite_1 r u)⟩)) ?_; rintro _ w4 ⟨E3, rfl⟩
  have X5 := Ext.gr (Ext.refl w) E3
  show wpList _ _ _ _ (fr [(.slice p_xs L_xs.length q_xs), Ud, (Bo false), (.slice p_xs L_xs.length q_xs), (Bo (L_xs.any (fun x => !finF x))), Ud]) _
  refine q_is (l' := [(.slice p_xs L_xs.length q_xs), Ud, (Bo false), (.slice p_xs L_xs.length q_xs), (Bo (L_xs.any (fun x => !finF x))), (Bo (!(L_xs.any (fun x => !finF x))))]) rfl rfl (does_not (ev rfl)) rfl ?_
  refine q_is (l' := [(.slice p_xs L_xs.length q_xs), Ud, (Bo (!(L_xs.any (fun x => !finF x)))), (.slice p_xs L_xs.length q_xs), (Bo (L_xs.any (fun x => !finF x))), (Bo (!(L_xs.any (fun x => !finF x))))]) rfl rfl (does_assign (u := (Bo (!(L_xs.any (fun x => !finF x))))) (ev rfl)) rfl ?_
  refine wpList_nil (hK2 _ _ ?_)
  refine wp_ret ?_
  refine ret_val (v := (Bo (!(L_xs.any (fun x => !finF x))))) (res_T rfl (slot rfl)) X5 ?_
  have x6 : (!L_xs.any (fun x => !finF x)) = (!(L_xs.any (fun x => !finF x))) := by first | with_reducible rfl | (simp only []; done) | (simp []; done) | rfl
  exact (by first | with_reducible rfl | rw [x6] | rfl)

/- impl.ScaleVector -/
theorem c_impl_ScaleVector (a : List Value) (A_a : V3) (b : Nat) (w : World) (hv_a : RV3 w A_a a) : Gives Try.prog 54 #[(.agg a.toArray), (Fl b)] w (fun v w' => ∃ cs_1 : List Value, v = (.agg cs_1.toArray) ∧ RV3 w (vscale A_a (cf .f32 b)) cs_1) := by
  obtain ⟨r1, r3, r5, rfl, h2, h4, h6⟩ := hv_a
  refine enter [(.agg #[(Fl r1), (Fl r3), (Fl r5)]), (Fl b), Ud, Ud, Ud, Ud, Ud, Ud, Ud, Ud, Ud, Ud, Ud, Ud, Ud, Ud, Ud, Ud] Try.func54 rfl Try.ntmps54 rfl ?_
  refine wp_seq_k fun K7 hK7 => ?_
  refine wp_region_lit ?_
  refine seqd rfl rfl (does_box (u := (.agg #[(Fl r1), (Fl r3), (Fl r5)])) (ev rfl)) ?_; rintro _ w12 ⟨b8, rfl, hb9, hB10, E11⟩
  have g13 : w.heap.size ≤ b8 := Nat.le_trans (Below.size (Ext.refl w)) hb9
  change Blk _ _ [(Fl r1), (Fl r3), (Fl r5)] at hB10
  have X14 := Ext.gr (Ext.refl w) E11
  show wpList _ _ _ _ (fr [(.agg #[(Fl r1), (Fl r3), (Fl r5)]), (Fl b), (Pt b8 0), Ud, Ud, Ud, Ud, Ud, Ud, Ud, Ud, Ud, Ud, Ud, Ud, Ud, Ud, Ud]) _
  refine seqd rfl rfl (does_alloc z53) ?_; rintro _ w19 ⟨b15, rfl, hb16, hB17, E18⟩
  have n20 : b8 < b15 := Nat.lt_of_lt_of_le (Blk.lt hB10) hb16
  have g21 : w.heap.size ≤ b15 := Nat.le_trans (Below.size X14) hb16
  change Blk _ _ [(Fl 0), (Fl 0), (Fl 0)] at hB17
  have X22 := Ext.gr X14 E18
  show wpList _ _ _ _ (fr [(.agg #[(Fl r1), (Fl r3), (Fl r5)]), (Fl b), (Pt b8 0), Ud, (Pt b15 0), Ud, Ud, Ud, Ud, Ud, Ud, Ud, Ud, Ud, Ud, Ud, Ud, Ud]) _
  refine wpList_nil (hK7 _ _ ?_)
  refine wp_seq_k fun K23 hK23 => ?_
  refine wp_region_lit ?_
  refine q_is (l' := [(.agg #[(Fl r1), (Fl r3), (Fl r5)]), (Fl b), (Pt b8 0), Ud, (Pt b15 0), (Pt b8 0), Ud, Ud, Ud, Ud, Ud, Ud, Ud, Ud, Ud, Ud, Ud, Ud]) rfl rfl (does_fieldAddr (ev rfl) fa53_0) rfl ?_
  refine q_is (l' := [(.agg #[(Fl r1), (Fl r3), (Fl r5)]), (Fl b), (Pt b8 0), Ud, (Pt b15 0), (Pt b8 0), (Fl r1), Ud, Ud, Ud, Ud, Ud, Ud, Ud, Ud, Ud, Ud, Ud]) rfl rfl (does_load (u := (Fl r1)) (ev rfl) Try.isAgg51 (Cells.at (Blk.cells (hB10.ext E18)) 0 rfl)) rfl ?_
  refine q_is (l' := [(.agg #[(Fl r1), (Fl r3), (Fl r5)]), (Fl b), (Pt b8 0), Ud, (Pt b15 0), (Pt b8 0), (Fl r1), (Fl b), Ud, Ud, Ud, Ud, Ud, Ud, Ud, Ud, Ud, Ud]) rfl rfl (does_move (u := (Fl b)) (ev rfl)) rfl ?_
  refine seqd rfl rfl (does_float (.inr (.inr (.inl rfl))) (ev rfl) (ev rfl)) ?_; rintro _ w27 ⟨r24, rfl, h25, E26⟩
  have X28 := Ext.gr X22 E26
  show wpList _ _ _ _ (fr [(.agg #[(Fl r1), (Fl r3), (Fl r5)]), (Fl b), (Pt b8 0), Ud, (Pt b15 0), (Pt b8 0), (Fl r1), (Fl b), (Fl r24), Ud, Ud, Ud, Ud, Ud, Ud, Ud, Ud, Ud]) _
  refine q_is (l' := [(.agg #[(Fl r1), (Fl r3), (Fl r5)]), (Fl b), (Pt b8 0), Ud, (Pt b15 0), (Pt b8 0), (Fl r1), (Fl b), (Fl r24), (Pt b8 1), Ud, Ud, Ud, Ud, Ud, Ud, Ud, Ud]) rfl rfl (does_fieldAddr (ev rfl) fa53_1) rfl ?_
  refine q_is (l' := [(.agg #[(Fl r1), (Fl r3), (Fl r5)]), (Fl b), (Pt b8 0), Ud, (Pt b15 0), (Pt b8 0), (Fl r1), (Fl b), (Fl r24), (Pt b8 1), (Fl r3), Ud, Ud, Ud, Ud, Ud, Ud, Ud]) rfl rfl (does_load (u := (Fl r3)) (ev rfl) Try.isAgg51 (Cells.at (Blk.cells ((hB10.ext E18).ext E26)) 1 rfl)) rfl ?_
  refine q_is (l' := [(.agg #[(Fl r1), (Fl r3), (Fl r5)]), (Fl b), (Pt b8 0), Ud, (Pt b15 0), (Pt b8 0), (Fl r1), (Fl b), (Fl r24), (Pt b8 1), (Fl r3), (Fl b), Ud, Ud, Ud, Ud, Ud, Ud]) rfl rfl (does_move (u := (Fl b)) (ev rfl)) rfl ?_
  refine seqd rfl rfl (does_float (.inr (.inr (.inl rfl))) (ev rfl) (ev rfl)) ?_; rintro _ w32 ⟨r29, rfl, h30, E31⟩
  have X33 := Ext.gr X28 E31
  show wpList _ _ _ _ (fr [(.agg #[(Fl r1), (Fl r3), (Fl r5)]), (Fl b), (Pt b8 0), Ud, (Pt b15 0), (Pt b8 0), (Fl r1), (Fl b), (Fl r24), (Pt b8 1), (Fl r3), (Fl b), (Fl r29), Ud, Ud, Ud, Ud, Ud]) _
  refine q_is (l' := [(.agg #[(Fl r1), (Fl r3), (Fl r5)]), (Fl b), (Pt b8 0), Ud, (Pt b15 0), (Pt b8 0), (Fl r1), (Fl b), (Fl r24), (Pt b8 1), (Fl r3), (Fl b), (Fl r29), (Pt b8 2), Ud, Ud, Ud, Ud]) rfl rfl (does_fieldAddr (ev rfl) fa53_2) rfl ?_
  refine q_is (l' := [(.agg #[(Fl r1), (Fl r3), (Fl r5)]), (Fl b), (Pt b8 0), Ud, (Pt b15 0), (Pt b8 0), (Fl r1), (Fl b), (Fl r24), (Pt b8 1), (Fl r3), (Fl b), (Fl r29), (Pt b8 2), (Fl r5), Ud, Ud, Ud]) rfl rfl (does_load (u := (Fl r5)) (ev rfl) Try.isAgg51 (Cells.at (Blk.cells (((hB10.ext E18).ext E26).ext E31)) 2 rfl)) rfl ?_
  refine q_is (l' := [(.agg #[(Fl r1), (Fl r3), (Fl r5)]), (Fl b), (Pt b8 0), Ud, (Pt b15 0), (Pt b8 0), (Fl r1), (Fl b), (Fl r24), (Pt b8 1), (Fl r3), (Fl b), (Fl r29), (Pt b8 2), (Fl r5), (Fl b), Ud, Ud]) rfl rfl (does_move (u := (Fl b)) (ev rfl)) rfl ?_
  refine seqd rfl rfl (does_float (.inr (.inr (.inl rfl))) (ev rfl) (ev rfl)) ?_; rintro _ w37 ⟨r34, rfl, h35, E36⟩
  have X38 := Ext.gr X33 E36
  show wpList _ _ _ _ (fr [(.agg #[(Fl r1), (Fl r3), (Fl r5)]), (Fl b), (Pt b8 0), Ud, (Pt b15 0), (Pt b8 0), (Fl r1), (Fl b), (Fl r24), (Pt b8 1), (Fl r3), (Fl b), (Fl r29), (Pt b8 2), (Fl r5), (Fl b), (Fl r34), Ud]) _
  refine q_is (l' := [(.agg #[(Fl r1), (Fl r3), (Fl r5)]), (Fl b), (Pt b8 0), Ud, (Pt b15 0), (Pt b8 0), (Fl r1), (Fl b), (Fl r24), (Pt b8 1), (Fl r3), (Fl b), (Fl r29), (Pt b8 2), (Fl r5), (Fl b), (Fl r34), (.agg #[(Fl r24), (Fl r29), (Fl r34)])]) rfl rfl (does_build (parts' := [(0, (Fl r24)), (1, (Fl r29)), (2, (Fl r34))]) (cells := #[(Fl r24), (Fl r29), (Fl r34)]) (evp rfl) (by kernel_rfl)) rfl ?_
  refine seqn rfl rfl (does_store (n := 3) (cs := [(Fl 0), (Fl 0), (Fl 0)]) (u := (.agg #[(Fl r24), (Fl r29), (Fl r34)])) (ev rfl) (ev rfl) Try.sizeOf53 rfl (((hB17.ext E26).ext E31).ext E36) (Nat.le_of_ble_eq_true rfl) rfl) ?_; rintro _ w41 ⟨rfl, W39, hB40⟩
  change Blk _ _ [(Fl r24), (Fl r29), (Fl r34)] at hB40
  have X42 := Below.wr X38 W39 g21
  refine wpList_nil (hK23 _ _ ?_)
  refine wp_ret ?_
  refine ret_val (v := (.agg #[(Fl r24), (Fl r29), (Fl r34)])) (res_C rfl (slot rfl) (run_loadAgg (cs := [(Fl r24), (Fl r29), (Fl r34)]) Try.isAgg53 Try.sizeOf53 (Blk.cells hB40) rfl)) X42 ?_
  have x43 : cf .f32 r24 = (vscale A_a (cf .f32 b)).x := by first | with_reducible rfl | (simp only [vscale, h2, h4, h6, h25, h30, h35]; done) | (simp [vscale, h2, h4, h6, h25, h30, h35]; done) | rfl
  have x44 : cf .f32 r29 = (vscale A_a (cf .f32 b)).y := by first | with_reducible rfl | (simp only [vscale, h2, h4, h6, h25, h30, h35]; done) | (simp [vscale, h2, h4, h6, h25, h30, h35]; done) | rfl
  have x45 : cf .f32 r34 = (vscale A_a (cf .f32 b)).z := by first | with_reducible rfl | (simp only [vscale, h2, h4, h6, h25, h30, h35]; done) | (simp [vscale, h2, h4, h6, h25, h30, h35]; done) | rfl
  exact ⟨[(Fl r24), (Fl r29), (Fl r34)], rfl, ⟨r24, r29, r34, rfl, x43, x44, x45⟩⟩

/- impl.UnitOf -/
theorem c_impl_UnitOf (v : List Value) (A_v : V3) (w : World) (hv_v : RV3 w A_v v) : Gives Try.prog 35 #[(.agg v.toArray)] w (fun v w' => ∃ cs_1 : List Value, v = (.agg cs_1.toArray) ∧ RV3 w (unitF A_v) cs_1) := by
  obtain ⟨r1, r3, r5, rfl, h2, h4, h6⟩ := hv_v
  refine enter [(.agg #[(Fl r1), (Fl r3), (Fl r5)]), Ud, Ud, Ud, Ud, Ud, Ud, Ud, Ud, Ud, Ud, Ud, Ud, Ud, Ud, Ud, Ud, Ud, Ud, Ud, Ud, Ud] Try.func35 rfl Try.ntmps35 rfl ?_
  refine wp_seq_k fun K7 hK7 => ?_
  refine wp_region_lit ?_
  refine seqd rfl rfl (does_box (u := (.agg #[(Fl r1), (Fl r3), (Fl r5)])) (ev rfl)) ?_; rintro _ w12 ⟨b8, rfl, hb9, hB10, E11⟩
  have g13 : w.heap.size ≤ b8 := Nat.le_trans (Below.size (Ext.refl w)) hb9
  change Blk _ _ [(Fl r1), (Fl r3), (Fl r5)] at hB10
  have X14 := Ext.gr (Ext.refl w) E11
  show wpList _ _ _ _ (fr [(.agg #[(Fl r1), (Fl r3), (Fl r5)]), (Pt b8 0), Ud, Ud, Ud, Ud, Ud, Ud, Ud, Ud, Ud, Ud, Ud, Ud, Ud, Ud, Ud, Ud, Ud, Ud, Ud, Ud]) _
  refine seqd rfl rfl (does_alloc z53) ?_; rintro _ w19 ⟨b15, rfl, hb16, hB17, E18⟩
  have n20 : b8 < b15 := Nat.lt_of_lt_of_le (Blk.lt hB10) hb16
  have g21 : w.heap.size ≤ b15 := Nat.le_trans (Below.size X14) hb16
  change Blk _ _ [(Fl 0), (Fl 0), (Fl 0)] at hB17
  have X22 := Ext.gr X14 E18
  show wpList _ _ _ _ (fr [(.agg #[(Fl r1), (Fl r3), (Fl r5)]), (Pt b8 0), (Pt b15 0), Ud, Ud, Ud, Ud, Ud, Ud, Ud, Ud, Ud, Ud, Ud, Ud, Ud, Ud, Ud, Ud, Ud, Ud, Ud]) _
  refine wpList_nil (hK7 _ _ ?_)
  refine wp_seq_k fun K23 hK23 => ?_
  refine wp_region_lit ?_
  refine q_is (l' := [(.agg #[(Fl r1), (Fl r3), (Fl r5)]), (Pt b8 0), (Pt b15 0), Ud, Ud, (.agg #[(Fl r1), (Fl r3), (Fl r5)]), Ud, Ud, Ud, Ud, Ud, Ud, Ud, Ud, Ud, Ud, Ud, Ud, Ud, Ud, Ud, Ud]) rfl rfl (does_loadAgg (cs := [(Fl r1), (Fl r3), (Fl r5)]) (ev rfl) Try.isAgg53 Try.sizeOf53 (Blk.cells (hB10.ext E18)) rfl) rfl ?_
  refine seqd rfl rfl (does_call (args := #[(.agg #[(Fl r1), (Fl r3), (Fl r5)])]) cal52 (evs rfl) (c_impl_LongOf [(Fl r1), (Fl r3), (Fl r5)] A_v _ ⟨r1, r3, r5, rfl, h2, h4, h6⟩)) ?_; rintro _ w25 ⟨E24, ⟨r26, rfl, h27⟩⟩
  have X28 := Ext.gr X22 E24
  show wpList _ _ _ _ (fr [(.agg #[(Fl r1), (Fl r3), (Fl r5)]), (Pt b8 0), (Pt b15 0), Ud, Ud, (.agg #[(Fl r1), (Fl r3), (Fl r5)]), (Fl r26), Ud, Ud, Ud, Ud, Ud, Ud, Ud, Ud, Ud, Ud, Ud, Ud, Ud, Ud, Ud]) _
  refine q_is (l' := [(.agg #[(Fl r1), (Fl r3), (Fl r5)]), (Pt b8 0), (Pt b15 0), (Fl r26), Ud, (.agg #[(Fl r1), (Fl r3), (Fl r5)]), (Fl r26), Ud, Ud, Ud, Ud, Ud, Ud, Ud, Ud, Ud, Ud, Ud, Ud, Ud, Ud, Ud]) rfl rfl (does_assign (u := (Fl r26)) (ev rfl)) rfl ?_
  refine wpList_nil (hK23 _ _ ?_)
  refine wp_seq_k fun K29 hK29 => ?_
  refine wp_region_lit ?_
  refine q_is (l' := [(.agg #[(Fl r1), (Fl r3), (Fl r5)]), (Pt b8 0), (Pt b15 0), (Fl r26), Ud, (.agg #[(Fl r1), (Fl r3), (Fl r5)]), (Fl r26), (Fl r26), Ud, Ud, Ud, Ud, Ud, Ud, Ud, Ud, Ud, Ud, Ud, Ud, Ud, Ud]) rfl rfl (does_move (u := (Fl r26)) (ev rfl)) rfl ?_
  refine seqd rfl rfl (does_float (.inr (.inr (.inr rfl))) (ev rfl) (ev rfl)) ?_; rintro _ w33 ⟨r30, rfl, h31, E32⟩
  have X34 := Ext.gr X28 E32
  show wpList _ _ _ _ (fr [(.agg #[(Fl r1), (Fl r3), (Fl r5)]), (Pt b8 0), (Pt b15 0), (Fl r26), Ud, (.agg #[(Fl r1), (Fl r3), (Fl r5)]), (Fl r26), (Fl r26), (Fl r30), Ud, Ud, Ud, Ud, Ud, Ud, Ud, Ud, Ud, Ud, Ud, Ud, Ud]) _
  refine q_is (l' := [(.agg #[(Fl r1), (Fl r3), (Fl r5)]), (Pt b8 0), (Pt b15 0), (Fl r26), (Fl r30), (.agg #[(Fl r1), (Fl r3), (Fl r5)]), (Fl r26), (Fl r26), (Fl r30), Ud, Ud, Ud, Ud, Ud, Ud, Ud, Ud, Ud, Ud, Ud, Ud, Ud]) rfl rfl (does_assign (u := (Fl r30)) (ev rfl)) rfl ?_
  refine wpList_nil (hK29 _ _ ?_)
  refine wp_seq_k fun K35 hK35 => ?_
  refine wp_seq_k fun K36 hK36 => ?_
  obtain ⟨β1, hβ1⟩ : ∃ b : Bool, b = (fcmp .eql (ford .f32 (cf .f32 r26) (cf .f32 0))) := ⟨_, rfl⟩
  obtain ⟨β2, hβ2⟩ : ∃ b : Bool, b = (!([(cf .f32 r26), (cf .f32 r30)]).any (fun x => !finF x)) := ⟨_, rfl⟩
  refine region_text (
    [Fact.pure [] (fun v => v = (Fl r26)),
    Fact.pure [9] (fun v => v = (Bo β1)),
    Fact.pure [10] (fun v => v = (Bo β1)),
    Fact.pure [11] (fun v => β1 = false → v = (Fl r26)),
    Fact.pure [11] (fun v => β1 = false → v = (Fl r30)),
    Fact.mem [12, 13, 11] (fun v w' => β1 = false → ∃ b : Nat, v = .slice (some ⟨b, 0, none⟩) 2 2 ∧ w33.heap.size ≤ b ∧ Blk w' b [(Fl r26), (Fl r30)]) (by intro v w1 w2 hx h hg1; obtain ⟨b, rfl, hb, hB⟩ := h hg1; exact ⟨b, rfl, hb, (hB.ext hx)⟩),
    Fact.pure [14, 11] (fun v => β1 = false → v = (Bo β2)),
    Fact.pure [15, 11] (fun v => β1 = false → v = (Bo (!β2))),
    Fact.pure [11, 16] (fun v => v = (Bo (β1 || (!β2))))]) (by simp [Fact.pure, Fact.mem]) ?_
  refine RW_d (fun v37 => [(.agg #[(Fl r1), (Fl r3), (Fl r5)]), (Pt b8 0), (Pt b15 0), (Fl r26), (Fl r30), (.agg #[(Fl r1), (Fl r3), (Fl r5)]), (Fl r26), (Fl r26), (Fl r30), v37, Ud, Ud, Ud, Ud, Ud, Ud, Ud, Ud, Ud, Ud, Ud, Ud]) rfl (fun _ => rfl) (fun u hu hF => ?_) (fun v37 => ?_)
  · clear hF
    refine doesG_un rfl ?_
    refine (does_move (u := (Fl r26)) (ev rfl)).mono ?_; rintro _ _ ⟨rfl, rfl⟩
    exact ⟨rfl, Ext.refl _⟩
  refine RW_d (fun v38 => [(.agg #[(Fl r1), (Fl r3), (Fl r5)]), (Pt b8 0), (Pt b15 0), (Fl r26), (Fl r30), (.agg #[(Fl r1), (Fl r3), (Fl r5)]), (Fl r26), (Fl r26), (Fl r30), v37, v38, Ud, Ud, Ud, Ud, Ud, Ud, Ud, Ud, Ud, Ud, Ud]) rfl (fun _ => rfl) (fun u hu hF => ?_) (fun v38 => ?_)
  · have h9_ : v37 = (Fl r26) := hF.1
    clear hF
    refine doesG_un rfl ?_
    obtain rfl := h9_
    refine (does_fcmp (.inl rfl) (ev rfl) (ev rfl)).mono ?_; rintro _ _ ⟨rfl, rfl⟩
    exact ⟨(by first | rfl | (show _ = _; simp only [hβ1]; done) | (show _ = _; simp only [hβ1]; rfl)), Ext.refl _⟩
  refine RW_d (fun v39 => [(.agg #[(Fl r1), (Fl r3), (Fl r5)]), (Pt b8 0), (Pt b15 0), (Fl r26), (Fl r30), (.agg #[(Fl r1), (Fl r3), (Fl r5)]), (Fl r26), (Fl r26), (Fl r30), v37, v38, v39, Ud, Ud, Ud, Ud, Ud, Ud, Ud, Ud, Ud, Ud]) rfl (fun _ => rfl) (fun u hu hF => ?_) (fun v39 => ?_)
  · have h10_ : v38 = (Bo β1) := hF.1
    clear hF
    refine doesG_un rfl ?_
    obtain rfl := h10_
    refine (does_move (u := (Bo β1)) (ev rfl)).mono ?_; rintro _ _ ⟨rfl, rfl⟩
    exact ⟨rfl, Ext.refl _⟩
  refine RW_d (fun v40 => [(.agg #[(Fl r1), (Fl r3), (Fl r5)]), (Pt b8 0), (Pt b15 0), (Fl r26), (Fl r30), (.agg #[(Fl r1), (Fl r3), (Fl r5)]), (Fl r26), (Fl r26), (Fl r30), v37, v38, v39, v40, Ud, Ud, Ud, Ud, Ud, Ud, Ud, Ud, Ud]) rfl (fun _ => rfl) (fun u hu hF => ?_) (fun v40 => ?_)
  · have h11_ : v39 = (Bo β1) := hF.1
    clear hF
    obtain rfl := h11_
    refine doesG_g (b := β1) rfl (yld rfl rfl) (fun hg1 => ?_) (fun hc => ⟨fun hg1 => absurd hg1 hc, Ext.refl _⟩)
    refine (does_move (u := (Fl r26)) (ev rfl)).mono ?_; rintro _ _ ⟨rfl, rfl⟩
    exact ⟨fun _ => rfl, Ext.refl _⟩
  refine RW_d (fun v41 => [(.agg #[(Fl r1), (Fl r3), (Fl r5)]), (Pt b8 0), (Pt b15 0), (Fl r26), (Fl r30), (.agg #[(Fl r1), (Fl r3), (Fl r5)]), (Fl r26), (Fl r26), (Fl r30), v37, v38, v39, v40, v41, Ud, Ud, Ud, Ud, Ud, Ud, Ud, Ud]) rfl (fun _ => rfl) (fun u hu hF => ?_) (fun v41 => ?_)
  · have h11_ : v39 = (Bo β1) := hF.1
    clear hF
    obtain rfl := h11_
    refine doesG_g (b := β1) rfl (yld rfl rfl) (fun hg1 => ?_) (fun hc => ⟨fun hg1 => absurd hg1 hc, Ext.refl _⟩)
    refine (does_move (u := (Fl r30)) (ev rfl)).mono ?_; rintro _ _ ⟨rfl, rfl⟩
    exact ⟨fun _ => rfl, Ext.refl _⟩
  refine RW_d (fun v42 => [(.agg #[(Fl r1), (Fl r3), (Fl r5)]), (Pt b8 0), (Pt b15 0), (Fl r26), (Fl r30), (.agg #[(Fl r1), (Fl r3), (Fl r5)]), (Fl r26), (Fl r26), (Fl r30), v37, v38, v39, v40, v41, v42, Ud, Ud, Ud, Ud, Ud, Ud, Ud]) rfl (fun _ => rfl) (fun u hu hF => ?_) (fun v42 => ?_)
  · have h12_ : β1 = false → v40 = (Fl r26) := hF.1
    have h13_ : β1 = false → v41 = (Fl r30) := hF.2.1
    have h11_ : v39 = (Bo β1) := hF.2.2.1
    clear hF
    obtain rfl := h11_
    refine doesG_g (b := β1) rfl (yld rfl rfl) (fun hg1 => ?_) (fun hc => ⟨fun hg1 => absurd hg1 hc, Ext.refl _⟩)
    obtain rfl := h12_ hg1
    obtain rfl := h13_ hg1
    refine (does_buildSlice (e := 51) (parts' := [(0, (Fl r26)), (1, (Fl r30))]) (cells := [(Fl r26), (Fl r30)]) (evp rfl) (fun _ => by kernel_rfl)).mono ?_; rintro _ _ ⟨b, rfl, hb, hB, hx⟩
    exact ⟨fun _ => ⟨b, rfl, Nat.le_trans (Below.size hu) hb, hB⟩, hx⟩
  refine RW_d (fun v43 => [(.agg #[(Fl r1), (Fl r3), (Fl r5)]), (Pt b8 0), (Pt b15 0), (Fl r26), (Fl r30), (.agg #[(Fl r1), (Fl r3), (Fl r5)]), (Fl r26), (Fl r26), (Fl r30), v37, v38, v39, v40, v41, v42, v43, Ud, Ud, Ud, Ud, Ud, Ud]) rfl (fun _ => rfl) (fun u hu hF => ?_) (fun v43 => ?_)
  · have h14_ : β1 = false → ∃ b : Nat, v42 = .slice (some ⟨b, 0, none⟩) 2 2 ∧ w33.heap.size ≤ b ∧ Blk u b [(Fl r26), (Fl r30)] := hF.1
    have h11_ : v39 = (Bo β1) := hF.2.1
    clear hF
    obtain rfl := h11_
    refine doesG_g (b := β1) rfl (yld rfl rfl) (fun hg1 => ?_) (fun hc => ⟨fun hg1 => absurd hg1 hc, Ext.refl _⟩)
    obtain ⟨b14_, rfl, hb14_, hB14_⟩ := h14_ hg1
    refine (does_call (args := #[(.slice (some ⟨b14_, 0, none⟩) 2 2)]) cal53 (evs rfl) (c_impl_finite (.slice (some ⟨b14_, 0, none⟩) 2 2) [(cf .f32 r26), (cf .f32 r30)] _ (Sl_lit2 hB14_ ⟨_, rfl, rfl⟩ ⟨_, rfl, rfl⟩))).mono ?_; rintro v u' ⟨hx, hv⟩
    exact ⟨fun _ => hv.trans (by simp only [hβ2]), hx⟩
  refine RW_d (fun v44 => [(.agg #[(Fl r1), (Fl r3), (Fl r5)]), (Pt b8 0), (Pt b15 0), (Fl r26), (Fl r30), (.agg #[(Fl r1), (Fl r3), (Fl r5)]), (Fl r26), (Fl r26), (Fl r30), v37, v38, v39, v40, v41, v42, v43, v44, Ud, Ud, Ud, Ud, Ud]) rfl (fun _ => rfl) (fun u hu hF => ?_) (fun v44 => ?_)
  · have h15_ : β1 = false → v43 = (Bo β2) := hF.1
    have h11_ : v39 = (Bo β1) := hF.2.1
    clear hF
    obtain rfl := h11_
    refine doesG_g (b := β1) rfl (yld rfl rfl) (fun hg1 => ?_) (fun hc => ⟨fun hg1 => absurd hg1 hc, Ext.refl _⟩)
    obtain rfl := h15_ hg1
    refine (does_not (ev rfl)).mono ?_; rintro _ _ ⟨rfl, rfl⟩
    exact ⟨fun _ => rfl, Ext.refl _⟩
  refine RW_d (fun v45 => [(.agg #[(Fl r1), (Fl r3), (Fl r5)]), (Pt b8 0), (Pt b15 0), (Fl r26), (Fl r30), (.agg #[(Fl r1), (Fl r3), (Fl r5)]), (Fl r26), (Fl r26), (Fl r30), v37, v38, v39, v40, v41, v42, v43, v44, v45, Ud, Ud, Ud, Ud]) rfl (fun _ => rfl) (fun u hu hF => ?_) (fun v45 => ?_)
  · have h11_ : v39 = (Bo β1) := hF.1
    have h16_ : β1 = false → v44 = (Bo (!β2)) := hF.2.1
    clear hF
    refine doesG_un rfl ?_
    skip
    obtain rfl := h11_
    refine (does_pick (b := β1) (u := (Bo true)) (v := v44) (ev rfl) (ev rfl) (ev rfl)).mono ?_; rintro _ _ ⟨rfl, rfl⟩; refine ⟨?_, Ext.refl _⟩; skip
    cases hbb : β1
    all_goals first | (show _ = _; simp only [↓reduceIte, Bool.true_and, Bool.false_and, Bool.true_or, Bool.false_or, Bool.false_eq_true]; done) | (have e_ := h16_ hbb; subst e_; show _ = _; simp only [↓reduceIte, Bool.true_and, Bool.false_and, Bool.true_or, Bool.false_or, Bool.false_eq_true]; done) | rfl | (have e_ := h16_ hbb; subst e_; rfl) | (simp [hbb] at h16_ ⊢; first | done | rfl | (subst h16_; rfl) | simp_all) | (simp [hbb] at h16_ ⊢; done)
  refine RW_fin ?_; intro w46 E47 hP48
  obtain ⟨⟨⟨⟨⟨⟨⟨⟨⟨-, -⟩, -⟩, -⟩, -⟩, -⟩, -⟩, -⟩, -⟩, q49⟩ := hP48
  have X50 := Ext.gr X34 E47
  have q49 : v45 = (Bo (β1 || (!β2))) := q49
  obtain rfl := q49
  show wpList _ _ _ _ (fr [(.agg #[(Fl r1), (Fl r3), (Fl r5)]), (Pt b8 0), (Pt b15 0), (Fl r26), (Fl r30), (.agg #[(Fl r1), (Fl r3), (Fl r5)]), (Fl r26), (Fl r26), (Fl r30), v37, v38, v39, v40, v41, v42, v43, v44, (Bo (β1 || (!β2))), Ud, Ud, Ud, Ud]) _
  refine wpList_nil (hK36 _ _ ?_)
  refine wp_cond_split (t := β1 || (!β2)) (ev rfl) (fun c51 => ?_) (fun c51 => ?_)
  · have c51' := c51
    (try simp only [hβ1, hβ2, any2_finF] at c51')
    (try simp only [hβ1, hβ2] at c51')
    (try simp only [icmp, Bool.and_eq_true, Bool.or_eq_true, Bool.and_eq_false_iff, Bool.or_eq_false_iff, Bool.not_eq_true', Bool.not_eq_false', decide_eq_true_eq, decide_eq_false_iff_not, beq_iff_eq, bne_iff_ne, beq_eq_false_iff_ne, bne_eq_false_iff_eq] at c51')
    refine wp_seq_k fun K52 hK52 => ?_
    refine wp_region_lit ?_
    refine q_is (l' := [(.agg #[(Fl r1), (Fl r3), (Fl r5)]), (Pt b8 0), (Pt b15 0), (Fl r26), (Fl r30), (.agg #[(Fl r1), (Fl r3), (Fl r5)]), (Fl r26), (Fl r26), (Fl r30), v37, v38, v39, v40, v41, v42, v43, v44, (Bo (β1 || (!β2))), (.agg #[(Fl 0), (Fl 0), (Fl 0)]), Ud, Ud, Ud]) rfl rfl (does_build (parts' := []) (cells := #[(Fl 0), (Fl 0), (Fl 0)]) (evp rfl) (by kernel_rfl)) rfl ?_
    refine seqn rfl rfl (does_store (n := 3) (cs := [(Fl 0), (Fl 0), (Fl 0)]) (u := (.agg #[(Fl 0), (Fl 0), (Fl 0)])) (ev rfl) (ev rfl) Try.sizeOf53 rfl (((hB17.ext E24).ext E32).ext E47) (Nat.le_of_ble_eq_true rfl) rfl) ?_; rintro _ w55 ⟨rfl, W53, hB54⟩
    change Blk _ _ [(Fl 0), (Fl 0), (Fl 0)] at hB54
    have X56 := Below.wr X50 W53 g21
    refine wpList_nil (hK52 _ _ ?_)
    refine wp_ret ?_
    dsimp only [Exit.then, Exit.inBlock]
    refine ret_val (v := (.agg #[(Fl 0), (Fl 0), (Fl 0)])) (res_C rfl (slot rfl) (run_loadAgg (cs := [(Fl 0), (Fl 0), (Fl 0)]) Try.isAgg53 Try.sizeOf53 (Blk.cells hB54) rfl)) X56 ?_
    try simp only [h2, h4, h6, h27, h31, hβ1, hβ2, any2_finF] at c51
    have x57 : cf .f32 0 = (unitF A_v).x := by first | (rw [unit_zero1 (by assumption)]; rfl) | (rw [unit_zero2 (by assumption)]; rfl) | (rw [unit_by1 (by assumption)]; simp only [vscale, h2, h4, h6, h27, h31, hβ1, hβ2, c51]; done) | (rw [unit_by2 (by assumption)]; simp only [vscale, h2, h4, h6, h27, h31, hβ1, hβ2, c51]; done)
    have x58 : cf .f32 0 = (unitF A_v).y := by first | (rw [unit_zero1 (by assumption)]; rfl) | (rw [unit_zero2 (by assumption)]; rfl) | (rw [unit_by1 (by assumption)]; simp only [vscale, h2, h4, h6, h27, h31, hβ1, hβ2, c51]; done) | (rw [unit_by2 (by assumption)]; simp only [vscale, h2, h4, h6, h27, h31, hβ1, hβ2, c51]; done)
    have x59 : cf .f32 0 = (unitF A_v).z := by first | (rw [unit_zero1 (by assumption)]; rfl) | (rw [unit_zero2 (by assumption)]; rfl) | (rw [unit_by1 (by assumption)]; simp only [vscale, h2, h4, h6, h27, h31, hβ1, hβ2, c51]; done) | (rw [unit_by2 (by assumption)]; simp only [vscale, h2, h4, h6, h27, h31, hβ1, hβ2, c51]; done)
    exact ⟨[(Fl 0), (Fl 0), (Fl 0)], rfl, ⟨0, 0, 0, rfl, x57, x58, x59⟩⟩
  have c51' := c51
  (try simp only [hβ1, hβ2, any2_finF] at c51')
  (try simp only [hβ1, hβ2] at c51')
  (try simp only [icmp, Bool.and_eq_true, Bool.or_eq_true, Bool.and_eq_false_iff, Bool.or_eq_false_iff, Bool.not_eq_true', Bool.not_eq_false', decide_eq_true_eq, decide_eq_false_iff_not, beq_iff_eq, bne_iff_ne, beq_eq_false_iff_ne, bne_eq_false_iff_eq] at c51')
  refine wp_skip (hK35 _ _ ?_)
  refine wp_seq_k fun K60 hK60 => ?_
  refine wp_region_lit ?_
  refine q_is (l' := [(.agg #[(Fl r1), (Fl r3), (Fl r5)]), (Pt b8 0), (Pt b15 0), (Fl r26), (Fl r30), (.agg #[(Fl r1), (Fl r3), (Fl r5)]), (Fl r26), (Fl r26), (Fl r30), v37, v38, v39, v40, v41, v42, v43, v44, (Bo (β1 || (!β2))), Ud, (.agg #[(Fl r1), (Fl r3), (Fl r5)]), Ud, Ud]) rfl rfl (does_loadAgg (cs := [(Fl r1), (Fl r3), (Fl r5)]) (ev rfl) Try.isAgg53 Try.sizeOf53 (Blk.cells ((((hB10.ext E18).ext E24).ext E32).ext E47)) rfl) rfl ?_
  refine q_is (l' := [(.agg #[(Fl r1), (Fl r3), (Fl r5)]), (Pt b8 0), (Pt b15 0), (Fl r26), (Fl r30), (.agg #[(Fl r1), (Fl r3), (Fl r5)]), (Fl r26), (Fl r26), (Fl r30), v37, v38, v39, v40, v41, v42, v43, v44, (Bo (β1 || (!β2))), Ud, (.agg #[(Fl r1), (Fl r3), (Fl r5)]), (Fl r30), Ud]) rfl rfl (does_move (u := (Fl r30)) (ev rfl)) rfl ?_
  refine seqd rfl rfl (does_call (args := #[(.agg #[(Fl r1), (Fl r3), (Fl r5)]), (Fl r30)]) cal54 (evs rfl) (c_impl_ScaleVector [(Fl r1), (Fl r3), (Fl r5)] A_v r30 _ ⟨r1, r3, r5, rfl, h2, h4, h6⟩)) ?_; rintro _ w62 ⟨E61, ⟨_, rfl, ⟨r63, r65, r67, rfl, h64, h66, h68⟩⟩⟩
  have X69 := Ext.gr X50 E61
  show wpList _ _ _ _ (fr [(.agg #[(Fl r1), (Fl r3), (Fl r5)]), (Pt b8 0), (Pt b15 0), (Fl r26), (Fl r30), (.agg #[(Fl r1), (Fl r3), (Fl r5)]), (Fl r26), (Fl r26), (Fl r30), v37, v38, v39, v40, v41, v42, v43, v44, (Bo (β1 || (!β2))), Ud, (.agg #[(Fl r1), (Fl r3), (Fl r5)]), (Fl r30), (.agg #[(Fl r63), (Fl r65), (Fl r67)])]) _
  refine seqn rfl rfl (does_store (n := 3) (cs := [(Fl 0), (Fl 0), (Fl 0)]) (u := (.agg #[(Fl r63), (Fl r65), (Fl r67)])) (ev rfl) (ev rfl) Try.sizeOf53 rfl ((((hB17.ext E24).ext E32).ext E47).ext E61) (Nat.le_of_ble_eq_true rfl) rfl) ?_; rintro _ w72 ⟨rfl, W70, hB71⟩
  change Blk _ _ [(Fl r63), (Fl r65), (Fl r67)] at hB71
  have X73 := Below.wr X69 W70 g21
  refine wpList_nil (hK60 _ _ ?_)
  refine wp_ret ?_
  refine ret_val (v := (.agg #[(Fl r63), (Fl r65), (Fl r67)])) (res_C rfl (slot rfl) (run_loadAgg (cs := [(Fl r63), (Fl r65), (Fl r67)]) Try.isAgg53 Try.sizeOf53 (Blk.cells hB71) rfl)) X73 ?_
  try simp only [h2, h4, h6, h27, h31, hβ1, hβ2, h64, h66, h68, any2_finF] at c51
  have x74 : cf .f32 r63 = (unitF A_v).x := by first | (rw [unit_zero1 (by assumption)]; rfl) | (rw [unit_zero2 (by assumption)]; rfl) | (rw [unit_by1 (by assumption)]; simp only [vscale, h2, h4, h6, h27, h31, hβ1, hβ2, h64, h66, h68, c51]; done) | (rw [unit_by2 (by assumption)]; simp only [vscale, h2, h4, h6, h27, h31, hβ1, hβ2, h64, h66, h68, c51]; done)
  have x75 : cf .f32 r65 = (unitF A_v).y := by first | (rw [unit_zero1 (by assumption)]; rfl) | (rw [unit_zero2 (by assumption)]; rfl) | (rw [unit_by1 (by assumption)]; simp only [vscale, h2, h4, h6, h27, h31, hβ1, hβ2, h64, h66, h68, c51]; done) | (rw [unit_by2 (by assumption)]; simp only [vscale, h2, h4, h6, h27, h31, hβ1, hβ2, h64, h66, h68, c51]; done)
  have x76 : cf .f32 r67 = (unitF A_v).z := by first | (rw [unit_zero1 (by assumption)]; rfl) | (rw [unit_zero2 (by assumption)]; rfl) | (rw [unit_by1 (by assumption)]; simp only [vscale, h2, h4, h6, h27, h31, hβ1, hβ2, h64, h66, h68, c51]; done) | (rw [unit_by2 (by assumption)]; simp only [vscale, h2, h4, h6, h27, h31, hβ1, hβ2, h64, h66, h68, c51]; done)
  exact ⟨[(Fl r63), (Fl r65), (Fl r67)], rfl, ⟨r63, r65, r67, rfl, x74, x75, x76⟩⟩

/- impl.NormalsOf -/
theorem c_impl_NormalsOf (m : List Value) (A_m : MeshT) (w : World) (hv_m : RMeshT w A_m m) : Gives Try.prog 13 #[(.agg m.toArray)] w (fun v w' => ∃ y_1 : Value, ∃ Lw_2 : List Nat, v = (.tuple #[y_1, (Bo (meshOk A_m))]) ∧ Hang w.heap.size w' (fun u => Sl RV3 3 u y_1 (nrmL A_m)) ∧ WL 3 w.heap.size w' Lw_2 y_1 (nrmL A_m).length) := by
  obtain ⟨y1, y3, rfl, h2, h4⟩ := hv_m
  have hs7 := h2; have hs7l := Sl.len h2; obtain ⟨p5, q6, rfl⟩ := Sl.shape h2
  have hs10 := h4; have hs10l := Sl.len h4; obtain ⟨p8, q9, rfl⟩ := Sl.shape h4
  refine enter [(.agg #[(.slice p5 A_m.places.length q6), (.slice p8 A_m.tris.length q9)]), Ud, Ud, Ud, Ud, Ud, Ud, Ud, Ud, Ud, Ud, Ud, Ud, Ud, Ud, Ud, Ud, Ud, Ud, Ud, Ud, Ud, Ud, Ud, Ud, Ud, Ud, Ud, Ud, Ud, Ud, Ud, Ud, Ud, Ud, Ud, Ud, Ud, Ud, Ud, Ud, Ud, Ud, Ud, Ud, Ud, Ud, Ud, Ud, Ud, Ud, Ud, Ud, Ud, Ud, Ud, Ud, Ud, Ud, Ud, Ud, Ud, Ud, Ud, Ud, Ud, Ud, Ud, Ud, Ud, Ud, Ud, Ud, Ud, Ud, Ud, Ud, Ud, Ud, Ud, Ud, Ud, Ud, Ud, Ud, Ud, Ud, Ud] Try.func13 rfl Try.ntmps13 rfl ?_
  refine wp_seq_k fun K11 hK11 => ?_
  refine wp_region_lit ?_
  refine seqd rfl rfl (does_box (u := (.agg #[(.slice p5 A_m.places.length q6), (.slice p8 A_m.tris.length q9)])) (ev rfl)) ?_; rintro _ w16 ⟨b12, rfl, hb13, hB14, E15⟩
  have g17 : w.heap.size ≤ b12 := Nat.le_trans (Below.size (Ext.refl w)) hb13
  change Blk _ _ [(.slice p5 A_m.places.length q6), (.slice p8 A_m.tris.length q9)] at hB14
  have X18 := Ext.gr (Ext.refl w) E15
  show wpList _ _ _ _ (fr [_, _, _, _, _, _, _, _, _, _, _, _, _, _, _, _, _, _, _, _, _, _, _, _, _, _, _, _, _, _, _, _, _, _, _, _, _, _, _, _, _, _, _, _, _, _, _, _, _, _, _, _, _, _, _, _, _, _, _, _, _, _, _, _, _, _, _, _, _, _, _, _, _, _, _, _, _, _, _, _, _, _, _, _, _, _, _, _]) _
  refine q_is rfl rfl (does_assign (u := (.slice none 0 0)) (ev rfl)) (by dsimp only [List.set]; try rfl) ?_
  refine q_is rfl rfl (does_assign (u := (Bo false)) (ev rfl)) (by dsimp only [List.set]; try rfl) ?_
  refine wpList_nil (hK11 _ _ ?_)
  refine wp_seq_k fun K19 hK19 => ?_
  refine wp_seq_k fun K20 hK20 => ?_
  refine wp_region_lit ?_
  refine q_is rfl rfl (does_loadAgg (cs := [(.slice p5 A_m.places.length q6), (.slice p8 A_m.tris.length q9)]) (ev rfl) Try.isAgg29 Try.sizeOf29 (Blk.cells hB14) rfl) (by dsimp only [List.set]; try rfl) ?_
  refine seqd rfl rfl (does_call (args := #[(.agg #[(.slice p5 A_m.places.length q6), (.slice p8 A_m.tris.length q9)])]) cal22 (evs rfl) (c_impl_ValidMesh [(.slice p5 A_m.places.length q6), (.slice p8 A_m.tris.length q9)] A_m _ ⟨(.slice p5 A_m.places.length q6), (.slice p8 A_m.tris.length q9), rfl, (Sl.ext hs7 RV3.mono X18), (Sl.ext hs10 (RS.mono RI.mono) X18)⟩)) ?_; rintro _ w22 ⟨E21, rfl⟩
  have X23 := Ext.gr X18 E21
  show wpList _ _ _ _ (fr [_, _, _, _, _, _, _, _, _, _, _, _, _, _, _, _, _, _, _, _, _, _, _, _, _, _, _, _, _, _, _, _, _, _, _, _, _, _, _, _, _, _, _, _, _, _, _, _, _, _, _, _, _, _, _, _, _, _, _, _, _, _, _, _, _, _, _, _, _, _, _, _, _, _, _, _, _, _, _, _, _, _, _, _, _, _, _, _]) _
  refine q_is rfl rfl (does_not (ev rfl)) (by dsimp only [List.set]; try rfl) ?_
  refine wpList_nil (hK20 _ _ ?_)
  refine wp_cond_split (t := !(meshOk A_m)) (ev rfl) (fun c24 => ?_) (fun c24 => ?_)
  · rw [Bool.not_eq_true'] at c24
    have c24' := c24
    have hmf : meshOk A_m = false := c24
    refine wp_seq_k fun K25 hK25 => ?_
    refine wp_region_lit ?_
    refine q_is rfl rfl (does_assign (u := (.slice none 0 0)) (ev rfl)) (by dsimp only [List.set]; try rfl) ?_
    refine q_is rfl rfl (does_assign (u := (Bo false)) (ev rfl)) (by dsimp only [List.set]; try rfl) ?_
    refine wpList_nil (hK25 _ _ ?_)
    refine wp_ret ?_
    dsimp only [Exit.then, Exit.inBlock]
    refine ret_val (v := (.tuple #[(.slice none 0 0), (Bo false)])) (res_TT rfl (slot rfl) (slot rfl)) X23 ?_
    have x26 : (meshOk A_m) = false := by first | exact hmf | exact hmt | (rw [nrmL_f hmf] <;> rfl) | (rw [nrmL_t hmt hk (by omega) hj (by omega)] <;> first | rfl | assumption)
    have x27 : ([]) = (nrmL A_m) := by first | exact hmf | exact hmt | (rw [nrmL_f hmf] <;> rfl) | (rw [nrmL_t hmt hk (by omega) hj (by omega)] <;> first | rfl | assumption)
    have x28 : ([]) = (nrmL A_m) := by first | exact hmf | exact hmt | (rw [nrmL_f hmf] <;> rfl) | (rw [nrmL_t hmt hk (by omega) hj (by omega)] <;> first | rfl | assumption)
    exact ⟨(.slice none 0 0), [], (by first | with_reducible rfl | rw [x26] | rfl), (Hang.castL (Sl.hang_nil _ _ _ _) x27), (WL.cast (WL.nil _ _ _) (congrArg List.length x28))⟩
  rw [Bool.not_eq_false'] at c24
  have c24' := c24
  have hmt : meshOk A_m = true := c24
  have hml := mesh_len hmt
  refine wp_skip (hK19 _ _ ?_)
  refine wp_seq_k fun K29 hK29 => ?_
  refine wp_region_lit ?_
  refine q_is rfl rfl (does_fieldAddr (ev rfl) fa29_0) (by dsimp only [List.set]; try rfl) ?_
  refine q_is rfl rfl (does_load (u := (.slice p5 A_m.places.length q6)) (ev rfl) Try.isAgg27 (Cells.at (Blk.cells (hB14.ext E21)) 0 rfl)) (by dsimp only [List.set]; try rfl) ?_
  refine q_is rfl rfl (does_len_slice Try.underlying27 (ev rfl)) (by dsimp only [List.set]; try rfl) ?_
  refine seqd rfl rfl (does_makeSlice (n := A_m.places.length) Try.underlying27 inf53 (ev rfl) (ev rfl) (by omega)) ?_; rintro _ w34 ⟨b30, rfl, hb31, ⟨cs35, hB32, hl36, hz37⟩, E33⟩
  have n38 : b12 < b30 := Nat.lt_of_lt_of_le (Blk.lt (hB14.ext E21)) hb31
  have g39 : w.heap.size ≤ b30 := Nat.le_trans (Below.size X23) hb31
  have X40 := Ext.gr X23 E33
  have hR41 : RowG RV3 3 w34 b30 (List.replicate A_m.places.length zV) := RowG.made (z := (.agg #[.float .f32 0, .float .f32 0, .float .f32 0])) hB32 rfl rfl hz37 ⟨_, _, _, rfl, rfl, rfl, rfl⟩
  show wpList _ _ _ _ (fr [_, _, _, _, _, _, _, _, _, _, _, _, _, _, _, _, _, _, _, _, _, _, _, _, _, _, _, _, _, _, _, _, _, _, _, _, _, _, _, _, _, _, _, _, _, _, _, _, _, _, _, _, _, _, _, _, _, _, _, _, _, _, _, _, _, _, _, _, _, _, _, _, _, _, _, _, _, _, _, _, _, _, _, _, _, _, _, _]) _
  refine q_is rfl rfl (does_assign (u := (.slice (some ⟨b30, 0, none⟩) A_m.places.length A_m.places.length)) (ev rfl)) (by dsimp only [List.set]; try rfl) ?_
  refine wpList_nil (hK29 _ _ ?_)
  refine wp_seq_k fun K42 hK42 => ?_
  refine wp_seq_k fun K43 hK43 => ?_
  refine wp_region_lit ?_
  refine q_is rfl rfl (does_fieldAddr (ev rfl) fa29_1) (by dsimp only [List.set]; try rfl) ?_
  refine q_is rfl rfl (does_load (u := (.slice p8 A_m.tris.length q9)) (ev rfl) Try.isAgg23 (Cells.at (Blk.cells ((hB14.ext E21).ext E33)) 1 rfl)) (by dsimp only [List.set]; try rfl) ?_
  refine q_is rfl rfl (does_len_slice Try.underlying23 (ev rfl)) (by dsimp only [List.set]; try rfl) ?_
  refine q_is rfl rfl (does_move (u := (Iv 0)) (ev rfl)) (by dsimp only [List.set]; try rfl) ?_
  refine wpList_nil (hK43 _ _ ?_)
  refine wp_block ?_
  refine loop_ghost (σ := Nat) (fun k a w' => ∃ u44 : Nat → Value, a = fr [(.agg #[(.slice p5 A_m.places.length q6), (.slice p8 A_m.tris.length q9)]), (Pt b12 0), (.slice none 0 0), (Bo false), (.slice (some ⟨b30, 0, none⟩) A_m.places.length A_m.places.length), Ud, (u44 6), (u44 7), (u44 8), (u44 9), (u44 10), Ud, (u44 12), Ud, Ud, (.agg #[(.slice p5 A_m.places.length q6), (.slice p8 A_m.tris.length q9)]), (Bo (meshOk A_m)), (Bo (!(meshOk A_m))), (Pt b12 0), (.slice p5 A_m.places.length q6), (Iv (A_m.places.length : Int)), (.slice (some ⟨b30, 0, none⟩) A_m.places.length A_m.places.length), (Pt b12 1), (.slice p8 A_m.tris.length q9), (Iv (A_m.tris.length : Int)), (Iv (k : Int)), (u44 26), (u44 27), (u44 28), (u44 29), (u44 30), (u44 31), (u44 32), (u44 33), (u44 34), (u44 35), (u44 36), (u44 37), (u44 38), (u44 39), (u44 40), (u44 41), (u44 42), (u44 43), (u44 44), (u44 45), (u44 46), (u44 47), (u44 48), (u44 49), (u44 50), (u44 51), (u44 52), (u44 53), (u44 54), (u44 55), (u44 56), (u44 57), (u44 58), (u44 59), (u44 60), (u44 61), (u44 62), (u44 63), (u44 64), (u44 65), (u44 66), (u44 67), (u44 68), (u44 69), (u44 70), (u44 71), (u44 72), (u44 73), Ud, Ud, Ud, Ud, Ud, Ud, Ud, Ud, Ud, Ud, Ud, Ud, Ud, Ud] ∧ KpL [b30] w34 w' ∧ RowG RV3 3 w' b30 (nrmTo A_m k) ∧ (k ≤ A_m.tris.length)) (fun k => A_m.tris.length - k) 0 ?_ ?_
  · refine ⟨fun t => (([(.agg #[(.slice p5 A_m.places.length q6), (.slice p8 A_m.tris.length q9)]), (Pt b12 0), (.slice none 0 0), (Bo false), (.slice (some ⟨b30, 0, none⟩) A_m.places.length A_m.places.length), Ud, Ud, Ud, Ud, Ud, Ud, Ud, Ud, Ud, Ud, (.agg #[(.slice p5 A_m.places.length q6), (.slice p8 A_m.tris.length q9)]), (Bo (meshOk A_m)), (Bo (!(meshOk A_m))), (Pt b12 0), (.slice p5 A_m.places.length q6), (Iv (A_m.places.length : Int)), (.slice (some ⟨b30, 0, none⟩) A_m.places.length A_m.places.length), (Pt b12 1), (.slice p8 A_m.tris.length q9), (Iv (A_m.tris.length : Int)), (Iv 0), Ud, Ud, Ud, Ud, Ud, Ud, Ud, Ud, Ud, Ud, Ud, Ud, Ud, Ud, Ud, Ud, Ud, Ud, Ud, Ud, Ud, Ud, Ud, Ud, Ud, Ud, Ud, Ud, Ud, Ud, Ud, Ud, Ud, Ud, Ud, Ud, Ud, Ud, Ud, Ud, Ud, Ud, Ud, Ud, Ud, Ud, Ud, Ud, Ud, Ud, Ud, Ud, Ud, Ud, Ud, Ud, Ud, Ud, Ud, Ud, Ud, Ud] : List Value)[t]?).getD undef, rfl, KpL.refl _ _, (RowG.cast hR41 (by (try dsimp only); rfl)), ?_⟩
    exact Nat.zero_le _
  · rintro k a w45 ⟨u44, rfl, E46, hRg0, hk⟩
    have X48 := Below.kl X40 E46 (allS g39 all0) (Nat.le_refl _)
    have hR49 := hRg0; clear hRg0
    refine wp_seq_k fun K50 hK50 => ?_
    refine wp_region_lit ?_
    refine q_is rfl rfl (does_icmp (p := (k : Int)) (q := (A_m.tris.length : Int)) (.inr (.inr (.inl rfl))) (ev rfl) (ev rfl)) (by dsimp only [List.set]; try rfl) ?_
    refine wpList_nil (hK50 _ _ ?_)
    refine wp_seq_k fun K51 hK51 => ?_
    refine wp_cond_split (t := icmp .lss (k : Int) (A_m.tris.length : Int)) (ev rfl) (fun c52 => ?_) (fun c52 => ?_)
    · have c52' := c52
      (try simp only [icmp, Bool.and_eq_true, Bool.or_eq_true, Bool.and_eq_false_iff, Bool.or_eq_false_iff, Bool.not_eq_true', Bool.not_eq_false', decide_eq_true_eq, decide_eq_false_iff_not, beq_iff_eq, bne_iff_ne, beq_eq_false_iff_ne, bne_eq_false_iff_eq] at c52')
      refine wp_skip (hK51 _ _ ?_)
      refine wp_seq_k fun K53 hK53 => ?_
      refine wp_block ?_
      refine wp_seq_k fun K54 hK54 => ?_
      refine wp_region_lit ?_
      obtain ⟨el1, hel1⟩ : ∃ e, A_m.tris[k]? = some e := ⟨_, List.getElem?_eq_getElem (by omega)⟩
      refine seqd rfl rfl (does_indexSl0 (R := (RS RI 1)) (i := (k : Int)) (xs := A_m.tris) (e := el1) Try.underlying23 Try.sizeOf44 (ev rfl) (ev rfl) hs10 (by omega) hel1) ?_; rintro _ w45 ⟨b55, o56, _, rfl, hc58, ⟨y59, rfl, h60⟩, rfl⟩
      have hs63 := h60; have hs63l := Sl.len h60; obtain ⟨p61, q62, rfl⟩ := Sl.shape h60
      show wpList _ _ _ _ (fr [_, _, _, _, _, _, _, _, _, _, _, _, _, _, _, _, _, _, _, _, _, _, _, _, _, _, _, _, _, _, _, _, _, _, _, _, _, _, _, _, _, _, _, _, _, _, _, _, _, _, _, _, _, _, _, _, _, _, _, _, _, _, _, _, _, _, _, _, _, _, _, _, _, _, _, _, _, _, _, _, _, _, _, _, _, _, _, _]) _
      refine q_is rfl rfl (does_load (u := (.slice p61 el1.length q62)) (ev rfl) Try.isAgg44 (Cells.at (hc58.ext X48) 0 rfl)) (by dsimp only [List.set]; try rfl) ?_
      refine q_is rfl rfl (does_assign (u := (.slice p61 el1.length q62)) (ev rfl)) (by dsimp only [List.set]; try rfl) ?_
      refine wpList_nil (hK54 _ _ ?_)
      refine wp_seq_k fun K64 hK64 => ?_
      have htr := mesh_tri hmt hel1
      obtain ⟨el2, hel2⟩ : ∃ e, el1[0]? = some e := ⟨_, List.getElem?_eq_getElem (by omega)⟩
      have hb2 := htr.2 _ (List.mem_of_getElem? hel2)
      obtain ⟨el3, hel3⟩ : ∃ e, A_m.places[el2.toNat]? = some e := ⟨_, List.getElem?_eq_getElem (by omega)⟩
      obtain ⟨el4, hel4⟩ : ∃ e, el1[1]? = some e := ⟨_, List.getElem?_eq_getElem (by omega)⟩
      have hb4 := htr.2 _ (List.mem_of_getElem? hel4)
      obtain ⟨el5, hel5⟩ : ∃ e, A_m.places[el4.toNat]? = some e := ⟨_, List.getElem?_eq_getElem (by omega)⟩
      obtain ⟨el6, hel6⟩ : ∃ e, el1[2]? = some e := ⟨_, List.getElem?_eq_getElem (by omega)⟩
      have hb6 := htr.2 _ (List.mem_of_getElem? hel6)
      obtain ⟨el7, hel7⟩ : ∃ e, A_m.places[el6.toNat]? = some e := ⟨_, List.getElem?_eq_getElem (by omega)⟩
      refine region_any4 [] [21, 22, 23] [0, 1, 0, 4, 12, 31, 63, 0, 128, 0, 512, 1536, 3968, 8064, 0, 16384, 0, 65536, 196608, 507904, 1032192, 0, 0, 0, 14680191, 31473663, 67108863] [] (
        [FactV.pure [] [] [] true (fun v => v = (Pt b12 0)),
          FactV.pure [0] [] [] true (fun v => v = (.slice p5 A_m.places.length q6)),
          FactV.pure [] [] [] true (fun v => v = (.slice p61 el1.length q62)),
          FactV.pure [2] [] [] true (fun v => PtrR RI w v el2),
          FactV.pure [3] [] [] true (fun v => v = (Iv el2)),
          FactV.pure [1, 4] [] [] true (fun v => PtrR RV3 w v el3),
          FactV.pure [5] [] [] true (fun v => ∃ cs_1 : List Value, v = (.agg cs_1.toArray) ∧ RV3 w el3 cs_1),
          FactV.pure [] [] [] true (fun v => v = (Pt b12 0)),
          FactV.pure [7] [] [] true (fun v => v = (.slice p5 A_m.places.length q6)),
          FactV.pure [] [] [] true (fun v => v = (.slice p61 el1.length q62)),
          FactV.pure [9] [] [] true (fun v => PtrR RI w v el4),
          FactV.pure [10] [] [] true (fun v => v = (Iv el4)),
          FactV.pure [8, 11] [] [] true (fun v => PtrR RV3 w v el5),
          FactV.pure [12] [] [] true (fun v => ∃ cs_1 : List Value, v = (.agg cs_1.toArray) ∧ RV3 w el5 cs_1),
          FactV.pure [] [] [] true (fun v => v = (Pt b12 0)),
          FactV.pure [14] [] [] true (fun v => v = (.slice p5 A_m.places.length q6)),
          FactV.pure [] [] [] true (fun v => v = (.slice p61 el1.length q62)),
          FactV.pure [16] [] [] true (fun v => PtrR RI w v el6),
          FactV.pure [17] [] [] true (fun v => v = (Iv el6)),
          FactV.pure [15, 18] [] [] true (fun v => PtrR RV3 w v el7),
          FactV.pure [19] [] [] true (fun v => ∃ cs_1 : List Value, v = (.agg cs_1.toArray) ∧ RV3 w el7 cs_1),
          FactV.new [] [] [] false (fun v w' => ∃ b : Nat, v = .pointer (some ⟨b, 0, none⟩) ∧ w45.heap.size ≤ b ∧ Blk w' b [(Fl 0), (Fl 0), (Fl 0)]) (by rintro v w1 w2 L hx hL ⟨b, rfl, hb, hB⟩; exact ⟨b, rfl, hb, (hB.kl hx (fun hm => (hL b hm).elim (fun h => absurd h (by show b ∉ ([] : List Nat); exact nin0)) (fun h => h.2 rfl)))⟩),
          FactV.new [] [] [] false (fun v w' => ∃ b : Nat, v = .pointer (some ⟨b, 0, none⟩) ∧ w45.heap.size ≤ b ∧ Blk w' b [(Fl 0), (Fl 0), (Fl 0)]) (by rintro v w1 w2 L hx hL ⟨b, rfl, hb, hB⟩; exact ⟨b, rfl, hb, (hB.kl hx (fun hm => (hL b hm).elim (fun h => absurd h (by show b ∉ ([] : List Nat); exact nin0)) (fun h => h.2 rfl)))⟩),
          FactV.new [] [] [] true (fun v w' => ∃ b : Nat, v = .pointer (some ⟨b, 0, none⟩) ∧ w45.heap.size ≤ b ∧ Blk w' b [(Fl 0), (Fl 0), (Fl 0)]) (by rintro v w1 w2 L hx hL ⟨b, rfl, hb, hB⟩; exact ⟨b, rfl, hb, (hB.kl hx (fun hm => (hL b hm).elim (fun h => absurd h (by show b ∉ ([] : List Nat); exact nin0)) (fun h => h.2 rfl)))⟩),
          FactV.into [21, 6] [] [] 21 true (fun o v w' => v = undef ∧ ∃ b : Nat, ∃ r_1 : Nat, ∃ r_2 : Nat, ∃ r_3 : Nat, o = .pointer (some ⟨b, 0, none⟩) ∧ w45.heap.size ≤ b ∧ Blk w' b [(Fl r_1), (Fl r_2), (Fl r_3)] ∧ cf .f32 r_1 = el3.x ∧ cf .f32 r_2 = el3.y ∧ cf .f32 r_3 = el3.z) (by rintro o v w1 w2 L hx hL ⟨rfl, b, z0, z1, z2, rfl, hb, hB, k0, k1, k2⟩; exact ⟨rfl, b, z0, z1, z2, rfl, hb, hB.kl hx (fun hm => (hL b hm).elim (fun h => absurd h (by show b ∉ ([] : List Nat); exact nin0)) (fun h => h.2 rfl)), k0, k1, k2⟩),
          FactV.into [22, 13] [] [] 22 true (fun o v w' => v = undef ∧ ∃ b : Nat, ∃ r_1 : Nat, ∃ r_2 : Nat, ∃ r_3 : Nat, o = .pointer (some ⟨b, 0, none⟩) ∧ w45.heap.size ≤ b ∧ Blk w' b [(Fl r_1), (Fl r_2), (Fl r_3)] ∧ cf .f32 r_1 = el5.x ∧ cf .f32 r_2 = el5.y ∧ cf .f32 r_3 = el5.z) (by rintro o v w1 w2 L hx hL ⟨rfl, b, z0, z1, z2, rfl, hb, hB, k0, k1, k2⟩; exact ⟨rfl, b, z0, z1, z2, rfl, hb, hB.kl hx (fun hm => (hL b hm).elim (fun h => absurd h (by show b ∉ ([] : List Nat); exact nin0)) (fun h => h.2 rfl)), k0, k1, k2⟩)]) mixed (by kernel_rfl) ?_
      obtain ⟨w65, hw67⟩ : ∃ w', w' = World.drew w45 := ⟨_, rfl⟩; rw [← hw67]; have E66 : Ext w45 w65 := by rw [hw67]; exact Ext.draw _
      clear hw67
      have X68 := Ext.gr X48 E66
      refine RW4_d _ rfl rfl (fun v => by dsimp only [List.set]; try rfl) (fun u hu hF => ?_) (fun v69 => ?_)
      · replace hu : KpL [] _ _ := hu
        clear hF
        refine doesG_un rfl ?_
        refine (does_fieldAddr (ev rfl) fa29_0).mono ?_; rintro _ _ ⟨rfl, rfl⟩
        exact ⟨rfl, KpL.refl _ _⟩
      refine RW4_d _ rfl rfl (fun v => by dsimp only [List.set]; try rfl) (fun u hu hF => ?_) (fun v70 => ?_)
      · replace hu : KpL [] _ _ := hu
        have h29_ : v69 = (Pt b12 0) := hF.1
        clear hF
        refine doesG_un rfl ?_
        obtain rfl := h29_
        refine (does_load (u := (.slice p5 A_m.places.length q6)) (ev rfl) Try.isAgg27 (Cells.at (Blk.cells (((((hB14.ext E21).ext E33).kl E46 (ninS (Nat.ne_of_lt n38) nin0)).ext E66).ext (KpL.toExt hu))) 0 rfl)).mono ?_; rintro _ _ ⟨rfl, rfl⟩
        exact ⟨rfl, KpL.refl _ _⟩
      refine RW4_d _ rfl rfl (fun v => by dsimp only [List.set]; try rfl) (fun u hu hF => ?_) (fun v71 => ?_)
      · replace hu : KpL [] _ _ := hu
        clear hF
        refine doesG_un rfl ?_
        refine (does_move (u := (.slice p61 el1.length q62)) (ev rfl)).mono ?_; rintro _ _ ⟨rfl, rfl⟩
        exact ⟨rfl, KpL.refl _ _⟩
      refine RW4_d _ rfl rfl (fun v => by dsimp only [List.set]; try rfl) (fun u hu hF => ?_) (fun v72 => ?_)
      · replace hu : KpL [] _ _ := hu
        have h31_ : v71 = (.slice p61 el1.length q62) := hF.1
        clear hF
        refine doesG_un rfl ?_
        obtain rfl := h31_
        refine (does_indexSl0 (R := RI) (i := 0) (xs := el1) (e := el2) Try.underlying44 Try.sizeOf2 (ev rfl) (ev rfl) hs63 (by omega) hel2).mono ?_; rintro v u' ⟨b, of, cs, hv, hc, hR, hu'⟩; subst hu'
        exact ⟨⟨b, of, cs, hv, hc, hR⟩, KpL.refl _ _⟩
      refine RW4_d _ rfl rfl (fun v => by dsimp only [List.set]; try rfl) (fun u hu hF => ?_) (fun v73 => ?_)
      · replace hu : KpL [] _ _ := hu
        have h32_ : PtrR RI w v72 el2 := hF.1
        clear hF
        refine doesG_un rfl ?_
        obtain ⟨b32_, o32_, _, rfl, hc32_, rfl⟩ := h32_
        refine (does_load (u := (Iv el2)) (ev rfl) Try.isAgg2 (Cells.at (hc32_.ext (Ext.gr (Ext.gr X48 E66) (KpL.toExt hu))) 0 rfl)).mono ?_; rintro _ _ ⟨rfl, rfl⟩
        exact ⟨rfl, KpL.refl _ _⟩
      refine RW4_d _ rfl rfl (fun v => by dsimp only [List.set]; try rfl) (fun u hu hF => ?_) (fun v74 => ?_)
      · replace hu : KpL [] _ _ := hu
        have h30_ : v70 = (.slice p5 A_m.places.length q6) := hF.1
        have h33_ : v73 = (Iv el2) := hF.2.1
        clear hF
        refine doesG_un rfl ?_
        obtain rfl := h30_
        obtain rfl := h33_
        refine (does_indexSl0 (R := RV3) (i := el2) (xs := A_m.places) (e := el3) Try.underlying27 Try.sizeOf53 (ev rfl) (ev rfl) hs7 (by omega) hel3).mono ?_; rintro v u' ⟨b, of, cs, hv, hc, hR, hu'⟩; subst hu'
        exact ⟨⟨b, of, cs, hv, hc, hR⟩, KpL.refl _ _⟩
      refine RW4_d _ rfl rfl (fun v => by dsimp only [List.set]; try rfl) (fun u hu hF => ?_) (fun v75 => ?_)
      · replace hu : KpL [] _ _ := hu
        have h34_ : PtrR RV3 w v74 el3 := hF.1
        clear hF
        refine doesG_un rfl ?_
        obtain ⟨b34_, o34_, _, rfl, hc34_, ⟨r34_1, r34_3, r34_5, rfl, h34_2, h34_4, h34_6⟩⟩ := h34_
        refine (does_loadAgg (cs := [(Fl r34_1), (Fl r34_3), (Fl r34_5)]) (ev rfl) Try.isAgg53 Try.sizeOf53 (hc34_.ext (Ext.gr (Ext.gr X48 E66) (KpL.toExt hu))) rfl).mono ?_; rintro _ _ ⟨rfl, rfl⟩
        exact ⟨⟨[(Fl r34_1), (Fl r34_3), (Fl r34_5)], rfl, ⟨r34_1, r34_3, r34_5, rfl, (by first | assumption | rfl), (by first | assumption | rfl), (by first | assumption | rfl)⟩⟩, KpL.refl _ _⟩
      refine RW4_d _ rfl rfl (fun v => by dsimp only [List.set]; try rfl) (fun u hu hF => ?_) (fun v76 => ?_)
      · replace hu : KpL [] _ _ := hu
        clear hF
        refine doesG_un rfl ?_
        refine (does_fieldAddr (ev rfl) fa29_0).mono ?_; rintro _ _ ⟨rfl, rfl⟩
        exact ⟨rfl, KpL.refl _ _⟩
      refine RW4_d _ rfl rfl (fun v => by dsimp only [List.set]; try rfl) (fun u hu hF => ?_) (fun v77 => ?_)
      · replace hu : KpL [] _ _ := hu
        have h36_ : v76 = (Pt b12 0) := hF.1
        clear hF
        refine doesG_un rfl ?_
        obtain rfl := h36_
        refine (does_load (u := (.slice p5 A_m.places.length q6)) (ev rfl) Try.isAgg27 (Cells.at (Blk.cells (((((hB14.ext E21).ext E33).kl E46 (ninS (Nat.ne_of_lt n38) nin0)).ext E66).ext (KpL.toExt hu))) 0 rfl)).mono ?_; rintro _ _ ⟨rfl, rfl⟩
        exact ⟨rfl, KpL.refl _ _⟩
      refine RW4_d _ rfl rfl (fun v => by dsimp only [List.set]; try rfl) (fun u hu hF => ?_) (fun v78 => ?_)
      · replace hu : KpL [] _ _ := hu
        clear hF
        refine doesG_un rfl ?_
        refine (does_move (u := (.slice p61 el1.length q62)) (ev rfl)).mono ?_; rintro _ _ ⟨rfl, rfl⟩
        exact ⟨rfl, KpL.refl _ _⟩
      refine RW4_d _ rfl rfl (fun v => by dsimp only [List.set]; try rfl) (fun u hu hF => ?_) (fun v79 => ?_)
      · replace hu : KpL [] _ _ := hu
        have h38_ : v78 = (.slice p61 el1.length q62) := hF.1
        clear hF
        refine doesG_un rfl ?_
        obtain rfl := h38_
        refine (does_indexSl0 (R := RI) (i := 1) (xs := el1) (e := el4) Try.underlying44 Try.sizeOf2 (ev rfl) (ev rfl) hs63 (by omega) hel4).mono ?_; rintro v u' ⟨b, of, cs, hv, hc, hR, hu'⟩; subst hu'
        exact ⟨⟨b, of, cs, hv, hc, hR⟩, KpL.refl _ _⟩
      refine RW4_d _ rfl rfl (fun v => by dsimp only [List.set]; try rfl) (fun u hu hF => ?_) (fun v80 => ?_)
      · replace hu : KpL [] _ _ := hu
        have h39_ : PtrR RI w v79 el4 := hF.1
        clear hF
        refine doesG_un rfl ?_
        obtain ⟨b39_, o39_, _, rfl, hc39_, rfl⟩ := h39_
        refine (does_load (u := (Iv el4)) (ev rfl) Try.isAgg2 (Cells.at (hc39_.ext (Ext.gr (Ext.gr X48 E66) (KpL.toExt hu))) 0 rfl)).mono ?_; rintro _ _ ⟨rfl, rfl⟩
        exact ⟨rfl, KpL.refl _ _⟩
      refine RW4_d _ rfl rfl (fun v => by dsimp only [List.set]; try rfl) (fun u hu hF => ?_) (fun v81 => ?_)
      · replace hu : KpL [] _ _ := hu
        have h37_ : v77 = (.slice p5 A_m.places.length q6) := hF.1
        have h40_ : v80 = (Iv el4) := hF.2.1
        clear hF
        refine doesG_un rfl ?_
        obtain rfl := h37_
        obtain rfl := h40_
        refine (does_indexSl0 (R := RV3) (i := el4) (xs := A_m.places) (e := el5) Try.underlying27 Try.sizeOf53 (ev rfl) (ev rfl) hs7 (by omega) hel5).mono ?_; rintro v u' ⟨b, of, cs, hv, hc, hR, hu'⟩; subst hu'
        exact ⟨⟨b, of, cs, hv, hc, hR⟩, KpL.refl _ _⟩
      refine RW4_d _ rfl rfl (fun v => by dsimp only [List.set]; try rfl) (fun u hu hF => ?_) (fun v82 => ?_)
      · replace hu : KpL [] _ _ := hu
        have h41_ : PtrR RV3 w v81 el5 := hF.1
        clear hF
        refine doesG_un rfl ?_
        obtain ⟨b41_, o41_, _, rfl, hc41_, ⟨r41_1, r41_3, r41_5, rfl, h41_2, h41_4, h41_6⟩⟩ := h41_
        refine (does_loadAgg (cs := [(Fl r41_1), (Fl r41_3), (Fl r41_5)]) (ev rfl) Try.isAgg53 Try.sizeOf53 (hc41_.ext (Ext.gr (Ext.gr X48 E66) (KpL.toExt hu))) rfl).mono ?_; rintro _ _ ⟨rfl, rfl⟩
        exact ⟨⟨[(Fl r41_1), (Fl r41_3), (Fl r41_5)], rfl, ⟨r41_1, r41_3, r41_5, rfl, (by first | assumption | rfl), (by first | assumption | rfl), (by first | assumption | rfl)⟩⟩, KpL.refl _ _⟩
      refine RW4_d _ rfl rfl (fun v => by dsimp only [List.set]; try rfl) (fun u hu hF => ?_) (fun v83 => ?_)
      · replace hu : KpL [] _ _ := hu
        clear hF
        refine doesG_un rfl ?_
        refine (does_fieldAddr (ev rfl) fa29_0).mono ?_; rintro _ _ ⟨rfl, rfl⟩
        exact ⟨rfl, KpL.refl _ _⟩
      refine RW4_d _ rfl rfl (fun v => by dsimp only [List.set]; try rfl) (fun u hu hF => ?_) (fun v84 => ?_)
      · replace hu : KpL [] _ _ := hu
        have h43_ : v83 = (Pt b12 0) := hF.1
        clear hF
        refine doesG_un rfl ?_
        obtain rfl := h43_
        refine (does_load (u := (.slice p5 A_m.places.length q6)) (ev rfl) Try.isAgg27 (Cells.at (Blk.cells (((((hB14.ext E21).ext E33).kl E46 (ninS (Nat.ne_of_lt n38) nin0)).ext E66).ext (KpL.toExt hu))) 0 rfl)).mono ?_; rintro _ _ ⟨rfl, rfl⟩
        exact ⟨rfl, KpL.refl _ _⟩
      refine RW4_d _ rfl rfl (fun v => by dsimp only [List.set]; try rfl) (fun u hu hF => ?_) (fun v85 => ?_)
      · replace hu : KpL [] _ _ := hu
        clear hF
        refine doesG_un rfl ?_
        refine (does_move (u := (.slice p61 el1.length q62)) (ev rfl)).mono ?_; rintro _ _ ⟨rfl, rfl⟩
        exact ⟨rfl, KpL.refl _ _⟩
      refine RW4_d _ rfl rfl (fun v => by dsimp only [List.set]; try rfl) (fun u hu hF => ?_) (fun v86 => ?_)
      · replace hu : KpL [] _ _ := hu
        have h45_ : v85 = (.slice p61 el1.length q62) := hF.1
        clear hF
        refine doesG_un rfl ?_
        obtain rfl := h45_
        refine (does_indexSl0 (R := RI) (i := 2) (xs := el1) (e := el6) Try.underlying44 Try.sizeOf2 (ev rfl) (ev rfl) hs63 (by omega) hel6).mono ?_; rintro v u' ⟨b, of, cs, hv, hc, hR, hu'⟩; subst hu'
        exact ⟨⟨b, of, cs, hv, hc, hR⟩, KpL.refl _ _⟩
      refine RW4_d _ rfl rfl (fun v => by dsimp only [List.set]; try rfl) (fun u hu hF => ?_) (fun v87 => ?_)
      · replace hu : KpL [] _ _ := hu
        have h46_ : PtrR RI w v86 el6 := hF.1
        clear hF
        refine doesG_un rfl ?_
        obtain ⟨b46_, o46_, _, rfl, hc46_, rfl⟩ := h46_
        refine (does_load (u := (Iv el6)) (ev rfl) Try.isAgg2 (Cells.at (hc46_.ext (Ext.gr (Ext.gr X48 E66) (KpL.toExt hu))) 0 rfl)).mono ?_; rintro _ _ ⟨rfl, rfl⟩
        exact ⟨rfl, KpL.refl _ _⟩
      refine RW4_d _ rfl rfl (fun v => by dsimp only [List.set]; try rfl) (fun u hu hF => ?_) (fun v88 => ?_)
      · replace hu : KpL [] _ _ := hu
        have h44_ : v84 = (.slice p5 A_m.places.length q6) := hF.1
        have h47_ : v87 = (Iv el6) := hF.2.1
        clear hF
        refine doesG_un rfl ?_
        obtain rfl := h44_
        obtain rfl := h47_
        refine (does_indexSl0 (R := RV3) (i := el6) (xs := A_m.places) (e := el7) Try.underlying27 Try.sizeOf53 (ev rfl) (ev rfl) hs7 (by omega) hel7).mono ?_; rintro v u' ⟨b, of, cs, hv, hc, hR, hu'⟩; subst hu'
        exact ⟨⟨b, of, cs, hv, hc, hR⟩, KpL.refl _ _⟩
      refine RW4_d _ rfl rfl (fun v => by dsimp only [List.set]; try rfl) (fun u hu hF => ?_) (fun v89 => ?_)
      · replace hu : KpL [] _ _ := hu
        have h48_ : PtrR RV3 w v88 el7 := hF.1
        clear hF
        refine doesG_un rfl ?_
        obtain ⟨b48_, o48_, _, rfl, hc48_, ⟨r48_1, r48_3, r48_5, rfl, h48_2, h48_4, h48_6⟩⟩ := h48_
        refine (does_loadAgg (cs := [(Fl r48_1), (Fl r48_3), (Fl r48_5)]) (ev rfl) Try.isAgg53 Try.sizeOf53 (hc48_.ext (Ext.gr (Ext.gr X48 E66) (KpL.toExt hu))) rfl).mono ?_; rintro _ _ ⟨rfl, rfl⟩
        exact ⟨⟨[(Fl r48_1), (Fl r48_3), (Fl r48_5)], rfl, ⟨r48_1, r48_3, r48_5, rfl, (by first | assumption | rfl), (by first | assumption | rfl), (by first | assumption | rfl)⟩⟩, KpL.refl _ _⟩
      refine RW4_b _ rfl rfl (fun v => by dsimp only [List.set]; try rfl) (fun u hu hF => ?_) (fun v90 => ?_)
      · replace hu : KpL [] _ _ := hu
        clear hF
        refine doesG_un rfl ?_
        refine (does_alloc z53).mono ?_; rintro _ _ ⟨b, rfl, hb, hB, hx⟩
        exact ⟨⟨b, rfl, Nat.le_trans (Nat.le_trans (Below.size E66) (KpL.size hu)) hb, hB⟩, (KpL.of_ext hx), ⟨b, rfl, hb, hB.lt⟩⟩
      refine RW4_b _ rfl rfl (fun v => by dsimp only [List.set]; try rfl) (fun u hu hF => ?_) (fun v91 => ?_)
      · replace hu : KpL [] _ _ := hu
        clear hF
        refine doesG_un rfl ?_
        refine (does_alloc z53).mono ?_; rintro _ _ ⟨b, rfl, hb, hB, hx⟩
        exact ⟨⟨b, rfl, Nat.le_trans (Nat.le_trans (Below.size E66) (KpL.size hu)) hb, hB⟩, (KpL.of_ext hx), ⟨b, rfl, hb, hB.lt⟩⟩
      refine RW4_b _ rfl rfl (fun v => by dsimp only [List.set]; try rfl) (fun u hu hF => ?_) (fun v92 => ?_)
      · replace hu : KpL [] _ _ := hu
        clear hF
        refine doesG_un rfl ?_
        refine (does_alloc z53).mono ?_; rintro _ _ ⟨b, rfl, hb, hB, hx⟩
        exact ⟨⟨b, rfl, Nat.le_trans (Nat.le_trans (Below.size E66) (KpL.size hu)) hb, hB⟩, (KpL.of_ext hx), ⟨b, rfl, hb, hB.lt⟩⟩
      refine RW4_i v90 rfl rfl rfl rfl (fun u hu hF => ?_) (fun v93 => ?_)
      · replace hu : KpL [] _ _ := hu
        have h7_ : ∃ b : Nat, v90 = .pointer (some ⟨b, 0, none⟩) ∧ w45.heap.size ≤ b ∧ Blk u b [(Fl 0), (Fl 0), (Fl 0)] := hF.1
        have h35_ : ∃ cs_1 : List Value, v75 = (.agg cs_1.toArray) ∧ RV3 w el3 cs_1 := hF.2.1
        clear hF
        refine doesG_un rfl ?_
        obtain ⟨b7_, rfl, hb7_, hB7_⟩ := h7_
        obtain ⟨_, rfl, ⟨r35_1, r35_3, r35_5, rfl, h35_2, h35_4, h35_6⟩⟩ := h35_
        refine (does_store (n := 3) (cs := [(Fl 0), (Fl 0), (Fl 0)]) (u := (.agg #[(Fl r35_1), (Fl r35_3), (Fl r35_5)])) (ev rfl) (ev rfl) Try.sizeOf53 rfl hB7_ (Nat.le_of_ble_eq_true rfl) rfl).mono ?_; rintro _ _ ⟨rfl, hW, hB⟩
        exact ⟨⟨rfl, _, r35_1, r35_3, r35_5, rfl, hb7_, hB, (by simp only [h35_2, h35_4, h35_6]), (by simp only [h35_2, h35_4, h35_6]), (by simp only [h35_2, h35_4, h35_6])⟩, _, rfl, hb7_, KpL.of_wr hW⟩
      refine RW4_i v91 rfl rfl rfl rfl (fun u hu hF => ?_) (fun v94 => ?_)
      · replace hu : KpL [] _ _ := hu
        have h8_ : ∃ b : Nat, v91 = .pointer (some ⟨b, 0, none⟩) ∧ w45.heap.size ≤ b ∧ Blk u b [(Fl 0), (Fl 0), (Fl 0)] := hF.1
        have h42_ : ∃ cs_1 : List Value, v82 = (.agg cs_1.toArray) ∧ RV3 w el5 cs_1 := hF.2.1
        clear hF
        refine doesG_un rfl ?_
        obtain ⟨b8_, rfl, hb8_, hB8_⟩ := h8_
        obtain ⟨_, rfl, ⟨r42_1, r42_3, r42_5, rfl, h42_2, h42_4, h42_6⟩⟩ := h42_
        refine (does_store (n := 3) (cs := [(Fl 0), (Fl 0), (Fl 0)]) (u := (.agg #[(Fl r42_1), (Fl r42_3), (Fl r42_5)])) (ev rfl) (ev rfl) Try.sizeOf53 rfl hB8_ (Nat.le_of_ble_eq_true rfl) rfl).mono ?_; rintro _ _ ⟨rfl, hW, hB⟩
        exact ⟨⟨rfl, _, r42_1, r42_3, r42_5, rfl, hb8_, hB, (by simp only [h42_2, h42_4, h42_6]), (by simp only [h42_2, h42_4, h42_6]), (by simp only [h42_2, h42_4, h42_6])⟩, _, rfl, hb8_, KpL.of_wr hW⟩
      refine RW4_fin ?_; intro w95 E96 hP97 hND; replace E96 : KpL [] _ _ := E96
      obtain ⟨⟨⟨⟨⟨⟨⟨⟨⟨⟨⟨⟨⟨⟨⟨⟨⟨⟨⟨⟨⟨⟨⟨⟨⟨⟨-, -⟩, -⟩, -⟩, -⟩, -⟩, -⟩, -⟩, -⟩, -⟩, -⟩, -⟩, -⟩, -⟩, -⟩, -⟩, -⟩, -⟩, -⟩, -⟩, -⟩, q98⟩, -⟩, -⟩, q99⟩, q100⟩, q101⟩ := hP97
      have X102 := Below.kl X68 E96 all0 (Nat.le_refl _)
      obtain ⟨_, b103, r107, r108, r109, hv104, hb105, hB106, h110, h111, h112⟩ := q100 rfl; subst hv104
      have n113 : b12 < b103 := Nat.lt_of_lt_of_le (Blk.lt (((hB14.ext E21).ext E33).kl E46 (ninS (Nat.ne_of_lt n38) nin0))) hb105
      have n114 : b30 < b103 := Nat.lt_of_lt_of_le (RowG.lt hR49) hb105
      have n115 : b55 < b103 := Nat.lt_of_lt_of_le (cell_lt (Cells.at (hc58.ext X48) 0 rfl)) hb105
      have g116 : w.heap.size ≤ b103 := Nat.le_trans (Below.size X48) hb105
      obtain ⟨_, b117, r121, r122, r123, hv118, hb119, hB120, h124, h125, h126⟩ := q101 rfl; subst hv118
      have n127 : b12 < b117 := Nat.lt_of_lt_of_le (Blk.lt (((hB14.ext E21).ext E33).kl E46 (ninS (Nat.ne_of_lt n38) nin0))) hb119
      have n128 : b30 < b117 := Nat.lt_of_lt_of_le (RowG.lt hR49) hb119
      have n129 : b55 < b117 := Nat.lt_of_lt_of_le (cell_lt (Cells.at (hc58.ext X48) 0 rfl)) hb119
      have g130 : w.heap.size ≤ b117 := Nat.le_trans (Below.size X48) hb119
      have q98 : ∃ cs_1 : List Value, v89 = (.agg cs_1.toArray) ∧ RV3 w el7 cs_1 := q98 rfl
      obtain ⟨_, rfl, ⟨r131, r133, r135, rfl, h132, h134, h136⟩⟩ := q98
      have q99 : ∃ b : Nat, v92 = .pointer (some ⟨b, 0, none⟩) ∧ w45.heap.size ≤ b ∧ Blk w95 b [(Fl 0), (Fl 0), (Fl 0)] := q99 rfl
      obtain ⟨b137, rfl, hb138, hB139⟩ := q99
      have n140 : b12 < b137 := Nat.lt_of_lt_of_le (Blk.lt (((hB14.ext E21).ext E33).kl E46 (ninS (Nat.ne_of_lt n38) nin0))) hb138
      have n141 : b30 < b137 := Nat.lt_of_lt_of_le (RowG.lt hR49) hb138
      have n142 : b55 < b137 := Nat.lt_of_lt_of_le (cell_lt (Cells.at (hc58.ext X48) 0 rfl)) hb138
      have g143 : w.heap.size ≤ b137 := Nat.le_trans (Below.size X48) hb138
      have n144 : b117 ≠ b103 := by intro h; subst h; simp at hND
      have n145 : b137 ≠ b103 := by intro h; subst h; simp at hND
      have n146 : b137 ≠ b117 := by intro h; subst h; simp at hND
      clear hND
      show wpList _ _ _ _ (fr [_, _, _, _, _, _, _, _, _, _, _, _, _, _, _, _, _, _, _, _, _, _, _, _, _, _, _, _, _, _, _, _, _, _, _, _, _, _, _, _, _, _, _, _, _, _, _, _, _, _, _, _, _, _, _, _, _, _, _, _, _, _, _, _, _, _, _, _, _, _, _, _, _, _, _, _, _, _, _, _, _, _, _, _, _, _, _, _]) _
      refine seqn rfl rfl (does_store (n := 3) (cs := [(Fl 0), (Fl 0), (Fl 0)]) (u := (.agg #[(Fl r131), (Fl r133), (Fl r135)])) (ev rfl) (ev rfl) Try.sizeOf53 rfl hB139 (Nat.le_of_ble_eq_true rfl) rfl) ?_; rintro _ w149 ⟨rfl, W147, hB148⟩
      change Blk _ _ [(Fl r131), (Fl r133), (Fl r135)] at hB148
      have X150 := Below.wr X102 W147 g143
      refine wpList_nil (hK64 _ _ ?_)
      refine wp_seq_k fun K151 hK151 => ?_
      refine region_draw (
        [Fact.pure [] (fun v => v = (.agg #[(Fl r121), (Fl r122), (Fl r123)])),
    Fact.pure [] (fun v => v = (.agg #[(Fl r107), (Fl r108), (Fl r109)])),
    Fact.pure [50, 51] (fun v => ∃ cs_1 : List Value, v = (.agg cs_1.toArray) ∧ RV3 w (vsub el5 el3) cs_1),
    Fact.pure [] (fun v => v = (.agg #[(Fl r131), (Fl r133), (Fl r135)])),
    Fact.pure [] (fun v => v = (.agg #[(Fl r107), (Fl r108), (Fl r109)])),
    Fact.pure [53, 54] (fun v => ∃ cs_1 : List Value, v = (.agg cs_1.toArray) ∧ RV3 w (vsub el7 el3) cs_1),
    Fact.pure [52, 55] (fun v => ∃ cs_1 : List Value, v = (.agg cs_1.toArray) ∧ RV3 w (crossF (vsub el5 el3) (vsub el7 el3)) cs_1),
    Fact.mem [] (fun v w' => ∃ b : Nat, v = .pointer (some ⟨b, 0, none⟩) ∧ w149.heap.size ≤ b ∧ Blk w' b [(Fl 0), (Fl 0), (Fl 0)]) (by rintro v w1 w2 hx ⟨b, rfl, hb, hB⟩; exact ⟨b, rfl, hb, (hB.ext hx)⟩)]) mixed (by kernel_rfl) (by intro _ _ d _ _ h; cases d <;> exact h) ?_
      obtain ⟨w152, hw154⟩ : ∃ w', w' = World.drew w149 := ⟨_, rfl⟩; rw [← hw154]; have E153 : Ext w149 w152 := by rw [hw154]; exact Ext.draw _
      clear hw154
      have X155 := Ext.gr X150 E153
      refine RW_d _ rfl (fun v => by dsimp only [List.set]; try rfl) (fun u hu hF => ?_) (fun v156 => ?_)
      · clear hF
        refine doesG_un rfl ?_
        refine (does_loadAgg (cs := [(Fl r121), (Fl r122), (Fl r123)]) (ev rfl) Try.isAgg53 Try.sizeOf53 (Blk.cells (((hB120.wr W147 (Ne.symm n146)).ext E153).ext hu)) rfl).mono ?_; rintro _ _ ⟨rfl, rfl⟩
        exact ⟨rfl, Ext.refl _⟩
      refine RW_d _ rfl (fun v => by dsimp only [List.set]; try rfl) (fun u hu hF => ?_) (fun v157 => ?_)
      · clear hF
        refine doesG_un rfl ?_
        refine (does_loadAgg (cs := [(Fl r107), (Fl r108), (Fl r109)]) (ev rfl) Try.isAgg53 Try.sizeOf53 (Blk.cells (((hB106.wr W147 (Ne.symm n145)).ext E153).ext hu)) rfl).mono ?_; rintro _ _ ⟨rfl, rfl⟩
        exact ⟨rfl, Ext.refl _⟩
      refine RW_d _ rfl (fun v => by dsimp only [List.set]; try rfl) (fun u hu hF => ?_) (fun v158 => ?_)
      · have h50_ : v156 = (.agg #[(Fl r121), (Fl r122), (Fl r123)]) := hF.1
        have h51_ : v157 = (.agg #[(Fl r107), (Fl r108), (Fl r109)]) := hF.2.1
        clear hF
        refine doesG_un rfl ?_
        obtain rfl := h50_
        obtain rfl := h51_
        refine (does_call (args := #[(.agg #[(Fl r121), (Fl r122), (Fl r123)]), (.agg #[(Fl r107), (Fl r108), (Fl r109)])]) cal33 (evs rfl) (c_impl_LessVectors [(Fl r121), (Fl r122), (Fl r123)] el5 [(Fl r107), (Fl r108), (Fl r109)] el3 _ ⟨r121, r122, r123, rfl, h124, h125, h126⟩ ⟨r107, r108, r109, rfl, h110, h111, h112⟩)).mono ?_; rintro v u' ⟨hx, ⟨csn1, hv, k0⟩⟩
        exact ⟨⟨csn1, hv, k0⟩, hx⟩
      refine RW_d _ rfl (fun v => by dsimp only [List.set]; try rfl) (fun u hu hF => ?_) (fun v159 => ?_)
      · clear hF
        refine doesG_un rfl ?_
        refine (does_loadAgg (cs := [(Fl r131), (Fl r133), (Fl r135)]) (ev rfl) Try.isAgg53 Try.sizeOf53 (Blk.cells ((hB148.ext E153).ext hu)) rfl).mono ?_; rintro _ _ ⟨rfl, rfl⟩
        exact ⟨rfl, Ext.refl _⟩
      refine RW_d _ rfl (fun v => by dsimp only [List.set]; try rfl) (fun u hu hF => ?_) (fun v160 => ?_)
      · clear hF
        refine doesG_un rfl ?_
        refine (does_loadAgg (cs := [(Fl r107), (Fl r108), (Fl r109)]) (ev rfl) Try.isAgg53 Try.sizeOf53 (Blk.cells (((hB106.wr W147 (Ne.symm n145)).ext E153).ext hu)) rfl).mono ?_; rintro _ _ ⟨rfl, rfl⟩
        exact ⟨rfl, Ext.refl _⟩
      refine RW_d _ rfl (fun v => by dsimp only [List.set]; try rfl) (fun u hu hF => ?_) (fun v161 => ?_)
      · have h53_ : v159 = (.agg #[(Fl r131), (Fl r133), (Fl r135)]) := hF.1
        have h54_ : v160 = (.agg #[(Fl r107), (Fl r108), (Fl r109)]) := hF.2.1
        clear hF
        refine doesG_un rfl ?_
        obtain rfl := h53_
        obtain rfl := h54_
        refine (does_call (args := #[(.agg #[(Fl r131), (Fl r133), (Fl r135)]), (.agg #[(Fl r107), (Fl r108), (Fl r109)])]) cal33 (evs rfl) (c_impl_LessVectors [(Fl r131), (Fl r133), (Fl r135)] el7 [(Fl r107), (Fl r108), (Fl r109)] el3 _ ⟨r131, r133, r135, rfl, h132, h134, h136⟩ ⟨r107, r108, r109, rfl, h110, h111, h112⟩)).mono ?_; rintro v u' ⟨hx, ⟨csn1, hv, k0⟩⟩
        exact ⟨⟨csn1, hv, k0⟩, hx⟩
      refine RW_d _ rfl (fun v => by dsimp only [List.set]; try rfl) (fun u hu hF => ?_) (fun v162 => ?_)
      · have h52_ : ∃ cs_1 : List Value, v158 = (.agg cs_1.toArray) ∧ RV3 w (vsub el5 el3) cs_1 := hF.1
        have h55_ : ∃ cs_1 : List Value, v161 = (.agg cs_1.toArray) ∧ RV3 w (vsub el7 el3) cs_1 := hF.2.1
        clear hF
        refine doesG_un rfl ?_
        obtain ⟨_, rfl, ⟨r52_1, r52_3, r52_5, rfl, h52_2, h52_4, h52_6⟩⟩ := h52_
        obtain ⟨_, rfl, ⟨r55_1, r55_3, r55_5, rfl, h55_2, h55_4, h55_6⟩⟩ := h55_
        refine (does_call (args := #[(.agg #[(Fl r52_1), (Fl r52_3), (Fl r52_5)]), (.agg #[(Fl r55_1), (Fl r55_3), (Fl r55_5)])]) cal32 (evs rfl) (c_impl_CrossOf [(Fl r52_1), (Fl r52_3), (Fl r52_5)] (vsub el5 el3) [(Fl r55_1), (Fl r55_3), (Fl r55_5)] (vsub el7 el3) _ ⟨r52_1, r52_3, r52_5, rfl, (by assumption), (by assumption), (by assumption)⟩ ⟨r55_1, r55_3, r55_5, rfl, (by assumption), (by assumption), (by assumption)⟩)).mono ?_; rintro v u' ⟨hx, ⟨csn1, hv, k0⟩⟩
        exact ⟨⟨csn1, hv.trans (by simp only [h52_2, h52_4, h52_6, h55_2, h55_4, h55_6]), (by first | exact k0 | simpa only [h52_2, h52_4, h52_6, h55_2, h55_4, h55_6] using RV3.any (w := w) k0)⟩, hx⟩
      refine RW_d _ rfl (fun v => by dsimp only [List.set]; try rfl) (fun u hu hF => ?_) (fun v163 => ?_)
      · clear hF
        refine doesG_un rfl ?_
        refine (does_alloc z53).mono ?_; rintro _ _ ⟨b, rfl, hb, hB, hx⟩
        exact ⟨⟨b, rfl, Nat.le_trans (Nat.le_trans (Below.size E153) (Below.size hu)) hb, hB⟩, hx⟩
      refine RW_fin ?_; intro w164 E165 hP166
      obtain ⟨⟨⟨⟨⟨⟨⟨⟨-, -⟩, -⟩, -⟩, -⟩, -⟩, -⟩, q167⟩, q168⟩ := hP166
      have X169 := Ext.gr X155 E165
      have q167 : ∃ cs_1 : List Value, v162 = (.agg cs_1.toArray) ∧ RV3 w (crossF (vsub el5 el3) (vsub el7 el3)) cs_1 := q167
      obtain ⟨_, rfl, ⟨r170, r172, r174, rfl, h171, h173, h175⟩⟩ := q167
      have q168 : ∃ b : Nat, v163 = .pointer (some ⟨b, 0, none⟩) ∧ w149.heap.size ≤ b ∧ Blk w164 b [(Fl 0), (Fl 0), (Fl 0)] := q168
      obtain ⟨b176, rfl, hb177, hB178⟩ := q168
      have n179 : b12 < b176 := Nat.lt_of_lt_of_le (Blk.lt ((((((hB14.ext E21).ext E33).kl E46 (ninS (Nat.ne_of_lt n38) nin0)).ext E66).kl E96 nin0).wr W147 (Nat.ne_of_lt n140))) hb177
      have n180 : b30 < b176 := Nat.lt_of_lt_of_le (RowG.lt (RowG.kl (RowG.kl (RowG.ext hR49 RV3.flat E66) RV3.flat E96 nin0) RV3.flat (KpL.of_wr W147) (ninS (Nat.ne_of_lt n141) nin0))) hb177
      have n181 : b55 < b176 := Nat.lt_of_lt_of_le (cell_lt (Cells.at (hc58.ext X150) 0 rfl)) hb177
      have n182 : b103 < b176 := Nat.lt_of_lt_of_le (Blk.lt (hB106.wr W147 (Ne.symm n145))) hb177
      have n183 : b117 < b176 := Nat.lt_of_lt_of_le (Blk.lt (hB120.wr W147 (Ne.symm n146))) hb177
      have n184 : b137 < b176 := Nat.lt_of_lt_of_le (Blk.lt hB148) hb177
      have g185 : w.heap.size ≤ b176 := Nat.le_trans (Below.size X150) hb177
      show wpList _ _ _ _ (fr [_, _, _, _, _, _, _, _, _, _, _, _, _, _, _, _, _, _, _, _, _, _, _, _, _, _, _, _, _, _, _, _, _, _, _, _, _, _, _, _, _, _, _, _, _, _, _, _, _, _, _, _, _, _, _, _, _, _, _, _, _, _, _, _, _, _, _, _, _, _, _, _, _, _, _, _, _, _, _, _, _, _, _, _, _, _, _, _]) _
      refine seqn rfl rfl (does_store (n := 3) (cs := [(Fl 0), (Fl 0), (Fl 0)]) (u := (.agg #[(Fl r170), (Fl r172), (Fl r174)])) (ev rfl) (ev rfl) Try.sizeOf53 rfl hB178 (Nat.le_of_ble_eq_true rfl) rfl) ?_; rintro _ w188 ⟨rfl, W186, hB187⟩
      change Blk _ _ [(Fl r170), (Fl r172), (Fl r174)] at hB187
      have X189 := Below.wr X169 W186 g185
      refine wpList_nil (hK151 _ _ ?_)
      refine wp_seq_k fun K190 hK190 => ?_
      refine wp_region_lit ?_
      refine q_is rfl rfl (does_move (u := (.slice p61 el1.length q62)) (ev rfl)) (by dsimp only [List.set]; try rfl) ?_
      refine q_is rfl rfl (does_len_slice Try.underlying44 (ev rfl)) (by dsimp only [List.set]; try rfl) ?_
      refine q_is rfl rfl (does_move (u := (Iv 0)) (ev rfl)) (by dsimp only [List.set]; try rfl) ?_
      refine wpList_nil (hK190 _ _ ?_)
      refine wp_block ?_
      refine loop_ghost (σ := Nat) (fun q a w' => ∃ u191 : Nat → Value, a = fr [(.agg #[(.slice p5 A_m.places.length q6), (.slice p8 A_m.tris.length q9)]), (Pt b12 0), (.slice none 0 0), (Bo false), (.slice (some ⟨b30, 0, none⟩) A_m.places.length A_m.places.length), Ud, (.slice p61 el1.length q62), (Pt b103 0), (Pt b117 0), (Pt b137 0), (Pt b176 0), Ud, (u191 12), Ud, Ud, (.agg #[(.slice p5 A_m.places.length q6), (.slice p8 A_m.tris.length q9)]), (Bo (meshOk A_m)), (Bo (!(meshOk A_m))), (Pt b12 0), (.slice p5 A_m.places.length q6), (Iv (A_m.places.length : Int)), (.slice (some ⟨b30, 0, none⟩) A_m.places.length A_m.places.length), (Pt b12 1), (.slice p8 A_m.tris.length q9), (Iv (A_m.tris.length : Int)), (Iv (k : Int)), (Bo (icmp .lss (k : Int) (A_m.tris.length : Int))), (Pt b55 o56), (.slice p61 el1.length q62), v69, v70, v71, v72, v73, v74, v75, v76, v77, v78, v79, v80, v81, v82, v83, v84, v85, v86, v87, v88, (.agg #[(Fl r131), (Fl r133), (Fl r135)]), v156, v157, v158, v159, v160, v161, (.agg #[(Fl r170), (Fl r172), (Fl r174)]), (.slice p61 el1.length q62), (Iv (el1.length : Int)), (Iv (q : Int)), (u191 60), (u191 61), (u191 62), (u191 63), (u191 64), (u191 65), (u191 66), (u191 67), (u191 68), (u191 69), (u191 70), (u191 71), (u191 72), (u44 73), Ud, Ud, Ud, Ud, Ud, Ud, Ud, Ud, Ud, Ud, Ud, Ud, Ud, Ud] ∧ KpL [b30] w188 w' ∧ RowG RV3 3 w' b30 ((el1.take q).foldl (addI (nrmN A_m.places el1)) (nrmTo A_m k)) ∧ (q ≤ el1.length)) (fun q => el1.length - q) 0 ?_ ?_
      · refine ⟨fun t => (([(.agg #[(.slice p5 A_m.places.length q6), (.slice p8 A_m.tris.length q9)]), (Pt b12 0), (.slice none 0 0), (Bo false), (.slice (some ⟨b30, 0, none⟩) A_m.places.length A_m.places.length), Ud, (.slice p61 el1.length q62), (Pt b103 0), (Pt b117 0), (Pt b137 0), (Pt b176 0), Ud, (u44 12), Ud, Ud, (.agg #[(.slice p5 A_m.places.length q6), (.slice p8 A_m.tris.length q9)]), (Bo (meshOk A_m)), (Bo (!(meshOk A_m))), (Pt b12 0), (.slice p5 A_m.places.length q6), (Iv (A_m.places.length : Int)), (.slice (some ⟨b30, 0, none⟩) A_m.places.length A_m.places.length), (Pt b12 1), (.slice p8 A_m.tris.length q9), (Iv (A_m.tris.length : Int)), (Iv (k : Int)), (Bo (icmp .lss (k : Int) (A_m.tris.length : Int))), (Pt b55 o56), (.slice p61 el1.length q62), v69, v70, v71, v72, v73, v74, v75, v76, v77, v78, v79, v80, v81, v82, v83, v84, v85, v86, v87, v88, (.agg #[(Fl r131), (Fl r133), (Fl r135)]), v156, v157, v158, v159, v160, v161, (.agg #[(Fl r170), (Fl r172), (Fl r174)]), (.slice p61 el1.length q62), (Iv (el1.length : Int)), (Iv 0), (u44 60), (u44 61), (u44 62), (u44 63), (u44 64), (u44 65), (u44 66), (u44 67), (u44 68), (u44 69), (u44 70), (u44 71), (u44 72), (u44 73), Ud, Ud, Ud, Ud, Ud, Ud, Ud, Ud, Ud, Ud, Ud, Ud, Ud, Ud] : List Value)[t]?).getD undef, rfl, KpL.refl _ _, (RowG.cast (RowG.kl (RowG.ext (RowG.ext (RowG.kl (RowG.kl (RowG.ext hR49 RV3.flat E66) RV3.flat E96 nin0) RV3.flat (KpL.of_wr W147) (ninS (Nat.ne_of_lt n141) nin0)) RV3.flat E153) RV3.flat E165) RV3.flat (KpL.of_wr W186) (ninS (Nat.ne_of_lt n180) nin0)) (by (try dsimp only); rfl)), ?_⟩
        exact Nat.zero_le _
      · rintro q a w192 ⟨u191, rfl, E193, hRg0, hq⟩
        have X195 := Below.kl X189 E193 (allS g39 all0) (Nat.le_refl _)
        have hR196 := hRg0; clear hRg0
        refine wp_seq_k fun K197 hK197 => ?_
        refine wp_region_lit ?_
        refine q_is rfl rfl (does_icmp (p := (q : Int)) (q := (el1.length : Int)) (.inr (.inr (.inl rfl))) (ev rfl) (ev rfl)) (by dsimp only [List.set]; try rfl) ?_
        refine wpList_nil (hK197 _ _ ?_)
        refine wp_seq_k fun K198 hK198 => ?_
        refine wp_cond_split (t := icmp .lss (q : Int) (el1.length : Int)) (ev rfl) (fun c199 => ?_) (fun c199 => ?_)
        · have c199' := c199
          (try simp only [icmp, Bool.and_eq_true, Bool.or_eq_true, Bool.and_eq_false_iff, Bool.or_eq_false_iff, Bool.not_eq_true', Bool.not_eq_false', decide_eq_true_eq, decide_eq_false_iff_not, beq_iff_eq, bne_iff_ne, beq_eq_false_iff_ne, bne_eq_false_iff_eq] at c199')
          refine wp_skip (hK198 _ _ ?_)
          refine wp_seq_k fun K200 hK200 => ?_
          refine wp_block ?_
          refine wp_seq_k fun K201 hK201 => ?_
          refine wp_region_lit ?_
          obtain ⟨el8, hel8⟩ : ∃ e, el1[q]? = some e := ⟨_, List.getElem?_eq_getElem (by omega)⟩
          refine seqd rfl rfl (does_indexSl0 (R := RI) (i := (q : Int)) (xs := el1) (e := el8) Try.underlying44 Try.sizeOf2 (ev rfl) (ev rfl) hs63 (by omega) hel8) ?_; rintro _ w192 ⟨b202, o203, _, rfl, hc205, rfl, rfl⟩
          show wpList _ _ _ _ (fr [_, _, _, _, _, _, _, _, _, _, _, _, _, _, _, _, _, _, _, _, _, _, _, _, _, _, _, _, _, _, _, _, _, _, _, _, _, _, _, _, _, _, _, _, _, _, _, _, _, _, _, _, _, _, _, _, _, _, _, _, _, _, _, _, _, _, _, _, _, _, _, _, _, _, _, _, _, _, _, _, _, _, _, _, _, _, _, _]) _
          refine q_is rfl rfl (does_load (u := (Iv el8)) (ev rfl) Try.isAgg2 (Cells.at (hc205.ext X195) 0 rfl)) (by dsimp only [List.set]; try rfl) ?_
          refine q_is rfl rfl (does_assign (u := (Iv el8)) (ev rfl)) (by dsimp only [List.set]; try rfl) ?_
          refine wpList_nil (hK201 _ _ ?_)
          have hb8 := htr.2 _ (List.mem_of_getElem? hel8)
          obtain ⟨el9, hel9⟩ : ∃ e, ((el1.take q).foldl (addI (nrmN A_m.places el1)) (nrmTo A_m k))[el8.toNat]? = some e := ⟨_, List.getElem?_eq_getElem (by first | assumption | omega | (simp only [foldA_len, nrmTo_len, unTo_len, List.length_set, List.length_replicate]; omega) | (simp only [foldA_len, nrmTo_len, unTo_len, List.length_set, List.length_replicate]; done))⟩
          refine region_draw (
            [Fact.pure [] (fun v => v = (.slice (some ⟨b30, 0, none⟩) A_m.places.length A_m.places.length)),
    Fact.pure [] (fun v => v = (Iv el8)),
    Fact.pure [] (fun v => v = (.slice (some ⟨b30, 0, none⟩) A_m.places.length A_m.places.length)),
    Fact.pure [] (fun v => v = (Iv el8)),
    Fact.pure [65, 66] (fun v => v = (Pt b30 (el8.toNat * 3))),
    Fact.pure [67] (fun v => ∃ cs_1 : List Value, v = (.agg cs_1.toArray) ∧ RV3 w el9 cs_1),
    Fact.pure [] (fun v => v = (.agg #[(Fl r170), (Fl r172), (Fl r174)])),
    Fact.pure [68, 69] (fun v => ∃ cs_1 : List Value, v = (.agg cs_1.toArray) ∧ RV3 w (vadd el9 (crossF (vsub el5 el3) (vsub el7 el3))) cs_1),
    Fact.pure [63, 64] (fun v => v = (Pt b30 (el8.toNat * 3)))]) mixed (by kernel_rfl) (by intro _ _ d _ _ h; cases d <;> exact h) ?_
          obtain ⟨w206, hw208⟩ : ∃ w', w' = World.drew w192 := ⟨_, rfl⟩; rw [← hw208]; have E207 : Ext w192 w206 := by rw [hw208]; exact Ext.draw _
          clear hw208
          have X209 := Ext.gr X195 E207
          refine RW_d _ rfl (fun v => by dsimp only [List.set]; try rfl) (fun u hu hF => ?_) (fun v210 => ?_)
          · clear hF
            refine doesG_un rfl ?_
            refine (does_move (u := (.slice (some ⟨b30, 0, none⟩) A_m.places.length A_m.places.length)) (ev rfl)).mono ?_; rintro _ _ ⟨rfl, rfl⟩
            exact ⟨rfl, Ext.refl _⟩
          refine RW_d _ rfl (fun v => by dsimp only [List.set]; try rfl) (fun u hu hF => ?_) (fun v211 => ?_)
          · clear hF
            refine doesG_un rfl ?_
            refine (does_move (u := (Iv el8)) (ev rfl)).mono ?_; rintro _ _ ⟨rfl, rfl⟩
            exact ⟨rfl, Ext.refl _⟩
          refine RW_d _ rfl (fun v => by dsimp only [List.set]; try rfl) (fun u hu hF => ?_) (fun v212 => ?_)
          · clear hF
            refine doesG_un rfl ?_
            refine (does_move (u := (.slice (some ⟨b30, 0, none⟩) A_m.places.length A_m.places.length)) (ev rfl)).mono ?_; rintro _ _ ⟨rfl, rfl⟩
            exact ⟨rfl, Ext.refl _⟩
          refine RW_d _ rfl (fun v => by dsimp only [List.set]; try rfl) (fun u hu hF => ?_) (fun v213 => ?_)
          · clear hF
            refine doesG_un rfl ?_
            refine (does_move (u := (Iv el8)) (ev rfl)).mono ?_; rintro _ _ ⟨rfl, rfl⟩
            exact ⟨rfl, Ext.refl _⟩
          refine RW_d _ rfl (fun v => by dsimp only [List.set]; try rfl) (fun u hu hF => ?_) (fun v214 => ?_)
          · have h65_ : v212 = (.slice (some ⟨b30, 0, none⟩) A_m.places.length A_m.places.length) := hF.1
            have h66_ : v213 = (Iv el8) := hF.2.1
            clear hF
            refine doesG_un rfl ?_
            obtain rfl := h65_
            obtain rfl := h66_
            refine (does_indexOwn (b := b30) (n := A_m.places.length) (i := el8) Try.underlying27 Try.sizeOf53 (ev rfl) (ev rfl) (by omega) (by omega)).mono ?_; rintro _ _ ⟨rfl, rfl⟩
            exact ⟨rfl, Ext.refl _⟩
          refine RW_d _ rfl (fun v => by dsimp only [List.set]; try rfl) (fun u hu hF => ?_) (fun v215 => ?_)
          · have h67_ : v214 = (Pt b30 (el8.toNat * 3)) := hF.1
            clear hF
            refine doesG_un rfl ?_
            obtain rfl := h67_
            refine (does_loadRowG (R := RV3) (k := 3) (xs := ((el1.take q).foldl (addI (nrmN A_m.places el1)) (nrmTo A_m k))) (i := el8.toNat) (e := el9) (ev rfl) Try.isAgg53 Try.sizeOf53 (RowG.ext (RowG.ext hR196 RV3.flat E207) RV3.flat hu) rfl hel9).mono ?_; rintro v u' ⟨hx, ⟨csn1, hv, k0⟩⟩
            exact ⟨⟨csn1, hv, k0⟩, hx⟩
          refine RW_d _ rfl (fun v => by dsimp only [List.set]; try rfl) (fun u hu hF => ?_) (fun v216 => ?_)
          · clear hF
            refine doesG_un rfl ?_
            refine (does_loadAgg (cs := [(Fl r170), (Fl r172), (Fl r174)]) (ev rfl) Try.isAgg53 Try.sizeOf53 (Blk.cells (((hB187.kl E193 (ninS (Nat.ne_of_gt n180) nin0)).ext E207).ext hu)) rfl).mono ?_; rintro _ _ ⟨rfl, rfl⟩
            exact ⟨rfl, Ext.refl _⟩
          refine RW_d _ rfl (fun v => by dsimp only [List.set]; try rfl) (fun u hu hF => ?_) (fun v217 => ?_)
          · have h68_ : ∃ cs_1 : List Value, v215 = (.agg cs_1.toArray) ∧ RV3 w el9 cs_1 := hF.1
            have h69_ : v216 = (.agg #[(Fl r170), (Fl r172), (Fl r174)]) := hF.2.1
            clear hF
            refine doesG_un rfl ?_
            obtain ⟨_, rfl, ⟨r68_1, r68_3, r68_5, rfl, h68_2, h68_4, h68_6⟩⟩ := h68_
            obtain rfl := h69_
            refine (does_call (args := #[(.agg #[(Fl r68_1), (Fl r68_3), (Fl r68_5)]), (.agg #[(Fl r170), (Fl r172), (Fl r174)])]) cal34 (evs rfl) (c_impl_AddVectors [(Fl r68_1), (Fl r68_3), (Fl r68_5)] el9 [(Fl r170), (Fl r172), (Fl r174)] (crossF (vsub el5 el3) (vsub el7 el3)) _ ⟨r68_1, r68_3, r68_5, rfl, (by assumption), (by assumption), (by assumption)⟩ ⟨r170, r172, r174, rfl, h171, h173, h175⟩)).mono ?_; rintro v u' ⟨hx, ⟨csn1, hv, k0⟩⟩
            exact ⟨⟨csn1, hv.trans (by simp only [h68_2, h68_4, h68_6]), (by first | exact k0 | simpa only [h68_2, h68_4, h68_6] using RV3.any (w := w) k0)⟩, hx⟩
          refine RW_d _ rfl (fun v => by dsimp only [List.set]; try rfl) (fun u hu hF => ?_) (fun v218 => ?_)
          · have h63_ : v210 = (.slice (some ⟨b30, 0, none⟩) A_m.places.length A_m.places.length) := hF.1
            have h64_ : v211 = (Iv el8) := hF.2.1
            clear hF
            refine doesG_un rfl ?_
            obtain rfl := h63_
            obtain rfl := h64_
            refine (does_indexOwn (b := b30) (n := A_m.places.length) (i := el8) Try.underlying27 Try.sizeOf53 (ev rfl) (ev rfl) (by omega) (by omega)).mono ?_; rintro _ _ ⟨rfl, rfl⟩
            exact ⟨rfl, Ext.refl _⟩
          refine RW_fin ?_; intro w219 E220 hP221
          obtain ⟨⟨⟨⟨⟨⟨⟨⟨⟨-, -⟩, -⟩, -⟩, -⟩, -⟩, -⟩, -⟩, q222⟩, q223⟩ := hP221
          have X224 := Ext.gr X209 E220
          have q222 : ∃ cs_1 : List Value, v217 = (.agg cs_1.toArray) ∧ RV3 w (vadd el9 (crossF (vsub el5 el3) (vsub el7 el3))) cs_1 := q222
          obtain ⟨_, rfl, ⟨r225, r227, r229, rfl, h226, h228, h230⟩⟩ := q222
          have q223 : v218 = (Pt b30 (el8.toNat * 3)) := q223
          obtain rfl := q223
          show wpList _ _ _ _ (fr [_, _, _, _, _, _, _, _, _, _, _, _, _, _, _, _, _, _, _, _, _, _, _, _, _, _, _, _, _, _, _, _, _, _, _, _, _, _, _, _, _, _, _, _, _, _, _, _, _, _, _, _, _, _, _, _, _, _, _, _, _, _, _, _, _, _, _, _, _, _, _, _, _, _, _, _, _, _, _, _, _, _, _, _, _, _, _, _]) _
          refine seqn rfl rfl (does_storeRowG (R := RV3) (k := 3) (xs := ((el1.take q).foldl (addI (nrmN A_m.places el1)) (nrmTo A_m k))) (i := el8.toNat) (u := (.agg #[(Fl r225), (Fl r227), (Fl r229)])) (e := (vadd el9 (crossF (vsub el5 el3) (vsub el7 el3)))) (ev rfl) (ev rfl) Try.sizeOf53 rfl rfl RV3.flat (RowG.ext (RowG.ext hR196 RV3.flat E207) RV3.flat E220) rfl (by first | assumption | omega | (simp only [foldA_len, nrmTo_len, unTo_len, List.length_set, List.length_replicate]; omega) | (simp only [foldA_len, nrmTo_len, unTo_len, List.length_set, List.length_replicate]; done)) ⟨r225, r227, r229, rfl, h226, h228, h230⟩) ?_; rintro _ w233 ⟨rfl, W231, hR232⟩
          have X234 := Below.wr X224 W231 g39
          refine wpList_nil (hK200 _ _ ?_)
          refine wp_region_lit ?_
          refine q_is rfl rfl (does_iarith (p := (q : Int)) (q := 1) (r := (q : Int) + 1) (ev rfl) (ev rfl) (.inl ⟨rfl, (in_i64 (by omega) (by omega)).symm⟩)) (by dsimp only [List.set]; try rfl) ?_
          refine q_is rfl rfl (does_move (u := (Iv ((q : Int) + 1))) (ev rfl)) (by dsimp only [List.set]; try rfl) ?_
          refine wpList_nil ?_
          have hR235 := RowG.cast (ys := ((fun (q : Nat) => (el1.take q).foldl (addI (nrmN A_m.places el1)) (nrmTo A_m k)) (q + 1))) hR232 (by (try dsimp only); rw [fold_take hel8]; exact addI_at hel9 (by simp only [nrmN, vAt, iAt, hel2, hel3, hel4, hel5, hel6, hel7, Option.getD_some]))
          refine ⟨q + 1, ⟨fun t => (([(.agg #[(.slice p5 A_m.places.length q6), (.slice p8 A_m.tris.length q9)]), (Pt b12 0), (.slice none 0 0), (Bo false), (.slice (some ⟨b30, 0, none⟩) A_m.places.length A_m.places.length), Ud, (.slice p61 el1.length q62), (Pt b103 0), (Pt b117 0), (Pt b137 0), (Pt b176 0), Ud, (Iv el8), Ud, Ud, (.agg #[(.slice p5 A_m.places.length q6), (.slice p8 A_m.tris.length q9)]), (Bo (meshOk A_m)), (Bo (!(meshOk A_m))), (Pt b12 0), (.slice p5 A_m.places.length q6), (Iv (A_m.places.length : Int)), (.slice (some ⟨b30, 0, none⟩) A_m.places.length A_m.places.length), (Pt b12 1), (.slice p8 A_m.tris.length q9), (Iv (A_m.tris.length : Int)), (Iv (k : Int)), (Bo (icmp .lss (k : Int) (A_m.tris.length : Int))), (Pt b55 o56), (.slice p61 el1.length q62), v69, v70, v71, v72, v73, v74, v75, v76, v77, v78, v79, v80, v81, v82, v83, v84, v85, v86, v87, v88, (.agg #[(Fl r131), (Fl r133), (Fl r135)]), v156, v157, v158, v159, v160, v161, (.agg #[(Fl r170), (Fl r172), (Fl r174)]), (.slice p61 el1.length q62), (Iv (el1.length : Int)), (Iv ((q : Int) + 1)), (Bo (icmp .lss (q : Int) (el1.length : Int))), (Pt b202 o203), (Iv el8), v210, v211, v212, v213, v214, v215, v216, (.agg #[(Fl r225), (Fl r227), (Fl r229)]), (Pt b30 (el8.toNat * 3)), (Iv ((q : Int) + 1)), (u44 73), Ud, Ud, Ud, Ud, Ud, Ud, Ud, Ud, Ud, Ud, Ud, Ud, Ud, Ud] : List Value)[t]?).getD undef, ?_, (KpL.more (KpL.ext (KpL.ext E193 E207) E220) (KpL.of_wr W231) (allS (.inl (by simp)) all0)), hR235, ?_⟩, ?_⟩
          · first | rfl | (simp only [Int.natCast_add, Int.natCast_one]; rfl)
          · (try dsimp only); omega
          · (try dsimp only); omega
        have c199' := c199
        (try simp only [icmp, Bool.and_eq_true, Bool.or_eq_true, Bool.and_eq_false_iff, Bool.or_eq_false_iff, Bool.not_eq_true', Bool.not_eq_false', decide_eq_true_eq, decide_eq_false_iff_not, beq_iff_eq, bne_iff_ne, beq_eq_false_iff_ne, bne_eq_false_iff_eq] at c199')
        refine wp_exit ?_
        refine hK53 _ _ ?_
        refine wp_region_lit ?_
        refine q_is rfl rfl (does_iarith (p := (k : Int)) (q := 1) (r := (k : Int) + 1) (ev rfl) (ev rfl) (.inl ⟨rfl, (in_i64 (by omega) (by omega)).symm⟩)) (by dsimp only [List.set]; try rfl) ?_
        refine q_is rfl rfl (does_move (u := (Iv ((k : Int) + 1))) (ev rfl)) (by dsimp only [List.set]; try rfl) ?_
        refine wpList_nil ?_
        have hR236 := RowG.cast (ys := ((fun (k : Nat) => nrmTo A_m k) (k + 1))) hR196 (by (try dsimp only); exact nrmTo_succ hel1 (by omega))
        refine ⟨k + 1, ⟨fun t => (([(.agg #[(.slice p5 A_m.places.length q6), (.slice p8 A_m.tris.length q9)]), (Pt b12 0), (.slice none 0 0), (Bo false), (.slice (some ⟨b30, 0, none⟩) A_m.places.length A_m.places.length), Ud, (.slice p61 el1.length q62), (Pt b103 0), (Pt b117 0), (Pt b137 0), (Pt b176 0), Ud, (u191 12), Ud, Ud, (.agg #[(.slice p5 A_m.places.length q6), (.slice p8 A_m.tris.length q9)]), (Bo (meshOk A_m)), (Bo (!(meshOk A_m))), (Pt b12 0), (.slice p5 A_m.places.length q6), (Iv (A_m.places.length : Int)), (.slice (some ⟨b30, 0, none⟩) A_m.places.length A_m.places.length), (Pt b12 1), (.slice p8 A_m.tris.length q9), (Iv (A_m.tris.length : Int)), (Iv ((k : Int) + 1)), (Bo (icmp .lss (k : Int) (A_m.tris.length : Int))), (Pt b55 o56), (.slice p61 el1.length q62), v69, v70, v71, v72, v73, v74, v75, v76, v77, v78, v79, v80, v81, v82, v83, v84, v85, v86, v87, v88, (.agg #[(Fl r131), (Fl r133), (Fl r135)]), v156, v157, v158, v159, v160, v161, (.agg #[(Fl r170), (Fl r172), (Fl r174)]), (.slice p61 el1.length q62), (Iv (el1.length : Int)), (Iv (q : Int)), (Bo (icmp .lss (q : Int) (el1.length : Int))), (u191 61), (u191 62), (u191 63), (u191 64), (u191 65), (u191 66), (u191 67), (u191 68), (u191 69), (u191 70), (u191 71), (u191 72), (Iv ((k : Int) + 1)), Ud, Ud, Ud, Ud, Ud, Ud, Ud, Ud, Ud, Ud, Ud, Ud, Ud, Ud] : List Value)[t]?).getD undef, ?_, (KpL.more (KpL.more (KpL.ext (KpL.ext (KpL.more (KpL.more (KpL.ext E46 E66) E96 all0) (KpL.of_wr W147) (allS (.inr (Nat.le_trans E46.size hb138)) all0)) E153) E165) (KpL.of_wr W186) (allS (.inr (Nat.le_trans (KpL.more (KpL.more (KpL.ext E46 E66) E96 all0) (KpL.of_wr W147) (allS (.inr (Nat.le_trans E46.size hb138)) all0)).size hb177)) all0)) E193 (allS (.inl (by simp)) all0)), hR236, ?_⟩, ?_⟩
        · first | rfl | (simp only [Int.natCast_add, Int.natCast_one]; rfl)
        · omega
        · omega
    have c52' := c52
    (try simp only [icmp, Bool.and_eq_true, Bool.or_eq_true, Bool.and_eq_false_iff, Bool.or_eq_false_iff, Bool.not_eq_true', Bool.not_eq_false', decide_eq_true_eq, decide_eq_false_iff_not, beq_iff_eq, bne_iff_ne, beq_eq_false_iff_ne, bne_eq_false_iff_eq] at c52')
    refine wp_exit ?_
    refine hK42 _ _ ?_
    refine wp_seq_k fun K237 hK237 => ?_
    refine wp_seq_k fun K238 hK238 => ?_
    refine wp_region_lit ?_
    refine q_is rfl rfl (does_move (u := (.slice (some ⟨b30, 0, none⟩) A_m.places.length A_m.places.length)) (ev rfl)) (by dsimp only [List.set]; try rfl) ?_
    refine q_is rfl rfl (does_len_slice Try.underlying27 (ev rfl)) (by dsimp only [List.set]; try rfl) ?_
    refine q_is rfl rfl (does_move (u := (Iv 0)) (ev rfl)) (by dsimp only [List.set]; try rfl) ?_
    refine wpList_nil (hK238 _ _ ?_)
    refine wp_block ?_
    refine loop_ghost (σ := Nat) (fun j a w' => ∃ u239 : Nat → Value, a = fr [(.agg #[(.slice p5 A_m.places.length q6), (.slice p8 A_m.tris.length q9)]), (Pt b12 0), (.slice none 0 0), (Bo false), (.slice (some ⟨b30, 0, none⟩) A_m.places.length A_m.places.length), Ud, (u44 6), (u44 7), (u44 8), (u44 9), (u44 10), Ud, (u44 12), (u239 13), (u239 14), (.agg #[(.slice p5 A_m.places.length q6), (.slice p8 A_m.tris.length q9)]), (Bo (meshOk A_m)), (Bo (!(meshOk A_m))), (Pt b12 0), (.slice p5 A_m.places.length q6), (Iv (A_m.places.length : Int)), (.slice (some ⟨b30, 0, none⟩) A_m.places.length A_m.places.length), (Pt b12 1), (.slice p8 A_m.tris.length q9), (Iv (A_m.tris.length : Int)), (Iv (k : Int)), (Bo (icmp .lss (k : Int) (A_m.tris.length : Int))), (u44 27), (u44 28), (u44 29), (u44 30), (u44 31), (u44 32), (u44 33), (u44 34), (u44 35), (u44 36), (u44 37), (u44 38), (u44 39), (u44 40), (u44 41), (u44 42), (u44 43), (u44 44), (u44 45), (u44 46), (u44 47), (u44 48), (u44 49), (u44 50), (u44 51), (u44 52), (u44 53), (u44 54), (u44 55), (u44 56), (u44 57), (u44 58), (u44 59), (u44 60), (u44 61), (u44 62), (u44 63), (u44 64), (u44 65), (u44 66), (u44 67), (u44 68), (u44 69), (u44 70), (u44 71), (u44 72), (u44 73), (.slice (some ⟨b30, 0, none⟩) A_m.places.length A_m.places.length), (Iv (A_m.places.length : Int)), (Iv (j : Int)), (u239 77), (u239 78), (u239 79), (u239 80), (u239 81), (u239 82), (u239 83), (u239 84), (u239 85), (u239 86), Ud] ∧ KpL [b30] w45 w' ∧ RowG RV3 3 w' b30 (unTo (nrmTo A_m k) j) ∧ (j ≤ A_m.places.length)) (fun j => A_m.places.length - j) 0 ?_ ?_
    · refine ⟨fun t => (([(.agg #[(.slice p5 A_m.places.length q6), (.slice p8 A_m.tris.length q9)]), (Pt b12 0), (.slice none 0 0), (Bo false), (.slice (some ⟨b30, 0, none⟩) A_m.places.length A_m.places.length), Ud, (u44 6), (u44 7), (u44 8), (u44 9), (u44 10), Ud, (u44 12), Ud, Ud, (.agg #[(.slice p5 A_m.places.length q6), (.slice p8 A_m.tris.length q9)]), (Bo (meshOk A_m)), (Bo (!(meshOk A_m))), (Pt b12 0), (.slice p5 A_m.places.length q6), (Iv (A_m.places.length : Int)), (.slice (some ⟨b30, 0, none⟩) A_m.places.length A_m.places.length), (Pt b12 1), (.slice p8 A_m.tris.length q9), (Iv (A_m.tris.length : Int)), (Iv (k : Int)), (Bo (icmp .lss (k : Int) (A_m.tris.length : Int))), (u44 27), (u44 28), (u44 29), (u44 30), (u44 31), (u44 32), (u44 33), (u44 34), (u44 35), (u44 36), (u44 37), (u44 38), (u44 39), (u44 40), (u44 41), (u44 42), (u44 43), (u44 44), (u44 45), (u44 46), (u44 47), (u44 48), (u44 49), (u44 50), (u44 51), (u44 52), (u44 53), (u44 54), (u44 55), (u44 56), (u44 57), (u44 58), (u44 59), (u44 60), (u44 61), (u44 62), (u44 63), (u44 64), (u44 65), (u44 66), (u44 67), (u44 68), (u44 69), (u44 70), (u44 71), (u44 72), (u44 73), (.slice (some ⟨b30, 0, none⟩) A_m.places.length A_m.places.length), (Iv (A_m.places.length : Int)), (Iv 0), Ud, Ud, Ud, Ud, Ud, Ud, Ud, Ud, Ud, Ud, Ud] : List Value)[t]?).getD undef, rfl, KpL.refl _ _, (RowG.cast hR49 (by (try dsimp only); rfl)), ?_⟩
      exact Nat.zero_le _
    · rintro j a w240 ⟨u239, rfl, E241, hRg0, hj⟩
      have X243 := Below.kl X48 E241 (allS g39 all0) (Nat.le_refl _)
      have hR244 := hRg0; clear hRg0
      refine wp_seq_k fun K245 hK245 => ?_
      refine wp_region_lit ?_
      refine q_is rfl rfl (does_icmp (p := (j : Int)) (q := (A_m.places.length : Int)) (.inr (.inr (.inl rfl))) (ev rfl) (ev rfl)) (by dsimp only [List.set]; try rfl) ?_
      refine wpList_nil (hK245 _ _ ?_)
      refine wp_seq_k fun K246 hK246 => ?_
      refine wp_cond_split (t := icmp .lss (j : Int) (A_m.places.length : Int)) (ev rfl) (fun c247 => ?_) (fun c247 => ?_)
      · have c247' := c247
        (try simp only [icmp, Bool.and_eq_true, Bool.or_eq_true, Bool.and_eq_false_iff, Bool.or_eq_false_iff, Bool.not_eq_true', Bool.not_eq_false', decide_eq_true_eq, decide_eq_false_iff_not, beq_iff_eq, bne_iff_ne, beq_eq_false_iff_ne, bne_eq_false_iff_eq] at c247')
        refine wp_skip (hK246 _ _ ?_)
        refine wp_seq_k fun K248 hK248 => ?_
        refine wp_block ?_
        refine wp_seq_k fun K249 hK249 => ?_
        refine wp_region_lit ?_
        refine q_is rfl rfl (does_move (u := (Iv (j : Int))) (ev rfl)) (by dsimp only [List.set]; try rfl) ?_
        refine q_is rfl rfl (does_indexOwn (b := b30) (n := A_m.places.length) (i := (j : Int)) Try.underlying27 Try.sizeOf53 (ev rfl) (ev rfl) (by omega) (by omega)) (by dsimp only [List.set]; try rfl) ?_
        obtain ⟨el10, hel10⟩ : ∃ e, (unTo (nrmTo A_m k) j)[j]? = some e := ⟨_, List.getElem?_eq_getElem (by first | assumption | omega | (simp only [foldA_len, nrmTo_len, unTo_len, List.length_set, List.length_replicate]; omega) | (simp only [foldA_len, nrmTo_len, unTo_len, List.length_set, List.length_replicate]; done))⟩
        refine seqd rfl rfl (does_loadRowG (R := RV3) (k := 3) (xs := (unTo (nrmTo A_m k) j)) (i := j) (e := el10) (ev rfl) Try.isAgg53 Try.sizeOf53 hR244 rfl hel10) ?_; rintro _ w251 ⟨E250, ⟨_, rfl, ⟨r252, r254, r256, rfl, h253, h255, h257⟩⟩⟩
        have X258 := Ext.gr X243 E250
        show wpList _ _ _ _ (fr [_, _, _, _, _, _, _, _, _, _, _, _, _, _, _, _, _, _, _, _, _, _, _, _, _, _, _, _, _, _, _, _, _, _, _, _, _, _, _, _, _, _, _, _, _, _, _, _, _, _, _, _, _, _, _, _, _, _, _, _, _, _, _, _, _, _, _, _, _, _, _, _, _, _, _, _, _, _, _, _, _, _, _, _, _, _, _, _]) _
        refine seqd rfl rfl (does_alloc z53) ?_; rintro _ w263 ⟨b259, rfl, hb260, hB261, E262⟩
        have n264 : b12 < b259 := Nat.lt_of_lt_of_le (Blk.lt (((((hB14.ext E21).ext E33).kl E46 (ninS (Nat.ne_of_lt n38) nin0)).kl E241 (ninS (Nat.ne_of_lt n38) nin0)).ext E250)) hb260
        have n265 : b30 < b259 := Nat.lt_of_lt_of_le (RowG.lt (RowG.ext hR244 RV3.flat E250)) hb260
        have g266 : w.heap.size ≤ b259 := Nat.le_trans (Below.size X258) hb260
        change Blk _ _ [(Fl 0), (Fl 0), (Fl 0)] at hB261
        have X267 := Ext.gr X258 E262
        show wpList _ _ _ _ (fr [_, _, _, _, _, _, _, _, _, _, _, _, _, _, _, _, _, _, _, _, _, _, _, _, _, _, _, _, _, _, _, _, _, _, _, _, _, _, _, _, _, _, _, _, _, _, _, _, _, _, _, _, _, _, _, _, _, _, _, _, _, _, _, _, _, _, _, _, _, _, _, _, _, _, _, _, _, _, _, _, _, _, _, _, _, _, _, _]) _
        refine q_is rfl rfl (does_assign (u := (Iv (j : Int))) (ev rfl)) (by dsimp only [List.set]; try rfl) ?_
        refine seqn rfl rfl (does_store (n := 3) (cs := [(Fl 0), (Fl 0), (Fl 0)]) (u := (.agg #[(Fl r252), (Fl r254), (Fl r256)])) (ev rfl) (ev rfl) Try.sizeOf53 rfl hB261 (Nat.le_of_ble_eq_true rfl) rfl) ?_; rintro _ w270 ⟨rfl, W268, hB269⟩
        change Blk _ _ [(Fl r252), (Fl r254), (Fl r256)] at hB269
        have X271 := Below.wr X267 W268 g266
        refine wpList_nil (hK249 _ _ ?_)
        refine wp_region_lit ?_
        refine q_is rfl rfl (does_move (u := (.slice (some ⟨b30, 0, none⟩) A_m.places.length A_m.places.length)) (ev rfl)) (by dsimp only [List.set]; try rfl) ?_
        refine q_is rfl rfl (does_move (u := (Iv (j : Int))) (ev rfl)) (by dsimp only [List.set]; try rfl) ?_
        refine q_is rfl rfl (does_loadAgg (cs := [(Fl r252), (Fl r254), (Fl r256)]) (ev rfl) Try.isAgg53 Try.sizeOf53 (Blk.cells hB269) rfl) (by dsimp only [List.set]; try rfl) ?_
        refine seqd rfl rfl (does_call (args := #[(.agg #[(Fl r252), (Fl r254), (Fl r256)])]) cal35 (evs rfl) (c_impl_UnitOf [(Fl r252), (Fl r254), (Fl r256)] el10 _ ⟨r252, r254, r256, rfl, h253, h255, h257⟩)) ?_; rintro _ w273 ⟨E272, ⟨_, rfl, ⟨r274, r276, r278, rfl, h275, h277, h279⟩⟩⟩
        have X280 := Ext.gr X271 E272
        show wpList _ _ _ _ (fr [_, _, _, _, _, _, _, _, _, _, _, _, _, _, _, _, _, _, _, _, _, _, _, _, _, _, _, _, _, _, _, _, _, _, _, _, _, _, _, _, _, _, _, _, _, _, _, _, _, _, _, _, _, _, _, _, _, _, _, _, _, _, _, _, _, _, _, _, _, _, _, _, _, _, _, _, _, _, _, _, _, _, _, _, _, _, _, _]) _
        refine q_is rfl rfl (does_indexOwn (b := b30) (n := A_m.places.length) (i := (j : Int)) Try.underlying27 Try.sizeOf53 (ev rfl) (ev rfl) (by omega) (by omega)) (by dsimp only [List.set]; try rfl) ?_
        refine seqn rfl rfl (does_storeRowG (R := RV3) (k := 3) (xs := (unTo (nrmTo A_m k) j)) (i := j) (u := (.agg #[(Fl r274), (Fl r276), (Fl r278)])) (e := (unitF el10)) (ev rfl) (ev rfl) Try.sizeOf53 rfl rfl RV3.flat (RowG.ext (RowG.kl (RowG.ext (RowG.ext hR244 RV3.flat E250) RV3.flat E262) RV3.flat (KpL.of_wr W268) (ninS (Nat.ne_of_lt n265) nin0)) RV3.flat E272) rfl (by first | assumption | omega | (simp only [foldA_len, nrmTo_len, unTo_len, List.length_set, List.length_replicate]; omega) | (simp only [foldA_len, nrmTo_len, unTo_len, List.length_set, List.length_replicate]; done)) ⟨r274, r276, r278, rfl, h275, h277, h279⟩) ?_; rintro _ w283 ⟨rfl, W281, hR282⟩
        have X284 := Below.wr X280 W281 g39
        refine wpList_nil (hK248 _ _ ?_)
        refine wp_region_lit ?_
        refine q_is rfl rfl (does_iarith (p := (j : Int)) (q := 1) (r := (j : Int) + 1) (ev rfl) (ev rfl) (.inl ⟨rfl, (in_i64 (by omega) (by omega)).symm⟩)) (by dsimp only [List.set]; try rfl) ?_
        refine q_is rfl rfl (does_move (u := (Iv ((j : Int) + 1))) (ev rfl)) (by dsimp only [List.set]; try rfl) ?_
        refine wpList_nil ?_
        have hR285 := RowG.cast (ys := ((fun (j : Nat) => unTo (nrmTo A_m k) j) (j + 1))) hR282 (by (try dsimp only); exact unTo_succ hel10)
        refine ⟨j + 1, ⟨fun t => (([(.agg #[(.slice p5 A_m.places.length q6), (.slice p8 A_m.tris.length q9)]), (Pt b12 0), (.slice none 0 0), (Bo false), (.slice (some ⟨b30, 0, none⟩) A_m.places.length A_m.places.length), Ud, (u44 6), (u44 7), (u44 8), (u44 9), (u44 10), Ud, (u44 12), (Iv (j : Int)), (Pt b259 0), (.agg #[(.slice p5 A_m.places.length q6), (.slice p8 A_m.tris.length q9)]), (Bo (meshOk A_m)), (Bo (!(meshOk A_m))), (Pt b12 0), (.slice p5 A_m.places.length q6), (Iv (A_m.places.length : Int)), (.slice (some ⟨b30, 0, none⟩) A_m.places.length A_m.places.length), (Pt b12 1), (.slice p8 A_m.tris.length q9), (Iv (A_m.tris.length : Int)), (Iv (k : Int)), (Bo (icmp .lss (k : Int) (A_m.tris.length : Int))), (u44 27), (u44 28), (u44 29), (u44 30), (u44 31), (u44 32), (u44 33), (u44 34), (u44 35), (u44 36), (u44 37), (u44 38), (u44 39), (u44 40), (u44 41), (u44 42), (u44 43), (u44 44), (u44 45), (u44 46), (u44 47), (u44 48), (u44 49), (u44 50), (u44 51), (u44 52), (u44 53), (u44 54), (u44 55), (u44 56), (u44 57), (u44 58), (u44 59), (u44 60), (u44 61), (u44 62), (u44 63), (u44 64), (u44 65), (u44 66), (u44 67), (u44 68), (u44 69), (u44 70), (u44 71), (u44 72), (u44 73), (.slice (some ⟨b30, 0, none⟩) A_m.places.length A_m.places.length), (Iv (A_m.places.length : Int)), (Iv ((j : Int) + 1)), (Bo (icmp .lss (j : Int) (A_m.places.length : Int))), (Iv (j : Int)), (Pt b30 (j * 3)), (.agg #[(Fl r252), (Fl r254), (Fl r256)]), (.slice (some ⟨b30, 0, none⟩) A_m.places.length A_m.places.length), (Iv (j : Int)), (.agg #[(Fl r252), (Fl r254), (Fl r256)]), (.agg #[(Fl r274), (Fl r276), (Fl r278)]), (Pt b30 (j * 3)), (Iv ((j : Int) + 1)), Ud] : List Value)[t]?).getD undef, ?_, (KpL.more (KpL.ext (KpL.more (KpL.ext (KpL.ext E241 E250) E262) (KpL.of_wr W268) (allS (.inr (Nat.le_trans (KpL.ext E241 E250).size hb260)) all0)) E272) (KpL.of_wr W281) (allS (.inl (by simp)) all0)), hR285, ?_⟩, ?_⟩
        · first | rfl | (simp only [Int.natCast_add, Int.natCast_one]; rfl)
        · (try dsimp only); omega
        · (try dsimp only); omega
      have c247' := c247
      (try simp only [icmp, Bool.and_eq_true, Bool.or_eq_true, Bool.and_eq_false_iff, Bool.or_eq_false_iff, Bool.not_eq_true', Bool.not_eq_false', decide_eq_true_eq, decide_eq_false_iff_not, beq_iff_eq, bne_iff_ne, beq_eq_false_iff_ne, bne_eq_false_iff_eq] at c247')
      refine wp_exit ?_
      refine hK237 _ _ ?_
      refine wp_seq_k fun K286 hK286 => ?_
      refine wp_region_lit ?_
      refine q_is rfl rfl (does_move (u := (.slice (some ⟨b30, 0, none⟩) A_m.places.length A_m.places.length)) (ev rfl)) (by dsimp only [List.set]; try rfl) ?_
      refine q_is rfl rfl (does_assign (u := (.slice (some ⟨b30, 0, none⟩) A_m.places.length A_m.places.length)) (ev rfl)) (by dsimp only [List.set]; try rfl) ?_
      refine q_is rfl rfl (does_assign (u := (Bo true)) (ev rfl)) (by dsimp only [List.set]; try rfl) ?_
      refine wpList_nil (hK286 _ _ ?_)
      refine wp_ret ?_
      refine ret_val (v := (.tuple #[(.slice (some ⟨b30, 0, none⟩) A_m.places.length A_m.places.length), (Bo true)])) (res_TT rfl (slot rfl) (slot rfl)) X243 ?_
      have x287 : (meshOk A_m) = true := by first | exact hmf | exact hmt | (rw [nrmL_f hmf] <;> rfl) | (rw [nrmL_t hmt hk (by omega) hj (by omega)] <;> first | rfl | assumption)
      have x288 : (unTo (nrmTo A_m k) j) = (nrmL A_m) := by first | exact hmf | exact hmt | (rw [nrmL_f hmf] <;> rfl) | (rw [nrmL_t hmt hk (by omega) hj (by omega)] <;> first | rfl | assumption)
      have x289 : (unTo (nrmTo A_m k) j) = (nrmL A_m) := by first | exact hmf | exact hmt | (rw [nrmL_f hmf] <;> rfl) | (rw [nrmL_t hmt hk (by omega) hj (by omega)] <;> first | rfl | assumption)
      exact ⟨(.slice (some ⟨b30, 0, none⟩) A_m.places.length A_m.places.length), [b30], (by first | with_reducible rfl | rw [x287] | rfl), (Hang.castL (RowG.hang hR244 RV3.flat (by first | assumption | omega | (simp only [foldA_len, nrmTo_len, unTo_len, List.length_set, List.length_replicate]; omega) | (simp only [foldA_len, nrmTo_len, unTo_len, List.length_set, List.length_replicate]; done)) g39 (Nat.le_refl _) (by omega) (by decide)) x288), (WL.cast (WL.cast (RowG.wl hR244 (by first | assumption | omega | (simp only [foldA_len, nrmTo_len, unTo_len, List.length_set, List.length_replicate]; omega) | (simp only [foldA_len, nrmTo_len, unTo_len, List.length_set, List.length_replicate]; done)) g39 (Nat.le_refl _)) (by first | rfl | (symm; first | assumption | omega | (simp only [foldA_len, nrmTo_len, unTo_len, List.length_set, List.length_replicate]; omega) | (simp only [foldA_len, nrmTo_len, unTo_len, List.length_set, List.length_replicate]; done)))) (congrArg List.length x289))⟩

/- laws.heldVectorS -/
theorem c_laws_heldVectorS (a : Value) (L_a : List V3) (k : Int) (w : World) (hv_a : Sl RV3 3 w a L_a) (hm : L_a = mkL fV 3 k L_a.length) (h0 : 0 ≤ k) (h1 : k + (L_a.length : Int) * 3 ≤ 4611686018427387904) : Gives Try.prog 16 #[a, (Iv k)] w (fun v w' => v = (Iv (k + (L_a.length : Int) * 3))) := by
  have hlen_a := Sl.len hv_a; obtain ⟨p_a, q_a, rfl⟩ := Sl.shape hv_a
  refine enter [(.slice p_a L_a.length q_a), (Iv k), Ud, Ud, Ud, Ud, Ud, Ud, Ud, Ud, Ud, Ud, Ud, Ud, Ud, Ud, Ud, Ud, Ud, Ud, Ud, Ud, Ud, Ud, Ud, Ud, Ud, Ud, Ud, Ud, Ud, Ud, Ud, Ud, Ud, Ud, Ud, Ud, Ud, Ud, Ud, Ud, Ud] Try.func16 rfl Try.ntmps16 rfl ?_
  refine wp_seq_k fun K1 hK1 => ?_
  refine wp_region_lit ?_
  refine q_is rfl rfl (does_assign (u := (Iv 0)) (ev rfl)) (by dsimp only [List.set]; try rfl) ?_
  refine wpList_nil (hK1 _ _ ?_)
  refine wp_seq_k fun K2 hK2 => ?_
  refine wp_seq_k fun K3 hK3 => ?_
  refine wp_region_lit ?_
  refine q_is rfl rfl (does_assign (u := (Iv 0)) (ev rfl)) (by dsimp only [List.set]; try rfl) ?_
  refine wpList_nil (hK3 _ _ ?_)
  refine wp_block ?_
  refine loop_ghost (σ := Nat × Int) (fun s a w' => ∃ u4 : Nat → Value, a = fr [(.slice p_a L_a.length q_a), (Iv s.2), Ud, Ud, (u4 4), (Iv (s.1 : Int)), (u4 6), (u4 7), (u4 8), (u4 9), (u4 10), (u4 11), (u4 12), (u4 13), (u4 14), (u4 15), (u4 16), (u4 17), (u4 18), (u4 19), (u4 20), (u4 21), (u4 22), (u4 23), (u4 24), (u4 25), (u4 26), (u4 27), (u4 28), (u4 29), (u4 30), (u4 31), (u4 32), (u4 33), (u4 34), (u4 35), (u4 36), (u4 37), (u4 38), (u4 39), (u4 40), (u4 41), Ud] ∧ Ext w w' ∧ (s.1 ≤ L_a.length ∧ s.2 = k + (s.1 : Int) * 3)) (fun s => L_a.length - s.1) (0, k) ?_ ?_
  · refine ⟨fun t => (([(.slice p_a L_a.length q_a), (Iv k), Ud, Ud, (Iv 0), (Iv 0), Ud, Ud, Ud, Ud, Ud, Ud, Ud, Ud, Ud, Ud, Ud, Ud, Ud, Ud, Ud, Ud, Ud, Ud, Ud, Ud, Ud, Ud, Ud, Ud, Ud, Ud, Ud, Ud, Ud, Ud, Ud, Ud, Ud, Ud, Ud, Ud, Ud] : List Value)[t]?).getD undef, rfl, Ext.refl _, ?_⟩
    exact ⟨Nat.zero_le _, by simp⟩
  · rintro s a w5 ⟨u4, rfl, E6, ⟨hk, hn2⟩⟩
    have X8 := Ext.gr (Ext.refl w) E6
    refine wp_seq_k fun K9 hK9 => ?_
    refine wp_seq_k fun K10 hK10 => ?_
    refine wp_region_lit ?_
    refine q_is rfl rfl (does_move (u := (Iv (s.1 : Int))) (ev rfl)) (by dsimp only [List.set]; try rfl) ?_
    refine q_is rfl rfl (does_move (u := (.slice p_a L_a.length q_a)) (ev rfl)) (by dsimp only [List.set]; try rfl) ?_
    refine q_is rfl rfl (does_len_slice Try.underlying27 (ev rfl)) (by dsimp only [List.set]; try rfl) ?_
    refine q_is rfl rfl (does_icmp (p := (s.1 : Int)) (q := (L_a.length : Int)) (.inr (.inr (.inl rfl))) (ev rfl) (ev rfl)) (by dsimp only [List.set]; try rfl) ?_
    refine wpList_nil (hK10 _ _ ?_)
    refine wp_cond_split (t := icmp .lss (s.1 : Int) (L_a.length : Int)) (ev rfl) (fun c11 => ?_) (fun c11 => ?_)
    · have c11' := c11
      (try simp only [icmp, Bool.and_eq_true, Bool.or_eq_true, Bool.and_eq_false_iff, Bool.or_eq_false_iff, Bool.not_eq_true', Bool.not_eq_false', decide_eq_true_eq, decide_eq_false_iff_not, beq_iff_eq, bne_iff_ne, beq_eq_false_iff_ne, bne_eq_false_iff_eq] at c11')
      refine wp_skip (hK9 _ _ ?_)
      refine wp_seq_k fun K12 hK12 => ?_
      refine wp_block ?_
      refine wp_seq_k fun K13 hK13 => ?_
      refine wp_seq_k fun K14 hK14 => ?_
      refine wp_region_lit ?_
      refine q_is rfl rfl (does_move (u := (.slice p_a L_a.length q_a)) (ev rfl)) (by dsimp only [List.set]; try rfl) ?_
      refine q_is rfl rfl (does_move (u := (Iv (s.1 : Int))) (ev rfl)) (by dsimp only [List.set]; try rfl) ?_
      obtain ⟨el1, hel1⟩ : ∃ e, L_a[s.1]? = some e := ⟨_, List.getElem?_eq_getElem (by omega)⟩
      refine seqd rfl rfl (does_indexSl (R := RV3) (i := (s.1 : Int)) (xs := L_a) (e := el1) Try.underlying27 Try.sizeOf53 (ev rfl) (ev rfl) (Sl.ext hv_a RV3.mono X8) (by omega) hel1) ?_; rintro _ w5 ⟨b15, o16, _, rfl, hc18, ⟨r19, r21, r23, rfl, h20, h22, h24⟩, rfl⟩
      show wpList _ _ _ _ (fr [_, _, _, _, _, _, _, _, _, _, _, _, _, _, _, _, _, _, _, _, _, _, _, _, _, _, _, _, _, _, _, _, _, _, _, _, _, _, _, _, _, _, _]) _
      refine q_is rfl rfl (does_fieldAddr (ev rfl) fa53_0) (by dsimp only [List.set]; try rfl) ?_
      refine q_is rfl rfl (does_load (u := (Fl r19)) (ev rfl) Try.isAgg51 (Cells.at hc18 0 rfl)) (by dsimp only [List.set]; try rfl) ?_
      refine q_is rfl rfl (does_move (u := (Iv s.2)) (ev rfl)) (by dsimp only [List.set]; try rfl) ?_
      refine q_is rfl rfl (does_conv_if (k := .f32) Try.underlying3 Try.underlying51 (ev rfl)) (by dsimp only [List.set]; try rfl) ?_
      refine q_is rfl rfl (does_fcmp (.inr (.inl rfl)) (ev rfl) (ev rfl)) (by dsimp only [List.set]; try rfl) ?_
      refine wpList_nil (hK14 _ _ ?_)
      refine wp_cond_split (t := fcmp .neq (ford .f32 (cf .f32 r19) (cf .f32 (FloatKind.f32.nearest s.2)))) (ev rfl) (fun c25 => ?_) (fun c25 => ?_)
      · have c25' := c25
        exfalso; have he := mkL_at hm hel1; have e2 : s.2 = k + ((s.1 * 3 : Nat) : Int) := (by omega); simp only [hel1, h20, h22, h24] at c25; rw [he, e2] at c25; simp only [fV] at c25; exact Bool.false_ne_true ((fF_self (k + ((s.1 * 3 : Nat) : Int))).symm.trans c25)
      have c25' := c25
      refine wp_skip (hK13 _ _ ?_)
      refine wp_seq_k fun K26 hK26 => ?_
      refine wp_region_lit ?_
      refine q_is rfl rfl (does_move (u := (Iv s.2)) (ev rfl)) (by dsimp only [List.set]; try rfl) ?_
      refine q_is rfl rfl (does_iarith (p := s.2) (q := 1) (r := s.2 + 1) (ev rfl) (ev rfl) (.inl ⟨rfl, (in_i64 (by omega) (by omega)).symm⟩)) (by dsimp only [List.set]; try rfl) ?_
      refine q_is rfl rfl (does_assign (u := (Iv (s.2 + 1))) (ev rfl)) (by dsimp only [List.set]; try rfl) ?_
      refine wpList_nil (hK26 _ _ ?_)
      refine wp_seq_k fun K27 hK27 => ?_
      refine wp_seq_k fun K28 hK28 => ?_
      refine wp_region_lit ?_
      refine q_is rfl rfl (does_move (u := (.slice p_a L_a.length q_a)) (ev rfl)) (by dsimp only [List.set]; try rfl) ?_
      refine q_is rfl rfl (does_move (u := (Iv (s.1 : Int))) (ev rfl)) (by dsimp only [List.set]; try rfl) ?_
      refine seqd rfl rfl (does_indexSl (R := RV3) (i := (s.1 : Int)) (xs := L_a) (e := el1) Try.underlying27 Try.sizeOf53 (ev rfl) (ev rfl) (Sl.ext hv_a RV3.mono X8) (by omega) hel1) ?_; rintro _ w5 ⟨b29, o30, _, rfl, hc32, ⟨r33, r35, r37, rfl, h34, h36, h38⟩, rfl⟩
      show wpList _ _ _ _ (fr [_, _, _, _, _, _, _, _, _, _, _, _, _, _, _, _, _, _, _, _, _, _, _, _, _, _, _, _, _, _, _, _, _, _, _, _, _, _, _, _, _, _, _]) _
      refine q_is rfl rfl (does_fieldAddr (ev rfl) fa53_1) (by dsimp only [List.set]; try rfl) ?_
      refine q_is rfl rfl (does_load (u := (Fl r35)) (ev rfl) Try.isAgg51 (Cells.at hc32 1 rfl)) (by dsimp only [List.set]; try rfl) ?_
      refine q_is rfl rfl (does_move (u := (Iv (s.2 + 1))) (ev rfl)) (by dsimp only [List.set]; try rfl) ?_
      refine q_is rfl rfl (does_conv_if (k := .f32) Try.underlying3 Try.underlying51 (ev rfl)) (by dsimp only [List.set]; try rfl) ?_
      refine q_is rfl rfl (does_fcmp (.inr (.inl rfl)) (ev rfl) (ev rfl)) (by dsimp only [List.set]; try rfl) ?_
      refine wpList_nil (hK28 _ _ ?_)
      refine wp_cond_split (t := fcmp .neq (ford .f32 (cf .f32 r35) (cf .f32 (FloatKind.f32.nearest (s.2 + 1))))) (ev rfl) (fun c39 => ?_) (fun c39 => ?_)
      · have c39' := c39
        exfalso; have he := mkL_at hm hel1; have e2 : s.2 = k + ((s.1 * 3 : Nat) : Int) := (by omega); simp only [hel1, h20, h22, h24, h34, h36, h38] at c39; rw [he, e2] at c39; simp only [fV] at c39; exact Bool.false_ne_true ((fF_self (k + ((s.1 * 3 : Nat) : Int) + 1)).symm.trans c39)
      have c39' := c39
      refine wp_skip (hK27 _ _ ?_)
      refine wp_seq_k fun K40 hK40 => ?_
      refine wp_region_lit ?_
      refine q_is rfl rfl (does_move (u := (Iv (s.2 + 1))) (ev rfl)) (by dsimp only [List.set]; try rfl) ?_
      refine q_is rfl rfl (does_iarith (p := s.2 + 1) (q := 1) (r := (s.2 + 1) + 1) (ev rfl) (ev rfl) (.inl ⟨rfl, (in_i64 (by omega) (by omega)).symm⟩)) (by dsimp only [List.set]; try rfl) ?_
      refine q_is rfl rfl (does_assign (u := (Iv ((s.2 + 1) + 1))) (ev rfl)) (by dsimp only [List.set]; try rfl) ?_
      refine wpList_nil (hK40 _ _ ?_)
      refine wp_seq_k fun K41 hK41 => ?_
      refine wp_seq_k fun K42 hK42 => ?_
      refine wp_region_lit ?_
      refine q_is rfl rfl (does_move (u := (.slice p_a L_a.length q_a)) (ev rfl)) (by dsimp only [List.set]; try rfl) ?_
      refine q_is rfl rfl (does_move (u := (Iv (s.1 : Int))) (ev rfl)) (by dsimp only [List.set]; try rfl) ?_
      refine seqd rfl rfl (does_indexSl (R := RV3) (i := (s.1 : Int)) (xs := L_a) (e := el1) Try.underlying27 Try.sizeOf53 (ev rfl) (ev rfl) (Sl.ext hv_a RV3.mono X8) (by omega) hel1) ?_; rintro _ w5 ⟨b43, o44, _, rfl, hc46, ⟨r47, r49, r51, rfl, h48, h50, h52⟩, rfl⟩
      show wpList _ _ _ _ (fr [_, _, _, _, _, _, _, _, _, _, _, _, _, _, _, _, _, _, _, _, _, _, _, _, _, _, _, _, _, _, _, _, _, _, _, _, _, _, _, _, _, _, _]) _
      refine q_is rfl rfl (does_fieldAddr (ev rfl) fa53_2) (by dsimp only [List.set]; try rfl) ?_
      refine q_is rfl rfl (does_load (u := (Fl r51)) (ev rfl) Try.isAgg51 (Cells.at hc46 2 rfl)) (by dsimp only [List.set]; try rfl) ?_
      refine q_is rfl rfl (does_move (u := (Iv ((s.2 + 1) + 1))) (ev rfl)) (by dsimp only [List.set]; try rfl) ?_
      refine q_is rfl rfl (does_conv_if (k := .f32) Try.underlying3 Try.underlying51 (ev rfl)) (by dsimp only [List.set]; try rfl) ?_
      refine q_is rfl rfl (does_fcmp (.inr (.inl rfl)) (ev rfl) (ev rfl)) (by dsimp only [List.set]; try rfl) ?_
      refine wpList_nil (hK42 _ _ ?_)
      refine wp_cond_split (t := fcmp .neq (ford .f32 (cf .f32 r51) (cf .f32 (FloatKind.f32.nearest ((s.2 + 1) + 1))))) (ev rfl) (fun c53 => ?_) (fun c53 => ?_)
      · have c53' := c53
        exfalso; have he := mkL_at hm hel1; have e2 : s.2 = k + ((s.1 * 3 : Nat) : Int) := (by omega); simp only [hel1, h20, h22, h24, h34, h36, h38, h48, h50, h52] at c53; rw [he, e2] at c53; simp only [fV] at c53; rw [show k + ((s.1 * 3 : Nat) : Int) + 1 + 1 = k + ((s.1 * 3 : Nat) : Int) + 2 from (by omega)] at c53; exact Bool.false_ne_true ((fF_self (k + ((s.1 * 3 : Nat) : Int) + 2)).symm.trans c53)
      have c53' := c53
      refine wp_skip (hK41 _ _ ?_)
      refine wp_region_lit ?_
      refine q_is rfl rfl (does_move (u := (Iv ((s.2 + 1) + 1))) (ev rfl)) (by dsimp only [List.set]; try rfl) ?_
      refine q_is rfl rfl (does_iarith (p := (s.2 + 1) + 1) (q := 1) (r := ((s.2 + 1) + 1) + 1) (ev rfl) (ev rfl) (.inl ⟨rfl, (in_i64 (by omega) (by omega)).symm⟩)) (by dsimp only [List.set]; try rfl) ?_
      refine q_is rfl rfl (does_assign (u := (Iv (((s.2 + 1) + 1) + 1))) (ev rfl)) (by dsimp only [List.set]; try rfl) ?_
      refine wpList_nil (hK12 _ _ ?_)
      refine wp_region_lit ?_
      refine q_is rfl rfl (does_move (u := (Iv (s.1 : Int))) (ev rfl)) (by dsimp only [List.set]; try rfl) ?_
      refine q_is rfl rfl (does_iarith (p := (s.1 : Int)) (q := 1) (r := (s.1 : Int) + 1) (ev rfl) (ev rfl) (.inl ⟨rfl, (in_i64 (by omega) (by omega)).symm⟩)) (by dsimp only [List.set]; try rfl) ?_
      refine q_is rfl rfl (does_assign (u := (Iv ((s.1 : Int) + 1))) (ev rfl)) (by dsimp only [List.set]; try rfl) ?_
      refine wpList_nil ?_
      refine ⟨(s.1 + 1, ((s.2 + 1) + 1) + 1), ⟨fun t => (([(.slice p_a L_a.length q_a), (Iv (((s.2 + 1) + 1) + 1)), Ud, Ud, (u4 4), (Iv ((s.1 : Int) + 1)), (Iv (s.1 : Int)), (.slice p_a L_a.length q_a), (Iv (L_a.length : Int)), (Bo (icmp .lss (s.1 : Int) (L_a.length : Int))), (Iv (s.1 : Int)), (Iv ((s.1 : Int) + 1)), (.slice p_a L_a.length q_a), (Iv (s.1 : Int)), (Pt b15 o16), (Pt b15 o16), (Fl r19), (Iv s.2), (Fl (FloatKind.f32.nearest s.2)), (Bo (fcmp .neq (ford .f32 (cf .f32 r19) (cf .f32 (FloatKind.f32.nearest s.2))))), (Iv s.2), (Iv (s.2 + 1)), (.slice p_a L_a.length q_a), (Iv (s.1 : Int)), (Pt b29 o30), (Pt b29 (o30 + 1)), (Fl r35), (Iv (s.2 + 1)), (Fl (FloatKind.f32.nearest (s.2 + 1))), (Bo (fcmp .neq (ford .f32 (cf .f32 r35) (cf .f32 (FloatKind.f32.nearest (s.2 + 1)))))), (Iv (s.2 + 1)), (Iv ((s.2 + 1) + 1)), (.slice p_a L_a.length q_a), (Iv (s.1 : Int)), (Pt b43 o44), (Pt b43 (o44 + 2)), (Fl r51), (Iv ((s.2 + 1) + 1)), (Fl (FloatKind.f32.nearest ((s.2 + 1) + 1))), (Bo (fcmp .neq (ford .f32 (cf .f32 r51) (cf .f32 (FloatKind.f32.nearest ((s.2 + 1) + 1)))))), (Iv ((s.2 + 1) + 1)), (Iv (((s.2 + 1) + 1) + 1)), Ud] : List Value)[t]?).getD undef, ?_, E6, ?_⟩, ?_⟩
      · first | rfl | (simp only [Int.natCast_add, Int.natCast_one]; rfl)
      · (try dsimp only); exact ⟨by omega, by (try dsimp only); omega⟩
      · (try dsimp only); omega
    have c11' := c11
    (try simp only [icmp, Bool.and_eq_true, Bool.or_eq_true, Bool.and_eq_false_iff, Bool.or_eq_false_iff, Bool.not_eq_true', Bool.not_eq_false', decide_eq_true_eq, decide_eq_false_iff_not, beq_iff_eq, bne_iff_ne, beq_eq_false_iff_ne, bne_eq_false_iff_eq] at c11')
    refine wp_exit ?_
    refine hK2 _ _ ?_
    refine wp_seq_k fun K54 hK54 => ?_
    refine wp_region_lit ?_
    refine q_is rfl rfl (does_move (u := (Iv s.2)) (ev rfl)) (by dsimp only [List.set]; try rfl) ?_
    refine q_is rfl rfl (does_assign (u := (Iv s.2)) (ev rfl)) (by dsimp only [List.set]; try rfl) ?_
    refine wpList_nil (hK54 _ _ ?_)
    refine wp_ret ?_
    refine ret_val (v := (Iv s.2)) (res_T rfl (slot rfl)) X8 ?_
    have x55 : (k + (L_a.length : Int) * 3 : Int) = s.2 := by first | omega | (rw [hn2, show s.1 = L_a.length by omega])
    exact (by first | with_reducible rfl | rw [x55] | rfl)

end Go.Proofs.Ythfpgnjeahddaaa
