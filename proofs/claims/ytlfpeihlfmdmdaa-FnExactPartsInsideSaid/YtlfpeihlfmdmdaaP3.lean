/- contracts of functions, each walked once -/
import Derived.Test.YtlfpeihlfmdmdaaP2
namespace Go.Proofs.Ytlfpeihlfmdmdaa
open Go Go.RowKit
set_option maxRecDepth 100000
set_option maxHeartbeats 3200000
set_option linter.unusedVariables false
set_option linter.unusedSimpArgs false

/- (*impl.Grid).counts -/
theorem c_impl_Grid_counts (g_b : Nat) (g_o : Nat) (g : List Value) (A_g : GridT) (w : World) (hc_g : Cells w g_b g_o g) (hv_g : RGridT w A_g g) : Gives Try.prog 58 #[(Pt g_b g_o)] w (fun v w' => v = (.agg #[(Iv A_g.x), (Iv A_g.y), (Iv A_g.z)])) := by
  obtain ⟨r1, r3, r5, r7, y9, rfl, h2, h4, h6, h8, h10⟩ := hv_g
  have hs13 := h10; have hs13l := Sl.len h10; obtain ⟨p11, q12, rfl⟩ := Sl.shape h10
  refine enter [(Pt g_b g_o), Ud, Ud, Ud, Ud, Ud, Ud, Ud, Ud, Ud, Ud, Ud, Ud, Ud, Ud, Ud] Try.func58 rfl Try.ntmps58 rfl ?_
  refine wp_seq_k fun K14 hK14 => ?_
  refine wp_region_lit ?_
  refine seqd rfl rfl (does_alloc z88) ?_; rintro _ w19 ⟨b15, rfl, hb16, hB17, E18⟩
  have n20 : g_b < b15 := Nat.lt_of_lt_of_le (cell_lt (Cells.at hc_g 0 rfl)) hb16
  have g21 : w.heap.size ≤ b15 := Nat.le_trans (Below.size (Ext.refl w)) hb16
  change Blk _ _ [(Iv 0), (Iv 0), (Iv 0)] at hB17
  have X22 := Ext.gr (Ext.refl w) E18
  show wpList _ _ _ _ (fr [(Pt g_b g_o), Ud, (Pt b15 0), Ud, Ud, Ud, Ud, Ud, Ud, Ud, Ud, Ud, Ud, Ud, Ud, Ud]) _
  refine wpList_nil (hK14 _ _ ?_)
  refine wp_seq_k fun K23 hK23 => ?_
  refine region_draw (
    [Fact.pure [] (fun v => v = (Pt g_b g_o)),
    Fact.pure [3] (fun v => v = (Pt g_b g_o)),
    Fact.pure [4] (fun v => v = (Pt g_b (g_o + 4))),
    Fact.pure [5] (fun v => v = (Iv A_g.x)),
    Fact.pure [] (fun v => v = (Pt g_b g_o)),
    Fact.pure [7] (fun v => v = (Pt g_b g_o)),
    Fact.pure [8] (fun v => v = (Pt g_b (g_o + 5))),
    Fact.pure [9] (fun v => v = (Iv A_g.y)),
    Fact.pure [] (fun v => v = (Pt g_b g_o)),
    Fact.pure [11] (fun v => v = (Pt g_b g_o)),
    Fact.pure [12] (fun v => v = (Pt g_b (g_o + 6))),
    Fact.pure [13] (fun v => v = (Iv A_g.z)),
    Fact.pure [6, 10, 14] (fun v => v = (.agg #[(Iv A_g.x), (Iv A_g.y), (Iv A_g.z)]))]) mixed (by kernel_rfl) (by intro _ _ d _ _ h; cases d <;> exact h) ?_
  obtain ⟨w24, hw26⟩ : ∃ w', w' = World.drew w19 := ⟨_, rfl⟩; rw [← hw26]; have E25 : Ext w19 w24 := by rw [hw26]; exact Ext.draw _
  clear hw26
  have X27 := Ext.gr X22 E25
  refine RW_d (fun v28 => [(Pt g_b g_o), Ud, (Pt b15 0), v28, Ud, Ud, Ud, Ud, Ud, Ud, Ud, Ud, Ud, Ud, Ud, Ud]) rfl (fun _ => rfl) (fun u hu hF => ?_) (fun v28 => ?_)
  · clear hF
    refine doesG_un rfl ?_
    refine (does_move (u := (Pt g_b g_o)) (ev rfl)).mono ?_; rintro _ _ ⟨rfl, rfl⟩
    exact ⟨rfl, Ext.refl _⟩
  refine RW_d (fun v29 => [(Pt g_b g_o), Ud, (Pt b15 0), v28, v29, Ud, Ud, Ud, Ud, Ud, Ud, Ud, Ud, Ud, Ud, Ud]) rfl (fun _ => rfl) (fun u hu hF => ?_) (fun v29 => ?_)
  · have h3_ : v28 = (Pt g_b g_o) := hF.1
    clear hF
    refine doesG_un rfl ?_
    obtain rfl := h3_
    refine (does_nilCheck (ev rfl)).mono ?_; rintro _ _ ⟨rfl, rfl⟩
    exact ⟨rfl, Ext.refl _⟩
  refine RW_d (fun v30 => [(Pt g_b g_o), Ud, (Pt b15 0), v28, v29, v30, Ud, Ud, Ud, Ud, Ud, Ud, Ud, Ud, Ud, Ud]) rfl (fun _ => rfl) (fun u hu hF => ?_) (fun v30 => ?_)
  · have h4_ : v29 = (Pt g_b g_o) := hF.1
    clear hF
    refine doesG_un rfl ?_
    obtain rfl := h4_
    refine (does_fieldAddr (ev rfl) fa49_2).mono ?_; rintro _ _ ⟨rfl, rfl⟩
    exact ⟨rfl, Ext.refl _⟩
  refine RW_d (fun v31 => [(Pt g_b g_o), Ud, (Pt b15 0), v28, v29, v30, v31, Ud, Ud, Ud, Ud, Ud, Ud, Ud, Ud, Ud]) rfl (fun _ => rfl) (fun u hu hF => ?_) (fun v31 => ?_)
  · have h5_ : v30 = (Pt g_b (g_o + 4)) := hF.1
    clear hF
    refine doesG_un rfl ?_
    obtain rfl := h5_
    refine (does_load (u := (Iv A_g.x)) (ev rfl) Try.isAgg2 (Cells.at ((hc_g.ext (Ext.gr X22 E25)).ext hu) 4 rfl)).mono ?_; rintro _ _ ⟨rfl, rfl⟩
    exact ⟨rfl, Ext.refl _⟩
  refine RW_d (fun v32 => [(Pt g_b g_o), Ud, (Pt b15 0), v28, v29, v30, v31, v32, Ud, Ud, Ud, Ud, Ud, Ud, Ud, Ud]) rfl (fun _ => rfl) (fun u hu hF => ?_) (fun v32 => ?_)
  · clear hF
    refine doesG_un rfl ?_
    refine (does_move (u := (Pt g_b g_o)) (ev rfl)).mono ?_; rintro _ _ ⟨rfl, rfl⟩
    exact ⟨rfl, Ext.refl _⟩
  refine RW_d (fun v33 => [(Pt g_b g_o), Ud, (Pt b15 0), v28, v29, v30, v31, v32, v33, Ud, Ud, Ud, Ud, Ud, Ud, Ud]) rfl (fun _ => rfl) (fun u hu hF => ?_) (fun v33 => ?_)
  · have h7_ : v32 = (Pt g_b g_o) := hF.1
    clear hF
    refine doesG_un rfl ?_
    obtain rfl := h7_
    refine (does_nilCheck (ev rfl)).mono ?_; rintro _ _ ⟨rfl, rfl⟩
    exact ⟨rfl, Ext.refl _⟩
  refine RW_d (fun v34 => [(Pt g_b g_o), Ud, (Pt b15 0), v28, v29, v30, v31, v32, v33, v34, Ud, Ud, Ud, Ud, Ud, Ud]) rfl (fun _ => rfl) (fun u hu hF => ?_) (fun v34 => ?_)
  · have h8_ : v33 = (Pt g_b g_o) := hF.1
    clear hF
    refine doesG_un rfl ?_
    obtain rfl := h8_
    refine (does_fieldAddr (ev rfl) fa49_3).mono ?_; rintro _ _ ⟨rfl, rfl⟩
    exact ⟨rfl, Ext.refl _⟩
  refine RW_d (fun v35 => [(Pt g_b g_o), Ud, (Pt b15 0), v28, v29, v30, v31, v32, v33, v34, v35, Ud, Ud, Ud, Ud, Ud]) rfl (fun _ => rfl) (fun u hu hF => ?_) (fun v35 => ?_)
  · have h9_ : v34 = (Pt g_b (g_o + 5)) := hF.1
    clear hF
    refine doesG_un rfl ?_
    obtain rfl := h9_
    refine (does_load (u := (Iv A_g.y)) (ev rfl) Try.isAgg2 (Cells.at ((hc_g.ext (Ext.gr X22 E25)).ext hu) 5 rfl)).mono ?_; rintro _ _ ⟨rfl, rfl⟩
    exact ⟨rfl, Ext.refl _⟩
  refine RW_d (fun v36 => [(Pt g_b g_o), Ud, (Pt b15 0), v28, v29, v30, v31, v32, v33, v34, v35, v36, Ud, Ud, Ud, Ud]) rfl (fun _ => rfl) (fun u hu hF => ?_) (fun v36 => ?_)
  · clear hF
    refine doesG_un rfl ?_
    refine (does_move (u := (Pt g_b g_o)) (ev rfl)).mono ?_; rintro _ _ ⟨rfl, rfl⟩
    exact ⟨rfl, Ext.refl _⟩
  refine RW_d (fun v37 => [(Pt g_b g_o), Ud, (Pt b15 0), v28, v29, v30, v31, v32, v33, v34, v35, v36, v37, Ud, Ud, Ud]) rfl (fun _ => rfl) (fun u hu hF => ?_) (fun v37 => ?_)
  · have h11_ : v36 = (Pt g_b g_o) := hF.1
    clear hF
    refine doesG_un rfl ?_
    obtain rfl := h11_
    refine (does_nilCheck (ev rfl)).mono ?_; rintro _ _ ⟨rfl, rfl⟩
    exact ⟨rfl, Ext.refl _⟩
  refine RW_d (fun v38 => [(Pt g_b g_o), Ud, (Pt b15 0), v28, v29, v30, v31, v32, v33, v34, v35, v36, v37, v38, Ud, Ud]) rfl (fun _ => rfl) (fun u hu hF => ?_) (fun v38 => ?_)
  · have h12_ : v37 = (Pt g_b g_o) := hF.1
    clear hF
    refine doesG_un rfl ?_
    obtain rfl := h12_
    refine (does_fieldAddr (ev rfl) fa49_4).mono ?_; rintro _ _ ⟨rfl, rfl⟩
    exact ⟨rfl, Ext.refl _⟩
  refine RW_d (fun v39 => [(Pt g_b g_o), Ud, (Pt b15 0), v28, v29, v30, v31, v32, v33, v34, v35, v36, v37, v38, v39, Ud]) rfl (fun _ => rfl) (fun u hu hF => ?_) (fun v39 => ?_)
  · have h13_ : v38 = (Pt g_b (g_o + 6)) := hF.1
    clear hF
    refine doesG_un rfl ?_
    obtain rfl := h13_
    refine (does_load (u := (Iv A_g.z)) (ev rfl) Try.isAgg2 (Cells.at ((hc_g.ext (Ext.gr X22 E25)).ext hu) 6 rfl)).mono ?_; rintro _ _ ⟨rfl, rfl⟩
    exact ⟨rfl, Ext.refl _⟩
  refine RW_d (fun v40 => [(Pt g_b g_o), Ud, (Pt b15 0), v28, v29, v30, v31, v32, v33, v34, v35, v36, v37, v38, v39, v40]) rfl (fun _ => rfl) (fun u hu hF => ?_) (fun v40 => ?_)
  · have h6_ : v31 = (Iv A_g.x) := hF.1
    have h10_ : v35 = (Iv A_g.y) := hF.2.1
    have h14_ : v39 = (Iv A_g.z) := hF.2.2.1
    clear hF
    refine doesG_un rfl ?_
    obtain rfl := h6_
    obtain rfl := h10_
    obtain rfl := h14_
    refine (does_build (parts' := [(0, (Iv A_g.x)), (1, (Iv A_g.y)), (2, (Iv A_g.z))]) (cells := #[(Iv A_g.x), (Iv A_g.y), (Iv A_g.z)]) (evp rfl) (by kernel_rfl)).mono ?_; rintro _ _ ⟨rfl, rfl⟩
    exact ⟨rfl, Ext.refl _⟩
  refine RW_fin ?_; intro w41 E42 hP43
  obtain ⟨⟨⟨⟨⟨⟨⟨⟨⟨⟨⟨⟨⟨-, -⟩, -⟩, -⟩, -⟩, -⟩, -⟩, -⟩, -⟩, -⟩, -⟩, -⟩, -⟩, q44⟩ := hP43
  have X45 := Ext.gr X27 E42
  have q44 : v40 = (.agg #[(Iv A_g.x), (Iv A_g.y), (Iv A_g.z)]) := q44
  obtain rfl := q44
  show wpList _ _ _ _ (fr [(Pt g_b g_o), Ud, (Pt b15 0), v28, v29, v30, v31, v32, v33, v34, v35, v36, v37, v38, v39, (.agg #[(Iv A_g.x), (Iv A_g.y), (Iv A_g.z)])]) _
  refine seqn rfl rfl (does_store (n := 3) (cs := [(Iv 0), (Iv 0), (Iv 0)]) (u := (.agg #[(Iv A_g.x), (Iv A_g.y), (Iv A_g.z)])) (ev rfl) (ev rfl) Try.sizeOf88 rfl ((hB17.ext E25).ext E42) (Nat.le_of_ble_eq_true rfl) rfl) ?_; rintro _ w48 ⟨rfl, W46, hB47⟩
  change Blk _ _ [(Iv A_g.x), (Iv A_g.y), (Iv A_g.z)] at hB47
  have X49 := Below.wr X45 W46 g21
  refine wpList_nil (hK23 _ _ ?_)
  refine wp_ret ?_
  refine ret_val (v := (.agg #[(Iv A_g.x), (Iv A_g.y), (Iv A_g.z)])) (res_C rfl (slot rfl) (run_loadAgg (cs := [(Iv A_g.x), (Iv A_g.y), (Iv A_g.z)]) Try.isAgg88 Try.sizeOf88 (Blk.cells hB47) rfl)) X49 ?_
  have x50 : (A_g.x : Int) = A_g.x := by first | with_reducible rfl | (simp only [h2, h4, h6, h8]; done) | (simp [h2, h4, h6, h8]; done) | rfl
  have x51 : (A_g.y : Int) = A_g.y := by first | with_reducible rfl | (simp only [h2, h4, h6, h8]; done) | (simp [h2, h4, h6, h8]; done) | rfl
  have x52 : (A_g.z : Int) = A_g.z := by first | with_reducible rfl | (simp only [h2, h4, h6, h8]; done) | (simp [h2, h4, h6, h8]; done) | rfl
  exact (by first | with_reducible rfl | rw [x50, x51, x52] | rw [x52, x51, x50] | rfl)

/- impl.in -/
theorem c_impl_in (n : Int) (low : Int) (high : Int) (w : World) : Gives Try.prog 59 #[(Iv n), (Iv low), (Iv high)] w (fun v w' => v = (Bo (inI n low high))) := by
  refine enter [(Iv n), (Iv low), (Iv high), Ud, Ud, Ud, Ud, Ud, Ud, Ud, Ud, Ud, Ud, Ud, Ud] Try.func59 rfl Try.ntmps59 rfl ?_
  refine wp_seq_k fun K1 hK1 => ?_
  refine wp_region_lit ?_
  refine q_is (l' := [(Iv n), (Iv low), (Iv high), Ud, Ud, Ud, (Bo false), Ud, Ud, Ud, Ud, Ud, Ud, Ud, Ud]) rfl rfl (does_assign (u := (Bo false)) (ev rfl)) rfl ?_
  refine wpList_nil (hK1 _ _ ?_)
  refine wp_seq_k fun K2 hK2 => ?_
  obtain ⟨β1, hβ1⟩ : ∃ b : Bool, b = ((icmp .geq n low) && (icmp .leq n high)) := ⟨_, rfl⟩
  refine region_text (
    [Fact.pure [] (fun v => v = (Iv n)),
    Fact.pure [] (fun v => v = (Iv low)),
    Fact.pure [7, 8] (fun v => v = (Bo (icmp .geq n low))),
    Fact.pure [9] (fun v => v = (Bo (icmp .geq n low))),
    Fact.pure [10] (fun v => (icmp .geq n low) = true → v = (Iv n)),
    Fact.pure [10] (fun v => (icmp .geq n low) = true → v = (Iv high)),
    Fact.pure [11, 12, 10] (fun v => (icmp .geq n low) = true → v = (Bo (icmp .leq n high))),
    Fact.pure [10, 13] (fun v => v = (Bo β1))]) (by simp [Fact.pure, Fact.mem]) ?_
  refine RW_d (fun v3 => [(Iv n), (Iv low), (Iv high), Ud, Ud, Ud, (Bo false), v3, Ud, Ud, Ud, Ud, Ud, Ud, Ud]) rfl (fun _ => rfl) (fun u hu hF => ?_) (fun v3 => ?_)
  · clear hF
    refine doesG_un rfl ?_
    refine (does_move (u := (Iv n)) (ev rfl)).mono ?_; rintro _ _ ⟨rfl, rfl⟩
    exact ⟨rfl, Ext.refl _⟩
  refine RW_d (fun v4 => [(Iv n), (Iv low), (Iv high), Ud, Ud, Ud, (Bo false), v3, v4, Ud, Ud, Ud, Ud, Ud, Ud]) rfl (fun _ => rfl) (fun u hu hF => ?_) (fun v4 => ?_)
  · clear hF
    refine doesG_un rfl ?_
    refine (does_move (u := (Iv low)) (ev rfl)).mono ?_; rintro _ _ ⟨rfl, rfl⟩
    exact ⟨rfl, Ext.refl _⟩
  refine RW_d (fun v5 => [(Iv n), (Iv low), (Iv high), Ud, Ud, Ud, (Bo false), v3, v4, v5, Ud, Ud, Ud, Ud, Ud]) rfl (fun _ => rfl) (fun u hu hF => ?_) (fun v5 => ?_)
  · have h7_ : v3 = (Iv n) := hF.1
    have h8_ : v4 = (Iv low) := hF.2.1
    clear hF
    refine doesG_un rfl ?_
    obtain rfl := h7_
    obtain rfl := h8_
    refine (does_icmp (p := n) (q := low) (.inr (.inr (.inr (.inr (.inr rfl))))) (ev rfl) (ev rfl)).mono ?_; rintro _ _ ⟨rfl, rfl⟩
    exact ⟨rfl, Ext.refl _⟩
  refine RW_d (fun v6 => [(Iv n), (Iv low), (Iv high), Ud, Ud, Ud, (Bo false), v3, v4, v5, v6, Ud, Ud, Ud, Ud]) rfl (fun _ => rfl) (fun u hu hF => ?_) (fun v6 => ?_)
  · have h9_ : v5 = (Bo (icmp .geq n low)) := hF.1
    clear hF
    refine doesG_un rfl ?_
    obtain rfl := h9_
    refine (does_move (u := (Bo (icmp .geq n low))) (ev rfl)).mono ?_; rintro _ _ ⟨rfl, rfl⟩
    exact ⟨rfl, Ext.refl _⟩
  refine RW_d (fun v7 => [(Iv n), (Iv low), (Iv high), Ud, Ud, Ud, (Bo false), v3, v4, v5, v6, v7, Ud, Ud, Ud]) rfl (fun _ => rfl) (fun u hu hF => ?_) (fun v7 => ?_)
  · have h10_ : v6 = (Bo (icmp .geq n low)) := hF.1
    clear hF
    obtain rfl := h10_
    refine doesG_g (b := (icmp .geq n low)) rfl (yld rfl rfl) (fun hg1 => ?_) (fun hc => ⟨fun hg1 => absurd hg1 hc, Ext.refl _⟩)
    refine (does_move (u := (Iv n)) (ev rfl)).mono ?_; rintro _ _ ⟨rfl, rfl⟩
    exact ⟨fun _ => rfl, Ext.refl _⟩
  refine RW_d (fun v8 => [(Iv n), (Iv low), (Iv high), Ud, Ud, Ud, (Bo false), v3, v4, v5, v6, v7, v8, Ud, Ud]) rfl (fun _ => rfl) (fun u hu hF => ?_) (fun v8 => ?_)
  · have h10_ : v6 = (Bo (icmp .geq n low)) := hF.1
    clear hF
    obtain rfl := h10_
    refine doesG_g (b := (icmp .geq n low)) rfl (yld rfl rfl) (fun hg1 => ?_) (fun hc => ⟨fun hg1 => absurd hg1 hc, Ext.refl _⟩)
    refine (does_move (u := (Iv high)) (ev rfl)).mono ?_; rintro _ _ ⟨rfl, rfl⟩
    exact ⟨fun _ => rfl, Ext.refl _⟩
  refine RW_d (fun v9 => [(Iv n), (Iv low), (Iv high), Ud, Ud, Ud, (Bo false), v3, v4, v5, v6, v7, v8, v9, Ud]) rfl (fun _ => rfl) (fun u hu hF => ?_) (fun v9 => ?_)
  · have h11_ : (icmp .geq n low) = true → v7 = (Iv n) := hF.1
    have h12_ : (icmp .geq n low) = true → v8 = (Iv high) := hF.2.1
    have h10_ : v6 = (Bo (icmp .geq n low)) := hF.2.2.1
    clear hF
    obtain rfl := h10_
    refine doesG_g (b := (icmp .geq n low)) rfl (yld rfl rfl) (fun hg1 => ?_) (fun hc => ⟨fun hg1 => absurd hg1 hc, Ext.refl _⟩)
    obtain rfl := h11_ hg1
    obtain rfl := h12_ hg1
    refine (does_icmp (p := n) (q := high) (.inr (.inr (.inr (.inl rfl)))) (ev rfl) (ev rfl)).mono ?_; rintro _ _ ⟨rfl, rfl⟩
    exact ⟨fun _ => rfl, Ext.refl _⟩
  refine RW_d (fun v10 => [(Iv n), (Iv low), (Iv high), Ud, Ud, Ud, (Bo false), v3, v4, v5, v6, v7, v8, v9, v10]) rfl (fun _ => rfl) (fun u hu hF => ?_) (fun v10 => ?_)
  · have h10_ : v6 = (Bo (icmp .geq n low)) := hF.1
    have h13_ : (icmp .geq n low) = true → v9 = (Bo (icmp .leq n high)) := hF.2.1
    clear hF
    refine doesG_un rfl ?_
    skip
    obtain rfl := h10_
    refine (does_pick (b := (icmp .geq n low)) (u := v9) (v := (Bo false)) (ev rfl) (ev rfl) (ev rfl)).mono ?_; rintro _ _ ⟨rfl, rfl⟩; refine ⟨?_, Ext.refl _⟩; rw [hβ1]; skip
    cases hbb : (icmp .geq n low)
    all_goals first | (show _ = _; simp only [↓reduceIte, Bool.true_and, Bool.false_and, Bool.true_or, Bool.false_or, Bool.false_eq_true]; done) | (have e_ := h13_ hbb; subst e_; show _ = _; simp only [↓reduceIte, Bool.true_and, Bool.false_and, Bool.true_or, Bool.false_or, Bool.false_eq_true]; done) | rfl | (have e_ := h13_ hbb; subst e_; rfl) | (simp [hbb] at h13_ ⊢; first | done | rfl | (subst h13_; rfl) | simp_all) | (simp [hbb] at h13_ ⊢; done)
  refine RW_fin ?_; intro w11 E12 hP13
  obtain ⟨⟨⟨⟨⟨⟨⟨⟨-, -⟩, -⟩, -⟩, -⟩, -⟩, -⟩, -⟩, q14⟩ := hP13
  have X15 := Ext.gr (Ext.refl w) E12
  have q14 : v10 = (Bo β1) := q14
  obtain rfl := q14
  show wpList _ _ _ _ (fr [(Iv n), (Iv low), (Iv high), Ud, Ud, Ud, (Bo false), v3, v4, v5, v6, v7, v8, v9, (Bo β1)]) _
  refine q_is (l' := [(Iv n), (Iv low), (Iv high), Ud, Ud, Ud, (Bo β1), v3, v4, v5, v6, v7, v8, v9, (Bo β1)]) rfl rfl (does_assign (u := (Bo β1)) (ev rfl)) rfl ?_
  refine wpList_nil (hK2 _ _ ?_)
  refine wp_ret ?_
  refine ret_val (v := (Bo β1)) (res_T rfl (slot rfl)) X15 ?_
  have x16 : (inI n low high) = β1 := by first | with_reducible rfl | (simp only [inI, hβ1]; done) | (simp [inI, hβ1]; done) | rfl
  exact (by first | with_reducible rfl | rw [x16] | rfl)

/- impl.ValidGrid -/
theorem c_impl_ValidGrid (g : List Value) (A_g : GridT) (w : World) (hv_g : RGridT w A_g g) : Gives Try.prog 39 #[(.agg g.toArray)] w (fun v w' => v = (Bo (isGrid A_g))) := by
  obtain ⟨r1, r3, r5, r7, y9, rfl, h2, h4, h6, h8, h10⟩ := hv_g
  have hs13 := h10; have hs13l := Sl.len h10; obtain ⟨p11, q12, rfl⟩ := Sl.shape h10
  refine enter [(.agg #[(Fl r1), (Fl r3), (Fl r5), (Fl r7), (Iv A_g.x), (Iv A_g.y), (Iv A_g.z), (.slice p11 A_g.vals.length q12)]), Ud, Ud, Ud, Ud, Ud, Ud, Ud, Ud, Ud, Ud, Ud, Ud, Ud, Ud, Ud, Ud, Ud, Ud, Ud, Ud, Ud, Ud, Ud, Ud, Ud, Ud, Ud, Ud, Ud, Ud, Ud, Ud, Ud, Ud, Ud, Ud, Ud, Ud, Ud, Ud] Try.func39 rfl Try.ntmps39 rfl ?_
  refine wp_seq_k fun K14 hK14 => ?_
  refine wp_region_lit ?_
  refine seqd rfl rfl (does_box (u := (.agg #[(Fl r1), (Fl r3), (Fl r5), (Fl r7), (Iv A_g.x), (Iv A_g.y), (Iv A_g.z), (.slice p11 A_g.vals.length q12)])) (ev rfl)) ?_; rintro _ w19 ⟨b15, rfl, hb16, hB17, E18⟩
  have g20 : w.heap.size ≤ b15 := Nat.le_trans (Below.size (Ext.refl w)) hb16
  change Blk _ _ [(Fl r1), (Fl r3), (Fl r5), (Fl r7), (Iv A_g.x), (Iv A_g.y), (Iv A_g.z), (.slice p11 A_g.vals.length q12)] at hB17
  have X21 := Ext.gr (Ext.refl w) E18
  show wpList _ _ _ _ (fr [_, _, _, _, _, _, _, _, _, _, _, _, _, _, _, _, _, _, _, _, _, _, _, _, _, _, _, _, _, _, _, _, _, _, _, _, _, _, _, _, _]) _
  refine q_is rfl rfl (does_assign (u := (Bo false)) (ev rfl)) (by dsimp only [List.set]; try rfl) ?_
  refine wpList_nil (hK14 _ _ ?_)
  refine wp_seq_k fun K22 hK22 => ?_
  refine wp_seq_k fun K23 hK23 => ?_
  obtain ⟨β1, hβ1⟩ : ∃ b : Bool, b = (finF (cf .f32 r7) && posF (cf .f32 r7)) := ⟨_, rfl⟩
  obtain ⟨β2, hβ2⟩ : ∃ b : Bool, b = ((!(finV A_g.low)) || (!β1)) := ⟨_, rfl⟩
  refine region_text (
    [Fact.pure [] (fun v => v = (Pt b15 0)),
    Fact.pure [6] (fun v => v = (.agg #[(Fl r1), (Fl r3), (Fl r5)])),
    Fact.pure [7] (fun v => v = (Bo (finV A_g.low))),
    Fact.pure [8] (fun v => v = (Bo (!(finV A_g.low)))),
    Fact.pure [9] (fun v => v = (Bo (!(finV A_g.low)))),
    Fact.pure [10] (fun v => (!(finV A_g.low)) = false → v = (Pt b15 3)),
    Fact.pure [11, 10] (fun v => (!(finV A_g.low)) = false → v = (Fl r7)),
    Fact.pure [12, 10] (fun v => (!(finV A_g.low)) = false → v = (Bo β1)),
    Fact.pure [13, 10] (fun v => (!(finV A_g.low)) = false → v = (Bo (!β1))),
    Fact.pure [10, 14] (fun v => v = (Bo β2))]) (by simp [Fact.pure, Fact.mem]) ?_
  refine RW_d _ rfl (fun v => by dsimp only [List.set]; try rfl) (fun u hu hF => ?_) (fun v24 => ?_)
  · clear hF
    refine doesG_un rfl ?_
    refine (does_fieldAddr (ev rfl) fa49_0).mono ?_; rintro _ _ ⟨rfl, rfl⟩
    exact ⟨rfl, Ext.refl _⟩
  refine RW_d _ rfl (fun v => by dsimp only [List.set]; try rfl) (fun u hu hF => ?_) (fun v25 => ?_)
  · have h6_ : v24 = (Pt b15 0) := hF.1
    clear hF
    refine doesG_un rfl ?_
    obtain rfl := h6_
    refine (does_loadAgg (cs := [(Fl r1), (Fl r3), (Fl r5)]) (ev rfl) Try.isAgg47 Try.sizeOf47 (Cells.sub (Blk.cells (hB17.ext hu)) 0 3) rfl).mono ?_; rintro _ _ ⟨rfl, rfl⟩
    exact ⟨rfl, Ext.refl _⟩
  refine RW_d _ rfl (fun v => by dsimp only [List.set]; try rfl) (fun u hu hF => ?_) (fun v26 => ?_)
  · have h7_ : v25 = (.agg #[(Fl r1), (Fl r3), (Fl r5)]) := hF.1
    clear hF
    refine doesG_un rfl ?_
    obtain rfl := h7_
    refine (does_call (args := #[(.agg #[(Fl r1), (Fl r3), (Fl r5)])]) cal56 (evs rfl) (c_impl_finiteVector [(Fl r1), (Fl r3), (Fl r5)] A_g.low _ ⟨r1, r3, r5, rfl, h2, h4, h6⟩)).mono ?_; rintro v u' ⟨hx, hv⟩
    exact ⟨hv, hx⟩
  refine RW_d _ rfl (fun v => by dsimp only [List.set]; try rfl) (fun u hu hF => ?_) (fun v27 => ?_)
  · have h8_ : v26 = (Bo (finV A_g.low)) := hF.1
    clear hF
    refine doesG_un rfl ?_
    obtain rfl := h8_
    refine (does_not (ev rfl)).mono ?_; rintro _ _ ⟨rfl, rfl⟩
    exact ⟨rfl, Ext.refl _⟩
  refine RW_d _ rfl (fun v => by dsimp only [List.set]; try rfl) (fun u hu hF => ?_) (fun v28 => ?_)
  · have h9_ : v27 = (Bo (!(finV A_g.low))) := hF.1
    clear hF
    refine doesG_un rfl ?_
    obtain rfl := h9_
    refine (does_move (u := (Bo (!(finV A_g.low)))) (ev rfl)).mono ?_; rintro _ _ ⟨rfl, rfl⟩
    exact ⟨rfl, Ext.refl _⟩
  refine RW_d _ rfl (fun v => by dsimp only [List.set]; try rfl) (fun u hu hF => ?_) (fun v29 => ?_)
  · have h10_ : v28 = (Bo (!(finV A_g.low))) := hF.1
    clear hF
    obtain rfl := h10_
    refine doesG_g (b := (!(finV A_g.low))) rfl (yld rfl rfl) (fun hg1 => ?_) (fun hc => ⟨fun hg1 => absurd hg1 hc, Ext.refl _⟩)
    refine (does_fieldAddr (ev rfl) fa49_1).mono ?_; rintro _ _ ⟨rfl, rfl⟩
    exact ⟨fun _ => rfl, Ext.refl _⟩
  refine RW_d _ rfl (fun v => by dsimp only [List.set]; try rfl) (fun u hu hF => ?_) (fun v30 => ?_)
  · have h11_ : (!(finV A_g.low)) = false → v29 = (Pt b15 3) := hF.1
    have h10_ : v28 = (Bo (!(finV A_g.low))) := hF.2.1
    clear hF
    obtain rfl := h10_
    refine doesG_g (b := (!(finV A_g.low))) rfl (yld rfl rfl) (fun hg1 => ?_) (fun hc => ⟨fun hg1 => absurd hg1 hc, Ext.refl _⟩)
    obtain rfl := h11_ hg1
    refine (does_load (u := (Fl r7)) (ev rfl) Try.isAgg39 (Cells.at (Blk.cells (hB17.ext hu)) 3 rfl)).mono ?_; rintro _ _ ⟨rfl, rfl⟩
    exact ⟨fun _ => rfl, Ext.refl _⟩
  refine RW_d _ rfl (fun v => by dsimp only [List.set]; try rfl) (fun u hu hF => ?_) (fun v31 => ?_)
  · have h12_ : (!(finV A_g.low)) = false → v30 = (Fl r7) := hF.1
    have h10_ : v28 = (Bo (!(finV A_g.low))) := hF.2.1
    clear hF
    obtain rfl := h10_
    refine doesG_g (b := (!(finV A_g.low))) rfl (yld rfl rfl) (fun hg1 => ?_) (fun hc => ⟨fun hg1 => absurd hg1 hc, Ext.refl _⟩)
    obtain rfl := h12_ hg1
    refine (does_call (args := #[(Fl r7)]) cal57 (evs rfl) (c_impl_stepOk r7 _)).mono ?_; rintro v u' ⟨hx, hv⟩
    exact ⟨fun _ => hv.trans (by simp only [hβ1]), hx⟩
  refine RW_d _ rfl (fun v => by dsimp only [List.set]; try rfl) (fun u hu hF => ?_) (fun v32 => ?_)
  · have h13_ : (!(finV A_g.low)) = false → v31 = (Bo β1) := hF.1
    have h10_ : v28 = (Bo (!(finV A_g.low))) := hF.2.1
    clear hF
    obtain rfl := h10_
    refine doesG_g (b := (!(finV A_g.low))) rfl (yld rfl rfl) (fun hg1 => ?_) (fun hc => ⟨fun hg1 => absurd hg1 hc, Ext.refl _⟩)
    obtain rfl := h13_ hg1
    refine (does_not (ev rfl)).mono ?_; rintro _ _ ⟨rfl, rfl⟩
    exact ⟨fun _ => rfl, Ext.refl _⟩
  refine RW_d _ rfl (fun v => by dsimp only [List.set]; try rfl) (fun u hu hF => ?_) (fun v33 => ?_)
  · have h10_ : v28 = (Bo (!(finV A_g.low))) := hF.1
    have h14_ : (!(finV A_g.low)) = false → v32 = (Bo (!β1)) := hF.2.1
    clear hF
    refine doesG_un rfl ?_
    skip
    obtain rfl := h10_
    refine (does_pick (b := (!(finV A_g.low))) (u := (Bo true)) (v := v32) (ev rfl) (ev rfl) (ev rfl)).mono ?_; rintro _ _ ⟨rfl, rfl⟩; refine ⟨?_, Ext.refl _⟩; rw [hβ2]; skip
    cases hbb : (!(finV A_g.low))
    all_goals first | (show _ = _; simp only [↓reduceIte, Bool.true_and, Bool.false_and, Bool.true_or, Bool.false_or, Bool.false_eq_true]; done) | (have e_ := h14_ hbb; subst e_; show _ = _; simp only [↓reduceIte, Bool.true_and, Bool.false_and, Bool.true_or, Bool.false_or, Bool.false_eq_true]; done) | rfl | (have e_ := h14_ hbb; subst e_; rfl) | (simp [hbb] at h14_ ⊢; first | done | rfl | (subst h14_; rfl) | simp_all) | (simp [hbb] at h14_ ⊢; done)
  refine RW_fin ?_; intro w34 E35 hP36
  obtain ⟨⟨⟨⟨⟨⟨⟨⟨⟨⟨-, -⟩, -⟩, -⟩, -⟩, -⟩, -⟩, -⟩, -⟩, -⟩, q37⟩ := hP36
  have X38 := Ext.gr X21 E35
  have q37 : v33 = (Bo β2) := q37
  obtain rfl := q37
  show wpList _ _ _ _ (fr [_, _, _, _, _, _, _, _, _, _, _, _, _, _, _, _, _, _, _, _, _, _, _, _, _, _, _, _, _, _, _, _, _, _, _, _, _, _, _, _, _]) _
  refine wpList_nil (hK23 _ _ ?_)
  refine wp_cond_split (t := β2) (ev rfl) (fun c39 => ?_) (fun c39 => ?_)
  · have c39' := c39
    (try simp only [hβ1, hβ2] at c39')
    (try simp only [icmp, Bool.and_eq_true, Bool.or_eq_true, Bool.and_eq_false_iff, Bool.or_eq_false_iff, Bool.not_eq_true', Bool.not_eq_false', decide_eq_true_eq, decide_eq_false_iff_not, beq_iff_eq, bne_iff_ne, beq_eq_false_iff_ne, bne_eq_false_iff_eq] at c39')
    refine wp_seq_k fun K40 hK40 => ?_
    refine wp_region_lit ?_
    refine q_is rfl rfl (does_assign (u := (Bo false)) (ev rfl)) (by dsimp only [List.set]; try rfl) ?_
    refine wpList_nil (hK40 _ _ ?_)
    refine wp_ret ?_
    dsimp only [Exit.then, Exit.inBlock]
    refine ret_val (v := (Bo false)) (res_T rfl (slot rfl)) X38 ?_
    try simp only [h2, h4, h6, h8, hβ1, hβ2] at c39
    have x41 : (isGrid A_g) = false := by first | with_reducible rfl | (simp only [isGrid, cntOk, prod3, h2, h4, h6, h8, hβ1, hβ2, c39]; done) | (simp [isGrid, cntOk, prod3, h2, h4, h6, h8, hβ1, hβ2, c39]; done) | (revert c39; simp +contextual [isGrid, cntOk, prod3, h2, h4, h6, h8, hβ1, hβ2]; done) | (rcases c39' with hh | hh <;> simp only [hh, isGrid, cntOk, prod3, h2, h4, h6, h8, hβ1, hβ2, c39]; done) | (rcases c39' with hh | hh <;> simp_all [isGrid, cntOk, prod3]; done) | (rcases c39' with hh | hh | hh <;> simp_all [isGrid, cntOk, prod3]; done) | (rcases c39' with hh | hh | hh | hh <;> simp_all [isGrid, cntOk, prod3]; done) | (simp_all [isGrid, cntOk, prod3]; done) | rfl
    exact (by first | with_reducible rfl | rw [x41] | rfl)
  have c39' := c39
  (try simp only [hβ1, hβ2] at c39')
  (try simp only [icmp, Bool.and_eq_true, Bool.or_eq_true, Bool.and_eq_false_iff, Bool.or_eq_false_iff, Bool.not_eq_true', Bool.not_eq_false', decide_eq_true_eq, decide_eq_false_iff_not, beq_iff_eq, bne_iff_ne, beq_eq_false_iff_ne, bne_eq_false_iff_eq] at c39')
  refine wp_skip (hK22 _ _ ?_)
  refine wp_seq_k fun K42 hK42 => ?_
  refine wp_seq_k fun K43 hK43 => ?_
  refine wp_region_lit ?_
  refine seqd rfl rfl (does_call (args := #[(Pt b15 0)]) cal58 (evs rfl) (c_impl_Grid_counts b15 0 [(Fl r1), (Fl r3), (Fl r5), (Fl r7), (Iv A_g.x), (Iv A_g.y), (Iv A_g.z), (.slice p11 A_g.vals.length q12)] A_g _ (Blk.cells (hB17.ext E35)) ⟨r1, r3, r5, r7, (.slice p11 A_g.vals.length q12), rfl, h2, h4, h6, h8, (Sl.ext hs13 RF.mono X38)⟩)) ?_; rintro _ w45 ⟨E44, rfl⟩
  have X46 := Ext.gr X38 E44
  show wpList _ _ _ _ (fr [_, _, _, _, _, _, _, _, _, _, _, _, _, _, _, _, _, _, _, _, _, _, _, _, _, _, _, _, _, _, _, _, _, _, _, _, _, _, _, _, _]) _
  refine q_is rfl rfl (does_move (u := (Iv 0)) (ev rfl)) (by dsimp only [List.set]; try rfl) ?_
  refine wpList_nil (hK43 _ _ ?_)
  refine wp_block ?_
  refine loop_unroll 4 ?_
  refine un_step ?_
  refine wp_seq_k fun K47 hK47 => ?_
  refine wp_region_lit ?_
  refine q_is rfl rfl (does_icmp (p := 0) (q := 3) (.inr (.inr (.inl rfl))) (ev rfl) (ev rfl)) (by dsimp only [List.set]; try rfl) ?_
  refine wpList_nil (hK47 _ _ ?_)
  refine wp_seq_k fun K48 hK48 => ?_
  refine wp_cond_true (ev rfl) ?_
  refine wp_skip (hK48 _ _ ?_)
  refine wp_seq_k fun K49 hK49 => ?_
  refine wp_block ?_
  refine wp_seq_k fun K50 hK50 => ?_
  refine wp_region_lit ?_
  refine q_is rfl rfl (does_index_run (r := (Iv A_g.x)) (ev rfl) (ev rfl) (fun w => ix88_0 _ _ _ w)) (by dsimp only [List.set]; try rfl) ?_
  refine q_is rfl rfl (does_assign (u := (Iv A_g.x)) (ev rfl)) (by dsimp only [List.set]; try rfl) ?_
  refine wpList_nil (hK50 _ _ ?_)
  refine wp_seq_k fun K51 hK51 => ?_
  refine wp_region_lit ?_
  refine q_is rfl rfl (does_move (u := (Iv A_g.x)) (ev rfl)) (by dsimp only [List.set]; try rfl) ?_
  refine seqd rfl rfl (does_call (args := #[(Iv A_g.x), (Iv 1), (Iv 16)]) cal59 (evs rfl) (c_impl_in A_g.x 1 16 _)) ?_; rintro _ w53 ⟨E52, rfl⟩
  have X54 := Ext.gr X46 E52
  show wpList _ _ _ _ (fr [_, _, _, _, _, _, _, _, _, _, _, _, _, _, _, _, _, _, _, _, _, _, _, _, _, _, _, _, _, _, _, _, _, _, _, _, _, _, _, _, _]) _
  refine q_is rfl rfl (does_not (ev rfl)) (by dsimp only [List.set]; try rfl) ?_
  refine wpList_nil (hK51 _ _ ?_)
  refine wp_cond_split (t := !(inI A_g.x 1 16)) (ev rfl) (fun c55 => ?_) (fun c55 => ?_)
  · rw [Bool.not_eq_true'] at c55
    have c55' := c55
    (try simp only [hβ1, hβ2] at c55')
    (try simp only [icmp, Bool.and_eq_true, Bool.or_eq_true, Bool.and_eq_false_iff, Bool.or_eq_false_iff, Bool.not_eq_true', Bool.not_eq_false', decide_eq_true_eq, decide_eq_false_iff_not, beq_iff_eq, bne_iff_ne, beq_eq_false_iff_ne, bne_eq_false_iff_eq] at c55')
    refine wp_seq_k fun K56 hK56 => ?_
    refine wp_region_lit ?_
    refine q_is rfl rfl (does_assign (u := (Bo false)) (ev rfl)) (by dsimp only [List.set]; try rfl) ?_
    refine wpList_nil (hK56 _ _ ?_)
    refine wp_ret ?_
    dsimp only [Exit.then, Exit.inBlock]
    refine ret_val (v := (Bo false)) (res_T rfl (slot rfl)) X54 ?_
    try simp only [h2, h4, h6, h8, hβ1, hβ2] at c39 c55
    have x57 : (isGrid A_g) = false := by first | with_reducible rfl | (simp only [isGrid, cntOk, prod3, h2, h4, h6, h8, hβ1, hβ2, c39, c55]; done) | (simp [isGrid, cntOk, prod3, h2, h4, h6, h8, hβ1, hβ2, c39, c55]; done) | (revert c39 c55; simp +contextual [isGrid, cntOk, prod3, h2, h4, h6, h8, hβ1, hβ2]; done) | (rcases c39' with hh | hh <;> simp only [hh, isGrid, cntOk, prod3, h2, h4, h6, h8, hβ1, hβ2, c39, c55]; done) | (rcases c55' with hh | hh <;> simp only [hh, isGrid, cntOk, prod3, h2, h4, h6, h8, hβ1, hβ2, c39, c55]; done) | (rcases c55' with hh | hh <;> simp_all [isGrid, cntOk, prod3]; done) | (rcases c55' with hh | hh | hh <;> simp_all [isGrid, cntOk, prod3]; done) | (rcases c55' with hh | hh | hh | hh <;> simp_all [isGrid, cntOk, prod3]; done) | (simp_all [isGrid, cntOk, prod3]; done) | rfl
    exact (by first | with_reducible rfl | rw [x57] | rfl)
  rw [Bool.not_eq_false'] at c55
  have c55' := c55
  (try simp only [hβ1, hβ2] at c55')
  (try simp only [icmp, Bool.and_eq_true, Bool.or_eq_true, Bool.and_eq_false_iff, Bool.or_eq_false_iff, Bool.not_eq_true', Bool.not_eq_false', decide_eq_true_eq, decide_eq_false_iff_not, beq_iff_eq, bne_iff_ne, beq_eq_false_iff_ne, bne_eq_false_iff_eq] at c55')
  refine wp_skip (hK49 _ _ ?_)
  refine wp_region_lit ?_
  refine q_is rfl rfl (does_iarith (p := 0) (q := 1) (r := (1)) (ev rfl) (ev rfl) (.inl ⟨rfl, rfl⟩)) (by dsimp only [List.set]; try rfl) ?_
  refine q_is rfl rfl (does_move (u := (Iv 1)) (ev rfl)) (by dsimp only [List.set]; try rfl) ?_
  refine wpList_nil ?_
  refine un_step ?_
  refine wp_seq_k fun K58 hK58 => ?_
  refine wp_region_lit ?_
  refine q_is rfl rfl (does_icmp (p := 1) (q := 3) (.inr (.inr (.inl rfl))) (ev rfl) (ev rfl)) (by dsimp only [List.set]; try rfl) ?_
  refine wpList_nil (hK58 _ _ ?_)
  refine wp_seq_k fun K59 hK59 => ?_
  refine wp_cond_true (ev rfl) ?_
  refine wp_skip (hK59 _ _ ?_)
  refine wp_seq_k fun K60 hK60 => ?_
  refine wp_block ?_
  refine wp_seq_k fun K61 hK61 => ?_
  refine wp_region_lit ?_
  refine q_is rfl rfl (does_index_run (r := (Iv A_g.y)) (ev rfl) (ev rfl) (fun w => ix88_1 _ _ _ w)) (by dsimp only [List.set]; try rfl) ?_
  refine q_is rfl rfl (does_assign (u := (Iv A_g.y)) (ev rfl)) (by dsimp only [List.set]; try rfl) ?_
  refine wpList_nil (hK61 _ _ ?_)
  refine wp_seq_k fun K62 hK62 => ?_
  refine wp_region_lit ?_
  refine q_is rfl rfl (does_move (u := (Iv A_g.y)) (ev rfl)) (by dsimp only [List.set]; try rfl) ?_
  refine seqd rfl rfl (does_call (args := #[(Iv A_g.y), (Iv 1), (Iv 16)]) cal59 (evs rfl) (c_impl_in A_g.y 1 16 _)) ?_; rintro _ w64 ⟨E63, rfl⟩
  have X65 := Ext.gr X54 E63
  show wpList _ _ _ _ (fr [_, _, _, _, _, _, _, _, _, _, _, _, _, _, _, _, _, _, _, _, _, _, _, _, _, _, _, _, _, _, _, _, _, _, _, _, _, _, _, _, _]) _
  refine q_is rfl rfl (does_not (ev rfl)) (by dsimp only [List.set]; try rfl) ?_
  refine wpList_nil (hK62 _ _ ?_)
  refine wp_cond_split (t := !(inI A_g.y 1 16)) (ev rfl) (fun c66 => ?_) (fun c66 => ?_)
  · rw [Bool.not_eq_true'] at c66
    have c66' := c66
    (try simp only [hβ1, hβ2] at c66')
    (try simp only [icmp, Bool.and_eq_true, Bool.or_eq_true, Bool.and_eq_false_iff, Bool.or_eq_false_iff, Bool.not_eq_true', Bool.not_eq_false', decide_eq_true_eq, decide_eq_false_iff_not, beq_iff_eq, bne_iff_ne, beq_eq_false_iff_ne, bne_eq_false_iff_eq] at c66')
    refine wp_seq_k fun K67 hK67 => ?_
    refine wp_region_lit ?_
    refine q_is rfl rfl (does_assign (u := (Bo false)) (ev rfl)) (by dsimp only [List.set]; try rfl) ?_
    refine wpList_nil (hK67 _ _ ?_)
    refine wp_ret ?_
    dsimp only [Exit.then, Exit.inBlock]
    refine ret_val (v := (Bo false)) (res_T rfl (slot rfl)) X65 ?_
    try simp only [h2, h4, h6, h8, hβ1, hβ2] at c39 c55 c66
    have x68 : (isGrid A_g) = false := by first | with_reducible rfl | (simp only [isGrid, cntOk, prod3, h2, h4, h6, h8, hβ1, hβ2, c39, c55, c66]; done) | (simp [isGrid, cntOk, prod3, h2, h4, h6, h8, hβ1, hβ2, c39, c55, c66]; done) | (revert c39 c55 c66; simp +contextual [isGrid, cntOk, prod3, h2, h4, h6, h8, hβ1, hβ2]; done) | (rcases c39' with hh | hh <;> simp only [hh, isGrid, cntOk, prod3, h2, h4, h6, h8, hβ1, hβ2, c39, c55, c66]; done) | (rcases c55' with hh | hh <;> simp only [hh, isGrid, cntOk, prod3, h2, h4, h6, h8, hβ1, hβ2, c39, c55, c66]; done) | (rcases c66' with hh | hh <;> simp only [hh, isGrid, cntOk, prod3, h2, h4, h6, h8, hβ1, hβ2, c39, c55, c66]; done) | (rcases c66' with hh | hh <;> simp_all [isGrid, cntOk, prod3]; done) | (rcases c66' with hh | hh | hh <;> simp_all [isGrid, cntOk, prod3]; done) | (rcases c66' with hh | hh | hh | hh <;> simp_all [isGrid, cntOk, prod3]; done) | (simp_all [isGrid, cntOk, prod3]; done) | rfl
    exact (by first | with_reducible rfl | rw [x68] | rfl)
  rw [Bool.not_eq_false'] at c66
  have c66' := c66
  (try simp only [hβ1, hβ2] at c66')
  (try simp only [icmp, Bool.and_eq_true, Bool.or_eq_true, Bool.and_eq_false_iff, Bool.or_eq_false_iff, Bool.not_eq_true', Bool.not_eq_false', decide_eq_true_eq, decide_eq_false_iff_not, beq_iff_eq, bne_iff_ne, beq_eq_false_iff_ne, bne_eq_false_iff_eq] at c66')
  refine wp_skip (hK60 _ _ ?_)
  refine wp_region_lit ?_
  refine q_is rfl rfl (does_iarith (p := 1) (q := 1) (r := (2)) (ev rfl) (ev rfl) (.inl ⟨rfl, rfl⟩)) (by dsimp only [List.set]; try rfl) ?_
  refine q_is rfl rfl (does_move (u := (Iv 2)) (ev rfl)) (by dsimp only [List.set]; try rfl) ?_
  refine wpList_nil ?_
  refine un_step ?_
  refine wp_seq_k fun K69 hK69 => ?_
  refine wp_region_lit ?_
  refine q_is rfl rfl (does_icmp (p := 2) (q := 3) (.inr (.inr (.inl rfl))) (ev rfl) (ev rfl)) (by dsimp only [List.set]; try rfl) ?_
  refine wpList_nil (hK69 _ _ ?_)
  refine wp_seq_k fun K70 hK70 => ?_
  refine wp_cond_true (ev rfl) ?_
  refine wp_skip (hK70 _ _ ?_)
  refine wp_seq_k fun K71 hK71 => ?_
  refine wp_block ?_
  refine wp_seq_k fun K72 hK72 => ?_
  refine wp_region_lit ?_
  refine q_is rfl rfl (does_index_run (r := (Iv A_g.z)) (ev rfl) (ev rfl) (fun w => ix88_2 _ _ _ w)) (by dsimp only [List.set]; try rfl) ?_
  refine q_is rfl rfl (does_assign (u := (Iv A_g.z)) (ev rfl)) (by dsimp only [List.set]; try rfl) ?_
  refine wpList_nil (hK72 _ _ ?_)
  refine wp_seq_k fun K73 hK73 => ?_
  refine wp_region_lit ?_
  refine q_is rfl rfl (does_move (u := (Iv A_g.z)) (ev rfl)) (by dsimp only [List.set]; try rfl) ?_
  refine seqd rfl rfl (does_call (args := #[(Iv A_g.z), (Iv 1), (Iv 16)]) cal59 (evs rfl) (c_impl_in A_g.z 1 16 _)) ?_; rintro _ w75 ⟨E74, rfl⟩
  have X76 := Ext.gr X65 E74
  show wpList _ _ _ _ (fr [_, _, _, _, _, _, _, _, _, _, _, _, _, _, _, _, _, _, _, _, _, _, _, _, _, _, _, _, _, _, _, _, _, _, _, _, _, _, _, _, _]) _
  refine q_is rfl rfl (does_not (ev rfl)) (by dsimp only [List.set]; try rfl) ?_
  refine wpList_nil (hK73 _ _ ?_)
  refine wp_cond_split (t := !(inI A_g.z 1 16)) (ev rfl) (fun c77 => ?_) (fun c77 => ?_)
  · rw [Bool.not_eq_true'] at c77
    have c77' := c77
    (try simp only [hβ1, hβ2] at c77')
    (try simp only [icmp, Bool.and_eq_true, Bool.or_eq_true, Bool.and_eq_false_iff, Bool.or_eq_false_iff, Bool.not_eq_true', Bool.not_eq_false', decide_eq_true_eq, decide_eq_false_iff_not, beq_iff_eq, bne_iff_ne, beq_eq_false_iff_ne, bne_eq_false_iff_eq] at c77')
    refine wp_seq_k fun K78 hK78 => ?_
    refine wp_region_lit ?_
    refine q_is rfl rfl (does_assign (u := (Bo false)) (ev rfl)) (by dsimp only [List.set]; try rfl) ?_
    refine wpList_nil (hK78 _ _ ?_)
    refine wp_ret ?_
    dsimp only [Exit.then, Exit.inBlock]
    refine ret_val (v := (Bo false)) (res_T rfl (slot rfl)) X76 ?_
    try simp only [h2, h4, h6, h8, hβ1, hβ2] at c39 c55 c66 c77
    have x79 : (isGrid A_g) = false := by first | with_reducible rfl | (simp only [isGrid, cntOk, prod3, h2, h4, h6, h8, hβ1, hβ2, c39, c55, c66, c77]; done) | (simp [isGrid, cntOk, prod3, h2, h4, h6, h8, hβ1, hβ2, c39, c55, c66, c77]; done) | (revert c39 c55 c66 c77; simp +contextual [isGrid, cntOk, prod3, h2, h4, h6, h8, hβ1, hβ2]; done) | (rcases c39' with hh | hh <;> simp only [hh, isGrid, cntOk, prod3, h2, h4, h6, h8, hβ1, hβ2, c39, c55, c66, c77]; done) | (rcases c55' with hh | hh <;> simp only [hh, isGrid, cntOk, prod3, h2, h4, h6, h8, hβ1, hβ2, c39, c55, c66, c77]; done) | (rcases c66' with hh | hh <;> simp only [hh, isGrid, cntOk, prod3, h2, h4, h6, h8, hβ1, hβ2, c39, c55, c66, c77]; done) | (rcases c77' with hh | hh <;> simp only [hh, isGrid, cntOk, prod3, h2, h4, h6, h8, hβ1, hβ2, c39, c55, c66, c77]; done) | (rcases c77' with hh | hh <;> simp_all [isGrid, cntOk, prod3]; done) | (rcases c77' with hh | hh | hh <;> simp_all [isGrid, cntOk, prod3]; done) | (rcases c77' with hh | hh | hh | hh <;> simp_all [isGrid, cntOk, prod3]; done) | (simp_all [isGrid, cntOk, prod3]; done) | rfl
    exact (by first | with_reducible rfl | rw [x79] | rfl)
  rw [Bool.not_eq_false'] at c77
  have c77' := c77
  (try simp only [hβ1, hβ2] at c77')
  (try simp only [icmp, Bool.and_eq_true, Bool.or_eq_true, Bool.and_eq_false_iff, Bool.or_eq_false_iff, Bool.not_eq_true', Bool.not_eq_false', decide_eq_true_eq, decide_eq_false_iff_not, beq_iff_eq, bne_iff_ne, beq_eq_false_iff_ne, bne_eq_false_iff_eq] at c77')
  refine wp_skip (hK71 _ _ ?_)
  refine wp_region_lit ?_
  refine q_is rfl rfl (does_iarith (p := 2) (q := 1) (r := (3)) (ev rfl) (ev rfl) (.inl ⟨rfl, rfl⟩)) (by dsimp only [List.set]; try rfl) ?_
  refine q_is rfl rfl (does_move (u := (Iv 3)) (ev rfl)) (by dsimp only [List.set]; try rfl) ?_
  refine wpList_nil ?_
  refine un_step ?_
  refine wp_seq_k fun K80 hK80 => ?_
  refine wp_region_lit ?_
  refine q_is rfl rfl (does_icmp (p := 3) (q := 3) (.inr (.inr (.inl rfl))) (ev rfl) (ev rfl)) (by dsimp only [List.set]; try rfl) ?_
  refine wpList_nil (hK80 _ _ ?_)
  refine wp_seq_k fun K81 hK81 => ?_
  refine wp_cond_false (ev rfl) ?_
  refine wp_exit ?_
  refine hK42 _ _ ?_
  refine wp_seq_k fun K82 hK82 => ?_
  refine wp_region_lit ?_
  refine q_is rfl rfl (does_fieldAddr (ev rfl) fa49_2) (by dsimp only [List.set]; try rfl) ?_
  refine q_is rfl rfl (does_load (u := (Iv A_g.x)) (ev rfl) Try.isAgg2 (Cells.at (Blk.cells (((((hB17.ext E35).ext E44).ext E52).ext E63).ext E74)) 4 rfl)) (by dsimp only [List.set]; try rfl) ?_
  refine q_is rfl rfl (does_fieldAddr (ev rfl) fa49_3) (by dsimp only [List.set]; try rfl) ?_
  refine q_is rfl rfl (does_load (u := (Iv A_g.y)) (ev rfl) Try.isAgg2 (Cells.at (Blk.cells (((((hB17.ext E35).ext E44).ext E52).ext E63).ext E74)) 5 rfl)) (by dsimp only [List.set]; try rfl) ?_
  refine q_is rfl rfl (does_iarith (p := A_g.x) (q := A_g.y) (r := IntKind.i64.wrap (A_g.x * A_g.y)) (ev rfl) (ev rfl) (.inr (.inr ⟨rfl, rfl⟩))) (by dsimp only [List.set]; try rfl) ?_
  refine q_is rfl rfl (does_fieldAddr (ev rfl) fa49_4) (by dsimp only [List.set]; try rfl) ?_
  refine q_is rfl rfl (does_load (u := (Iv A_g.z)) (ev rfl) Try.isAgg2 (Cells.at (Blk.cells (((((hB17.ext E35).ext E44).ext E52).ext E63).ext E74)) 6 rfl)) (by dsimp only [List.set]; try rfl) ?_
  refine q_is rfl rfl (does_iarith (p := IntKind.i64.wrap (A_g.x * A_g.y)) (q := A_g.z) (r := IntKind.i64.wrap ((IntKind.i64.wrap (A_g.x * A_g.y)) * A_g.z)) (ev rfl) (ev rfl) (.inr (.inr ⟨rfl, rfl⟩))) (by dsimp only [List.set]; try rfl) ?_
  refine q_is rfl rfl (does_assign (u := (Iv (IntKind.i64.wrap ((IntKind.i64.wrap (A_g.x * A_g.y)) * A_g.z)))) (ev rfl)) (by dsimp only [List.set]; try rfl) ?_
  refine wpList_nil (hK82 _ _ ?_)
  refine wp_seq_k fun K83 hK83 => ?_
  obtain ⟨β3, hβ3⟩ : ∃ b : Bool, b = (icmp .leq (IntKind.i64.wrap ((IntKind.i64.wrap (A_g.x * A_g.y)) * A_g.z)) 1024) := ⟨_, rfl⟩
  obtain ⟨β4, hβ4⟩ : ∃ b : Bool, b = (icmp .eql (A_g.vals.length : Int) (IntKind.i64.wrap ((IntKind.i64.wrap (A_g.x * A_g.y)) * A_g.z))) := ⟨_, rfl⟩
  refine region_text (
    [Fact.pure [] (fun v => v = (Iv (IntKind.i64.wrap ((IntKind.i64.wrap (A_g.x * A_g.y)) * A_g.z)))),
    Fact.pure [32] (fun v => v = (Bo β3)),
    Fact.pure [33] (fun v => v = (Bo β3)),
    Fact.pure [34] (fun v => β3 = true → v = (Pt b15 7)),
    Fact.pure [35, 34] (fun v => β3 = true → v = (.slice p11 A_g.vals.length q12)),
    Fact.pure [36, 34] (fun v => β3 = true → v = (Iv (A_g.vals.length : Int))),
    Fact.pure [34] (fun v => β3 = true → v = (Iv (IntKind.i64.wrap ((IntKind.i64.wrap (A_g.x * A_g.y)) * A_g.z)))),
    Fact.pure [37, 38, 34] (fun v => β3 = true → v = (Bo β4)),
    Fact.pure [34, 39] (fun v => v = (Bo (β3 && β4)))]) (by simp [Fact.pure, Fact.mem]) ?_
  refine RW_d _ rfl (fun v => by dsimp only [List.set]; try rfl) (fun u hu hF => ?_) (fun v84 => ?_)
  · clear hF
    refine doesG_un rfl ?_
    refine (does_move (u := (Iv (IntKind.i64.wrap ((IntKind.i64.wrap (A_g.x * A_g.y)) * A_g.z)))) (ev rfl)).mono ?_; rintro _ _ ⟨rfl, rfl⟩
    exact ⟨rfl, Ext.refl _⟩
  refine RW_d _ rfl (fun v => by dsimp only [List.set]; try rfl) (fun u hu hF => ?_) (fun v85 => ?_)
  · have h32_ : v84 = (Iv (IntKind.i64.wrap ((IntKind.i64.wrap (A_g.x * A_g.y)) * A_g.z))) := hF.1
    clear hF
    refine doesG_un rfl ?_
    obtain rfl := h32_
    refine (does_icmp (p := IntKind.i64.wrap ((IntKind.i64.wrap (A_g.x * A_g.y)) * A_g.z)) (q := 1024) (.inr (.inr (.inr (.inl rfl)))) (ev rfl) (ev rfl)).mono ?_; rintro _ _ ⟨rfl, rfl⟩
    exact ⟨(by first | rfl | (show _ = _; simp only [hβ3]; done) | (show _ = _; simp only [hβ3]; rfl)), Ext.refl _⟩
  refine RW_d _ rfl (fun v => by dsimp only [List.set]; try rfl) (fun u hu hF => ?_) (fun v86 => ?_)
  · have h33_ : v85 = (Bo β3) := hF.1
    clear hF
    refine doesG_un rfl ?_
    obtain rfl := h33_
    refine (does_move (u := (Bo β3)) (ev rfl)).mono ?_; rintro _ _ ⟨rfl, rfl⟩
    exact ⟨rfl, Ext.refl _⟩
  refine RW_d _ rfl (fun v => by dsimp only [List.set]; try rfl) (fun u hu hF => ?_) (fun v87 => ?_)
  · have h34_ : v86 = (Bo β3) := hF.1
    clear hF
    obtain rfl := h34_
    refine doesG_g (b := β3) rfl (yld rfl rfl) (fun hg1 => ?_) (fun hc => ⟨fun hg1 => absurd hg1 hc, Ext.refl _⟩)
    refine (does_fieldAddr (ev rfl) fa49_5).mono ?_; rintro _ _ ⟨rfl, rfl⟩
    exact ⟨fun _ => rfl, Ext.refl _⟩
  refine RW_d _ rfl (fun v => by dsimp only [List.set]; try rfl) (fun u hu hF => ?_) (fun v88 => ?_)
  · have h35_ : β3 = true → v87 = (Pt b15 7) := hF.1
    have h34_ : v86 = (Bo β3) := hF.2.1
    clear hF
    obtain rfl := h34_
    refine doesG_g (b := β3) rfl (yld rfl rfl) (fun hg1 => ?_) (fun hc => ⟨fun hg1 => absurd hg1 hc, Ext.refl _⟩)
    obtain rfl := h35_ hg1
    refine (does_load (u := (.slice p11 A_g.vals.length q12)) (ev rfl) Try.isAgg42 (Cells.at (Blk.cells ((((((hB17.ext E35).ext E44).ext E52).ext E63).ext E74).ext hu)) 7 rfl)).mono ?_; rintro _ _ ⟨rfl, rfl⟩
    exact ⟨fun _ => rfl, Ext.refl _⟩
  refine RW_d _ rfl (fun v => by dsimp only [List.set]; try rfl) (fun u hu hF => ?_) (fun v89 => ?_)
  · have h36_ : β3 = true → v88 = (.slice p11 A_g.vals.length q12) := hF.1
    have h34_ : v86 = (Bo β3) := hF.2.1
    clear hF
    obtain rfl := h34_
    refine doesG_g (b := β3) rfl (yld rfl rfl) (fun hg1 => ?_) (fun hc => ⟨fun hg1 => absurd hg1 hc, Ext.refl _⟩)
    obtain rfl := h36_ hg1
    refine (does_len_slice Try.underlying42 (ev rfl)).mono ?_; rintro _ _ ⟨rfl, rfl⟩
    exact ⟨fun _ => rfl, Ext.refl _⟩
  refine RW_d _ rfl (fun v => by dsimp only [List.set]; try rfl) (fun u hu hF => ?_) (fun v90 => ?_)
  · have h34_ : v86 = (Bo β3) := hF.1
    clear hF
    obtain rfl := h34_
    refine doesG_g (b := β3) rfl (yld rfl rfl) (fun hg1 => ?_) (fun hc => ⟨fun hg1 => absurd hg1 hc, Ext.refl _⟩)
    refine (does_move (u := (Iv (IntKind.i64.wrap ((IntKind.i64.wrap (A_g.x * A_g.y)) * A_g.z)))) (ev rfl)).mono ?_; rintro _ _ ⟨rfl, rfl⟩
    exact ⟨fun _ => rfl, Ext.refl _⟩
  refine RW_d _ rfl (fun v => by dsimp only [List.set]; try rfl) (fun u hu hF => ?_) (fun v91 => ?_)
  · have h37_ : β3 = true → v89 = (Iv (A_g.vals.length : Int)) := hF.1
    have h38_ : β3 = true → v90 = (Iv (IntKind.i64.wrap ((IntKind.i64.wrap (A_g.x * A_g.y)) * A_g.z))) := hF.2.1
    have h34_ : v86 = (Bo β3) := hF.2.2.1
    clear hF
    obtain rfl := h34_
    refine doesG_g (b := β3) rfl (yld rfl rfl) (fun hg1 => ?_) (fun hc => ⟨fun hg1 => absurd hg1 hc, Ext.refl _⟩)
    obtain rfl := h37_ hg1
    obtain rfl := h38_ hg1
    refine (does_icmp (p := (A_g.vals.length : Int)) (q := IntKind.i64.wrap ((IntKind.i64.wrap (A_g.x * A_g.y)) * A_g.z)) (.inl rfl) (ev rfl) (ev rfl)).mono ?_; rintro _ _ ⟨rfl, rfl⟩
    exact ⟨fun _ => (by first | rfl | (show _ = _; simp only [hβ4]; done) | (show _ = _; simp only [hβ4]; rfl)), Ext.refl _⟩
  refine RW_d _ rfl (fun v => by dsimp only [List.set]; try rfl) (fun u hu hF => ?_) (fun v92 => ?_)
  · have h34_ : v86 = (Bo β3) := hF.1
    have h39_ : β3 = true → v91 = (Bo β4) := hF.2.1
    clear hF
    refine doesG_un rfl ?_
    skip
    obtain rfl := h34_
    refine (does_pick (b := β3) (u := v91) (v := (Bo false)) (ev rfl) (ev rfl) (ev rfl)).mono ?_; rintro _ _ ⟨rfl, rfl⟩; refine ⟨?_, Ext.refl _⟩; skip
    cases hbb : β3
    all_goals first | (show _ = _; simp only [↓reduceIte, Bool.true_and, Bool.false_and, Bool.true_or, Bool.false_or, Bool.false_eq_true]; done) | (have e_ := h39_ hbb; subst e_; show _ = _; simp only [↓reduceIte, Bool.true_and, Bool.false_and, Bool.true_or, Bool.false_or, Bool.false_eq_true]; done) | rfl | (have e_ := h39_ hbb; subst e_; rfl) | (simp [hbb] at h39_ ⊢; first | done | rfl | (subst h39_; rfl) | simp_all) | (simp [hbb] at h39_ ⊢; done)
  refine RW_fin ?_; intro w93 E94 hP95
  obtain ⟨⟨⟨⟨⟨⟨⟨⟨⟨-, -⟩, -⟩, -⟩, -⟩, -⟩, -⟩, -⟩, -⟩, q96⟩ := hP95
  have X97 := Ext.gr X76 E94
  have q96 : v92 = (Bo (β3 && β4)) := q96
  obtain rfl := q96
  show wpList _ _ _ _ (fr [_, _, _, _, _, _, _, _, _, _, _, _, _, _, _, _, _, _, _, _, _, _, _, _, _, _, _, _, _, _, _, _, _, _, _, _, _, _, _, _, _]) _
  refine q_is rfl rfl (does_assign (u := (Bo (β3 && β4))) (ev rfl)) (by dsimp only [List.set]; try rfl) ?_
  refine wpList_nil (hK83 _ _ ?_)
  refine wp_ret ?_
  refine ret_val (v := (Bo (β3 && β4))) (res_T rfl (slot rfl)) X97 ?_
  try simp only [h2, h4, h6, h8, hβ1, hβ2, hβ3, hβ4] at c39 c55 c66 c77
  have x98 : (isGrid A_g) = (β3 && β4) := by first | with_reducible rfl | (simp only [isGrid, cntOk, prod3, h2, h4, h6, h8, hβ1, hβ2, hβ3, hβ4, c39, c55, c66, c77]; done) | (simp [isGrid, cntOk, prod3, h2, h4, h6, h8, hβ1, hβ2, hβ3, hβ4, c39, c55, c66, c77]; done) | (revert c39 c55 c66 c77; simp +contextual [isGrid, cntOk, prod3, h2, h4, h6, h8, hβ1, hβ2, hβ3, hβ4]; done) | (rcases c39' with hh | hh <;> simp only [hh, isGrid, cntOk, prod3, h2, h4, h6, h8, hβ1, hβ2, hβ3, hβ4, c39, c55, c66, c77]; done) | (rcases c55' with hh | hh <;> simp only [hh, isGrid, cntOk, prod3, h2, h4, h6, h8, hβ1, hβ2, hβ3, hβ4, c39, c55, c66, c77]; done) | (rcases c66' with hh | hh <;> simp only [hh, isGrid, cntOk, prod3, h2, h4, h6, h8, hβ1, hβ2, hβ3, hβ4, c39, c55, c66, c77]; done) | (rcases c77' with hh | hh <;> simp only [hh, isGrid, cntOk, prod3, h2, h4, h6, h8, hβ1, hβ2, hβ3, hβ4, c39, c55, c66, c77]; done) | (rcases c77' with hh | hh <;> simp_all [isGrid, cntOk, prod3]; done) | (rcases c77' with hh | hh | hh <;> simp_all [isGrid, cntOk, prod3]; done) | (rcases c77' with hh | hh | hh | hh <;> simp_all [isGrid, cntOk, prod3]; done) | (simp_all [isGrid, cntOk, prod3]; done) | rfl
  exact (by first | with_reducible rfl | rw [x98] | rfl)

/- impl.PartsInside$1 -/
theorem c_impl_PartsInside_1 (i_ : Int) (g_b : Nat) (g_o : Nat) (g : List Value) (A_g : GridT) (w : World) (hc_g : Cells w g_b g_o g) (hv_g : RGridT w A_g g) (hix : 0 ≤ i_ ∧ i_ < A_g.vals.length) : Gives Try.prog 40 #[(Iv i_), (Pt g_b g_o)] w (fun v w' => v = (Bo (negAt A_g i_))) := by
  obtain ⟨r1, r3, r5, r7, y9, rfl, h2, h4, h6, h8, h10⟩ := hv_g
  have hs13 := h10; have hs13l := Sl.len h10; obtain ⟨p11, q12, rfl⟩ := Sl.shape h10
  refine enter [(Iv i_), (Pt g_b g_o), Ud, Ud, Ud, Ud, Ud, Ud, Ud, Ud] Try.func40 rfl Try.ntmps40 rfl ?_
  refine wp_seq_k fun K14 hK14 => ?_
  refine wp_region_lit ?_
  refine q_is (l' := [(Iv i_), (Pt g_b g_o), Ud, (Bo false), Ud, Ud, Ud, Ud, Ud, Ud]) rfl rfl (does_assign (u := (Bo false)) (ev rfl)) rfl ?_
  refine wpList_nil (hK14 _ _ ?_)
  refine wp_seq_k fun K15 hK15 => ?_
  refine wp_region_lit ?_
  refine q_is (l' := [(Iv i_), (Pt g_b g_o), Ud, (Bo false), (Pt g_b (g_o + 7)), Ud, Ud, Ud, Ud, Ud]) rfl rfl (does_fieldAddr (ev rfl) fa49_5) rfl ?_
  refine q_is (l' := [(Iv i_), (Pt g_b g_o), Ud, (Bo false), (Pt g_b (g_o + 7)), (.slice p11 A_g.vals.length q12), Ud, Ud, Ud, Ud]) rfl rfl (does_load (u := (.slice p11 A_g.vals.length q12)) (ev rfl) Try.isAgg42 (Cells.at hc_g 7 rfl)) rfl ?_
  refine q_is (l' := [(Iv i_), (Pt g_b g_o), Ud, (Bo false), (Pt g_b (g_o + 7)), (.slice p11 A_g.vals.length q12), (Iv i_), Ud, Ud, Ud]) rfl rfl (does_move (u := (Iv i_)) (ev rfl)) rfl ?_
  obtain ⟨el1, hel1⟩ : ∃ e, A_g.vals[i_.toNat]? = some e := ⟨_, List.getElem?_eq_getElem (by omega)⟩
  refine seqd rfl rfl (does_indexSl (R := RF) (i := i_) (xs := A_g.vals) (e := el1) Try.underlying42 Try.sizeOf39 (ev rfl) (ev rfl) hs13 (by omega) hel1) ?_; rintro _ w ⟨b16, o17, _, rfl, hc19, ⟨r20, rfl, h21⟩, rfl⟩
  show wpList _ _ _ _ (fr [(Iv i_), (Pt g_b g_o), Ud, (Bo false), (Pt g_b (g_o + 7)), (.slice p11 A_g.vals.length q12), (Iv i_), (Pt b16 o17), Ud, Ud]) _
  refine q_is (l' := [(Iv i_), (Pt g_b g_o), Ud, (Bo false), (Pt g_b (g_o + 7)), (.slice p11 A_g.vals.length q12), (Iv i_), (Pt b16 o17), (Fl r20), Ud]) rfl rfl (does_load (u := (Fl r20)) (ev rfl) Try.isAgg39 (Cells.at hc19 0 rfl)) rfl ?_
  refine q_is (l' := [(Iv i_), (Pt g_b g_o), Ud, (Bo false), (Pt g_b (g_o + 7)), (.slice p11 A_g.vals.length q12), (Iv i_), (Pt b16 o17), (Fl r20), (Bo (fcmp .lss (ford .f32 (cf .f32 r20) (cf .f32 0))))]) rfl rfl (does_fcmp (.inr (.inr (.inl rfl))) (ev rfl) (ev rfl)) rfl ?_
  refine q_is (l' := [(Iv i_), (Pt g_b g_o), Ud, (Bo (fcmp .lss (ford .f32 (cf .f32 r20) (cf .f32 0)))), (Pt g_b (g_o + 7)), (.slice p11 A_g.vals.length q12), (Iv i_), (Pt b16 o17), (Fl r20), (Bo (fcmp .lss (ford .f32 (cf .f32 r20) (cf .f32 0))))]) rfl rfl (does_assign (u := (Bo (fcmp .lss (ford .f32 (cf .f32 r20) (cf .f32 0))))) (ev rfl)) rfl ?_
  refine wpList_nil (hK15 _ _ ?_)
  refine wp_ret ?_
  refine ret_val (v := (Bo (fcmp .lss (ford .f32 (cf .f32 r20) (cf .f32 0))))) (res_T rfl (slot rfl)) (Ext.refl w) ?_
  have x22 : (negAt A_g i_) = (fcmp .lss (ford .f32 (cf .f32 r20) (cf .f32 0))) := by simp [negAt, negF, h2, h4, h6, h8, hel1, h21]
  exact (by first | with_reducible rfl | rw [x22] | rfl)

/- (*impl.Grid).place -/
theorem c_impl_Grid_place (g_b : Nat) (g_o : Nat) (g : List Value) (A_g : GridT) (ix : Int) (w : World) (hc_g : Cells w g_b g_o g) (hv_g : RGridT w A_g g) (hpx : 1 ≤ A_g.x) (hpy : 1 ≤ A_g.y) (hpi : 0 ≤ ix ∧ ix ≤ 9223372036854775807) : Gives Try.prog 60 #[(Pt g_b g_o), (Iv ix)] w (fun v w' => v = (.agg #[(Iv (ix % A_g.x)), (Iv (ix / A_g.x % A_g.y)), (Iv (ix / A_g.x / A_g.y))])) := by
  obtain ⟨r1, r3, r5, r7, y9, rfl, h2, h4, h6, h8, h10⟩ := hv_g
  have hs13 := h10; have hs13l := Sl.len h10; obtain ⟨p11, q12, rfl⟩ := Sl.shape h10
  have hq1 := Int.ediv_nonneg hpi.1 (show 0 ≤ A_g.x by omega)
  have hq2 := Int.ediv_le_self A_g.x hpi.1
  refine enter [(Pt g_b g_o), (Iv ix), Ud, Ud, Ud, Ud, Ud, Ud, Ud, Ud, Ud, Ud, Ud, Ud, Ud, Ud, Ud, Ud, Ud, Ud, Ud, Ud, Ud, Ud, Ud, Ud, Ud, Ud, Ud, Ud, Ud, Ud, Ud, Ud] Try.func60 rfl Try.ntmps60 rfl ?_
  refine wp_seq_k fun K14 hK14 => ?_
  refine wp_region_lit ?_
  refine seqd rfl rfl (does_alloc z88) ?_; rintro _ w19 ⟨b15, rfl, hb16, hB17, E18⟩
  have n20 : g_b < b15 := Nat.lt_of_lt_of_le (cell_lt (Cells.at hc_g 0 rfl)) hb16
  have g21 : w.heap.size ≤ b15 := Nat.le_trans (Below.size (Ext.refl w)) hb16
  change Blk _ _ [(Iv 0), (Iv 0), (Iv 0)] at hB17
  have X22 := Ext.gr (Ext.refl w) E18
  show wpList _ _ _ _ (fr [_, _, _, _, _, _, _, _, _, _, _, _, _, _, _, _, _, _, _, _, _, _, _, _, _, _, _, _, _, _, _, _, _, _]) _
  refine wpList_nil (hK14 _ _ ?_)
  refine wp_seq_k fun K23 hK23 => ?_
  refine region_draw (
    [Fact.pure [] (fun v => v = (Iv ix)),
    Fact.pure [] (fun v => v = (Pt g_b g_o)),
    Fact.pure [6] (fun v => v = (Pt g_b g_o)),
    Fact.pure [7] (fun v => v = (Pt g_b (g_o + 4))),
    Fact.pure [8] (fun v => v = (Iv A_g.x)),
    Fact.pure [5, 9] (fun v => v = (Iv (ix % A_g.x))),
    Fact.pure [] (fun v => v = (Iv ix)),
    Fact.pure [] (fun v => v = (Pt g_b g_o)),
    Fact.pure [12] (fun v => v = (Pt g_b g_o)),
    Fact.pure [13] (fun v => v = (Pt g_b (g_o + 4))),
    Fact.pure [14] (fun v => v = (Iv A_g.x)),
    Fact.pure [11, 15] (fun v => v = (Iv (ix / A_g.x))),
    Fact.pure [] (fun v => v = (Pt g_b g_o)),
    Fact.pure [17] (fun v => v = (Pt g_b g_o)),
    Fact.pure [18] (fun v => v = (Pt g_b (g_o + 5))),
    Fact.pure [19] (fun v => v = (Iv A_g.y)),
    Fact.pure [16, 20] (fun v => v = (Iv ((ix / A_g.x) % A_g.y))),
    Fact.pure [] (fun v => v = (Iv ix)),
    Fact.pure [] (fun v => v = (Pt g_b g_o)),
    Fact.pure [23] (fun v => v = (Pt g_b g_o)),
    Fact.pure [24] (fun v => v = (Pt g_b (g_o + 4))),
    Fact.pure [25] (fun v => v = (Iv A_g.x)),
    Fact.pure [22, 26] (fun v => v = (Iv (ix / A_g.x))),
    Fact.pure [] (fun v => v = (Pt g_b g_o)),
    Fact.pure [28] (fun v => v = (Pt g_b g_o)),
    Fact.pure [29] (fun v => v = (Pt g_b (g_o + 5))),
    Fact.pure [30] (fun v => v = (Iv A_g.y)),
    Fact.pure [27, 31] (fun v => v = (Iv ((ix / A_g.x) / A_g.y))),
    Fact.pure [10, 21, 32] (fun v => v = (.agg #[(Iv (ix % A_g.x)), (Iv ((ix / A_g.x) % A_g.y)), (Iv ((ix / A_g.x) / A_g.y))]))]) mixed (by kernel_rfl) (by intro _ _ d _ _ h; cases d <;> exact h) ?_
  obtain ⟨w24, hw26⟩ : ∃ w', w' = World.drew w19 := ⟨_, rfl⟩; rw [← hw26]; have E25 : Ext w19 w24 := by rw [hw26]; exact Ext.draw _
  clear hw26
  have X27 := Ext.gr X22 E25
  refine RW_d _ rfl (fun v => by dsimp only [List.set]; try rfl) (fun u hu hF => ?_) (fun v28 => ?_)
  · clear hF
    refine doesG_un rfl ?_
    refine (does_move (u := (Iv ix)) (ev rfl)).mono ?_; rintro _ _ ⟨rfl, rfl⟩
    exact ⟨rfl, Ext.refl _⟩
  refine RW_d _ rfl (fun v => by dsimp only [List.set]; try rfl) (fun u hu hF => ?_) (fun v29 => ?_)
  · clear hF
    refine doesG_un rfl ?_
    refine (does_move (u := (Pt g_b g_o)) (ev rfl)).mono ?_; rintro _ _ ⟨rfl, rfl⟩
    exact ⟨rfl, Ext.refl _⟩
  refine RW_d _ rfl (fun v => by dsimp only [List.set]; try rfl) (fun u hu hF => ?_) (fun v30 => ?_)
  · have h6_ : v29 = (Pt g_b g_o) := hF.1
    clear hF
    refine doesG_un rfl ?_
    obtain rfl := h6_
    refine (does_nilCheck (ev rfl)).mono ?_; rintro _ _ ⟨rfl, rfl⟩
    exact ⟨rfl, Ext.refl _⟩
  refine RW_d _ rfl (fun v => by dsimp only [List.set]; try rfl) (fun u hu hF => ?_) (fun v31 => ?_)
  · have h7_ : v30 = (Pt g_b g_o) := hF.1
    clear hF
    refine doesG_un rfl ?_
    obtain rfl := h7_
    refine (does_fieldAddr (ev rfl) fa49_2).mono ?_; rintro _ _ ⟨rfl, rfl⟩
    exact ⟨rfl, Ext.refl _⟩
  refine RW_d _ rfl (fun v => by dsimp only [List.set]; try rfl) (fun u hu hF => ?_) (fun v32 => ?_)
  · have h8_ : v31 = (Pt g_b (g_o + 4)) := hF.1
    clear hF
    refine doesG_un rfl ?_
    obtain rfl := h8_
    refine (does_load (u := (Iv A_g.x)) (ev rfl) Try.isAgg2 (Cells.at ((hc_g.ext (Ext.gr X22 E25)).ext hu) 4 rfl)).mono ?_; rintro _ _ ⟨rfl, rfl⟩
    exact ⟨rfl, Ext.refl _⟩
  refine RW_d _ rfl (fun v => by dsimp only [List.set]; try rfl) (fun u hu hF => ?_) (fun v33 => ?_)
  · have h5_ : v28 = (Iv ix) := hF.1
    have h9_ : v32 = (Iv A_g.x) := hF.2.1
    clear hF
    refine doesG_un rfl ?_
    obtain rfl := h5_
    obtain rfl := h9_
    refine (does_irem (p := ix) (q := A_g.x) (ev rfl) (ev rfl) (by first | omega | assumption) (by first | omega | assumption) (by first | omega | assumption)).mono ?_; rintro _ _ ⟨rfl, rfl⟩
    exact ⟨rfl, Ext.refl _⟩
  refine RW_d _ rfl (fun v => by dsimp only [List.set]; try rfl) (fun u hu hF => ?_) (fun v34 => ?_)
  · clear hF
    refine doesG_un rfl ?_
    refine (does_move (u := (Iv ix)) (ev rfl)).mono ?_; rintro _ _ ⟨rfl, rfl⟩
    exact ⟨rfl, Ext.refl _⟩
  refine RW_d _ rfl (fun v => by dsimp only [List.set]; try rfl) (fun u hu hF => ?_) (fun v35 => ?_)
  · clear hF
    refine doesG_un rfl ?_
    refine (does_move (u := (Pt g_b g_o)) (ev rfl)).mono ?_; rintro _ _ ⟨rfl, rfl⟩
    exact ⟨rfl, Ext.refl _⟩
  refine RW_d _ rfl (fun v => by dsimp only [List.set]; try rfl) (fun u hu hF => ?_) (fun v36 => ?_)
  · have h12_ : v35 = (Pt g_b g_o) := hF.1
    clear hF
    refine doesG_un rfl ?_
    obtain rfl := h12_
    refine (does_nilCheck (ev rfl)).mono ?_; rintro _ _ ⟨rfl, rfl⟩
    exact ⟨rfl, Ext.refl _⟩
  refine RW_d _ rfl (fun v => by dsimp only [List.set]; try rfl) (fun u hu hF => ?_) (fun v37 => ?_)
  · have h13_ : v36 = (Pt g_b g_o) := hF.1
    clear hF
    refine doesG_un rfl ?_
    obtain rfl := h13_
    refine (does_fieldAddr (ev rfl) fa49_2).mono ?_; rintro _ _ ⟨rfl, rfl⟩
    exact ⟨rfl, Ext.refl _⟩
  refine RW_d _ rfl (fun v => by dsimp only [List.set]; try rfl) (fun u hu hF => ?_) (fun v38 => ?_)
  · have h14_ : v37 = (Pt g_b (g_o + 4)) := hF.1
    clear hF
    refine doesG_un rfl ?_
    obtain rfl := h14_
    refine (does_load (u := (Iv A_g.x)) (ev rfl) Try.isAgg2 (Cells.at ((hc_g.ext (Ext.gr X22 E25)).ext hu) 4 rfl)).mono ?_; rintro _ _ ⟨rfl, rfl⟩
    exact ⟨rfl, Ext.refl _⟩
  refine RW_d _ rfl (fun v => by dsimp only [List.set]; try rfl) (fun u hu hF => ?_) (fun v39 => ?_)
  · have h11_ : v34 = (Iv ix) := hF.1
    have h15_ : v38 = (Iv A_g.x) := hF.2.1
    clear hF
    refine doesG_un rfl ?_
    obtain rfl := h11_
    obtain rfl := h15_
    refine (does_iquo (p := ix) (q := A_g.x) (ev rfl) (ev rfl) (by first | omega | assumption) (by first | omega | assumption) (by first | omega | assumption)).mono ?_; rintro _ _ ⟨rfl, rfl⟩
    exact ⟨rfl, Ext.refl _⟩
  refine RW_d _ rfl (fun v => by dsimp only [List.set]; try rfl) (fun u hu hF => ?_) (fun v40 => ?_)
  · clear hF
    refine doesG_un rfl ?_
    refine (does_move (u := (Pt g_b g_o)) (ev rfl)).mono ?_; rintro _ _ ⟨rfl, rfl⟩
    exact ⟨rfl, Ext.refl _⟩
  refine RW_d _ rfl (fun v => by dsimp only [List.set]; try rfl) (fun u hu hF => ?_) (fun v41 => ?_)
  · have h17_ : v40 = (Pt g_b g_o) := hF.1
    clear hF
    refine doesG_un rfl ?_
    obtain rfl := h17_
    refine (does_nilCheck (ev rfl)).mono ?_; rintro _ _ ⟨rfl, rfl⟩
    exact ⟨rfl, Ext.refl _⟩
  refine RW_d _ rfl (fun v => by dsimp only [List.set]; try rfl) (fun u hu hF => ?_) (fun v42 => ?_)
  · have h18_ : v41 = (Pt g_b g_o) := hF.1
    clear hF
    refine doesG_un rfl ?_
    obtain rfl := h18_
    refine (does_fieldAddr (ev rfl) fa49_3).mono ?_; rintro _ _ ⟨rfl, rfl⟩
    exact ⟨rfl, Ext.refl _⟩
  refine RW_d _ rfl (fun v => by dsimp only [List.set]; try rfl) (fun u hu hF => ?_) (fun v43 => ?_)
  · have h19_ : v42 = (Pt g_b (g_o + 5)) := hF.1
    clear hF
    refine doesG_un rfl ?_
    obtain rfl := h19_
    refine (does_load (u := (Iv A_g.y)) (ev rfl) Try.isAgg2 (Cells.at ((hc_g.ext (Ext.gr X22 E25)).ext hu) 5 rfl)).mono ?_; rintro _ _ ⟨rfl, rfl⟩
    exact ⟨rfl, Ext.refl _⟩
  refine RW_d _ rfl (fun v => by dsimp only [List.set]; try rfl) (fun u hu hF => ?_) (fun v44 => ?_)
  · have h16_ : v39 = (Iv (ix / A_g.x)) := hF.1
    have h20_ : v43 = (Iv A_g.y) := hF.2.1
    clear hF
    refine doesG_un rfl ?_
    obtain rfl := h16_
    obtain rfl := h20_
    refine (does_irem (p := ix / A_g.x) (q := A_g.y) (ev rfl) (ev rfl) (by first | omega | assumption) (by first | omega | assumption) (by first | omega | assumption)).mono ?_; rintro _ _ ⟨rfl, rfl⟩
    exact ⟨rfl, Ext.refl _⟩
  refine RW_d _ rfl (fun v => by dsimp only [List.set]; try rfl) (fun u hu hF => ?_) (fun v45 => ?_)
  · clear hF
    refine doesG_un rfl ?_
    refine (does_move (u := (Iv ix)) (ev rfl)).mono ?_; rintro _ _ ⟨rfl, rfl⟩
    exact ⟨rfl, Ext.refl _⟩
  refine RW_d _ rfl (fun v => by dsimp only [List.set]; try rfl) (fun u hu hF => ?_) (fun v46 => ?_)
  · clear hF
    refine doesG_un rfl ?_
    refine (does_move (u := (Pt g_b g_o)) (ev rfl)).mono ?_; rintro _ _ ⟨rfl, rfl⟩
    exact ⟨rfl, Ext.refl _⟩
  refine RW_d _ rfl (fun v => by dsimp only [List.set]; try rfl) (fun u hu hF => ?_) (fun v47 => ?_)
  · have h23_ : v46 = (Pt g_b g_o) := hF.1
    clear hF
    refine doesG_un rfl ?_
    obtain rfl := h23_
    refine (does_nilCheck (ev rfl)).mono ?_; rintro _ _ ⟨rfl, rfl⟩
    exact ⟨rfl, Ext.refl _⟩
  refine RW_d _ rfl (fun v => by dsimp only [List.set]; try rfl) (fun u hu hF => ?_) (fun v48 => ?_)
  · have h24_ : v47 = (Pt g_b g_o) := hF.1
    clear hF
    refine doesG_un rfl ?_
    obtain rfl := h24_
    refine (does_fieldAddr (ev rfl) fa49_2).mono ?_; rintro _ _ ⟨rfl, rfl⟩
    exact ⟨rfl, Ext.refl _⟩
  refine RW_d _ rfl (fun v => by dsimp only [List.set]; try rfl) (fun u hu hF => ?_) (fun v49 => ?_)
  · have h25_ : v48 = (Pt g_b (g_o + 4)) := hF.1
    clear hF
    refine doesG_un rfl ?_
    obtain rfl := h25_
    refine (does_load (u := (Iv A_g.x)) (ev rfl) Try.isAgg2 (Cells.at ((hc_g.ext (Ext.gr X22 E25)).ext hu) 4 rfl)).mono ?_; rintro _ _ ⟨rfl, rfl⟩
    exact ⟨rfl, Ext.refl _⟩
  refine RW_d _ rfl (fun v => by dsimp only [List.set]; try rfl) (fun u hu hF => ?_) (fun v50 => ?_)
  · have h22_ : v45 = (Iv ix) := hF.1
    have h26_ : v49 = (Iv A_g.x) := hF.2.1
    clear hF
    refine doesG_un rfl ?_
    obtain rfl := h22_
    obtain rfl := h26_
    refine (does_iquo (p := ix) (q := A_g.x) (ev rfl) (ev rfl) (by first | omega | assumption) (by first | omega | assumption) (by first | omega | assumption)).mono ?_; rintro _ _ ⟨rfl, rfl⟩
    exact ⟨rfl, Ext.refl _⟩
  refine RW_d _ rfl (fun v => by dsimp only [List.set]; try rfl) (fun u hu hF => ?_) (fun v51 => ?_)
  · clear hF
    refine doesG_un rfl ?_
    refine (does_move (u := (Pt g_b g_o)) (ev rfl)).mono ?_; rintro _ _ ⟨rfl, rfl⟩
    exact ⟨rfl, Ext.refl _⟩
  refine RW_d _ rfl (fun v => by dsimp only [List.set]; try rfl) (fun u hu hF => ?_) (fun v52 => ?_)
  · have h28_ : v51 = (Pt g_b g_o) := hF.1
    clear hF
    refine doesG_un rfl ?_
    obtain rfl := h28_
    refine (does_nilCheck (ev rfl)).mono ?_; rintro _ _ ⟨rfl, rfl⟩
    exact ⟨rfl, Ext.refl _⟩
  refine RW_d _ rfl (fun v => by dsimp only [List.set]; try rfl) (fun u hu hF => ?_) (fun v53 => ?_)
  · have h29_ : v52 = (Pt g_b g_o) := hF.1
    clear hF
    refine doesG_un rfl ?_
    obtain rfl := h29_
    refine (does_fieldAddr (ev rfl) fa49_3).mono ?_; rintro _ _ ⟨rfl, rfl⟩
    exact ⟨rfl, Ext.refl _⟩
  refine RW_d _ rfl (fun v => by dsimp only [List.set]; try rfl) (fun u hu hF => ?_) (fun v54 => ?_)
  · have h30_ : v53 = (Pt g_b (g_o + 5)) := hF.1
    clear hF
    refine doesG_un rfl ?_
    obtain rfl := h30_
    refine (does_load (u := (Iv A_g.y)) (ev rfl) Try.isAgg2 (Cells.at ((hc_g.ext (Ext.gr X22 E25)).ext hu) 5 rfl)).mono ?_; rintro _ _ ⟨rfl, rfl⟩
    exact ⟨rfl, Ext.refl _⟩
  refine RW_d _ rfl (fun v => by dsimp only [List.set]; try rfl) (fun u hu hF => ?_) (fun v55 => ?_)
  · have h27_ : v50 = (Iv (ix / A_g.x)) := hF.1
    have h31_ : v54 = (Iv A_g.y) := hF.2.1
    clear hF
    refine doesG_un rfl ?_
    obtain rfl := h27_
    obtain rfl := h31_
    refine (does_iquo (p := ix / A_g.x) (q := A_g.y) (ev rfl) (ev rfl) (by first | omega | assumption) (by first | omega | assumption) (by first | omega | assumption)).mono ?_; rintro _ _ ⟨rfl, rfl⟩
    exact ⟨rfl, Ext.refl _⟩
  refine RW_d _ rfl (fun v => by dsimp only [List.set]; try rfl) (fun u hu hF => ?_) (fun v56 => ?_)
  · have h10_ : v33 = (Iv (ix % A_g.x)) := hF.1
    have h21_ : v44 = (Iv ((ix / A_g.x) % A_g.y)) := hF.2.1
    have h32_ : v55 = (Iv ((ix / A_g.x) / A_g.y)) := hF.2.2.1
    clear hF
    refine doesG_un rfl ?_
    obtain rfl := h10_
    obtain rfl := h21_
    obtain rfl := h32_
    refine (does_build (parts' := [(0, (Iv (ix % A_g.x))), (1, (Iv ((ix / A_g.x) % A_g.y))), (2, (Iv ((ix / A_g.x) / A_g.y)))]) (cells := #[(Iv (ix % A_g.x)), (Iv ((ix / A_g.x) % A_g.y)), (Iv ((ix / A_g.x) / A_g.y))]) (evp rfl) (by kernel_rfl)).mono ?_; rintro _ _ ⟨rfl, rfl⟩
    exact ⟨rfl, Ext.refl _⟩
  refine RW_fin ?_; intro w57 E58 hP59
  obtain ⟨⟨⟨⟨⟨⟨⟨⟨⟨⟨⟨⟨⟨⟨⟨⟨⟨⟨⟨⟨⟨⟨⟨⟨⟨⟨⟨⟨⟨-, -⟩, -⟩, -⟩, -⟩, -⟩, -⟩, -⟩, -⟩, -⟩, -⟩, -⟩, -⟩, -⟩, -⟩, -⟩, -⟩, -⟩, -⟩, -⟩, -⟩, -⟩, -⟩, -⟩, -⟩, -⟩, -⟩, -⟩, -⟩, q60⟩ := hP59
  have X61 := Ext.gr X27 E58
  have q60 : v56 = (.agg #[(Iv (ix % A_g.x)), (Iv ((ix / A_g.x) % A_g.y)), (Iv ((ix / A_g.x) / A_g.y))]) := q60
  obtain rfl := q60
  show wpList _ _ _ _ (fr [_, _, _, _, _, _, _, _, _, _, _, _, _, _, _, _, _, _, _, _, _, _, _, _, _, _, _, _, _, _, _, _, _, _]) _
  refine seqn rfl rfl (does_store (n := 3) (cs := [(Iv 0), (Iv 0), (Iv 0)]) (u := (.agg #[(Iv (ix % A_g.x)), (Iv ((ix / A_g.x) % A_g.y)), (Iv ((ix / A_g.x) / A_g.y))])) (ev rfl) (ev rfl) Try.sizeOf88 rfl ((hB17.ext E25).ext E58) (Nat.le_of_ble_eq_true rfl) rfl) ?_; rintro _ w64 ⟨rfl, W62, hB63⟩
  change Blk _ _ [(Iv (ix % A_g.x)), (Iv ((ix / A_g.x) % A_g.y)), (Iv ((ix / A_g.x) / A_g.y))] at hB63
  have X65 := Below.wr X61 W62 g21
  refine wpList_nil (hK23 _ _ ?_)
  refine wp_ret ?_
  refine ret_val (v := (.agg #[(Iv (ix % A_g.x)), (Iv ((ix / A_g.x) % A_g.y)), (Iv ((ix / A_g.x) / A_g.y))])) (res_C rfl (slot rfl) (run_loadAgg (cs := [(Iv (ix % A_g.x)), (Iv ((ix / A_g.x) % A_g.y)), (Iv ((ix / A_g.x) / A_g.y))]) Try.isAgg88 Try.sizeOf88 (Blk.cells hB63) rfl)) X65 ?_
  have x66 : (ix % A_g.x : Int) = (ix % A_g.x) := by first | with_reducible rfl | (simp only [h2, h4, h6, h8]; done) | (simp [h2, h4, h6, h8]; done) | rfl
  have x67 : (ix / A_g.x % A_g.y : Int) = ((ix / A_g.x) % A_g.y) := by first | with_reducible rfl | (simp only [h2, h4, h6, h8]; done) | (simp [h2, h4, h6, h8]; done) | rfl
  have x68 : (ix / A_g.x / A_g.y : Int) = ((ix / A_g.x) / A_g.y) := by first | with_reducible rfl | (simp only [h2, h4, h6, h8]; done) | (simp [h2, h4, h6, h8]; done) | rfl
  exact (by first | with_reducible rfl | rw [x66, x67, x68] | rw [x68, x67, x66] | rfl)

/- (*impl.Grid).neighbours -/
theorem c_impl_Grid_neighbours (g_b : Nat) (g_o : Nat) (g : List Value) (A_g : GridT) (ix : Int) (w : World) (hc_g : Cells w g_b g_o g) (hv_g : RGridT w A_g g) (hgr : isGrid A_g = true) (hix : 0 ≤ ix ∧ ix < A_g.vals.length) : Gives Try.prog 41 #[(Pt g_b g_o), (Iv ix)] w (fun v w' => ∃ y_1 : Value, v = y_1 ∧ Hang w.heap.size w' (fun u => Sl RI 1 u y_1 (nb A_g ix))) := by
  obtain ⟨r1, r3, r5, r7, y9, rfl, h2, h4, h6, h8, h10⟩ := hv_g
  have hs13 := h10; have hs13l := Sl.len h10; obtain ⟨p11, q12, rfl⟩ := Sl.shape h10
  obtain ⟨hnx, hny, hnz, hnxy, hni, hn1, hn2, hn3, hn4⟩ := nb_pre hgr hix
  refine enter [(Pt g_b g_o), (Iv ix), Ud, Ud, Ud, Ud, Ud, Ud, Ud, Ud, Ud, Ud, Ud, Ud, Ud, Ud, Ud, Ud, Ud, Ud, Ud, Ud, Ud, Ud, Ud, Ud, Ud, Ud, Ud, Ud, Ud, Ud, Ud, Ud, Ud, Ud, Ud, Ud, Ud, Ud, Ud, Ud, Ud, Ud, Ud, Ud, Ud, Ud, Ud, Ud, Ud, Ud, Ud, Ud, Ud, Ud, Ud, Ud, Ud, Ud, Ud, Ud, Ud, Ud, Ud, Ud, Ud, Ud] Try.func41 rfl Try.ntmps41 rfl ?_
  refine wp_seq_k fun K14 hK14 => ?_
  refine wp_region_lit ?_
  refine q_is rfl rfl (does_assign (u := (.slice none 0 0)) (ev rfl)) (by dsimp only [List.set]; try rfl) ?_
  refine wpList_nil (hK14 _ _ ?_)
  refine wp_seq_k fun K15 hK15 => ?_
  refine wp_region_lit ?_
  refine q_is rfl rfl (does_move (u := (Pt g_b g_o)) (ev rfl)) (by dsimp only [List.set]; try rfl) ?_
  refine q_is rfl rfl (does_move (u := (Iv ix)) (ev rfl)) (by dsimp only [List.set]; try rfl) ?_
  refine seqd rfl rfl (does_call (args := #[(Pt g_b g_o), (Iv ix)]) cal60 (evs rfl) (c_impl_Grid_place g_b g_o [(Fl r1), (Fl r3), (Fl r5), (Fl r7), (Iv A_g.x), (Iv A_g.y), (Iv A_g.z), (.slice p11 A_g.vals.length q12)] A_g ix _ hc_g ⟨r1, r3, r5, r7, (.slice p11 A_g.vals.length q12), rfl, h2, h4, h6, h8, hs13⟩ (by omega) (by omega) (by omega))) ?_; rintro _ w17 ⟨E16, rfl⟩
  have X18 := Ext.gr (Ext.refl w) E16
  show wpList _ _ _ _ (fr [_, _, _, _, _, _, _, _, _, _, _, _, _, _, _, _, _, _, _, _, _, _, _, _, _, _, _, _, _, _, _, _, _, _, _, _, _, _, _, _, _, _, _, _, _, _, _, _, _, _, _, _, _, _, _, _, _, _, _, _, _, _, _, _, _, _, _, _]) _
  refine q_is rfl rfl (does_move (u := (Pt g_b g_o)) (ev rfl)) (by dsimp only [List.set]; try rfl) ?_
  refine seqd rfl rfl (does_call (args := #[(Pt g_b g_o)]) cal58 (evs rfl) (c_impl_Grid_counts g_b g_o [(Fl r1), (Fl r3), (Fl r5), (Fl r7), (Iv A_g.x), (Iv A_g.y), (Iv A_g.z), (.slice p11 A_g.vals.length q12)] A_g _ (hc_g.ext X18) ⟨r1, r3, r5, r7, (.slice p11 A_g.vals.length q12), rfl, h2, h4, h6, h8, (Sl.ext hs13 RF.mono X18)⟩)) ?_; rintro _ w20 ⟨E19, rfl⟩
  have X21 := Ext.gr X18 E19
  show wpList _ _ _ _ (fr [_, _, _, _, _, _, _, _, _, _, _, _, _, _, _, _, _, _, _, _, _, _, _, _, _, _, _, _, _, _, _, _, _, _, _, _, _, _, _, _, _, _, _, _, _, _, _, _, _, _, _, _, _, _, _, _, _, _, _, _, _, _, _, _, _, _, _, _]) _
  have n28 : g_b < w20.heap.size := cell_lt (Cells.at (hc_g.ext X21) 0 rfl)
  refine seqd rfl rfl (does_slice0 (e := 2) (fun _ => by kernel_rfl)) ?_; rintro _ w27 ⟨b22, rfl, hb23, hl24, hO25, E26⟩
  have X29 := Ext.gr X21 E26
  have hO30 := hO25 _ RI 1
  have hH31 : Hang w20.heap.size w27 (fun u => Sl RI 1 u (.slice (some ⟨b22, 0, none⟩) 0 0) ([])) := Own.hang hO30 RI.flat (by decide) hb23 (Below.size E26)
  show wpList _ _ _ _ (fr [_, _, _, _, _, _, _, _, _, _, _, _, _, _, _, _, _, _, _, _, _, _, _, _, _, _, _, _, _, _, _, _, _, _, _, _, _, _, _, _, _, _, _, _, _, _, _, _, _, _, _, _, _, _, _, _, _, _, _, _, _, _, _, _, _, _, _, _]) _
  refine seqd rfl rfl (does_alloc z88) ?_; rintro _ w36 ⟨b32, rfl, hb33, hB34, E35⟩
  have n37 : g_b < b32 := Nat.lt_of_lt_of_le (cell_lt (Cells.at (hc_g.ext X29) 0 rfl)) hb33
  have g38 : w.heap.size ≤ b32 := Nat.le_trans (Below.size X29) hb33
  change Blk _ _ [(Iv 0), (Iv 0), (Iv 0)] at hB34
  have X39 := Ext.gr X29 E35
  show wpList _ _ _ _ (fr [_, _, _, _, _, _, _, _, _, _, _, _, _, _, _, _, _, _, _, _, _, _, _, _, _, _, _, _, _, _, _, _, _, _, _, _, _, _, _, _, _, _, _, _, _, _, _, _, _, _, _, _, _, _, _, _, _, _, _, _, _, _, _, _, _, _, _, _]) _
  refine seqd rfl rfl (does_alloc z88) ?_; rintro _ w44 ⟨b40, rfl, hb41, hB42, E43⟩
  have n45 : g_b < b40 := Nat.lt_of_lt_of_le (cell_lt (Cells.at (hc_g.ext X39) 0 rfl)) hb41
  have n46 : b32 < b40 := Nat.lt_of_lt_of_le (Blk.lt hB34) hb41
  have g47 : w.heap.size ≤ b40 := Nat.le_trans (Below.size X39) hb41
  change Blk _ _ [(Iv 0), (Iv 0), (Iv 0)] at hB42
  have X48 := Ext.gr X39 E43
  show wpList _ _ _ _ (fr [_, _, _, _, _, _, _, _, _, _, _, _, _, _, _, _, _, _, _, _, _, _, _, _, _, _, _, _, _, _, _, _, _, _, _, _, _, _, _, _, _, _, _, _, _, _, _, _, _, _, _, _, _, _, _, _, _, _, _, _, _, _, _, _, _, _, _, _]) _
  refine seqn rfl rfl (does_store (n := 3) (cs := [(Iv 0), (Iv 0), (Iv 0)]) (u := (.agg #[(Iv (ix % A_g.x)), (Iv (ix / A_g.x % A_g.y)), (Iv (ix / A_g.x / A_g.y))])) (ev rfl) (ev rfl) Try.sizeOf88 rfl (hB34.ext E43) (Nat.le_of_ble_eq_true rfl) rfl) ?_; rintro _ w51 ⟨rfl, W49, hB50⟩
  change Blk _ _ [(Iv (ix % A_g.x)), (Iv (ix / A_g.x % A_g.y)), (Iv (ix / A_g.x / A_g.y))] at hB50
  have X52 := Below.wr X48 W49 g38
  refine seqn rfl rfl (does_store (n := 3) (cs := [(Iv 0), (Iv 0), (Iv 0)]) (u := (.agg #[(Iv A_g.x), (Iv A_g.y), (Iv A_g.z)])) (ev rfl) (ev rfl) Try.sizeOf88 rfl (hB42.wr W49 (Nat.ne_of_gt n46)) (Nat.le_of_ble_eq_true rfl) rfl) ?_; rintro _ w55 ⟨rfl, W53, hB54⟩
  change Blk _ _ [(Iv A_g.x), (Iv A_g.y), (Iv A_g.z)] at hB54
  have X56 := Below.wr X52 W53 g47
  refine q_is rfl rfl (does_assign (u := (.slice (some ⟨b22, 0, none⟩) 0 0)) (ev rfl)) (by dsimp only [List.set]; try rfl) ?_
  refine wpList_nil (hK15 _ _ ?_)
  refine wp_seq_k fun K57 hK57 => ?_
  refine region_draw (
    [Fact.pure [] (fun v => v = (Pt g_b g_o)),
    Fact.pure [17] (fun v => v = (Pt g_b g_o)),
    Fact.pure [18] (fun v => v = (Pt g_b (g_o + 4))),
    Fact.pure [19] (fun v => v = (Iv A_g.x)),
    Fact.pure [] (fun v => v = (Pt g_b g_o)),
    Fact.pure [21] (fun v => v = (Pt g_b g_o)),
    Fact.pure [22] (fun v => v = (Pt g_b (g_o + 4))),
    Fact.pure [23] (fun v => v = (Iv A_g.x)),
    Fact.pure [] (fun v => v = (Pt g_b g_o)),
    Fact.pure [25] (fun v => v = (Pt g_b g_o)),
    Fact.pure [26] (fun v => v = (Pt g_b (g_o + 5))),
    Fact.pure [27] (fun v => v = (Iv A_g.y)),
    Fact.pure [24, 28] (fun v => v = (Iv (A_g.x * A_g.y))),
    Fact.pure [20, 29] (fun v => v = (.agg #[(Iv 1), (Iv A_g.x), (Iv (A_g.x * A_g.y))])),
    Fact.mem [] (fun v w' => ∃ b : Nat, v = .pointer (some ⟨b, 0, none⟩) ∧ w55.heap.size ≤ b ∧ Blk w' b [(Iv 0), (Iv 0), (Iv 0)]) (by rintro v w1 w2 hx ⟨b, rfl, hb, hB⟩; exact ⟨b, rfl, hb, (hB.ext hx)⟩)]) mixed (by kernel_rfl) (by intro _ _ d _ _ h; cases d <;> exact h) ?_
  obtain ⟨w58, hw60⟩ : ∃ w', w' = World.drew w55 := ⟨_, rfl⟩; rw [← hw60]; have E59 : Ext w55 w58 := by rw [hw60]; exact Ext.draw _
  clear hw60
  have X61 := Ext.gr X56 E59
  refine RW_d _ rfl (fun v => by dsimp only [List.set]; try rfl) (fun u hu hF => ?_) (fun v62 => ?_)
  · clear hF
    refine doesG_un rfl ?_
    refine (does_move (u := (Pt g_b g_o)) (ev rfl)).mono ?_; rintro _ _ ⟨rfl, rfl⟩
    exact ⟨rfl, Ext.refl _⟩
  refine RW_d _ rfl (fun v => by dsimp only [List.set]; try rfl) (fun u hu hF => ?_) (fun v63 => ?_)
  · have h17_ : v62 = (Pt g_b g_o) := hF.1
    clear hF
    refine doesG_un rfl ?_
    obtain rfl := h17_
    refine (does_nilCheck (ev rfl)).mono ?_; rintro _ _ ⟨rfl, rfl⟩
    exact ⟨rfl, Ext.refl _⟩
  refine RW_d _ rfl (fun v => by dsimp only [List.set]; try rfl) (fun u hu hF => ?_) (fun v64 => ?_)
  · have h18_ : v63 = (Pt g_b g_o) := hF.1
    clear hF
    refine doesG_un rfl ?_
    obtain rfl := h18_
    refine (does_fieldAddr (ev rfl) fa49_2).mono ?_; rintro _ _ ⟨rfl, rfl⟩
    exact ⟨rfl, Ext.refl _⟩
  refine RW_d _ rfl (fun v => by dsimp only [List.set]; try rfl) (fun u hu hF => ?_) (fun v65 => ?_)
  · have h19_ : v64 = (Pt g_b (g_o + 4)) := hF.1
    clear hF
    refine doesG_un rfl ?_
    obtain rfl := h19_
    refine (does_load (u := (Iv A_g.x)) (ev rfl) Try.isAgg2 (Cells.at ((hc_g.ext (Ext.gr X56 E59)).ext hu) 4 rfl)).mono ?_; rintro _ _ ⟨rfl, rfl⟩
    exact ⟨rfl, Ext.refl _⟩
  refine RW_d _ rfl (fun v => by dsimp only [List.set]; try rfl) (fun u hu hF => ?_) (fun v66 => ?_)
  · clear hF
    refine doesG_un rfl ?_
    refine (does_move (u := (Pt g_b g_o)) (ev rfl)).mono ?_; rintro _ _ ⟨rfl, rfl⟩
    exact ⟨rfl, Ext.refl _⟩
  refine RW_d _ rfl (fun v => by dsimp only [List.set]; try rfl) (fun u hu hF => ?_) (fun v67 => ?_)
  · have h21_ : v66 = (Pt g_b g_o) := hF.1
    clear hF
    refine doesG_un rfl ?_
    obtain rfl := h21_
    refine (does_nilCheck (ev rfl)).mono ?_; rintro _ _ ⟨rfl, rfl⟩
    exact ⟨rfl, Ext.refl _⟩
  refine RW_d _ rfl (fun v => by dsimp only [List.set]; try rfl) (fun u hu hF => ?_) (fun v68 => ?_)
  · have h22_ : v67 = (Pt g_b g_o) := hF.1
    clear hF
    refine doesG_un rfl ?_
    obtain rfl := h22_
    refine (does_fieldAddr (ev rfl) fa49_2).mono ?_; rintro _ _ ⟨rfl, rfl⟩
    exact ⟨rfl, Ext.refl _⟩
  refine RW_d _ rfl (fun v => by dsimp only [List.set]; try rfl) (fun u hu hF => ?_) (fun v69 => ?_)
  · have h23_ : v68 = (Pt g_b (g_o + 4)) := hF.1
    clear hF
    refine doesG_un rfl ?_
    obtain rfl := h23_
    refine (does_load (u := (Iv A_g.x)) (ev rfl) Try.isAgg2 (Cells.at ((hc_g.ext (Ext.gr X56 E59)).ext hu) 4 rfl)).mono ?_; rintro _ _ ⟨rfl, rfl⟩
    exact ⟨rfl, Ext.refl _⟩
  refine RW_d _ rfl (fun v => by dsimp only [List.set]; try rfl) (fun u hu hF => ?_) (fun v70 => ?_)
  · clear hF
    refine doesG_un rfl ?_
    refine (does_move (u := (Pt g_b g_o)) (ev rfl)).mono ?_; rintro _ _ ⟨rfl, rfl⟩
    exact ⟨rfl, Ext.refl _⟩
  refine RW_d _ rfl (fun v => by dsimp only [List.set]; try rfl) (fun u hu hF => ?_) (fun v71 => ?_)
  · have h25_ : v70 = (Pt g_b g_o) := hF.1
    clear hF
    refine doesG_un rfl ?_
    obtain rfl := h25_
    refine (does_nilCheck (ev rfl)).mono ?_; rintro _ _ ⟨rfl, rfl⟩
    exact ⟨rfl, Ext.refl _⟩
  refine RW_d _ rfl (fun v => by dsimp only [List.set]; try rfl) (fun u hu hF => ?_) (fun v72 => ?_)
  · have h26_ : v71 = (Pt g_b g_o) := hF.1
    clear hF
    refine doesG_un rfl ?_
    obtain rfl := h26_
    refine (does_fieldAddr (ev rfl) fa49_3).mono ?_; rintro _ _ ⟨rfl, rfl⟩
    exact ⟨rfl, Ext.refl _⟩
  refine RW_d _ rfl (fun v => by dsimp only [List.set]; try rfl) (fun u hu hF => ?_) (fun v73 => ?_)
  · have h27_ : v72 = (Pt g_b (g_o + 5)) := hF.1
    clear hF
    refine doesG_un rfl ?_
    obtain rfl := h27_
    refine (does_load (u := (Iv A_g.y)) (ev rfl) Try.isAgg2 (Cells.at ((hc_g.ext (Ext.gr X56 E59)).ext hu) 5 rfl)).mono ?_; rintro _ _ ⟨rfl, rfl⟩
    exact ⟨rfl, Ext.refl _⟩
  refine RW_d _ rfl (fun v => by dsimp only [List.set]; try rfl) (fun u hu hF => ?_) (fun v74 => ?_)
  · have h24_ : v69 = (Iv A_g.x) := hF.1
    have h28_ : v73 = (Iv A_g.y) := hF.2.1
    clear hF
    refine doesG_un rfl ?_
    obtain rfl := h24_
    obtain rfl := h28_
    refine (does_iarith (p := A_g.x) (q := A_g.y) (r := A_g.x * A_g.y) (ev rfl) (ev rfl) (.inr (.inr ⟨rfl, (in_i64 (by omega) (by omega)).symm⟩))).mono ?_; rintro _ _ ⟨rfl, rfl⟩
    exact ⟨rfl, Ext.refl _⟩
  refine RW_d _ rfl (fun v => by dsimp only [List.set]; try rfl) (fun u hu hF => ?_) (fun v75 => ?_)
  · have h20_ : v65 = (Iv A_g.x) := hF.1
    have h29_ : v74 = (Iv (A_g.x * A_g.y)) := hF.2.1
    clear hF
    refine doesG_un rfl ?_
    obtain rfl := h20_
    obtain rfl := h29_
    refine (does_build (parts' := [(0, (Iv 1)), (1, (Iv A_g.x)), (2, (Iv (A_g.x * A_g.y)))]) (cells := #[(Iv 1), (Iv A_g.x), (Iv (A_g.x * A_g.y))]) (evp rfl) (by kernel_rfl)).mono ?_; rintro _ _ ⟨rfl, rfl⟩
    exact ⟨rfl, Ext.refl _⟩
  refine RW_d _ rfl (fun v => by dsimp only [List.set]; try rfl) (fun u hu hF => ?_) (fun v76 => ?_)
  · clear hF
    refine doesG_un rfl ?_
    refine (does_alloc z88).mono ?_; rintro _ _ ⟨b, rfl, hb, hB, hx⟩
    exact ⟨⟨b, rfl, Nat.le_trans (Nat.le_trans (Below.size E59) (Below.size hu)) hb, hB⟩, hx⟩
  refine RW_fin ?_; intro w77 E78 hP79
  obtain ⟨⟨⟨⟨⟨⟨⟨⟨⟨⟨⟨⟨⟨⟨⟨-, -⟩, -⟩, -⟩, -⟩, -⟩, -⟩, -⟩, -⟩, -⟩, -⟩, -⟩, -⟩, -⟩, q80⟩, q81⟩ := hP79
  have X82 := Ext.gr X61 E78
  have q80 : v75 = (.agg #[(Iv 1), (Iv A_g.x), (Iv (A_g.x * A_g.y))]) := q80
  obtain rfl := q80
  have q81 : ∃ b : Nat, v76 = .pointer (some ⟨b, 0, none⟩) ∧ w55.heap.size ≤ b ∧ Blk w77 b [(Iv 0), (Iv 0), (Iv 0)] := q81
  obtain ⟨b83, rfl, hb84, hB85⟩ := q81
  have n86 : g_b < b83 := Nat.lt_of_lt_of_le (cell_lt (Cells.at (hc_g.ext X56) 0 rfl)) hb84
  have n87 : b32 < b83 := Nat.lt_of_lt_of_le (Blk.lt (hB50.wr W53 (Nat.ne_of_lt n46))) hb84
  have n88 : b40 < b83 := Nat.lt_of_lt_of_le (Blk.lt hB54) hb84
  have g89 : w.heap.size ≤ b83 := Nat.le_trans (Below.size X56) hb84
  show wpList _ _ _ _ (fr [_, _, _, _, _, _, _, _, _, _, _, _, _, _, _, _, _, _, _, _, _, _, _, _, _, _, _, _, _, _, _, _, _, _, _, _, _, _, _, _, _, _, _, _, _, _, _, _, _, _, _, _, _, _, _, _, _, _, _, _, _, _, _, _, _, _, _, _]) _
  refine seqn rfl rfl (does_store (n := 3) (cs := [(Iv 0), (Iv 0), (Iv 0)]) (u := (.agg #[(Iv 1), (Iv A_g.x), (Iv (A_g.x * A_g.y))])) (ev rfl) (ev rfl) Try.sizeOf88 rfl hB85 (Nat.le_of_ble_eq_true rfl) rfl) ?_; rintro _ w92 ⟨rfl, W90, hB91⟩
  change Blk _ _ [(Iv 1), (Iv A_g.x), (Iv (A_g.x * A_g.y))] at hB91
  have X93 := Below.wr X82 W90 g89
  refine wpList_nil (hK57 _ _ ?_)
  refine wp_seq_k fun K94 hK94 => ?_
  refine wp_seq_k fun K95 hK95 => ?_
  refine wp_region_lit ?_
  refine q_is rfl rfl (does_assign (u := (Iv 2)) (ev rfl)) (by dsimp only [List.set]; try rfl) ?_
  refine wpList_nil (hK95 _ _ ?_)
  refine wp_block ?_
  refine loop_unroll 4 ?_
  refine un_step ?_
  refine wp_seq_k fun K96 hK96 => ?_
  refine wp_seq_k fun K97 hK97 => ?_
  refine wp_region_lit ?_
  refine q_is rfl rfl (does_move (u := (Iv 2)) (ev rfl)) (by dsimp only [List.set]; try rfl) ?_
  refine q_is rfl rfl (does_icmp (p := 2) (q := 0) (.inr (.inr (.inr (.inr (.inr rfl))))) (ev rfl) (ev rfl)) (by dsimp only [List.set]; try rfl) ?_
  refine wpList_nil (hK97 _ _ ?_)
  refine wp_cond_true (ev rfl) ?_
  refine wp_skip (hK96 _ _ ?_)
  refine wp_seq_k fun K98 hK98 => ?_
  refine wp_block ?_
  refine wp_seq_k fun K99 hK99 => ?_
  refine wp_region_lit ?_
  refine q_is rfl rfl (does_move (u := (Iv 2)) (ev rfl)) (by dsimp only [List.set]; try rfl) ?_
  refine q_is rfl rfl (does_indexAt_run (r := (Pt b32 2)) (ev rfl) (ev rfl) (fun w => ia88_2 _ _ w)) (by dsimp only [List.set]; try rfl) ?_
  refine q_is rfl rfl (does_load (u := (Iv (ix / A_g.x / A_g.y))) (ev rfl) Try.isAgg2 (Cells.at (Blk.cells ((((hB50.wr W53 (Nat.ne_of_lt n46)).ext E59).ext E78).wr W90 (Nat.ne_of_lt n87))) 2 rfl)) (by dsimp only [List.set]; try rfl) ?_
  refine q_is rfl rfl (does_icmp (p := ix / A_g.x / A_g.y) (q := 0) (.inr (.inr (.inr (.inr (.inl rfl))))) (ev rfl) (ev rfl)) (by dsimp only [List.set]; try rfl) ?_
  refine wpList_nil (hK99 _ _ ?_)
  have n105 : g_b < w92.heap.size := cell_lt (Cells.at (hc_g.ext X93) 0 rfl)
  have n106 : b32 < w92.heap.size := Blk.lt ((((hB50.wr W53 (Nat.ne_of_lt n46)).ext E59).ext E78).wr W90 (Nat.ne_of_lt n87))
  have n107 : b40 < w92.heap.size := Blk.lt (((hB54.ext E59).ext E78).wr W90 (Nat.ne_of_lt n88))
  have n108 : b83 < w92.heap.size := Blk.lt hB91
  obtain ⟨gg101, hg102, hg103, hO104⟩ := Own.start' hO30 (Own.same hO30 RI.flat ((((((((Same.refl _ _).ext E35).ext E43).wr W49 (.inr (Nat.le_trans (Nat.le_refl _) hb33))).wr W53 (.inr (Nat.le_trans (Below.size E35) hb41))).ext E59).ext E78).wr W90 (.inr (Nat.le_trans (Nat.le_trans (Nat.le_trans (Nat.le_trans (Below.size E35) (Below.size E43)) (Nat.le_of_eq (Eq.symm (Wr.size W49)))) (Nat.le_of_eq (Eq.symm (Wr.size W53)))) hb84))) hb23 (Below.size E26))
  have hN109 : w20.heap.size ≤ gg101 := by rcases hg102 with h | h; exact h ▸ hb23; exact Nat.le_trans (Below.size E26) h
  have g110 : w.heap.size ≤ gg101 := Nat.le_trans (Nat.le_trans (Below.size E16) (Below.size E19)) hN109
  have hg111 : gg101 < w27.heap.size := by rcases hg103 with h | h; exact h ▸ Nat.lt_of_lt_of_le hl24 (Nat.le_refl _); exact h
  have n112 : gg101 < b32 := Nat.lt_of_lt_of_le hg111 (Nat.le_trans (Nat.le_refl _) hb33)
  have n113 : gg101 < b40 := Nat.lt_of_lt_of_le hg111 (Nat.le_trans (Below.size E35) hb41)
  have n114 : gg101 < b83 := Nat.lt_of_lt_of_le hg111 (Nat.le_trans (Nat.le_trans (Nat.le_trans (Nat.le_trans (Below.size E35) (Below.size E43)) (Nat.le_of_eq (Eq.symm (Wr.size W49)))) (Nat.le_of_eq (Eq.symm (Wr.size W53)))) hb84)
  have hH115 : Hang w20.heap.size w92 (fun u => Sl RI 1 u (.slice (some ⟨b22, 0, none⟩) 0 0) ([])) := Own.hang hO104 RI.flat (by decide) hN109 (Nat.le_trans (Nat.le_trans (Nat.le_trans (Nat.le_trans (Nat.le_trans (Nat.le_trans (Nat.le_trans (Below.size E26) (Below.size E35)) (Below.size E43)) (Nat.le_of_eq (Eq.symm (Wr.size W49)))) (Nat.le_of_eq (Eq.symm (Wr.size W53)))) (Below.size E59)) (Below.size E78)) (Nat.le_of_eq (Eq.symm (Wr.size W90))))
  have J98 : ∀ (u100 : Nat → Value) (y7_ : Value) (w116 : World), (KpL [gg101] w92 w116) → (Own RI 1 2 gg101 w92.heap.size w116 y7_ (nbK A_g ix 1)) → K98 (fr [(Pt g_b g_o), (Iv ix), Ud, Ud, (.slice none 0 0), (Pt b32 0), (Pt b40 0), y7_, (Pt b83 0), (Iv 2), Ud, (Pt g_b g_o), (Iv ix), (.agg #[(Iv (ix % A_g.x)), (Iv (ix / A_g.x % A_g.y)), (Iv (ix / A_g.x / A_g.y))]), (Pt g_b g_o), (.agg #[(Iv A_g.x), (Iv A_g.y), (Iv A_g.z)]), (.slice (some ⟨b22, 0, none⟩) 0 0), v62, v63, v64, v65, v66, v67, v68, v69, v70, v71, v72, v73, v74, (.agg #[(Iv 1), (Iv A_g.x), (Iv (A_g.x * A_g.y))]), (Iv 2), (Bo true), Ud, Ud, (Iv 2), (Pt b32 2), (Iv (ix / A_g.x / A_g.y)), (Bo (icmp .gtr (ix / A_g.x / A_g.y) 0)), (u100 39), (u100 40), (u100 41), (u100 42), (u100 43), (u100 44), (u100 45), (u100 46), Ud, Ud, Ud, Ud, Ud, Ud, Ud, Ud, Ud, Ud, Ud, Ud, Ud, Ud, Ud, Ud, Ud, Ud, Ud, Ud, Ud]) w116 := by
    intro u100 y7_ w116 E117 hO118
    have X119 := Below.kl X93 E117 (allS g110 all0) (Nat.le_refl _)
    obtain ⟨p120, q121, rfl⟩ := Own.shape hO118
    have hH122 : Hang w20.heap.size w116 (fun u => Sl RI 1 u (.slice p120 ((nbK A_g ix 1).length) q121) (nbK A_g ix 1)) := Own.hang hO118 RI.flat (by decide) hN109 (Nat.le_trans (Nat.le_trans (Nat.le_trans (Nat.le_trans (Nat.le_trans (Nat.le_trans (Nat.le_trans (Below.size E26) (Below.size E35)) (Below.size E43)) (Nat.le_of_eq (Eq.symm (Wr.size W49)))) (Nat.le_of_eq (Eq.symm (Wr.size W53)))) (Below.size E59)) (Below.size E78)) (Nat.le_of_eq (Eq.symm (Wr.size W90))))
    have hnl := nbK_len A_g ix 1
    refine hK98 _ _ ?_
    refine wp_region_lit ?_
    refine q_is rfl rfl (does_move (u := (Iv 2)) (ev rfl)) (by dsimp only [List.set]; try rfl) ?_
    refine q_is rfl rfl (does_iarith (p := 2) (q := 1) (r := (1)) (ev rfl) (ev rfl) (.inr (.inl ⟨rfl, rfl⟩))) (by dsimp only [List.set]; try rfl) ?_
    refine q_is rfl rfl (does_assign (u := (Iv 1)) (ev rfl)) (by dsimp only [List.set]; try rfl) ?_
    refine wpList_nil ?_
    refine un_step ?_
    refine wp_seq_k fun K123 hK123 => ?_
    refine wp_seq_k fun K124 hK124 => ?_
    refine wp_region_lit ?_
    refine q_is rfl rfl (does_move (u := (Iv 1)) (ev rfl)) (by dsimp only [List.set]; try rfl) ?_
    refine q_is rfl rfl (does_icmp (p := 1) (q := 0) (.inr (.inr (.inr (.inr (.inr rfl))))) (ev rfl) (ev rfl)) (by dsimp only [List.set]; try rfl) ?_
    refine wpList_nil (hK124 _ _ ?_)
    refine wp_cond_true (ev rfl) ?_
    refine wp_skip (hK123 _ _ ?_)
    refine wp_seq_k fun K125 hK125 => ?_
    refine wp_block ?_
    refine wp_seq_k fun K126 hK126 => ?_
    refine wp_region_lit ?_
    refine q_is rfl rfl (does_move (u := (Iv 1)) (ev rfl)) (by dsimp only [List.set]; try rfl) ?_
    refine q_is rfl rfl (does_indexAt_run (r := (Pt b32 1)) (ev rfl) (ev rfl) (fun w => ia88_1 _ _ w)) (by dsimp only [List.set]; try rfl) ?_
    refine q_is rfl rfl (does_load (u := (Iv (ix / A_g.x % A_g.y))) (ev rfl) Try.isAgg2 (Cells.at (Blk.cells (((((hB50.wr W53 (Nat.ne_of_lt n46)).ext E59).ext E78).wr W90 (Nat.ne_of_lt n87)).kl E117 (ninS (Nat.ne_of_gt n112) nin0))) 1 rfl)) (by dsimp only [List.set]; try rfl) ?_
    refine q_is rfl rfl (does_icmp (p := ix / A_g.x % A_g.y) (q := 0) (.inr (.inr (.inr (.inr (.inl rfl))))) (ev rfl) (ev rfl)) (by dsimp only [List.set]; try rfl) ?_
    refine wpList_nil (hK126 _ _ ?_)
    have n132 : g_b < w116.heap.size := cell_lt (Cells.at (hc_g.ext X119) 0 rfl)
    have n133 : b32 < w116.heap.size := Blk.lt (((((hB50.wr W53 (Nat.ne_of_lt n46)).ext E59).ext E78).wr W90 (Nat.ne_of_lt n87)).kl E117 (ninS (Nat.ne_of_gt n112) nin0))
    have n134 : b40 < w116.heap.size := Blk.lt ((((hB54.ext E59).ext E78).wr W90 (Nat.ne_of_lt n88)).kl E117 (ninS (Nat.ne_of_gt n113) nin0))
    have n135 : b83 < w116.heap.size := Blk.lt (hB91.kl E117 (ninS (Nat.ne_of_gt n114) nin0))
    obtain ⟨gg128, hg129, hg130, hO131⟩ := Own.start' hO118 hO118
    have hN136 : w20.heap.size ≤ gg128 := by rcases hg129 with h | h; exact h ▸ hN109; exact Nat.le_trans (Nat.le_trans (Nat.le_trans (Nat.le_trans (Nat.le_trans (Nat.le_trans (Nat.le_trans (Nat.le_trans (Below.size E26) (Below.size E35)) (Below.size E43)) (Nat.le_of_eq (Eq.symm (Wr.size W49)))) (Nat.le_of_eq (Eq.symm (Wr.size W53)))) (Below.size E59)) (Below.size E78)) (Nat.le_of_eq (Eq.symm (Wr.size W90)))) h
    have g137 : w.heap.size ≤ gg128 := Nat.le_trans (Nat.le_trans (Below.size E16) (Below.size E19)) hN136
    have n138 : g_b ≠ gg128 := hg129.elim (fun h => by rw [h]; exact (Nat.ne_of_lt (Nat.lt_of_lt_of_le n28 hN109))) (fun h => Nat.ne_of_lt (Nat.lt_of_lt_of_le n105 h))
    have n139 : b32 ≠ gg128 := hg129.elim (fun h => by rw [h]; exact (Nat.ne_of_gt n112)) (fun h => Nat.ne_of_lt (Nat.lt_of_lt_of_le n106 h))
    have n140 : b40 ≠ gg128 := hg129.elim (fun h => by rw [h]; exact (Nat.ne_of_gt n113)) (fun h => Nat.ne_of_lt (Nat.lt_of_lt_of_le n107 h))
    have n141 : b83 ≠ gg128 := hg129.elim (fun h => by rw [h]; exact (Nat.ne_of_gt n114)) (fun h => Nat.ne_of_lt (Nat.lt_of_lt_of_le n108 h))
    have hg142 : gg128 < w116.heap.size := by rcases hg130 with h | h; exact h ▸ Nat.lt_of_lt_of_le hg111 (Nat.le_trans (Nat.le_trans (Nat.le_trans (Nat.le_trans (Nat.le_trans (Nat.le_trans (Nat.le_trans (Below.size E35) (Below.size E43)) (Nat.le_of_eq (Eq.symm (Wr.size W49)))) (Nat.le_of_eq (Eq.symm (Wr.size W53)))) (Below.size E59)) (Below.size E78)) (Nat.le_of_eq (Eq.symm (Wr.size W90)))) (KpL.size E117)); exact h
    have hH143 : Hang w20.heap.size w116 (fun u => Sl RI 1 u (.slice p120 ((nbK A_g ix 1).length) q121) (nbK A_g ix 1)) := Own.hang hO131 RI.flat (by decide) hN136 (Nat.le_trans (Nat.le_trans (Nat.le_trans (Nat.le_trans (Nat.le_trans (Nat.le_trans (Nat.le_trans (Nat.le_trans (Below.size E26) (Below.size E35)) (Below.size E43)) (Nat.le_of_eq (Eq.symm (Wr.size W49)))) (Nat.le_of_eq (Eq.symm (Wr.size W53)))) (Below.size E59)) (Below.size E78)) (Nat.le_of_eq (Eq.symm (Wr.size W90)))) (KpL.size E117))
    have J125 : ∀ (u127 : Nat → Value) (y7_ : Value) (w144 : World), (KpL [gg128] w116 w144) → (Own RI 1 2 gg128 w116.heap.size w144 y7_ (nbK A_g ix 2)) → K125 (fr [(Pt g_b g_o), (Iv ix), Ud, Ud, (.slice none 0 0), (Pt b32 0), (Pt b40 0), y7_, (Pt b83 0), (Iv 1), Ud, (Pt g_b g_o), (Iv ix), (.agg #[(Iv (ix % A_g.x)), (Iv (ix / A_g.x % A_g.y)), (Iv (ix / A_g.x / A_g.y))]), (Pt g_b g_o), (.agg #[(Iv A_g.x), (Iv A_g.y), (Iv A_g.z)]), (.slice (some ⟨b22, 0, none⟩) 0 0), v62, v63, v64, v65, v66, v67, v68, v69, v70, v71, v72, v73, v74, (.agg #[(Iv 1), (Iv A_g.x), (Iv (A_g.x * A_g.y))]), (Iv 1), (Bo true), (Iv 2), (Iv 1), (Iv 1), (Pt b32 1), (Iv (ix / A_g.x % A_g.y)), (Bo (icmp .gtr (ix / A_g.x % A_g.y) 0)), (u127 39), (u127 40), (u127 41), (u127 42), (u127 43), (u127 44), (u127 45), (u127 46), Ud, Ud, Ud, Ud, Ud, Ud, Ud, Ud, Ud, Ud, Ud, Ud, Ud, Ud, Ud, Ud, Ud, Ud, Ud, Ud, Ud]) w144 := by
      intro u127 y7_ w144 E145 hO146
      have X147 := Below.kl X119 E145 (allS g137 all0) (Nat.le_refl _)
      obtain ⟨p148, q149, rfl⟩ := Own.shape hO146
      have hH150 : Hang w20.heap.size w144 (fun u => Sl RI 1 u (.slice p148 ((nbK A_g ix 2).length) q149) (nbK A_g ix 2)) := Own.hang hO146 RI.flat (by decide) hN136 (Nat.le_trans (Nat.le_trans (Nat.le_trans (Nat.le_trans (Nat.le_trans (Nat.le_trans (Nat.le_trans (Nat.le_trans (Below.size E26) (Below.size E35)) (Below.size E43)) (Nat.le_of_eq (Eq.symm (Wr.size W49)))) (Nat.le_of_eq (Eq.symm (Wr.size W53)))) (Below.size E59)) (Below.size E78)) (Nat.le_of_eq (Eq.symm (Wr.size W90)))) (KpL.size E117))
      have hnl := nbK_len A_g ix 2
      refine hK125 _ _ ?_
      refine wp_region_lit ?_
      refine q_is rfl rfl (does_move (u := (Iv 1)) (ev rfl)) (by dsimp only [List.set]; try rfl) ?_
      refine q_is rfl rfl (does_iarith (p := 1) (q := 1) (r := (0)) (ev rfl) (ev rfl) (.inr (.inl ⟨rfl, rfl⟩))) (by dsimp only [List.set]; try rfl) ?_
      refine q_is rfl rfl (does_assign (u := (Iv 0)) (ev rfl)) (by dsimp only [List.set]; try rfl) ?_
      refine wpList_nil ?_
      refine un_step ?_
      refine wp_seq_k fun K151 hK151 => ?_
      refine wp_seq_k fun K152 hK152 => ?_
      refine wp_region_lit ?_
      refine q_is rfl rfl (does_move (u := (Iv 0)) (ev rfl)) (by dsimp only [List.set]; try rfl) ?_
      refine q_is rfl rfl (does_icmp (p := 0) (q := 0) (.inr (.inr (.inr (.inr (.inr rfl))))) (ev rfl) (ev rfl)) (by dsimp only [List.set]; try rfl) ?_
      refine wpList_nil (hK152 _ _ ?_)
      refine wp_cond_true (ev rfl) ?_
      refine wp_skip (hK151 _ _ ?_)
      refine wp_seq_k fun K153 hK153 => ?_
      refine wp_block ?_
      refine wp_seq_k fun K154 hK154 => ?_
      refine wp_region_lit ?_
      refine q_is rfl rfl (does_move (u := (Iv 0)) (ev rfl)) (by dsimp only [List.set]; try rfl) ?_
      refine q_is rfl rfl (does_indexAt_run (r := (Pt b32 0)) (ev rfl) (ev rfl) (fun w => ia88_0 _ _ w)) (by dsimp only [List.set]; try rfl) ?_
      refine q_is rfl rfl (does_load (u := (Iv (ix % A_g.x))) (ev rfl) Try.isAgg2 (Cells.at (Blk.cells ((((((hB50.wr W53 (Nat.ne_of_lt n46)).ext E59).ext E78).wr W90 (Nat.ne_of_lt n87)).kl E117 (ninS (Nat.ne_of_gt n112) nin0)).kl E145 (ninS n139 nin0))) 0 rfl)) (by dsimp only [List.set]; try rfl) ?_
      refine q_is rfl rfl (does_icmp (p := ix % A_g.x) (q := 0) (.inr (.inr (.inr (.inr (.inl rfl))))) (ev rfl) (ev rfl)) (by dsimp only [List.set]; try rfl) ?_
      refine wpList_nil (hK154 _ _ ?_)
      have n160 : g_b < w144.heap.size := cell_lt (Cells.at (hc_g.ext X147) 0 rfl)
      have n161 : b32 < w144.heap.size := Blk.lt ((((((hB50.wr W53 (Nat.ne_of_lt n46)).ext E59).ext E78).wr W90 (Nat.ne_of_lt n87)).kl E117 (ninS (Nat.ne_of_gt n112) nin0)).kl E145 (ninS n139 nin0))
      have n162 : b40 < w144.heap.size := Blk.lt (((((hB54.ext E59).ext E78).wr W90 (Nat.ne_of_lt n88)).kl E117 (ninS (Nat.ne_of_gt n113) nin0)).kl E145 (ninS n140 nin0))
      have n163 : b83 < w144.heap.size := Blk.lt ((hB91.kl E117 (ninS (Nat.ne_of_gt n114) nin0)).kl E145 (ninS n141 nin0))
      obtain ⟨gg156, hg157, hg158, hO159⟩ := Own.start' hO146 hO146
      have hN164 : w20.heap.size ≤ gg156 := by rcases hg157 with h | h; exact h ▸ hN136; exact Nat.le_trans (Nat.le_trans (Nat.le_trans (Nat.le_trans (Nat.le_trans (Nat.le_trans (Nat.le_trans (Nat.le_trans (Nat.le_trans (Below.size E26) (Below.size E35)) (Below.size E43)) (Nat.le_of_eq (Eq.symm (Wr.size W49)))) (Nat.le_of_eq (Eq.symm (Wr.size W53)))) (Below.size E59)) (Below.size E78)) (Nat.le_of_eq (Eq.symm (Wr.size W90)))) (KpL.size E117)) h
      have g165 : w.heap.size ≤ gg156 := Nat.le_trans (Nat.le_trans (Below.size E16) (Below.size E19)) hN164
      have n166 : g_b ≠ gg156 := hg157.elim (fun h => by rw [h]; exact n138) (fun h => Nat.ne_of_lt (Nat.lt_of_lt_of_le n132 h))
      have n167 : b32 ≠ gg156 := hg157.elim (fun h => by rw [h]; exact n139) (fun h => Nat.ne_of_lt (Nat.lt_of_lt_of_le n133 h))
      have n168 : b40 ≠ gg156 := hg157.elim (fun h => by rw [h]; exact n140) (fun h => Nat.ne_of_lt (Nat.lt_of_lt_of_le n134 h))
      have n169 : b83 ≠ gg156 := hg157.elim (fun h => by rw [h]; exact n141) (fun h => Nat.ne_of_lt (Nat.lt_of_lt_of_le n135 h))
      have hg170 : gg156 < w144.heap.size := by rcases hg158 with h | h; exact h ▸ Nat.lt_of_lt_of_le hg142 (KpL.size E145); exact h
      have hH171 : Hang w20.heap.size w144 (fun u => Sl RI 1 u (.slice p148 ((nbK A_g ix 2).length) q149) (nbK A_g ix 2)) := Own.hang hO159 RI.flat (by decide) hN164 (Nat.le_trans (Nat.le_trans (Nat.le_trans (Nat.le_trans (Nat.le_trans (Nat.le_trans (Nat.le_trans (Nat.le_trans (Nat.le_trans (Below.size E26) (Below.size E35)) (Below.size E43)) (Nat.le_of_eq (Eq.symm (Wr.size W49)))) (Nat.le_of_eq (Eq.symm (Wr.size W53)))) (Below.size E59)) (Below.size E78)) (Nat.le_of_eq (Eq.symm (Wr.size W90)))) (KpL.size E117)) (KpL.size E145))
      have J153 : ∀ (u155 : Nat → Value) (y7_ : Value) (w172 : World), (KpL [gg156] w144 w172) → (Own RI 1 2 gg156 w144.heap.size w172 y7_ (nbK A_g ix 3)) → K153 (fr [(Pt g_b g_o), (Iv ix), Ud, Ud, (.slice none 0 0), (Pt b32 0), (Pt b40 0), y7_, (Pt b83 0), (Iv 0), Ud, (Pt g_b g_o), (Iv ix), (.agg #[(Iv (ix % A_g.x)), (Iv (ix / A_g.x % A_g.y)), (Iv (ix / A_g.x / A_g.y))]), (Pt g_b g_o), (.agg #[(Iv A_g.x), (Iv A_g.y), (Iv A_g.z)]), (.slice (some ⟨b22, 0, none⟩) 0 0), v62, v63, v64, v65, v66, v67, v68, v69, v70, v71, v72, v73, v74, (.agg #[(Iv 1), (Iv A_g.x), (Iv (A_g.x * A_g.y))]), (Iv 0), (Bo true), (Iv 1), (Iv 0), (Iv 0), (Pt b32 0), (Iv (ix % A_g.x)), (Bo (icmp .gtr (ix % A_g.x) 0)), (u155 39), (u155 40), (u155 41), (u155 42), (u155 43), (u155 44), (u155 45), (u155 46), Ud, Ud, Ud, Ud, Ud, Ud, Ud, Ud, Ud, Ud, Ud, Ud, Ud, Ud, Ud, Ud, Ud, Ud, Ud, Ud, Ud]) w172 := by
        intro u155 y7_ w172 E173 hO174
        have X175 := Below.kl X147 E173 (allS g165 all0) (Nat.le_refl _)
        obtain ⟨p176, q177, rfl⟩ := Own.shape hO174
        have hH178 : Hang w20.heap.size w172 (fun u => Sl RI 1 u (.slice p176 ((nbK A_g ix 3).length) q177) (nbK A_g ix 3)) := Own.hang hO174 RI.flat (by decide) hN164 (Nat.le_trans (Nat.le_trans (Nat.le_trans (Nat.le_trans (Nat.le_trans (Nat.le_trans (Nat.le_trans (Nat.le_trans (Nat.le_trans (Below.size E26) (Below.size E35)) (Below.size E43)) (Nat.le_of_eq (Eq.symm (Wr.size W49)))) (Nat.le_of_eq (Eq.symm (Wr.size W53)))) (Below.size E59)) (Below.size E78)) (Nat.le_of_eq (Eq.symm (Wr.size W90)))) (KpL.size E117)) (KpL.size E145))
        have hnl := nbK_len A_g ix 3
        refine hK153 _ _ ?_
        refine wp_region_lit ?_
        refine q_is rfl rfl (does_move (u := (Iv 0)) (ev rfl)) (by dsimp only [List.set]; try rfl) ?_
        refine q_is rfl rfl (does_iarith (p := 0) (q := 1) (r := (-1)) (ev rfl) (ev rfl) (.inr (.inl ⟨rfl, rfl⟩))) (by dsimp only [List.set]; try rfl) ?_
        refine q_is rfl rfl (does_assign (u := (Iv (-1))) (ev rfl)) (by dsimp only [List.set]; try rfl) ?_
        refine wpList_nil ?_
        refine un_step ?_
        refine wp_seq_k fun K179 hK179 => ?_
        refine wp_seq_k fun K180 hK180 => ?_
        refine wp_region_lit ?_
        refine q_is rfl rfl (does_move (u := (Iv (-1))) (ev rfl)) (by dsimp only [List.set]; try rfl) ?_
        refine q_is rfl rfl (does_icmp (p := (-1)) (q := 0) (.inr (.inr (.inr (.inr (.inr rfl))))) (ev rfl) (ev rfl)) (by dsimp only [List.set]; try rfl) ?_
        refine wpList_nil (hK180 _ _ ?_)
        refine wp_cond_false (ev rfl) ?_
        refine wp_exit ?_
        refine hK94 _ _ ?_
        refine wp_seq_k fun K181 hK181 => ?_
        refine wp_seq_k fun K182 hK182 => ?_
        refine wp_region_lit ?_
        refine q_is rfl rfl (does_move (u := (Iv 0)) (ev rfl)) (by dsimp only [List.set]; try rfl) ?_
        refine wpList_nil (hK182 _ _ ?_)
        refine wp_block ?_
        refine loop_unroll 4 ?_
        refine un_step ?_
        refine wp_seq_k fun K183 hK183 => ?_
        refine wp_region_lit ?_
        refine q_is rfl rfl (does_icmp (p := 0) (q := 3) (.inr (.inr (.inl rfl))) (ev rfl) (ev rfl)) (by dsimp only [List.set]; try rfl) ?_
        refine wpList_nil (hK183 _ _ ?_)
        refine wp_seq_k fun K184 hK184 => ?_
        refine wp_cond_true (ev rfl) ?_
        refine wp_skip (hK184 _ _ ?_)
        refine wp_seq_k fun K185 hK185 => ?_
        refine wp_block ?_
        refine wp_seq_k fun K186 hK186 => ?_
        refine wp_region_lit ?_
        refine q_is rfl rfl (does_move (u := (Iv 0)) (ev rfl)) (by dsimp only [List.set]; try rfl) ?_
        refine q_is rfl rfl (does_assign (u := (Iv 0)) (ev rfl)) (by dsimp only [List.set]; try rfl) ?_
        refine wpList_nil (hK186 _ _ ?_)
        refine wp_seq_k fun K187 hK187 => ?_
        obtain ⟨β1, hβ1⟩ : ∃ b : Bool, b = (icmp .lss ((ix % A_g.x) + 1) A_g.x) := ⟨_, rfl⟩
        refine region_draw (
          [Fact.pure [] (fun v => v = (Iv 0)),
    Fact.pure [50] (fun v => v = (Pt b32 0)),
    Fact.pure [51] (fun v => v = (Iv (ix % A_g.x))),
    Fact.pure [52] (fun v => v = (Iv ((ix % A_g.x) + 1))),
    Fact.pure [] (fun v => v = (Iv 0)),
    Fact.pure [54] (fun v => v = (Pt b40 0)),
    Fact.pure [55] (fun v => v = (Iv A_g.x)),
    Fact.pure [53, 56] (fun v => v = (Bo β1))]) mixed (by kernel_rfl) (by intro _ _ d _ _ h; cases d <;> exact h) ?_
        obtain ⟨w188, hw190⟩ : ∃ w', w' = World.drew w172 := ⟨_, rfl⟩; rw [← hw190]; have E189 : Ext w172 w188 := by rw [hw190]; exact Ext.draw _
        clear hw190
        have X191 := Ext.gr X175 E189
        refine RW_d _ rfl (fun v => by dsimp only [List.set]; try rfl) (fun u hu hF => ?_) (fun v192 => ?_)
        · clear hF
          refine doesG_un rfl ?_
          refine (does_move (u := (Iv 0)) (ev rfl)).mono ?_; rintro _ _ ⟨rfl, rfl⟩
          exact ⟨rfl, Ext.refl _⟩
        refine RW_d _ rfl (fun v => by dsimp only [List.set]; try rfl) (fun u hu hF => ?_) (fun v193 => ?_)
        · have h50_ : v192 = (Iv 0) := hF.1
          clear hF
          refine doesG_un rfl ?_
          obtain rfl := h50_
          refine (does_indexAt_run (r := (Pt b32 0)) (ev rfl) (ev rfl) (fun w => ia88_0 _ _ w)).mono ?_; rintro _ _ ⟨rfl, rfl⟩
          exact ⟨rfl, Ext.refl _⟩
        refine RW_d _ rfl (fun v => by dsimp only [List.set]; try rfl) (fun u hu hF => ?_) (fun v194 => ?_)
        · have h51_ : v193 = (Pt b32 0) := hF.1
          clear hF
          refine doesG_un rfl ?_
          obtain rfl := h51_
          refine (does_load (u := (Iv (ix % A_g.x))) (ev rfl) Try.isAgg2 (Cells.at (Blk.cells (((((((((hB50.wr W53 (Nat.ne_of_lt n46)).ext E59).ext E78).wr W90 (Nat.ne_of_lt n87)).kl E117 (ninS (Nat.ne_of_gt n112) nin0)).kl E145 (ninS n139 nin0)).kl E173 (ninS n167 nin0)).ext E189).ext hu)) 0 rfl)).mono ?_; rintro _ _ ⟨rfl, rfl⟩
          exact ⟨rfl, Ext.refl _⟩
        refine RW_d _ rfl (fun v => by dsimp only [List.set]; try rfl) (fun u hu hF => ?_) (fun v195 => ?_)
        · have h52_ : v194 = (Iv (ix % A_g.x)) := hF.1
          clear hF
          refine doesG_un rfl ?_
          obtain rfl := h52_
          refine (does_iarith (p := ix % A_g.x) (q := 1) (r := (ix % A_g.x) + 1) (ev rfl) (ev rfl) (.inl ⟨rfl, (in_i64 (by omega) (by omega)).symm⟩)).mono ?_; rintro _ _ ⟨rfl, rfl⟩
          exact ⟨rfl, Ext.refl _⟩
        refine RW_d _ rfl (fun v => by dsimp only [List.set]; try rfl) (fun u hu hF => ?_) (fun v196 => ?_)
        · clear hF
          refine doesG_un rfl ?_
          refine (does_move (u := (Iv 0)) (ev rfl)).mono ?_; rintro _ _ ⟨rfl, rfl⟩
          exact ⟨rfl, Ext.refl _⟩
        refine RW_d _ rfl (fun v => by dsimp only [List.set]; try rfl) (fun u hu hF => ?_) (fun v197 => ?_)
        · have h54_ : v196 = (Iv 0) := hF.1
          clear hF
          refine doesG_un rfl ?_
          obtain rfl := h54_
          refine (does_indexAt_run (r := (Pt b40 0)) (ev rfl) (ev rfl) (fun w => ia88_0 _ _ w)).mono ?_; rintro _ _ ⟨rfl, rfl⟩
          exact ⟨rfl, Ext.refl _⟩
        refine RW_d _ rfl (fun v => by dsimp only [List.set]; try rfl) (fun u hu hF => ?_) (fun v198 => ?_)
        · have h55_ : v197 = (Pt b40 0) := hF.1
          clear hF
          refine doesG_un rfl ?_
          obtain rfl := h55_
          refine (does_load (u := (Iv A_g.x)) (ev rfl) Try.isAgg2 (Cells.at (Blk.cells ((((((((hB54.ext E59).ext E78).wr W90 (Nat.ne_of_lt n88)).kl E117 (ninS (Nat.ne_of_gt n113) nin0)).kl E145 (ninS n140 nin0)).kl E173 (ninS n168 nin0)).ext E189).ext hu)) 0 rfl)).mono ?_; rintro _ _ ⟨rfl, rfl⟩
          exact ⟨rfl, Ext.refl _⟩
        refine RW_d _ rfl (fun v => by dsimp only [List.set]; try rfl) (fun u hu hF => ?_) (fun v199 => ?_)
        · have h53_ : v195 = (Iv ((ix % A_g.x) + 1)) := hF.1
          have h56_ : v198 = (Iv A_g.x) := hF.2.1
          clear hF
          refine doesG_un rfl ?_
          obtain rfl := h53_
          obtain rfl := h56_
          refine (does_icmp (p := (ix % A_g.x) + 1) (q := A_g.x) (.inr (.inr (.inl rfl))) (ev rfl) (ev rfl)).mono ?_; rintro _ _ ⟨rfl, rfl⟩
          exact ⟨(by first | rfl | (show _ = _; simp only [hβ1]; done) | (show _ = _; simp only [hβ1]; rfl)), Ext.refl _⟩
        refine RW_fin ?_; intro w200 E201 hP202
        obtain ⟨⟨⟨⟨⟨⟨⟨⟨-, -⟩, -⟩, -⟩, -⟩, -⟩, -⟩, -⟩, q203⟩ := hP202
        have X204 := Ext.gr X191 E201
        have q203 : v199 = (Bo β1) := q203
        obtain rfl := q203
        show wpList _ _ _ _ (fr [_, _, _, _, _, _, _, _, _, _, _, _, _, _, _, _, _, _, _, _, _, _, _, _, _, _, _, _, _, _, _, _, _, _, _, _, _, _, _, _, _, _, _, _, _, _, _, _, _, _, _, _, _, _, _, _, _, _, _, _, _, _, _, _, _, _, _, _]) _
        refine wpList_nil (hK187 _ _ ?_)
        have n210 : g_b < w200.heap.size := cell_lt (Cells.at (hc_g.ext X204) 0 rfl)
        have n211 : b32 < w200.heap.size := Blk.lt (((((((((hB50.wr W53 (Nat.ne_of_lt n46)).ext E59).ext E78).wr W90 (Nat.ne_of_lt n87)).kl E117 (ninS (Nat.ne_of_gt n112) nin0)).kl E145 (ninS n139 nin0)).kl E173 (ninS n167 nin0)).ext E189).ext E201)
        have n212 : b40 < w200.heap.size := Blk.lt ((((((((hB54.ext E59).ext E78).wr W90 (Nat.ne_of_lt n88)).kl E117 (ninS (Nat.ne_of_gt n113) nin0)).kl E145 (ninS n140 nin0)).kl E173 (ninS n168 nin0)).ext E189).ext E201)
        have n213 : b83 < w200.heap.size := Blk.lt (((((hB91.kl E117 (ninS (Nat.ne_of_gt n114) nin0)).kl E145 (ninS n141 nin0)).kl E173 (ninS n169 nin0)).ext E189).ext E201)
        obtain ⟨gg206, hg207, hg208, hO209⟩ := Own.start' hO174 (Own.same hO174 RI.flat (((Same.refl _ _).ext E189).ext E201) hN164 (Nat.le_trans (Nat.le_trans (Nat.le_trans (Nat.le_trans (Nat.le_trans (Nat.le_trans (Nat.le_trans (Nat.le_trans (Nat.le_trans (Below.size E26) (Below.size E35)) (Below.size E43)) (Nat.le_of_eq (Eq.symm (Wr.size W49)))) (Nat.le_of_eq (Eq.symm (Wr.size W53)))) (Below.size E59)) (Below.size E78)) (Nat.le_of_eq (Eq.symm (Wr.size W90)))) (KpL.size E117)) (KpL.size E145)))
        have hN214 : w20.heap.size ≤ gg206 := by rcases hg207 with h | h; exact h ▸ hN164; exact Nat.le_trans (Nat.le_trans (Nat.le_trans (Nat.le_trans (Nat.le_trans (Nat.le_trans (Nat.le_trans (Nat.le_trans (Nat.le_trans (Nat.le_trans (Below.size E26) (Below.size E35)) (Below.size E43)) (Nat.le_of_eq (Eq.symm (Wr.size W49)))) (Nat.le_of_eq (Eq.symm (Wr.size W53)))) (Below.size E59)) (Below.size E78)) (Nat.le_of_eq (Eq.symm (Wr.size W90)))) (KpL.size E117)) (KpL.size E145)) h
        have g215 : w.heap.size ≤ gg206 := Nat.le_trans (Nat.le_trans (Below.size E16) (Below.size E19)) hN214
        have n216 : g_b ≠ gg206 := hg207.elim (fun h => by rw [h]; exact n166) (fun h => Nat.ne_of_lt (Nat.lt_of_lt_of_le n160 h))
        have n217 : b32 ≠ gg206 := hg207.elim (fun h => by rw [h]; exact n167) (fun h => Nat.ne_of_lt (Nat.lt_of_lt_of_le n161 h))
        have n218 : b40 ≠ gg206 := hg207.elim (fun h => by rw [h]; exact n168) (fun h => Nat.ne_of_lt (Nat.lt_of_lt_of_le n162 h))
        have n219 : b83 ≠ gg206 := hg207.elim (fun h => by rw [h]; exact n169) (fun h => Nat.ne_of_lt (Nat.lt_of_lt_of_le n163 h))
        have hg220 : gg206 < w172.heap.size := by rcases hg208 with h | h; exact h ▸ Nat.lt_of_lt_of_le hg170 (KpL.size E173); exact h
        have hH221 : Hang w20.heap.size w200 (fun u => Sl RI 1 u (.slice p176 ((nbK A_g ix 3).length) q177) (nbK A_g ix 3)) := Own.hang hO209 RI.flat (by decide) hN214 (Nat.le_trans (Nat.le_trans (Nat.le_trans (Nat.le_trans (Nat.le_trans (Nat.le_trans (Nat.le_trans (Nat.le_trans (Nat.le_trans (Nat.le_trans (Nat.le_trans (Nat.le_trans (Below.size E26) (Below.size E35)) (Below.size E43)) (Nat.le_of_eq (Eq.symm (Wr.size W49)))) (Nat.le_of_eq (Eq.symm (Wr.size W53)))) (Below.size E59)) (Below.size E78)) (Nat.le_of_eq (Eq.symm (Wr.size W90)))) (KpL.size E117)) (KpL.size E145)) (KpL.size E173)) (Below.size E189)) (Below.size E201))
        have J185 : ∀ (u205 : Nat → Value) (y7_ : Value) (w222 : World), (KpL [gg206] w200 w222) → (Own RI 1 2 gg206 w200.heap.size w222 y7_ (nbK A_g ix 4)) → K185 (fr [(Pt g_b g_o), (Iv ix), Ud, Ud, (.slice none 0 0), (Pt b32 0), (Pt b40 0), y7_, (Pt b83 0), (Iv (-1)), (Iv 0), (Pt g_b g_o), (Iv ix), (.agg #[(Iv (ix % A_g.x)), (Iv (ix / A_g.x % A_g.y)), (Iv (ix / A_g.x / A_g.y))]), (Pt g_b g_o), (.agg #[(Iv A_g.x), (Iv A_g.y), (Iv A_g.z)]), (.slice (some ⟨b22, 0, none⟩) 0 0), v62, v63, v64, v65, v66, v67, v68, v69, v70, v71, v72, v73, v74, (.agg #[(Iv 1), (Iv A_g.x), (Iv (A_g.x * A_g.y))]), (Iv (-1)), (Bo false), (Iv 0), (Iv (-1)), (Iv 0), (Pt b32 0), (Iv (ix % A_g.x)), (Bo (icmp .gtr (ix % A_g.x) 0)), (u155 39), (u155 40), (u155 41), (u155 42), (u155 43), (u155 44), (u155 45), (u155 46), (Iv 0), (Bo true), (Iv 0), v192, v193, v194, v195, v196, v197, v198, (Bo β1), (u205 58), (u205 59), (u205 60), (u205 61), (u205 62), (u205 63), (u205 64), (u205 65), Ud, Ud]) w222 := by
          intro u205 y7_ w222 E223 hO224
          have X225 := Below.kl X204 E223 (allS g215 all0) (Nat.le_refl _)
          obtain ⟨p226, q227, rfl⟩ := Own.shape hO224
          have hH228 : Hang w20.heap.size w222 (fun u => Sl RI 1 u (.slice p226 ((nbK A_g ix 4).length) q227) (nbK A_g ix 4)) := Own.hang hO224 RI.flat (by decide) hN214 (Nat.le_trans (Nat.le_trans (Nat.le_trans (Nat.le_trans (Nat.le_trans (Nat.le_trans (Nat.le_trans (Nat.le_trans (Nat.le_trans (Nat.le_trans (Nat.le_trans (Nat.le_trans (Below.size E26) (Below.size E35)) (Below.size E43)) (Nat.le_of_eq (Eq.symm (Wr.size W49)))) (Nat.le_of_eq (Eq.symm (Wr.size W53)))) (Below.size E59)) (Below.size E78)) (Nat.le_of_eq (Eq.symm (Wr.size W90)))) (KpL.size E117)) (KpL.size E145)) (KpL.size E173)) (Below.size E189)) (Below.size E201))
          have hnl := nbK_len A_g ix 4
          refine hK185 _ _ ?_
          refine wp_region_lit ?_
          refine q_is rfl rfl (does_iarith (p := 0) (q := 1) (r := (1)) (ev rfl) (ev rfl) (.inl ⟨rfl, rfl⟩)) (by dsimp only [List.set]; try rfl) ?_
          refine q_is rfl rfl (does_move (u := (Iv 1)) (ev rfl)) (by dsimp only [List.set]; try rfl) ?_
          refine wpList_nil ?_
          refine un_step ?_
          refine wp_seq_k fun K229 hK229 => ?_
          refine wp_region_lit ?_
          refine q_is rfl rfl (does_icmp (p := 1) (q := 3) (.inr (.inr (.inl rfl))) (ev rfl) (ev rfl)) (by dsimp only [List.set]; try rfl) ?_
          refine wpList_nil (hK229 _ _ ?_)
          refine wp_seq_k fun K230 hK230 => ?_
          refine wp_cond_true (ev rfl) ?_
          refine wp_skip (hK230 _ _ ?_)
          refine wp_seq_k fun K231 hK231 => ?_
          refine wp_block ?_
          refine wp_seq_k fun K232 hK232 => ?_
          refine wp_region_lit ?_
          refine q_is rfl rfl (does_move (u := (Iv 1)) (ev rfl)) (by dsimp only [List.set]; try rfl) ?_
          refine q_is rfl rfl (does_assign (u := (Iv 1)) (ev rfl)) (by dsimp only [List.set]; try rfl) ?_
          refine wpList_nil (hK232 _ _ ?_)
          refine wp_seq_k fun K233 hK233 => ?_
          obtain ⟨β2, hβ2⟩ : ∃ b : Bool, b = (icmp .lss ((ix / A_g.x % A_g.y) + 1) A_g.y) := ⟨_, rfl⟩
          refine region_draw (
            [Fact.pure [] (fun v => v = (Iv 1)),
    Fact.pure [50] (fun v => v = (Pt b32 1)),
    Fact.pure [51] (fun v => v = (Iv (ix / A_g.x % A_g.y))),
    Fact.pure [52] (fun v => v = (Iv ((ix / A_g.x % A_g.y) + 1))),
    Fact.pure [] (fun v => v = (Iv 1)),
    Fact.pure [54] (fun v => v = (Pt b40 1)),
    Fact.pure [55] (fun v => v = (Iv A_g.y)),
    Fact.pure [53, 56] (fun v => v = (Bo β2))]) mixed (by kernel_rfl) (by intro _ _ d _ _ h; cases d <;> exact h) ?_
          obtain ⟨w234, hw236⟩ : ∃ w', w' = World.drew w222 := ⟨_, rfl⟩; rw [← hw236]; have E235 : Ext w222 w234 := by rw [hw236]; exact Ext.draw _
          clear hw236
          have X237 := Ext.gr X225 E235
          refine RW_d _ rfl (fun v => by dsimp only [List.set]; try rfl) (fun u hu hF => ?_) (fun v238 => ?_)
          · clear hF
            refine doesG_un rfl ?_
            refine (does_move (u := (Iv 1)) (ev rfl)).mono ?_; rintro _ _ ⟨rfl, rfl⟩
            exact ⟨rfl, Ext.refl _⟩
          refine RW_d _ rfl (fun v => by dsimp only [List.set]; try rfl) (fun u hu hF => ?_) (fun v239 => ?_)
          · have h50_ : v238 = (Iv 1) := hF.1
            clear hF
            refine doesG_un rfl ?_
            obtain rfl := h50_
            refine (does_indexAt_run (r := (Pt b32 1)) (ev rfl) (ev rfl) (fun w => ia88_1 _ _ w)).mono ?_; rintro _ _ ⟨rfl, rfl⟩
            exact ⟨rfl, Ext.refl _⟩
          refine RW_d _ rfl (fun v => by dsimp only [List.set]; try rfl) (fun u hu hF => ?_) (fun v240 => ?_)
          · have h51_ : v239 = (Pt b32 1) := hF.1
            clear hF
            refine doesG_un rfl ?_
            obtain rfl := h51_
            refine (does_load (u := (Iv (ix / A_g.x % A_g.y))) (ev rfl) Try.isAgg2 (Cells.at (Blk.cells ((((((((((((hB50.wr W53 (Nat.ne_of_lt n46)).ext E59).ext E78).wr W90 (Nat.ne_of_lt n87)).kl E117 (ninS (Nat.ne_of_gt n112) nin0)).kl E145 (ninS n139 nin0)).kl E173 (ninS n167 nin0)).ext E189).ext E201).kl E223 (ninS n217 nin0)).ext E235).ext hu)) 1 rfl)).mono ?_; rintro _ _ ⟨rfl, rfl⟩
            exact ⟨rfl, Ext.refl _⟩
          refine RW_d _ rfl (fun v => by dsimp only [List.set]; try rfl) (fun u hu hF => ?_) (fun v241 => ?_)
          · have h52_ : v240 = (Iv (ix / A_g.x % A_g.y)) := hF.1
            clear hF
            refine doesG_un rfl ?_
            obtain rfl := h52_
            refine (does_iarith (p := ix / A_g.x % A_g.y) (q := 1) (r := (ix / A_g.x % A_g.y) + 1) (ev rfl) (ev rfl) (.inl ⟨rfl, (in_i64 (by omega) (by omega)).symm⟩)).mono ?_; rintro _ _ ⟨rfl, rfl⟩
            exact ⟨rfl, Ext.refl _⟩
          refine RW_d _ rfl (fun v => by dsimp only [List.set]; try rfl) (fun u hu hF => ?_) (fun v242 => ?_)
          · clear hF
            refine doesG_un rfl ?_
            refine (does_move (u := (Iv 1)) (ev rfl)).mono ?_; rintro _ _ ⟨rfl, rfl⟩
            exact ⟨rfl, Ext.refl _⟩
          refine RW_d _ rfl (fun v => by dsimp only [List.set]; try rfl) (fun u hu hF => ?_) (fun v243 => ?_)
          · have h54_ : v242 = (Iv 1) := hF.1
            clear hF
            refine doesG_un rfl ?_
            obtain rfl := h54_
            refine (does_indexAt_run (r := (Pt b40 1)) (ev rfl) (ev rfl) (fun w => ia88_1 _ _ w)).mono ?_; rintro _ _ ⟨rfl, rfl⟩
            exact ⟨rfl, Ext.refl _⟩
          refine RW_d _ rfl (fun v => by dsimp only [List.set]; try rfl) (fun u hu hF => ?_) (fun v244 => ?_)
          · have h55_ : v243 = (Pt b40 1) := hF.1
            clear hF
            refine doesG_un rfl ?_
            obtain rfl := h55_
            refine (does_load (u := (Iv A_g.y)) (ev rfl) Try.isAgg2 (Cells.at (Blk.cells (((((((((((hB54.ext E59).ext E78).wr W90 (Nat.ne_of_lt n88)).kl E117 (ninS (Nat.ne_of_gt n113) nin0)).kl E145 (ninS n140 nin0)).kl E173 (ninS n168 nin0)).ext E189).ext E201).kl E223 (ninS n218 nin0)).ext E235).ext hu)) 1 rfl)).mono ?_; rintro _ _ ⟨rfl, rfl⟩
            exact ⟨rfl, Ext.refl _⟩
          refine RW_d _ rfl (fun v => by dsimp only [List.set]; try rfl) (fun u hu hF => ?_) (fun v245 => ?_)
          · have h53_ : v241 = (Iv ((ix / A_g.x % A_g.y) + 1)) := hF.1
            have h56_ : v244 = (Iv A_g.y) := hF.2.1
            clear hF
            refine doesG_un rfl ?_
            obtain rfl := h53_
            obtain rfl := h56_
            refine (does_icmp (p := (ix / A_g.x % A_g.y) + 1) (q := A_g.y) (.inr (.inr (.inl rfl))) (ev rfl) (ev rfl)).mono ?_; rintro _ _ ⟨rfl, rfl⟩
            exact ⟨(by first | rfl | (show _ = _; simp only [hβ2]; done) | (show _ = _; simp only [hβ2]; rfl)), Ext.refl _⟩
          refine RW_fin ?_; intro w246 E247 hP248
          obtain ⟨⟨⟨⟨⟨⟨⟨⟨-, -⟩, -⟩, -⟩, -⟩, -⟩, -⟩, -⟩, q249⟩ := hP248
          have X250 := Ext.gr X237 E247
          have q249 : v245 = (Bo β2) := q249
          obtain rfl := q249
          show wpList _ _ _ _ (fr [_, _, _, _, _, _, _, _, _, _, _, _, _, _, _, _, _, _, _, _, _, _, _, _, _, _, _, _, _, _, _, _, _, _, _, _, _, _, _, _, _, _, _, _, _, _, _, _, _, _, _, _, _, _, _, _, _, _, _, _, _, _, _, _, _, _, _, _]) _
          refine wpList_nil (hK233 _ _ ?_)
          have n256 : g_b < w246.heap.size := cell_lt (Cells.at (hc_g.ext X250) 0 rfl)
          have n257 : b32 < w246.heap.size := Blk.lt ((((((((((((hB50.wr W53 (Nat.ne_of_lt n46)).ext E59).ext E78).wr W90 (Nat.ne_of_lt n87)).kl E117 (ninS (Nat.ne_of_gt n112) nin0)).kl E145 (ninS n139 nin0)).kl E173 (ninS n167 nin0)).ext E189).ext E201).kl E223 (ninS n217 nin0)).ext E235).ext E247)
          have n258 : b40 < w246.heap.size := Blk.lt (((((((((((hB54.ext E59).ext E78).wr W90 (Nat.ne_of_lt n88)).kl E117 (ninS (Nat.ne_of_gt n113) nin0)).kl E145 (ninS n140 nin0)).kl E173 (ninS n168 nin0)).ext E189).ext E201).kl E223 (ninS n218 nin0)).ext E235).ext E247)
          have n259 : b83 < w246.heap.size := Blk.lt ((((((((hB91.kl E117 (ninS (Nat.ne_of_gt n114) nin0)).kl E145 (ninS n141 nin0)).kl E173 (ninS n169 nin0)).ext E189).ext E201).kl E223 (ninS n219 nin0)).ext E235).ext E247)
          obtain ⟨gg252, hg253, hg254, hO255⟩ := Own.start' hO224 (Own.same hO224 RI.flat (((Same.refl _ _).ext E235).ext E247) hN214 (Nat.le_trans (Nat.le_trans (Nat.le_trans (Nat.le_trans (Nat.le_trans (Nat.le_trans (Nat.le_trans (Nat.le_trans (Nat.le_trans (Nat.le_trans (Nat.le_trans (Nat.le_trans (Below.size E26) (Below.size E35)) (Below.size E43)) (Nat.le_of_eq (Eq.symm (Wr.size W49)))) (Nat.le_of_eq (Eq.symm (Wr.size W53)))) (Below.size E59)) (Below.size E78)) (Nat.le_of_eq (Eq.symm (Wr.size W90)))) (KpL.size E117)) (KpL.size E145)) (KpL.size E173)) (Below.size E189)) (Below.size E201)))
          have hN260 : w20.heap.size ≤ gg252 := by rcases hg253 with h | h; exact h ▸ hN214; exact Nat.le_trans (Nat.le_trans (Nat.le_trans (Nat.le_trans (Nat.le_trans (Nat.le_trans (Nat.le_trans (Nat.le_trans (Nat.le_trans (Nat.le_trans (Nat.le_trans (Nat.le_trans (Nat.le_trans (Below.size E26) (Below.size E35)) (Below.size E43)) (Nat.le_of_eq (Eq.symm (Wr.size W49)))) (Nat.le_of_eq (Eq.symm (Wr.size W53)))) (Below.size E59)) (Below.size E78)) (Nat.le_of_eq (Eq.symm (Wr.size W90)))) (KpL.size E117)) (KpL.size E145)) (KpL.size E173)) (Below.size E189)) (Below.size E201)) h
          have g261 : w.heap.size ≤ gg252 := Nat.le_trans (Nat.le_trans (Below.size E16) (Below.size E19)) hN260
          have n262 : g_b ≠ gg252 := hg253.elim (fun h => by rw [h]; exact n216) (fun h => Nat.ne_of_lt (Nat.lt_of_lt_of_le n210 h))
          have n263 : b32 ≠ gg252 := hg253.elim (fun h => by rw [h]; exact n217) (fun h => Nat.ne_of_lt (Nat.lt_of_lt_of_le n211 h))
          have n264 : b40 ≠ gg252 := hg253.elim (fun h => by rw [h]; exact n218) (fun h => Nat.ne_of_lt (Nat.lt_of_lt_of_le n212 h))
          have n265 : b83 ≠ gg252 := hg253.elim (fun h => by rw [h]; exact n219) (fun h => Nat.ne_of_lt (Nat.lt_of_lt_of_le n213 h))
          have hg266 : gg252 < w222.heap.size := by rcases hg254 with h | h; exact h ▸ Nat.lt_of_lt_of_le hg220 (Nat.le_trans (Nat.le_trans (Below.size E189) (Below.size E201)) (KpL.size E223)); exact h
          have hH267 : Hang w20.heap.size w246 (fun u => Sl RI 1 u (.slice p226 ((nbK A_g ix 4).length) q227) (nbK A_g ix 4)) := Own.hang hO255 RI.flat (by decide) hN260 (Nat.le_trans (Nat.le_trans (Nat.le_trans (Nat.le_trans (Nat.le_trans (Nat.le_trans (Nat.le_trans (Nat.le_trans (Nat.le_trans (Nat.le_trans (Nat.le_trans (Nat.le_trans (Nat.le_trans (Nat.le_trans (Nat.le_trans (Below.size E26) (Below.size E35)) (Below.size E43)) (Nat.le_of_eq (Eq.symm (Wr.size W49)))) (Nat.le_of_eq (Eq.symm (Wr.size W53)))) (Below.size E59)) (Below.size E78)) (Nat.le_of_eq (Eq.symm (Wr.size W90)))) (KpL.size E117)) (KpL.size E145)) (KpL.size E173)) (Below.size E189)) (Below.size E201)) (KpL.size E223)) (Below.size E235)) (Below.size E247))
          have J231 : ∀ (u251 : Nat → Value) (y7_ : Value) (w268 : World), (KpL [gg252] w246 w268) → (Own RI 1 2 gg252 w246.heap.size w268 y7_ (nbK A_g ix 5)) → K231 (fr [(Pt g_b g_o), (Iv ix), Ud, Ud, (.slice none 0 0), (Pt b32 0), (Pt b40 0), y7_, (Pt b83 0), (Iv (-1)), (Iv 1), (Pt g_b g_o), (Iv ix), (.agg #[(Iv (ix % A_g.x)), (Iv (ix / A_g.x % A_g.y)), (Iv (ix / A_g.x / A_g.y))]), (Pt g_b g_o), (.agg #[(Iv A_g.x), (Iv A_g.y), (Iv A_g.z)]), (.slice (some ⟨b22, 0, none⟩) 0 0), v62, v63, v64, v65, v66, v67, v68, v69, v70, v71, v72, v73, v74, (.agg #[(Iv 1), (Iv A_g.x), (Iv (A_g.x * A_g.y))]), (Iv (-1)), (Bo false), (Iv 0), (Iv (-1)), (Iv 0), (Pt b32 0), (Iv (ix % A_g.x)), (Bo (icmp .gtr (ix % A_g.x) 0)), (u155 39), (u155 40), (u155 41), (u155 42), (u155 43), (u155 44), (u155 45), (u155 46), (Iv 1), (Bo true), (Iv 1), v238, v239, v240, v241, v242, v243, v244, (Bo β2), (u251 58), (u251 59), (u251 60), (u251 61), (u251 62), (u251 63), (u251 64), (u251 65), (Iv 1), Ud]) w268 := by
            intro u251 y7_ w268 E269 hO270
            have X271 := Below.kl X250 E269 (allS g261 all0) (Nat.le_refl _)
            obtain ⟨p272, q273, rfl⟩ := Own.shape hO270
            have hH274 : Hang w20.heap.size w268 (fun u => Sl RI 1 u (.slice p272 ((nbK A_g ix 5).length) q273) (nbK A_g ix 5)) := Own.hang hO270 RI.flat (by decide) hN260 (Nat.le_trans (Nat.le_trans (Nat.le_trans (Nat.le_trans (Nat.le_trans (Nat.le_trans (Nat.le_trans (Nat.le_trans (Nat.le_trans (Nat.le_trans (Nat.le_trans (Nat.le_trans (Nat.le_trans (Nat.le_trans (Nat.le_trans (Below.size E26) (Below.size E35)) (Below.size E43)) (Nat.le_of_eq (Eq.symm (Wr.size W49)))) (Nat.le_of_eq (Eq.symm (Wr.size W53)))) (Below.size E59)) (Below.size E78)) (Nat.le_of_eq (Eq.symm (Wr.size W90)))) (KpL.size E117)) (KpL.size E145)) (KpL.size E173)) (Below.size E189)) (Below.size E201)) (KpL.size E223)) (Below.size E235)) (Below.size E247))
            have hnl := nbK_len A_g ix 5
            refine hK231 _ _ ?_
            refine wp_region_lit ?_
            refine q_is rfl rfl (does_iarith (p := 1) (q := 1) (r := (2)) (ev rfl) (ev rfl) (.inl ⟨rfl, rfl⟩)) (by dsimp only [List.set]; try rfl) ?_
            refine q_is rfl rfl (does_move (u := (Iv 2)) (ev rfl)) (by dsimp only [List.set]; try rfl) ?_
            refine wpList_nil ?_
            refine un_step ?_
            refine wp_seq_k fun K275 hK275 => ?_
            refine wp_region_lit ?_
            refine q_is rfl rfl (does_icmp (p := 2) (q := 3) (.inr (.inr (.inl rfl))) (ev rfl) (ev rfl)) (by dsimp only [List.set]; try rfl) ?_
            refine wpList_nil (hK275 _ _ ?_)
            refine wp_seq_k fun K276 hK276 => ?_
            refine wp_cond_true (ev rfl) ?_
            refine wp_skip (hK276 _ _ ?_)
            refine wp_seq_k fun K277 hK277 => ?_
            refine wp_block ?_
            refine wp_seq_k fun K278 hK278 => ?_
            refine wp_region_lit ?_
            refine q_is rfl rfl (does_move (u := (Iv 2)) (ev rfl)) (by dsimp only [List.set]; try rfl) ?_
            refine q_is rfl rfl (does_assign (u := (Iv 2)) (ev rfl)) (by dsimp only [List.set]; try rfl) ?_
            refine wpList_nil (hK278 _ _ ?_)
            refine wp_seq_k fun K279 hK279 => ?_
            obtain ⟨β3, hβ3⟩ : ∃ b : Bool, b = (icmp .lss ((ix / A_g.x / A_g.y) + 1) A_g.z) := ⟨_, rfl⟩
            refine region_draw (
              [Fact.pure [] (fun v => v = (Iv 2)),
    Fact.pure [50] (fun v => v = (Pt b32 2)),
    Fact.pure [51] (fun v => v = (Iv (ix / A_g.x / A_g.y))),
    Fact.pure [52] (fun v => v = (Iv ((ix / A_g.x / A_g.y) + 1))),
    Fact.pure [] (fun v => v = (Iv 2)),
    Fact.pure [54] (fun v => v = (Pt b40 2)),
    Fact.pure [55] (fun v => v = (Iv A_g.z)),
    Fact.pure [53, 56] (fun v => v = (Bo β3))]) mixed (by kernel_rfl) (by intro _ _ d _ _ h; cases d <;> exact h) ?_
            obtain ⟨w280, hw282⟩ : ∃ w', w' = World.drew w268 := ⟨_, rfl⟩; rw [← hw282]; have E281 : Ext w268 w280 := by rw [hw282]; exact Ext.draw _
            clear hw282
            have X283 := Ext.gr X271 E281
            refine RW_d _ rfl (fun v => by dsimp only [List.set]; try rfl) (fun u hu hF => ?_) (fun v284 => ?_)
            · clear hF
              refine doesG_un rfl ?_
              refine (does_move (u := (Iv 2)) (ev rfl)).mono ?_; rintro _ _ ⟨rfl, rfl⟩
              exact ⟨rfl, Ext.refl _⟩
            refine RW_d _ rfl (fun v => by dsimp only [List.set]; try rfl) (fun u hu hF => ?_) (fun v285 => ?_)
            · have h50_ : v284 = (Iv 2) := hF.1
              clear hF
              refine doesG_un rfl ?_
              obtain rfl := h50_
              refine (does_indexAt_run (r := (Pt b32 2)) (ev rfl) (ev rfl) (fun w => ia88_2 _ _ w)).mono ?_; rintro _ _ ⟨rfl, rfl⟩
              exact ⟨rfl, Ext.refl _⟩
            refine RW_d _ rfl (fun v => by dsimp only [List.set]; try rfl) (fun u hu hF => ?_) (fun v286 => ?_)
            · have h51_ : v285 = (Pt b32 2) := hF.1
              clear hF
              refine doesG_un rfl ?_
              obtain rfl := h51_
              refine (does_load (u := (Iv (ix / A_g.x / A_g.y))) (ev rfl) Try.isAgg2 (Cells.at (Blk.cells (((((((((((((((hB50.wr W53 (Nat.ne_of_lt n46)).ext E59).ext E78).wr W90 (Nat.ne_of_lt n87)).kl E117 (ninS (Nat.ne_of_gt n112) nin0)).kl E145 (ninS n139 nin0)).kl E173 (ninS n167 nin0)).ext E189).ext E201).kl E223 (ninS n217 nin0)).ext E235).ext E247).kl E269 (ninS n263 nin0)).ext E281).ext hu)) 2 rfl)).mono ?_; rintro _ _ ⟨rfl, rfl⟩
              exact ⟨rfl, Ext.refl _⟩
            refine RW_d _ rfl (fun v => by dsimp only [List.set]; try rfl) (fun u hu hF => ?_) (fun v287 => ?_)
            · have h52_ : v286 = (Iv (ix / A_g.x / A_g.y)) := hF.1
              clear hF
              refine doesG_un rfl ?_
              obtain rfl := h52_
              refine (does_iarith (p := ix / A_g.x / A_g.y) (q := 1) (r := (ix / A_g.x / A_g.y) + 1) (ev rfl) (ev rfl) (.inl ⟨rfl, (in_i64 (by omega) (by omega)).symm⟩)).mono ?_; rintro _ _ ⟨rfl, rfl⟩
              exact ⟨rfl, Ext.refl _⟩
            refine RW_d _ rfl (fun v => by dsimp only [List.set]; try rfl) (fun u hu hF => ?_) (fun v288 => ?_)
            · clear hF
              refine doesG_un rfl ?_
              refine (does_move (u := (Iv 2)) (ev rfl)).mono ?_; rintro _ _ ⟨rfl, rfl⟩
              exact ⟨rfl, Ext.refl _⟩
            refine RW_d _ rfl (fun v => by dsimp only [List.set]; try rfl) (fun u hu hF => ?_) (fun v289 => ?_)
            · have h54_ : v288 = (Iv 2) := hF.1
              clear hF
              refine doesG_un rfl ?_
              obtain rfl := h54_
              refine (does_indexAt_run (r := (Pt b40 2)) (ev rfl) (ev rfl) (fun w => ia88_2 _ _ w)).mono ?_; rintro _ _ ⟨rfl, rfl⟩
              exact ⟨rfl, Ext.refl _⟩
            refine RW_d _ rfl (fun v => by dsimp only [List.set]; try rfl) (fun u hu hF => ?_) (fun v290 => ?_)
            · have h55_ : v289 = (Pt b40 2) := hF.1
              clear hF
              refine doesG_un rfl ?_
              obtain rfl := h55_
              refine (does_load (u := (Iv A_g.z)) (ev rfl) Try.isAgg2 (Cells.at (Blk.cells ((((((((((((((hB54.ext E59).ext E78).wr W90 (Nat.ne_of_lt n88)).kl E117 (ninS (Nat.ne_of_gt n113) nin0)).kl E145 (ninS n140 nin0)).kl E173 (ninS n168 nin0)).ext E189).ext E201).kl E223 (ninS n218 nin0)).ext E235).ext E247).kl E269 (ninS n264 nin0)).ext E281).ext hu)) 2 rfl)).mono ?_; rintro _ _ ⟨rfl, rfl⟩
              exact ⟨rfl, Ext.refl _⟩
            refine RW_d _ rfl (fun v => by dsimp only [List.set]; try rfl) (fun u hu hF => ?_) (fun v291 => ?_)
            · have h53_ : v287 = (Iv ((ix / A_g.x / A_g.y) + 1)) := hF.1
              have h56_ : v290 = (Iv A_g.z) := hF.2.1
              clear hF
              refine doesG_un rfl ?_
              obtain rfl := h53_
              obtain rfl := h56_
              refine (does_icmp (p := (ix / A_g.x / A_g.y) + 1) (q := A_g.z) (.inr (.inr (.inl rfl))) (ev rfl) (ev rfl)).mono ?_; rintro _ _ ⟨rfl, rfl⟩
              exact ⟨(by first | rfl | (show _ = _; simp only [hβ3]; done) | (show _ = _; simp only [hβ3]; rfl)), Ext.refl _⟩
            refine RW_fin ?_; intro w292 E293 hP294
            obtain ⟨⟨⟨⟨⟨⟨⟨⟨-, -⟩, -⟩, -⟩, -⟩, -⟩, -⟩, -⟩, q295⟩ := hP294
            have X296 := Ext.gr X283 E293
            have q295 : v291 = (Bo β3) := q295
            obtain rfl := q295
            show wpList _ _ _ _ (fr [_, _, _, _, _, _, _, _, _, _, _, _, _, _, _, _, _, _, _, _, _, _, _, _, _, _, _, _, _, _, _, _, _, _, _, _, _, _, _, _, _, _, _, _, _, _, _, _, _, _, _, _, _, _, _, _, _, _, _, _, _, _, _, _, _, _, _, _]) _
            refine wpList_nil (hK279 _ _ ?_)
            have n302 : g_b < w292.heap.size := cell_lt (Cells.at (hc_g.ext X296) 0 rfl)
            have n303 : b32 < w292.heap.size := Blk.lt (((((((((((((((hB50.wr W53 (Nat.ne_of_lt n46)).ext E59).ext E78).wr W90 (Nat.ne_of_lt n87)).kl E117 (ninS (Nat.ne_of_gt n112) nin0)).kl E145 (ninS n139 nin0)).kl E173 (ninS n167 nin0)).ext E189).ext E201).kl E223 (ninS n217 nin0)).ext E235).ext E247).kl E269 (ninS n263 nin0)).ext E281).ext E293)
            have n304 : b40 < w292.heap.size := Blk.lt ((((((((((((((hB54.ext E59).ext E78).wr W90 (Nat.ne_of_lt n88)).kl E117 (ninS (Nat.ne_of_gt n113) nin0)).kl E145 (ninS n140 nin0)).kl E173 (ninS n168 nin0)).ext E189).ext E201).kl E223 (ninS n218 nin0)).ext E235).ext E247).kl E269 (ninS n264 nin0)).ext E281).ext E293)
            have n305 : b83 < w292.heap.size := Blk.lt (((((((((((hB91.kl E117 (ninS (Nat.ne_of_gt n114) nin0)).kl E145 (ninS n141 nin0)).kl E173 (ninS n169 nin0)).ext E189).ext E201).kl E223 (ninS n219 nin0)).ext E235).ext E247).kl E269 (ninS n265 nin0)).ext E281).ext E293)
            obtain ⟨gg298, hg299, hg300, hO301⟩ := Own.start' hO270 (Own.same hO270 RI.flat (((Same.refl _ _).ext E281).ext E293) hN260 (Nat.le_trans (Nat.le_trans (Nat.le_trans (Nat.le_trans (Nat.le_trans (Nat.le_trans (Nat.le_trans (Nat.le_trans (Nat.le_trans (Nat.le_trans (Nat.le_trans (Nat.le_trans (Nat.le_trans (Nat.le_trans (Nat.le_trans (Below.size E26) (Below.size E35)) (Below.size E43)) (Nat.le_of_eq (Eq.symm (Wr.size W49)))) (Nat.le_of_eq (Eq.symm (Wr.size W53)))) (Below.size E59)) (Below.size E78)) (Nat.le_of_eq (Eq.symm (Wr.size W90)))) (KpL.size E117)) (KpL.size E145)) (KpL.size E173)) (Below.size E189)) (Below.size E201)) (KpL.size E223)) (Below.size E235)) (Below.size E247)))
            have hN306 : w20.heap.size ≤ gg298 := by rcases hg299 with h | h; exact h ▸ hN260; exact Nat.le_trans (Nat.le_trans (Nat.le_trans (Nat.le_trans (Nat.le_trans (Nat.le_trans (Nat.le_trans (Nat.le_trans (Nat.le_trans (Nat.le_trans (Nat.le_trans (Nat.le_trans (Nat.le_trans (Nat.le_trans (Nat.le_trans (Nat.le_trans (Below.size E26) (Below.size E35)) (Below.size E43)) (Nat.le_of_eq (Eq.symm (Wr.size W49)))) (Nat.le_of_eq (Eq.symm (Wr.size W53)))) (Below.size E59)) (Below.size E78)) (Nat.le_of_eq (Eq.symm (Wr.size W90)))) (KpL.size E117)) (KpL.size E145)) (KpL.size E173)) (Below.size E189)) (Below.size E201)) (KpL.size E223)) (Below.size E235)) (Below.size E247)) h
            have g307 : w.heap.size ≤ gg298 := Nat.le_trans (Nat.le_trans (Below.size E16) (Below.size E19)) hN306
            have n308 : g_b ≠ gg298 := hg299.elim (fun h => by rw [h]; exact n262) (fun h => Nat.ne_of_lt (Nat.lt_of_lt_of_le n256 h))
            have n309 : b32 ≠ gg298 := hg299.elim (fun h => by rw [h]; exact n263) (fun h => Nat.ne_of_lt (Nat.lt_of_lt_of_le n257 h))
            have n310 : b40 ≠ gg298 := hg299.elim (fun h => by rw [h]; exact n264) (fun h => Nat.ne_of_lt (Nat.lt_of_lt_of_le n258 h))
            have n311 : b83 ≠ gg298 := hg299.elim (fun h => by rw [h]; exact n265) (fun h => Nat.ne_of_lt (Nat.lt_of_lt_of_le n259 h))
            have hg312 : gg298 < w268.heap.size := by rcases hg300 with h | h; exact h ▸ Nat.lt_of_lt_of_le hg266 (Nat.le_trans (Nat.le_trans (Below.size E235) (Below.size E247)) (KpL.size E269)); exact h
            have hH313 : Hang w20.heap.size w292 (fun u => Sl RI 1 u (.slice p272 ((nbK A_g ix 5).length) q273) (nbK A_g ix 5)) := Own.hang hO301 RI.flat (by decide) hN306 (Nat.le_trans (Nat.le_trans (Nat.le_trans (Nat.le_trans (Nat.le_trans (Nat.le_trans (Nat.le_trans (Nat.le_trans (Nat.le_trans (Nat.le_trans (Nat.le_trans (Nat.le_trans (Nat.le_trans (Nat.le_trans (Nat.le_trans (Nat.le_trans (Nat.le_trans (Nat.le_trans (Below.size E26) (Below.size E35)) (Below.size E43)) (Nat.le_of_eq (Eq.symm (Wr.size W49)))) (Nat.le_of_eq (Eq.symm (Wr.size W53)))) (Below.size E59)) (Below.size E78)) (Nat.le_of_eq (Eq.symm (Wr.size W90)))) (KpL.size E117)) (KpL.size E145)) (KpL.size E173)) (Below.size E189)) (Below.size E201)) (KpL.size E223)) (Below.size E235)) (Below.size E247)) (KpL.size E269)) (Below.size E281)) (Below.size E293))
            have J277 : ∀ (u297 : Nat → Value) (y7_ : Value) (w314 : World), (KpL [gg298] w292 w314) → (Own RI 1 2 gg298 w292.heap.size w314 y7_ (nbK A_g ix 6)) → K277 (fr [(Pt g_b g_o), (Iv ix), Ud, Ud, (.slice none 0 0), (Pt b32 0), (Pt b40 0), y7_, (Pt b83 0), (Iv (-1)), (Iv 2), (Pt g_b g_o), (Iv ix), (.agg #[(Iv (ix % A_g.x)), (Iv (ix / A_g.x % A_g.y)), (Iv (ix / A_g.x / A_g.y))]), (Pt g_b g_o), (.agg #[(Iv A_g.x), (Iv A_g.y), (Iv A_g.z)]), (.slice (some ⟨b22, 0, none⟩) 0 0), v62, v63, v64, v65, v66, v67, v68, v69, v70, v71, v72, v73, v74, (.agg #[(Iv 1), (Iv A_g.x), (Iv (A_g.x * A_g.y))]), (Iv (-1)), (Bo false), (Iv 0), (Iv (-1)), (Iv 0), (Pt b32 0), (Iv (ix % A_g.x)), (Bo (icmp .gtr (ix % A_g.x) 0)), (u155 39), (u155 40), (u155 41), (u155 42), (u155 43), (u155 44), (u155 45), (u155 46), (Iv 2), (Bo true), (Iv 2), v284, v285, v286, v287, v288, v289, v290, (Bo β3), (u297 58), (u297 59), (u297 60), (u297 61), (u297 62), (u297 63), (u297 64), (u297 65), (Iv 2), Ud]) w314 := by
              intro u297 y7_ w314 E315 hO316
              have X317 := Below.kl X296 E315 (allS g307 all0) (Nat.le_refl _)
              obtain ⟨p318, q319, rfl⟩ := Own.shape hO316
              have hH320 : Hang w20.heap.size w314 (fun u => Sl RI 1 u (.slice p318 ((nbK A_g ix 6).length) q319) (nbK A_g ix 6)) := Own.hang hO316 RI.flat (by decide) hN306 (Nat.le_trans (Nat.le_trans (Nat.le_trans (Nat.le_trans (Nat.le_trans (Nat.le_trans (Nat.le_trans (Nat.le_trans (Nat.le_trans (Nat.le_trans (Nat.le_trans (Nat.le_trans (Nat.le_trans (Nat.le_trans (Nat.le_trans (Nat.le_trans (Nat.le_trans (Nat.le_trans (Below.size E26) (Below.size E35)) (Below.size E43)) (Nat.le_of_eq (Eq.symm (Wr.size W49)))) (Nat.le_of_eq (Eq.symm (Wr.size W53)))) (Below.size E59)) (Below.size E78)) (Nat.le_of_eq (Eq.symm (Wr.size W90)))) (KpL.size E117)) (KpL.size E145)) (KpL.size E173)) (Below.size E189)) (Below.size E201)) (KpL.size E223)) (Below.size E235)) (Below.size E247)) (KpL.size E269)) (Below.size E281)) (Below.size E293))
              have hnl := nbK_len A_g ix 6
              refine hK277 _ _ ?_
              refine wp_region_lit ?_
              refine q_is rfl rfl (does_iarith (p := 2) (q := 1) (r := (3)) (ev rfl) (ev rfl) (.inl ⟨rfl, rfl⟩)) (by dsimp only [List.set]; try rfl) ?_
              refine q_is rfl rfl (does_move (u := (Iv 3)) (ev rfl)) (by dsimp only [List.set]; try rfl) ?_
              refine wpList_nil ?_
              refine un_step ?_
              refine wp_seq_k fun K321 hK321 => ?_
              refine wp_region_lit ?_
              refine q_is rfl rfl (does_icmp (p := 3) (q := 3) (.inr (.inr (.inl rfl))) (ev rfl) (ev rfl)) (by dsimp only [List.set]; try rfl) ?_
              refine wpList_nil (hK321 _ _ ?_)
              refine wp_seq_k fun K322 hK322 => ?_
              refine wp_cond_false (ev rfl) ?_
              refine wp_exit ?_
              refine hK181 _ _ ?_
              refine wp_seq_k fun K323 hK323 => ?_
              refine wp_region_lit ?_
              refine q_is rfl rfl (does_move (u := (.slice p318 ((nbK A_g ix 6).length) q319)) (ev rfl)) (by dsimp only [List.set]; try rfl) ?_
              refine q_is rfl rfl (does_assign (u := (.slice p318 ((nbK A_g ix 6).length) q319)) (ev rfl)) (by dsimp only [List.set]; try rfl) ?_
              refine wpList_nil (hK323 _ _ ?_)
              refine wp_ret ?_
              refine ret_val (v := (.slice p318 ((nbK A_g ix 6).length) q319)) (res_T rfl (slot rfl)) X317 ?_
              have x324 : (nbK A_g ix 6) = (nb A_g ix) := by rfl
              exact ⟨(.slice p318 ((nbK A_g ix 6).length) q319), rfl, (Hang.castL (Own.hang hO316 RI.flat (by decide) (Nat.le_trans (Nat.le_trans (Below.size E16) (Below.size E19)) hN306) (Nat.le_trans (Nat.le_trans (Below.size E16) (Below.size E19)) (Nat.le_trans (Nat.le_trans (Nat.le_trans (Nat.le_trans (Nat.le_trans (Nat.le_trans (Nat.le_trans (Nat.le_trans (Nat.le_trans (Nat.le_trans (Nat.le_trans (Nat.le_trans (Nat.le_trans (Nat.le_trans (Nat.le_trans (Nat.le_trans (Nat.le_trans (Nat.le_trans (Below.size E26) (Below.size E35)) (Below.size E43)) (Nat.le_of_eq (Eq.symm (Wr.size W49)))) (Nat.le_of_eq (Eq.symm (Wr.size W53)))) (Below.size E59)) (Below.size E78)) (Nat.le_of_eq (Eq.symm (Wr.size W90)))) (KpL.size E117)) (KpL.size E145)) (KpL.size E173)) (Below.size E189)) (Below.size E201)) (KpL.size E223)) (Below.size E235)) (Below.size E247)) (KpL.size E269)) (Below.size E281)) (Below.size E293)))) x324)⟩
            refine wp_cond_split (t := β3) (ev rfl) (fun c325 => ?_) (fun c325 => ?_)
            · have c325' := c325
              (try simp only [hβ1, hβ2, hβ3] at c325')
              (try simp only [icmp, Bool.and_eq_true, Bool.or_eq_true, Bool.and_eq_false_iff, Bool.or_eq_false_iff, Bool.not_eq_true', Bool.not_eq_false', decide_eq_true_eq, decide_eq_false_iff_not, beq_iff_eq, bne_iff_ne, beq_eq_false_iff_ne, bne_eq_false_iff_eq] at c325')
              refine wp_region_lit ?_
              refine q_is rfl rfl (does_move (u := (.slice p272 ((nbK A_g ix 5).length) q273)) (ev rfl)) (by dsimp only [List.set]; try rfl) ?_
              refine q_is rfl rfl (does_move (u := (Iv ix)) (ev rfl)) (by dsimp only [List.set]; try rfl) ?_
              refine q_is rfl rfl (does_move (u := (Iv 2)) (ev rfl)) (by dsimp only [List.set]; try rfl) ?_
              refine q_is rfl rfl (does_indexAt_run (r := (Pt b83 2)) (ev rfl) (ev rfl) (fun w => ia88_2 _ _ w)) (by dsimp only [List.set]; try rfl) ?_
              refine q_is rfl rfl (does_load (u := (Iv (A_g.x * A_g.y))) (ev rfl) Try.isAgg2 (Cells.at (Blk.cells (((((((((((hB91.kl E117 (ninS (Nat.ne_of_gt n114) nin0)).kl E145 (ninS n141 nin0)).kl E173 (ninS n169 nin0)).ext E189).ext E201).kl E223 (ninS n219 nin0)).ext E235).ext E247).kl E269 (ninS n265 nin0)).ext E281).ext E293)) 2 rfl)) (by dsimp only [List.set]; try rfl) ?_
              refine q_is rfl rfl (does_iarith (p := ix) (q := A_g.x * A_g.y) (r := ix + (A_g.x * A_g.y)) (ev rfl) (ev rfl) (.inl ⟨rfl, (in_i64 (by omega) (by omega)).symm⟩)) (by dsimp only [List.set]; try rfl) ?_
              refine seqd rfl rfl (does_buildSlice (e := 2) (parts' := [(0, (Iv (ix + (A_g.x * A_g.y))))]) (cells := [(Iv (ix + (A_g.x * A_g.y)))]) (evp rfl) (fun _ => by kernel_rfl)) ?_; rintro _ w330 ⟨b326, rfl, hb327, hB328, E329⟩
              have n331 : g_b < b326 := Nat.lt_of_lt_of_le (cell_lt (Cells.at (hc_g.ext X296) 0 rfl)) hb327
              have n332 : b32 < b326 := Nat.lt_of_lt_of_le (Blk.lt (((((((((((((((hB50.wr W53 (Nat.ne_of_lt n46)).ext E59).ext E78).wr W90 (Nat.ne_of_lt n87)).kl E117 (ninS (Nat.ne_of_gt n112) nin0)).kl E145 (ninS n139 nin0)).kl E173 (ninS n167 nin0)).ext E189).ext E201).kl E223 (ninS n217 nin0)).ext E235).ext E247).kl E269 (ninS n263 nin0)).ext E281).ext E293)) hb327
              have n333 : b40 < b326 := Nat.lt_of_lt_of_le (Blk.lt ((((((((((((((hB54.ext E59).ext E78).wr W90 (Nat.ne_of_lt n88)).kl E117 (ninS (Nat.ne_of_gt n113) nin0)).kl E145 (ninS n140 nin0)).kl E173 (ninS n168 nin0)).ext E189).ext E201).kl E223 (ninS n218 nin0)).ext E235).ext E247).kl E269 (ninS n264 nin0)).ext E281).ext E293)) hb327
              have n334 : b83 < b326 := Nat.lt_of_lt_of_le (Blk.lt (((((((((((hB91.kl E117 (ninS (Nat.ne_of_gt n114) nin0)).kl E145 (ninS n141 nin0)).kl E173 (ninS n169 nin0)).ext E189).ext E201).kl E223 (ninS n219 nin0)).ext E235).ext E247).kl E269 (ninS n265 nin0)).ext E281).ext E293)) hb327
              have g335 : w.heap.size ≤ b326 := Nat.le_trans (Below.size X296) hb327
              have X336 := Ext.gr X296 E329
              show wpList _ _ _ _ (fr [_, _, _, _, _, _, _, _, _, _, _, _, _, _, _, _, _, _, _, _, _, _, _, _, _, _, _, _, _, _, _, _, _, _, _, _, _, _, _, _, _, _, _, _, _, _, _, _, _, _, _, _, _, _, _, _, _, _, _, _, _, _, _, _, _, _, _, _]) _
              refine seqd rfl rfl (does_append (R := RI) (k := 1) (g0 := gg298) (B := w292.heap.size) (xs := (nbK A_g ix 5)) (ys := [ix + (A_g.x * A_g.y)]) Try.underlying27 inf2 rfl (by decide) (ev rfl) (ev rfl) (Own.same hO301 RI.flat ((Same.refl _ _).ext E329) hN306 (Nat.le_trans (Nat.le_trans (Nat.le_trans (Nat.le_trans (Nat.le_trans (Nat.le_trans (Nat.le_trans (Nat.le_trans (Nat.le_trans (Nat.le_trans (Nat.le_trans (Nat.le_trans (Nat.le_trans (Nat.le_trans (Nat.le_trans (Nat.le_trans (Nat.le_trans (Nat.le_trans (Below.size E26) (Below.size E35)) (Below.size E43)) (Nat.le_of_eq (Eq.symm (Wr.size W49)))) (Nat.le_of_eq (Eq.symm (Wr.size W53)))) (Below.size E59)) (Below.size E78)) (Nat.le_of_eq (Eq.symm (Wr.size W90)))) (KpL.size E117)) (KpL.size E145)) (KpL.size E173)) (Below.size E189)) (Below.size E201)) (KpL.size E223)) (Below.size E235)) (Below.size E247)) (KpL.size E269)) (Below.size E281)) (Below.size E293))) RI.flat hB328 rfl rfl rfl (fun i x hi => lit1 (R := RI) (cs := [(Iv (ix + (A_g.x * A_g.y)))]) (y := ix + (A_g.x * A_g.y))  rfl i x hi) (by first | (simp only [List.length_append, List.length_cons, List.length_nil]; omega) | omega) (Below.size E329)) ?_; rintro y' w337 ⟨gg338, hg339, K340, hO341⟩
              have hN342 : w20.heap.size ≤ gg338 := by rcases hg339 with h | h; exact h ▸ hN306; exact Nat.le_trans (Nat.le_trans (Nat.le_trans (Nat.le_trans (Nat.le_trans (Nat.le_trans (Nat.le_trans (Nat.le_trans (Nat.le_trans (Nat.le_trans (Nat.le_trans (Nat.le_trans (Nat.le_trans (Nat.le_trans (Nat.le_trans (Nat.le_trans (Nat.le_trans (Nat.le_trans (Nat.le_trans (Below.size E26) (Below.size E35)) (Below.size E43)) (Nat.le_of_eq (Eq.symm (Wr.size W49)))) (Nat.le_of_eq (Eq.symm (Wr.size W53)))) (Below.size E59)) (Below.size E78)) (Nat.le_of_eq (Eq.symm (Wr.size W90)))) (KpL.size E117)) (KpL.size E145)) (KpL.size E173)) (Below.size E189)) (Below.size E201)) (KpL.size E223)) (Below.size E235)) (Below.size E247)) (KpL.size E269)) (Below.size E281)) (Below.size E293)) h
              have g343 : w.heap.size ≤ gg338 := Nat.le_trans (Nat.le_trans (Below.size E16) (Below.size E19)) hN342
              have n344 : g_b ≠ gg338 := hg339.elim (fun h => by rw [h]; exact n308) (fun h => Nat.ne_of_lt (Nat.lt_of_lt_of_le n302 h))
              have n345 : b32 ≠ gg338 := hg339.elim (fun h => by rw [h]; exact n309) (fun h => Nat.ne_of_lt (Nat.lt_of_lt_of_le n303 h))
              have n346 : b40 ≠ gg338 := hg339.elim (fun h => by rw [h]; exact n310) (fun h => Nat.ne_of_lt (Nat.lt_of_lt_of_le n304 h))
              have n347 : b83 ≠ gg338 := hg339.elim (fun h => by rw [h]; exact n311) (fun h => Nat.ne_of_lt (Nat.lt_of_lt_of_le n305 h))
              have X348 := Below.kl X336 K340 (allS g343 all0) (Nat.le_refl _)
              obtain ⟨p349, q350, rfl⟩ := Own.shape hO341
              have hH351 : Hang w20.heap.size w337 (fun u => Sl RI 1 u (.slice p349 (((nbK A_g ix 5) ++ [ix + (A_g.x * A_g.y)]).length) q350) ((nbK A_g ix 5) ++ [ix + (A_g.x * A_g.y)])) := Own.hang hO341 RI.flat (by decide) hN306 (Nat.le_trans (Nat.le_trans (Nat.le_trans (Nat.le_trans (Nat.le_trans (Nat.le_trans (Nat.le_trans (Nat.le_trans (Nat.le_trans (Nat.le_trans (Nat.le_trans (Nat.le_trans (Nat.le_trans (Nat.le_trans (Nat.le_trans (Nat.le_trans (Nat.le_trans (Nat.le_trans (Below.size E26) (Below.size E35)) (Below.size E43)) (Nat.le_of_eq (Eq.symm (Wr.size W49)))) (Nat.le_of_eq (Eq.symm (Wr.size W53)))) (Below.size E59)) (Below.size E78)) (Nat.le_of_eq (Eq.symm (Wr.size W90)))) (KpL.size E117)) (KpL.size E145)) (KpL.size E173)) (Below.size E189)) (Below.size E201)) (KpL.size E223)) (Below.size E235)) (Below.size E247)) (KpL.size E269)) (Below.size E281)) (Below.size E293))
              show wpList _ _ _ _ (fr [_, _, _, _, _, _, _, _, _, _, _, _, _, _, _, _, _, _, _, _, _, _, _, _, _, _, _, _, _, _, _, _, _, _, _, _, _, _, _, _, _, _, _, _, _, _, _, _, _, _, _, _, _, _, _, _, _, _, _, _, _, _, _, _, _, _, _, _]) _
              refine q_is rfl rfl (does_assign (u := (.slice p349 (((nbK A_g ix 5) ++ [ix + (A_g.x * A_g.y)]).length) q350)) (ev rfl)) (by dsimp only [List.set]; try rfl) ?_
              have hO352 := Own.cast (ys := nbK A_g ix 6) hO341 (by first | exact nb_f0 (if_neg (by omega)) | exact nb_t0 (if_pos (by omega)) | exact nb_t (if_pos (by omega)) | exact nb_f (if_neg (by omega)))
              exact wpList_nil (J277 (fun t => (([(Pt g_b g_o), (Iv ix), Ud, Ud, (.slice none 0 0), (Pt b32 0), (Pt b40 0), (.slice p349 (((nbK A_g ix 5) ++ [ix + (A_g.x * A_g.y)]).length) q350), (Pt b83 0), (Iv (-1)), (Iv 2), (Pt g_b g_o), (Iv ix), (.agg #[(Iv (ix % A_g.x)), (Iv (ix / A_g.x % A_g.y)), (Iv (ix / A_g.x / A_g.y))]), (Pt g_b g_o), (.agg #[(Iv A_g.x), (Iv A_g.y), (Iv A_g.z)]), (.slice (some ⟨b22, 0, none⟩) 0 0), v62, v63, v64, v65, v66, v67, v68, v69, v70, v71, v72, v73, v74, (.agg #[(Iv 1), (Iv A_g.x), (Iv (A_g.x * A_g.y))]), (Iv (-1)), (Bo false), (Iv 0), (Iv (-1)), (Iv 0), (Pt b32 0), (Iv (ix % A_g.x)), (Bo (icmp .gtr (ix % A_g.x) 0)), (u155 39), (u155 40), (u155 41), (u155 42), (u155 43), (u155 44), (u155 45), (u155 46), (Iv 2), (Bo true), (Iv 2), v284, v285, v286, v287, v288, v289, v290, (Bo β3), (.slice p272 ((nbK A_g ix 5).length) q273), (Iv ix), (Iv 2), (Pt b83 2), (Iv (A_g.x * A_g.y)), (Iv (ix + (A_g.x * A_g.y))), (.slice (some ⟨b326, 0, none⟩) 1 1), (.slice p349 (((nbK A_g ix 5) ++ [ix + (A_g.x * A_g.y)]).length) q350), (Iv 2), Ud] : List Value)[t]?).getD undef) (.slice p349 (((nbK A_g ix 5) ++ [ix + (A_g.x * A_g.y)]).length) q350) _ (KpL.more (KpL.ext (KpL.refl _ _) E329) K340 (allS (hg339.imp (fun h => by simp [h]) id) all0)) hO352)
            have c325' := c325
            (try simp only [hβ1, hβ2, hβ3] at c325')
            (try simp only [icmp, Bool.and_eq_true, Bool.or_eq_true, Bool.and_eq_false_iff, Bool.or_eq_false_iff, Bool.not_eq_true', Bool.not_eq_false', decide_eq_true_eq, decide_eq_false_iff_not, beq_iff_eq, bne_iff_ne, beq_eq_false_iff_ne, bne_eq_false_iff_eq] at c325')
            have hO353 := Own.cast (ys := nbK A_g ix 6) hO301 (by first | exact nb_f0 (if_neg (by omega)) | exact nb_t0 (if_pos (by omega)) | exact nb_t (if_pos (by omega)) | exact nb_f (if_neg (by omega)))
            exact wp_skip (J277 (fun t => (([(Pt g_b g_o), (Iv ix), Ud, Ud, (.slice none 0 0), (Pt b32 0), (Pt b40 0), (.slice p272 ((nbK A_g ix 5).length) q273), (Pt b83 0), (Iv (-1)), (Iv 2), (Pt g_b g_o), (Iv ix), (.agg #[(Iv (ix % A_g.x)), (Iv (ix / A_g.x % A_g.y)), (Iv (ix / A_g.x / A_g.y))]), (Pt g_b g_o), (.agg #[(Iv A_g.x), (Iv A_g.y), (Iv A_g.z)]), (.slice (some ⟨b22, 0, none⟩) 0 0), v62, v63, v64, v65, v66, v67, v68, v69, v70, v71, v72, v73, v74, (.agg #[(Iv 1), (Iv A_g.x), (Iv (A_g.x * A_g.y))]), (Iv (-1)), (Bo false), (Iv 0), (Iv (-1)), (Iv 0), (Pt b32 0), (Iv (ix % A_g.x)), (Bo (icmp .gtr (ix % A_g.x) 0)), (u155 39), (u155 40), (u155 41), (u155 42), (u155 43), (u155 44), (u155 45), (u155 46), (Iv 2), (Bo true), (Iv 2), v284, v285, v286, v287, v288, v289, v290, (Bo β3), (u251 58), (u251 59), (u251 60), (u251 61), (u251 62), (u251 63), (u251 64), (u251 65), (Iv 2), Ud] : List Value)[t]?).getD undef) (.slice p272 ((nbK A_g ix 5).length) q273) _ (KpL.refl _ _) hO353)
          refine wp_cond_split (t := β2) (ev rfl) (fun c354 => ?_) (fun c354 => ?_)
          · have c354' := c354
            (try simp only [hβ1, hβ2] at c354')
            (try simp only [icmp, Bool.and_eq_true, Bool.or_eq_true, Bool.and_eq_false_iff, Bool.or_eq_false_iff, Bool.not_eq_true', Bool.not_eq_false', decide_eq_true_eq, decide_eq_false_iff_not, beq_iff_eq, bne_iff_ne, beq_eq_false_iff_ne, bne_eq_false_iff_eq] at c354')
            refine wp_region_lit ?_
            refine q_is rfl rfl (does_move (u := (.slice p226 ((nbK A_g ix 4).length) q227)) (ev rfl)) (by dsimp only [List.set]; try rfl) ?_
            refine q_is rfl rfl (does_move (u := (Iv ix)) (ev rfl)) (by dsimp only [List.set]; try rfl) ?_
            refine q_is rfl rfl (does_move (u := (Iv 1)) (ev rfl)) (by dsimp only [List.set]; try rfl) ?_
            refine q_is rfl rfl (does_indexAt_run (r := (Pt b83 1)) (ev rfl) (ev rfl) (fun w => ia88_1 _ _ w)) (by dsimp only [List.set]; try rfl) ?_
            refine q_is rfl rfl (does_load (u := (Iv A_g.x)) (ev rfl) Try.isAgg2 (Cells.at (Blk.cells ((((((((hB91.kl E117 (ninS (Nat.ne_of_gt n114) nin0)).kl E145 (ninS n141 nin0)).kl E173 (ninS n169 nin0)).ext E189).ext E201).kl E223 (ninS n219 nin0)).ext E235).ext E247)) 1 rfl)) (by dsimp only [List.set]; try rfl) ?_
            refine q_is rfl rfl (does_iarith (p := ix) (q := A_g.x) (r := ix + A_g.x) (ev rfl) (ev rfl) (.inl ⟨rfl, (in_i64 (by omega) (by omega)).symm⟩)) (by dsimp only [List.set]; try rfl) ?_
            refine seqd rfl rfl (does_buildSlice (e := 2) (parts' := [(0, (Iv (ix + A_g.x)))]) (cells := [(Iv (ix + A_g.x))]) (evp rfl) (fun _ => by kernel_rfl)) ?_; rintro _ w359 ⟨b355, rfl, hb356, hB357, E358⟩
            have n360 : g_b < b355 := Nat.lt_of_lt_of_le (cell_lt (Cells.at (hc_g.ext X250) 0 rfl)) hb356
            have n361 : b32 < b355 := Nat.lt_of_lt_of_le (Blk.lt ((((((((((((hB50.wr W53 (Nat.ne_of_lt n46)).ext E59).ext E78).wr W90 (Nat.ne_of_lt n87)).kl E117 (ninS (Nat.ne_of_gt n112) nin0)).kl E145 (ninS n139 nin0)).kl E173 (ninS n167 nin0)).ext E189).ext E201).kl E223 (ninS n217 nin0)).ext E235).ext E247)) hb356
            have n362 : b40 < b355 := Nat.lt_of_lt_of_le (Blk.lt (((((((((((hB54.ext E59).ext E78).wr W90 (Nat.ne_of_lt n88)).kl E117 (ninS (Nat.ne_of_gt n113) nin0)).kl E145 (ninS n140 nin0)).kl E173 (ninS n168 nin0)).ext E189).ext E201).kl E223 (ninS n218 nin0)).ext E235).ext E247)) hb356
            have n363 : b83 < b355 := Nat.lt_of_lt_of_le (Blk.lt ((((((((hB91.kl E117 (ninS (Nat.ne_of_gt n114) nin0)).kl E145 (ninS n141 nin0)).kl E173 (ninS n169 nin0)).ext E189).ext E201).kl E223 (ninS n219 nin0)).ext E235).ext E247)) hb356
            have g364 : w.heap.size ≤ b355 := Nat.le_trans (Below.size X250) hb356
            have X365 := Ext.gr X250 E358
            show wpList _ _ _ _ (fr [_, _, _, _, _, _, _, _, _, _, _, _, _, _, _, _, _, _, _, _, _, _, _, _, _, _, _, _, _, _, _, _, _, _, _, _, _, _, _, _, _, _, _, _, _, _, _, _, _, _, _, _, _, _, _, _, _, _, _, _, _, _, _, _, _, _, _, _]) _
            refine seqd rfl rfl (does_append (R := RI) (k := 1) (g0 := gg252) (B := w246.heap.size) (xs := (nbK A_g ix 4)) (ys := [ix + A_g.x]) Try.underlying27 inf2 rfl (by decide) (ev rfl) (ev rfl) (Own.same hO255 RI.flat ((Same.refl _ _).ext E358) hN260 (Nat.le_trans (Nat.le_trans (Nat.le_trans (Nat.le_trans (Nat.le_trans (Nat.le_trans (Nat.le_trans (Nat.le_trans (Nat.le_trans (Nat.le_trans (Nat.le_trans (Nat.le_trans (Nat.le_trans (Nat.le_trans (Nat.le_trans (Below.size E26) (Below.size E35)) (Below.size E43)) (Nat.le_of_eq (Eq.symm (Wr.size W49)))) (Nat.le_of_eq (Eq.symm (Wr.size W53)))) (Below.size E59)) (Below.size E78)) (Nat.le_of_eq (Eq.symm (Wr.size W90)))) (KpL.size E117)) (KpL.size E145)) (KpL.size E173)) (Below.size E189)) (Below.size E201)) (KpL.size E223)) (Below.size E235)) (Below.size E247))) RI.flat hB357 rfl rfl rfl (fun i x hi => lit1 (R := RI) (cs := [(Iv (ix + A_g.x))]) (y := ix + A_g.x)  rfl i x hi) (by first | (simp only [List.length_append, List.length_cons, List.length_nil]; omega) | omega) (Below.size E358)) ?_; rintro y' w366 ⟨gg367, hg368, K369, hO370⟩
            have hN371 : w20.heap.size ≤ gg367 := by rcases hg368 with h | h; exact h ▸ hN260; exact Nat.le_trans (Nat.le_trans (Nat.le_trans (Nat.le_trans (Nat.le_trans (Nat.le_trans (Nat.le_trans (Nat.le_trans (Nat.le_trans (Nat.le_trans (Nat.le_trans (Nat.le_trans (Nat.le_trans (Nat.le_trans (Nat.le_trans (Nat.le_trans (Below.size E26) (Below.size E35)) (Below.size E43)) (Nat.le_of_eq (Eq.symm (Wr.size W49)))) (Nat.le_of_eq (Eq.symm (Wr.size W53)))) (Below.size E59)) (Below.size E78)) (Nat.le_of_eq (Eq.symm (Wr.size W90)))) (KpL.size E117)) (KpL.size E145)) (KpL.size E173)) (Below.size E189)) (Below.size E201)) (KpL.size E223)) (Below.size E235)) (Below.size E247)) h
            have g372 : w.heap.size ≤ gg367 := Nat.le_trans (Nat.le_trans (Below.size E16) (Below.size E19)) hN371
            have n373 : g_b ≠ gg367 := hg368.elim (fun h => by rw [h]; exact n262) (fun h => Nat.ne_of_lt (Nat.lt_of_lt_of_le n256 h))
            have n374 : b32 ≠ gg367 := hg368.elim (fun h => by rw [h]; exact n263) (fun h => Nat.ne_of_lt (Nat.lt_of_lt_of_le n257 h))
            have n375 : b40 ≠ gg367 := hg368.elim (fun h => by rw [h]; exact n264) (fun h => Nat.ne_of_lt (Nat.lt_of_lt_of_le n258 h))
            have n376 : b83 ≠ gg367 := hg368.elim (fun h => by rw [h]; exact n265) (fun h => Nat.ne_of_lt (Nat.lt_of_lt_of_le n259 h))
            have X377 := Below.kl X365 K369 (allS g372 all0) (Nat.le_refl _)
            obtain ⟨p378, q379, rfl⟩ := Own.shape hO370
            have hH380 : Hang w20.heap.size w366 (fun u => Sl RI 1 u (.slice p378 (((nbK A_g ix 4) ++ [ix + A_g.x]).length) q379) ((nbK A_g ix 4) ++ [ix + A_g.x])) := Own.hang hO370 RI.flat (by decide) hN260 (Nat.le_trans (Nat.le_trans (Nat.le_trans (Nat.le_trans (Nat.le_trans (Nat.le_trans (Nat.le_trans (Nat.le_trans (Nat.le_trans (Nat.le_trans (Nat.le_trans (Nat.le_trans (Nat.le_trans (Nat.le_trans (Nat.le_trans (Below.size E26) (Below.size E35)) (Below.size E43)) (Nat.le_of_eq (Eq.symm (Wr.size W49)))) (Nat.le_of_eq (Eq.symm (Wr.size W53)))) (Below.size E59)) (Below.size E78)) (Nat.le_of_eq (Eq.symm (Wr.size W90)))) (KpL.size E117)) (KpL.size E145)) (KpL.size E173)) (Below.size E189)) (Below.size E201)) (KpL.size E223)) (Below.size E235)) (Below.size E247))
            show wpList _ _ _ _ (fr [_, _, _, _, _, _, _, _, _, _, _, _, _, _, _, _, _, _, _, _, _, _, _, _, _, _, _, _, _, _, _, _, _, _, _, _, _, _, _, _, _, _, _, _, _, _, _, _, _, _, _, _, _, _, _, _, _, _, _, _, _, _, _, _, _, _, _, _]) _
            refine q_is rfl rfl (does_assign (u := (.slice p378 (((nbK A_g ix 4) ++ [ix + A_g.x]).length) q379)) (ev rfl)) (by dsimp only [List.set]; try rfl) ?_
            have hO381 := Own.cast (ys := nbK A_g ix 5) hO370 (by first | exact nb_f0 (if_neg (by omega)) | exact nb_t0 (if_pos (by omega)) | exact nb_t (if_pos (by omega)) | exact nb_f (if_neg (by omega)))
            exact wpList_nil (J231 (fun t => (([(Pt g_b g_o), (Iv ix), Ud, Ud, (.slice none 0 0), (Pt b32 0), (Pt b40 0), (.slice p378 (((nbK A_g ix 4) ++ [ix + A_g.x]).length) q379), (Pt b83 0), (Iv (-1)), (Iv 1), (Pt g_b g_o), (Iv ix), (.agg #[(Iv (ix % A_g.x)), (Iv (ix / A_g.x % A_g.y)), (Iv (ix / A_g.x / A_g.y))]), (Pt g_b g_o), (.agg #[(Iv A_g.x), (Iv A_g.y), (Iv A_g.z)]), (.slice (some ⟨b22, 0, none⟩) 0 0), v62, v63, v64, v65, v66, v67, v68, v69, v70, v71, v72, v73, v74, (.agg #[(Iv 1), (Iv A_g.x), (Iv (A_g.x * A_g.y))]), (Iv (-1)), (Bo false), (Iv 0), (Iv (-1)), (Iv 0), (Pt b32 0), (Iv (ix % A_g.x)), (Bo (icmp .gtr (ix % A_g.x) 0)), (u155 39), (u155 40), (u155 41), (u155 42), (u155 43), (u155 44), (u155 45), (u155 46), (Iv 1), (Bo true), (Iv 1), v238, v239, v240, v241, v242, v243, v244, (Bo β2), (.slice p226 ((nbK A_g ix 4).length) q227), (Iv ix), (Iv 1), (Pt b83 1), (Iv A_g.x), (Iv (ix + A_g.x)), (.slice (some ⟨b355, 0, none⟩) 1 1), (.slice p378 (((nbK A_g ix 4) ++ [ix + A_g.x]).length) q379), (Iv 1), Ud] : List Value)[t]?).getD undef) (.slice p378 (((nbK A_g ix 4) ++ [ix + A_g.x]).length) q379) _ (KpL.more (KpL.ext (KpL.refl _ _) E358) K369 (allS (hg368.imp (fun h => by simp [h]) id) all0)) hO381)
          have c354' := c354
          (try simp only [hβ1, hβ2] at c354')
          (try simp only [icmp, Bool.and_eq_true, Bool.or_eq_true, Bool.and_eq_false_iff, Bool.or_eq_false_iff, Bool.not_eq_true', Bool.not_eq_false', decide_eq_true_eq, decide_eq_false_iff_not, beq_iff_eq, bne_iff_ne, beq_eq_false_iff_ne, bne_eq_false_iff_eq] at c354')
          have hO382 := Own.cast (ys := nbK A_g ix 5) hO255 (by first | exact nb_f0 (if_neg (by omega)) | exact nb_t0 (if_pos (by omega)) | exact nb_t (if_pos (by omega)) | exact nb_f (if_neg (by omega)))
          exact wp_skip (J231 (fun t => (([(Pt g_b g_o), (Iv ix), Ud, Ud, (.slice none 0 0), (Pt b32 0), (Pt b40 0), (.slice p226 ((nbK A_g ix 4).length) q227), (Pt b83 0), (Iv (-1)), (Iv 1), (Pt g_b g_o), (Iv ix), (.agg #[(Iv (ix % A_g.x)), (Iv (ix / A_g.x % A_g.y)), (Iv (ix / A_g.x / A_g.y))]), (Pt g_b g_o), (.agg #[(Iv A_g.x), (Iv A_g.y), (Iv A_g.z)]), (.slice (some ⟨b22, 0, none⟩) 0 0), v62, v63, v64, v65, v66, v67, v68, v69, v70, v71, v72, v73, v74, (.agg #[(Iv 1), (Iv A_g.x), (Iv (A_g.x * A_g.y))]), (Iv (-1)), (Bo false), (Iv 0), (Iv (-1)), (Iv 0), (Pt b32 0), (Iv (ix % A_g.x)), (Bo (icmp .gtr (ix % A_g.x) 0)), (u155 39), (u155 40), (u155 41), (u155 42), (u155 43), (u155 44), (u155 45), (u155 46), (Iv 1), (Bo true), (Iv 1), v238, v239, v240, v241, v242, v243, v244, (Bo β2), (u205 58), (u205 59), (u205 60), (u205 61), (u205 62), (u205 63), (u205 64), (u205 65), (Iv 1), Ud] : List Value)[t]?).getD undef) (.slice p226 ((nbK A_g ix 4).length) q227) _ (KpL.refl _ _) hO382)
        refine wp_cond_split (t := β1) (ev rfl) (fun c383 => ?_) (fun c383 => ?_)
        · have c383' := c383
          (try simp only [hβ1] at c383')
          (try simp only [icmp, Bool.and_eq_true, Bool.or_eq_true, Bool.and_eq_false_iff, Bool.or_eq_false_iff, Bool.not_eq_true', Bool.not_eq_false', decide_eq_true_eq, decide_eq_false_iff_not, beq_iff_eq, bne_iff_ne, beq_eq_false_iff_ne, bne_eq_false_iff_eq] at c383')
          refine wp_region_lit ?_
          refine q_is rfl rfl (does_move (u := (.slice p176 ((nbK A_g ix 3).length) q177)) (ev rfl)) (by dsimp only [List.set]; try rfl) ?_
          refine q_is rfl rfl (does_move (u := (Iv ix)) (ev rfl)) (by dsimp only [List.set]; try rfl) ?_
          refine q_is rfl rfl (does_move (u := (Iv 0)) (ev rfl)) (by dsimp only [List.set]; try rfl) ?_
          refine q_is rfl rfl (does_indexAt_run (r := (Pt b83 0)) (ev rfl) (ev rfl) (fun w => ia88_0 _ _ w)) (by dsimp only [List.set]; try rfl) ?_
          refine q_is rfl rfl (does_load (u := (Iv 1)) (ev rfl) Try.isAgg2 (Cells.at (Blk.cells (((((hB91.kl E117 (ninS (Nat.ne_of_gt n114) nin0)).kl E145 (ninS n141 nin0)).kl E173 (ninS n169 nin0)).ext E189).ext E201)) 0 rfl)) (by dsimp only [List.set]; try rfl) ?_
          refine q_is rfl rfl (does_iarith (p := ix) (q := 1) (r := ix + 1) (ev rfl) (ev rfl) (.inl ⟨rfl, (in_i64 (by omega) (by omega)).symm⟩)) (by dsimp only [List.set]; try rfl) ?_
          refine seqd rfl rfl (does_buildSlice (e := 2) (parts' := [(0, (Iv (ix + 1)))]) (cells := [(Iv (ix + 1))]) (evp rfl) (fun _ => by kernel_rfl)) ?_; rintro _ w388 ⟨b384, rfl, hb385, hB386, E387⟩
          have n389 : g_b < b384 := Nat.lt_of_lt_of_le (cell_lt (Cells.at (hc_g.ext X204) 0 rfl)) hb385
          have n390 : b32 < b384 := Nat.lt_of_lt_of_le (Blk.lt (((((((((hB50.wr W53 (Nat.ne_of_lt n46)).ext E59).ext E78).wr W90 (Nat.ne_of_lt n87)).kl E117 (ninS (Nat.ne_of_gt n112) nin0)).kl E145 (ninS n139 nin0)).kl E173 (ninS n167 nin0)).ext E189).ext E201)) hb385
          have n391 : b40 < b384 := Nat.lt_of_lt_of_le (Blk.lt ((((((((hB54.ext E59).ext E78).wr W90 (Nat.ne_of_lt n88)).kl E117 (ninS (Nat.ne_of_gt n113) nin0)).kl E145 (ninS n140 nin0)).kl E173 (ninS n168 nin0)).ext E189).ext E201)) hb385
          have n392 : b83 < b384 := Nat.lt_of_lt_of_le (Blk.lt (((((hB91.kl E117 (ninS (Nat.ne_of_gt n114) nin0)).kl E145 (ninS n141 nin0)).kl E173 (ninS n169 nin0)).ext E189).ext E201)) hb385
          have g393 : w.heap.size ≤ b384 := Nat.le_trans (Below.size X204) hb385
          have X394 := Ext.gr X204 E387
          show wpList _ _ _ _ (fr [_, _, _, _, _, _, _, _, _, _, _, _, _, _, _, _, _, _, _, _, _, _, _, _, _, _, _, _, _, _, _, _, _, _, _, _, _, _, _, _, _, _, _, _, _, _, _, _, _, _, _, _, _, _, _, _, _, _, _, _, _, _, _, _, _, _, _, _]) _
          refine seqd rfl rfl (does_append (R := RI) (k := 1) (g0 := gg206) (B := w200.heap.size) (xs := (nbK A_g ix 3)) (ys := [ix + 1]) Try.underlying27 inf2 rfl (by decide) (ev rfl) (ev rfl) (Own.same hO209 RI.flat ((Same.refl _ _).ext E387) hN214 (Nat.le_trans (Nat.le_trans (Nat.le_trans (Nat.le_trans (Nat.le_trans (Nat.le_trans (Nat.le_trans (Nat.le_trans (Nat.le_trans (Nat.le_trans (Nat.le_trans (Nat.le_trans (Below.size E26) (Below.size E35)) (Below.size E43)) (Nat.le_of_eq (Eq.symm (Wr.size W49)))) (Nat.le_of_eq (Eq.symm (Wr.size W53)))) (Below.size E59)) (Below.size E78)) (Nat.le_of_eq (Eq.symm (Wr.size W90)))) (KpL.size E117)) (KpL.size E145)) (KpL.size E173)) (Below.size E189)) (Below.size E201))) RI.flat hB386 rfl rfl rfl (fun i x hi => lit1 (R := RI) (cs := [(Iv (ix + 1))]) (y := ix + 1)  rfl i x hi) (by first | (simp only [List.length_append, List.length_cons, List.length_nil]; omega) | omega) (Below.size E387)) ?_; rintro y' w395 ⟨gg396, hg397, K398, hO399⟩
          have hN400 : w20.heap.size ≤ gg396 := by rcases hg397 with h | h; exact h ▸ hN214; exact Nat.le_trans (Nat.le_trans (Nat.le_trans (Nat.le_trans (Nat.le_trans (Nat.le_trans (Nat.le_trans (Nat.le_trans (Nat.le_trans (Nat.le_trans (Nat.le_trans (Nat.le_trans (Nat.le_trans (Below.size E26) (Below.size E35)) (Below.size E43)) (Nat.le_of_eq (Eq.symm (Wr.size W49)))) (Nat.le_of_eq (Eq.symm (Wr.size W53)))) (Below.size E59)) (Below.size E78)) (Nat.le_of_eq (Eq.symm (Wr.size W90)))) (KpL.size E117)) (KpL.size E145)) (KpL.size E173)) (Below.size E189)) (Below.size E201)) h
          have g401 : w.heap.size ≤ gg396 := Nat.le_trans (Nat.le_trans (Below.size E16) (Below.size E19)) hN400
          have n402 : g_b ≠ gg396 := hg397.elim (fun h => by rw [h]; exact n216) (fun h => Nat.ne_of_lt (Nat.lt_of_lt_of_le n210 h))
          have n403 : b32 ≠ gg396 := hg397.elim (fun h => by rw [h]; exact n217) (fun h => Nat.ne_of_lt (Nat.lt_of_lt_of_le n211 h))
          have n404 : b40 ≠ gg396 := hg397.elim (fun h => by rw [h]; exact n218) (fun h => Nat.ne_of_lt (Nat.lt_of_lt_of_le n212 h))
          have n405 : b83 ≠ gg396 := hg397.elim (fun h => by rw [h]; exact n219) (fun h => Nat.ne_of_lt (Nat.lt_of_lt_of_le n213 h))
          have X406 := Below.kl X394 K398 (allS g401 all0) (Nat.le_refl _)
          obtain ⟨p407, q408, rfl⟩ := Own.shape hO399
          have hH409 : Hang w20.heap.size w395 (fun u => Sl RI 1 u (.slice p407 (((nbK A_g ix 3) ++ [ix + 1]).length) q408) ((nbK A_g ix 3) ++ [ix + 1])) := Own.hang hO399 RI.flat (by decide) hN214 (Nat.le_trans (Nat.le_trans (Nat.le_trans (Nat.le_trans (Nat.le_trans (Nat.le_trans (Nat.le_trans (Nat.le_trans (Nat.le_trans (Nat.le_trans (Nat.le_trans (Nat.le_trans (Below.size E26) (Below.size E35)) (Below.size E43)) (Nat.le_of_eq (Eq.symm (Wr.size W49)))) (Nat.le_of_eq (Eq.symm (Wr.size W53)))) (Below.size E59)) (Below.size E78)) (Nat.le_of_eq (Eq.symm (Wr.size W90)))) (KpL.size E117)) (KpL.size E145)) (KpL.size E173)) (Below.size E189)) (Below.size E201))
          show wpList _ _ _ _ (fr [_, _, _, _, _, _, _, _, _, _, _, _, _, _, _, _, _, _, _, _, _, _, _, _, _, _, _, _, _, _, _, _, _, _, _, _, _, _, _, _, _, _, _, _, _, _, _, _, _, _, _, _, _, _, _, _, _, _, _, _, _, _, _, _, _, _, _, _]) _
          refine q_is rfl rfl (does_assign (u := (.slice p407 (((nbK A_g ix 3) ++ [ix + 1]).length) q408)) (ev rfl)) (by dsimp only [List.set]; try rfl) ?_
          have hO410 := Own.cast (ys := nbK A_g ix 4) hO399 (by first | exact nb_f0 (if_neg (by omega)) | exact nb_t0 (if_pos (by omega)) | exact nb_t (if_pos (by omega)) | exact nb_f (if_neg (by omega)))
          exact wpList_nil (J185 (fun t => (([(Pt g_b g_o), (Iv ix), Ud, Ud, (.slice none 0 0), (Pt b32 0), (Pt b40 0), (.slice p407 (((nbK A_g ix 3) ++ [ix + 1]).length) q408), (Pt b83 0), (Iv (-1)), (Iv 0), (Pt g_b g_o), (Iv ix), (.agg #[(Iv (ix % A_g.x)), (Iv (ix / A_g.x % A_g.y)), (Iv (ix / A_g.x / A_g.y))]), (Pt g_b g_o), (.agg #[(Iv A_g.x), (Iv A_g.y), (Iv A_g.z)]), (.slice (some ⟨b22, 0, none⟩) 0 0), v62, v63, v64, v65, v66, v67, v68, v69, v70, v71, v72, v73, v74, (.agg #[(Iv 1), (Iv A_g.x), (Iv (A_g.x * A_g.y))]), (Iv (-1)), (Bo false), (Iv 0), (Iv (-1)), (Iv 0), (Pt b32 0), (Iv (ix % A_g.x)), (Bo (icmp .gtr (ix % A_g.x) 0)), (u155 39), (u155 40), (u155 41), (u155 42), (u155 43), (u155 44), (u155 45), (u155 46), (Iv 0), (Bo true), (Iv 0), v192, v193, v194, v195, v196, v197, v198, (Bo β1), (.slice p176 ((nbK A_g ix 3).length) q177), (Iv ix), (Iv 0), (Pt b83 0), (Iv 1), (Iv (ix + 1)), (.slice (some ⟨b384, 0, none⟩) 1 1), (.slice p407 (((nbK A_g ix 3) ++ [ix + 1]).length) q408), Ud, Ud] : List Value)[t]?).getD undef) (.slice p407 (((nbK A_g ix 3) ++ [ix + 1]).length) q408) _ (KpL.more (KpL.ext (KpL.refl _ _) E387) K398 (allS (hg397.imp (fun h => by simp [h]) id) all0)) hO410)
        have c383' := c383
        (try simp only [hβ1] at c383')
        (try simp only [icmp, Bool.and_eq_true, Bool.or_eq_true, Bool.and_eq_false_iff, Bool.or_eq_false_iff, Bool.not_eq_true', Bool.not_eq_false', decide_eq_true_eq, decide_eq_false_iff_not, beq_iff_eq, bne_iff_ne, beq_eq_false_iff_ne, bne_eq_false_iff_eq] at c383')
        have hO411 := Own.cast (ys := nbK A_g ix 4) hO209 (by first | exact nb_f0 (if_neg (by omega)) | exact nb_t0 (if_pos (by omega)) | exact nb_t (if_pos (by omega)) | exact nb_f (if_neg (by omega)))
        exact wp_skip (J185 (fun t => (([(Pt g_b g_o), (Iv ix), Ud, Ud, (.slice none 0 0), (Pt b32 0), (Pt b40 0), (.slice p176 ((nbK A_g ix 3).length) q177), (Pt b83 0), (Iv (-1)), (Iv 0), (Pt g_b g_o), (Iv ix), (.agg #[(Iv (ix % A_g.x)), (Iv (ix / A_g.x % A_g.y)), (Iv (ix / A_g.x / A_g.y))]), (Pt g_b g_o), (.agg #[(Iv A_g.x), (Iv A_g.y), (Iv A_g.z)]), (.slice (some ⟨b22, 0, none⟩) 0 0), v62, v63, v64, v65, v66, v67, v68, v69, v70, v71, v72, v73, v74, (.agg #[(Iv 1), (Iv A_g.x), (Iv (A_g.x * A_g.y))]), (Iv (-1)), (Bo false), (Iv 0), (Iv (-1)), (Iv 0), (Pt b32 0), (Iv (ix % A_g.x)), (Bo (icmp .gtr (ix % A_g.x) 0)), (u155 39), (u155 40), (u155 41), (u155 42), (u155 43), (u155 44), (u155 45), (u155 46), (Iv 0), (Bo true), (Iv 0), v192, v193, v194, v195, v196, v197, v198, (Bo β1), Ud, Ud, Ud, Ud, Ud, Ud, Ud, Ud, Ud, Ud] : List Value)[t]?).getD undef) (.slice p176 ((nbK A_g ix 3).length) q177) _ (KpL.refl _ _) hO411)
      refine wp_cond_split (t := icmp .gtr (ix % A_g.x) 0) (ev rfl) (fun c412 => ?_) (fun c412 => ?_)
      · have c412' := c412
        (try simp only [icmp, Bool.and_eq_true, Bool.or_eq_true, Bool.and_eq_false_iff, Bool.or_eq_false_iff, Bool.not_eq_true', Bool.not_eq_false', decide_eq_true_eq, decide_eq_false_iff_not, beq_iff_eq, bne_iff_ne, beq_eq_false_iff_ne, bne_eq_false_iff_eq] at c412')
        refine wp_region_lit ?_
        refine q_is rfl rfl (does_move (u := (.slice p148 ((nbK A_g ix 2).length) q149)) (ev rfl)) (by dsimp only [List.set]; try rfl) ?_
        refine q_is rfl rfl (does_move (u := (Iv ix)) (ev rfl)) (by dsimp only [List.set]; try rfl) ?_
        refine q_is rfl rfl (does_move (u := (Iv 0)) (ev rfl)) (by dsimp only [List.set]; try rfl) ?_
        refine q_is rfl rfl (does_indexAt_run (r := (Pt b83 0)) (ev rfl) (ev rfl) (fun w => ia88_0 _ _ w)) (by dsimp only [List.set]; try rfl) ?_
        refine q_is rfl rfl (does_load (u := (Iv 1)) (ev rfl) Try.isAgg2 (Cells.at (Blk.cells ((hB91.kl E117 (ninS (Nat.ne_of_gt n114) nin0)).kl E145 (ninS n141 nin0))) 0 rfl)) (by dsimp only [List.set]; try rfl) ?_
        refine q_is rfl rfl (does_iarith (p := ix) (q := 1) (r := ix - 1) (ev rfl) (ev rfl) (.inr (.inl ⟨rfl, (in_i64 (by omega) (by omega)).symm⟩))) (by dsimp only [List.set]; try rfl) ?_
        refine seqd rfl rfl (does_buildSlice (e := 2) (parts' := [(0, (Iv (ix - 1)))]) (cells := [(Iv (ix - 1))]) (evp rfl) (fun _ => by kernel_rfl)) ?_; rintro _ w417 ⟨b413, rfl, hb414, hB415, E416⟩
        have n418 : g_b < b413 := Nat.lt_of_lt_of_le (cell_lt (Cells.at (hc_g.ext X147) 0 rfl)) hb414
        have n419 : b32 < b413 := Nat.lt_of_lt_of_le (Blk.lt ((((((hB50.wr W53 (Nat.ne_of_lt n46)).ext E59).ext E78).wr W90 (Nat.ne_of_lt n87)).kl E117 (ninS (Nat.ne_of_gt n112) nin0)).kl E145 (ninS n139 nin0))) hb414
        have n420 : b40 < b413 := Nat.lt_of_lt_of_le (Blk.lt (((((hB54.ext E59).ext E78).wr W90 (Nat.ne_of_lt n88)).kl E117 (ninS (Nat.ne_of_gt n113) nin0)).kl E145 (ninS n140 nin0))) hb414
        have n421 : b83 < b413 := Nat.lt_of_lt_of_le (Blk.lt ((hB91.kl E117 (ninS (Nat.ne_of_gt n114) nin0)).kl E145 (ninS n141 nin0))) hb414
        have g422 : w.heap.size ≤ b413 := Nat.le_trans (Below.size X147) hb414
        have X423 := Ext.gr X147 E416
        show wpList _ _ _ _ (fr [_, _, _, _, _, _, _, _, _, _, _, _, _, _, _, _, _, _, _, _, _, _, _, _, _, _, _, _, _, _, _, _, _, _, _, _, _, _, _, _, _, _, _, _, _, _, _, _, _, _, _, _, _, _, _, _, _, _, _, _, _, _, _, _, _, _, _, _]) _
        refine seqd rfl rfl (does_append (R := RI) (k := 1) (g0 := gg156) (B := w144.heap.size) (xs := (nbK A_g ix 2)) (ys := [ix - 1]) Try.underlying27 inf2 rfl (by decide) (ev rfl) (ev rfl) (Own.same hO159 RI.flat ((Same.refl _ _).ext E416) hN164 (Nat.le_trans (Nat.le_trans (Nat.le_trans (Nat.le_trans (Nat.le_trans (Nat.le_trans (Nat.le_trans (Nat.le_trans (Nat.le_trans (Below.size E26) (Below.size E35)) (Below.size E43)) (Nat.le_of_eq (Eq.symm (Wr.size W49)))) (Nat.le_of_eq (Eq.symm (Wr.size W53)))) (Below.size E59)) (Below.size E78)) (Nat.le_of_eq (Eq.symm (Wr.size W90)))) (KpL.size E117)) (KpL.size E145))) RI.flat hB415 rfl rfl rfl (fun i x hi => lit1 (R := RI) (cs := [(Iv (ix - 1))]) (y := ix - 1)  rfl i x hi) (by first | (simp only [List.length_append, List.length_cons, List.length_nil]; omega) | omega) (Below.size E416)) ?_; rintro y' w424 ⟨gg425, hg426, K427, hO428⟩
        have hN429 : w20.heap.size ≤ gg425 := by rcases hg426 with h | h; exact h ▸ hN164; exact Nat.le_trans (Nat.le_trans (Nat.le_trans (Nat.le_trans (Nat.le_trans (Nat.le_trans (Nat.le_trans (Nat.le_trans (Nat.le_trans (Nat.le_trans (Below.size E26) (Below.size E35)) (Below.size E43)) (Nat.le_of_eq (Eq.symm (Wr.size W49)))) (Nat.le_of_eq (Eq.symm (Wr.size W53)))) (Below.size E59)) (Below.size E78)) (Nat.le_of_eq (Eq.symm (Wr.size W90)))) (KpL.size E117)) (KpL.size E145)) h
        have g430 : w.heap.size ≤ gg425 := Nat.le_trans (Nat.le_trans (Below.size E16) (Below.size E19)) hN429
        have n431 : g_b ≠ gg425 := hg426.elim (fun h => by rw [h]; exact n166) (fun h => Nat.ne_of_lt (Nat.lt_of_lt_of_le n160 h))
        have n432 : b32 ≠ gg425 := hg426.elim (fun h => by rw [h]; exact n167) (fun h => Nat.ne_of_lt (Nat.lt_of_lt_of_le n161 h))
        have n433 : b40 ≠ gg425 := hg426.elim (fun h => by rw [h]; exact n168) (fun h => Nat.ne_of_lt (Nat.lt_of_lt_of_le n162 h))
        have n434 : b83 ≠ gg425 := hg426.elim (fun h => by rw [h]; exact n169) (fun h => Nat.ne_of_lt (Nat.lt_of_lt_of_le n163 h))
        have X435 := Below.kl X423 K427 (allS g430 all0) (Nat.le_refl _)
        obtain ⟨p436, q437, rfl⟩ := Own.shape hO428
        have hH438 : Hang w20.heap.size w424 (fun u => Sl RI 1 u (.slice p436 (((nbK A_g ix 2) ++ [ix - 1]).length) q437) ((nbK A_g ix 2) ++ [ix - 1])) := Own.hang hO428 RI.flat (by decide) hN164 (Nat.le_trans (Nat.le_trans (Nat.le_trans (Nat.le_trans (Nat.le_trans (Nat.le_trans (Nat.le_trans (Nat.le_trans (Nat.le_trans (Below.size E26) (Below.size E35)) (Below.size E43)) (Nat.le_of_eq (Eq.symm (Wr.size W49)))) (Nat.le_of_eq (Eq.symm (Wr.size W53)))) (Below.size E59)) (Below.size E78)) (Nat.le_of_eq (Eq.symm (Wr.size W90)))) (KpL.size E117)) (KpL.size E145))
        show wpList _ _ _ _ (fr [_, _, _, _, _, _, _, _, _, _, _, _, _, _, _, _, _, _, _, _, _, _, _, _, _, _, _, _, _, _, _, _, _, _, _, _, _, _, _, _, _, _, _, _, _, _, _, _, _, _, _, _, _, _, _, _, _, _, _, _, _, _, _, _, _, _, _, _]) _
        refine q_is rfl rfl (does_assign (u := (.slice p436 (((nbK A_g ix 2) ++ [ix - 1]).length) q437)) (ev rfl)) (by dsimp only [List.set]; try rfl) ?_
        have hO439 := Own.cast (ys := nbK A_g ix 3) hO428 (by first | exact nb_f0 (if_neg (by omega)) | exact nb_t0 (if_pos (by omega)) | exact nb_t (if_pos (by omega)) | exact nb_f (if_neg (by omega)))
        exact wpList_nil (J153 (fun t => (([(Pt g_b g_o), (Iv ix), Ud, Ud, (.slice none 0 0), (Pt b32 0), (Pt b40 0), (.slice p436 (((nbK A_g ix 2) ++ [ix - 1]).length) q437), (Pt b83 0), (Iv 0), Ud, (Pt g_b g_o), (Iv ix), (.agg #[(Iv (ix % A_g.x)), (Iv (ix / A_g.x % A_g.y)), (Iv (ix / A_g.x / A_g.y))]), (Pt g_b g_o), (.agg #[(Iv A_g.x), (Iv A_g.y), (Iv A_g.z)]), (.slice (some ⟨b22, 0, none⟩) 0 0), v62, v63, v64, v65, v66, v67, v68, v69, v70, v71, v72, v73, v74, (.agg #[(Iv 1), (Iv A_g.x), (Iv (A_g.x * A_g.y))]), (Iv 0), (Bo true), (Iv 1), (Iv 0), (Iv 0), (Pt b32 0), (Iv (ix % A_g.x)), (Bo (icmp .gtr (ix % A_g.x) 0)), (.slice p148 ((nbK A_g ix 2).length) q149), (Iv ix), (Iv 0), (Pt b83 0), (Iv 1), (Iv (ix - 1)), (.slice (some ⟨b413, 0, none⟩) 1 1), (.slice p436 (((nbK A_g ix 2) ++ [ix - 1]).length) q437), Ud, Ud, Ud, Ud, Ud, Ud, Ud, Ud, Ud, Ud, Ud, Ud, Ud, Ud, Ud, Ud, Ud, Ud, Ud, Ud, Ud] : List Value)[t]?).getD undef) (.slice p436 (((nbK A_g ix 2) ++ [ix - 1]).length) q437) _ (KpL.more (KpL.ext (KpL.refl _ _) E416) K427 (allS (hg426.imp (fun h => by simp [h]) id) all0)) hO439)
      have c412' := c412
      (try simp only [icmp, Bool.and_eq_true, Bool.or_eq_true, Bool.and_eq_false_iff, Bool.or_eq_false_iff, Bool.not_eq_true', Bool.not_eq_false', decide_eq_true_eq, decide_eq_false_iff_not, beq_iff_eq, bne_iff_ne, beq_eq_false_iff_ne, bne_eq_false_iff_eq] at c412')
      have hO440 := Own.cast (ys := nbK A_g ix 3) hO159 (by first | exact nb_f0 (if_neg (by omega)) | exact nb_t0 (if_pos (by omega)) | exact nb_t (if_pos (by omega)) | exact nb_f (if_neg (by omega)))
      exact wp_skip (J153 (fun t => (([(Pt g_b g_o), (Iv ix), Ud, Ud, (.slice none 0 0), (Pt b32 0), (Pt b40 0), (.slice p148 ((nbK A_g ix 2).length) q149), (Pt b83 0), (Iv 0), Ud, (Pt g_b g_o), (Iv ix), (.agg #[(Iv (ix % A_g.x)), (Iv (ix / A_g.x % A_g.y)), (Iv (ix / A_g.x / A_g.y))]), (Pt g_b g_o), (.agg #[(Iv A_g.x), (Iv A_g.y), (Iv A_g.z)]), (.slice (some ⟨b22, 0, none⟩) 0 0), v62, v63, v64, v65, v66, v67, v68, v69, v70, v71, v72, v73, v74, (.agg #[(Iv 1), (Iv A_g.x), (Iv (A_g.x * A_g.y))]), (Iv 0), (Bo true), (Iv 1), (Iv 0), (Iv 0), (Pt b32 0), (Iv (ix % A_g.x)), (Bo (icmp .gtr (ix % A_g.x) 0)), (u127 39), (u127 40), (u127 41), (u127 42), (u127 43), (u127 44), (u127 45), (u127 46), Ud, Ud, Ud, Ud, Ud, Ud, Ud, Ud, Ud, Ud, Ud, Ud, Ud, Ud, Ud, Ud, Ud, Ud, Ud, Ud, Ud] : List Value)[t]?).getD undef) (.slice p148 ((nbK A_g ix 2).length) q149) _ (KpL.refl _ _) hO440)
    refine wp_cond_split (t := icmp .gtr (ix / A_g.x % A_g.y) 0) (ev rfl) (fun c441 => ?_) (fun c441 => ?_)
    · have c441' := c441
      (try simp only [icmp, Bool.and_eq_true, Bool.or_eq_true, Bool.and_eq_false_iff, Bool.or_eq_false_iff, Bool.not_eq_true', Bool.not_eq_false', decide_eq_true_eq, decide_eq_false_iff_not, beq_iff_eq, bne_iff_ne, beq_eq_false_iff_ne, bne_eq_false_iff_eq] at c441')
      refine wp_region_lit ?_
      refine q_is rfl rfl (does_move (u := (.slice p120 ((nbK A_g ix 1).length) q121)) (ev rfl)) (by dsimp only [List.set]; try rfl) ?_
      refine q_is rfl rfl (does_move (u := (Iv ix)) (ev rfl)) (by dsimp only [List.set]; try rfl) ?_
      refine q_is rfl rfl (does_move (u := (Iv 1)) (ev rfl)) (by dsimp only [List.set]; try rfl) ?_
      refine q_is rfl rfl (does_indexAt_run (r := (Pt b83 1)) (ev rfl) (ev rfl) (fun w => ia88_1 _ _ w)) (by dsimp only [List.set]; try rfl) ?_
      refine q_is rfl rfl (does_load (u := (Iv A_g.x)) (ev rfl) Try.isAgg2 (Cells.at (Blk.cells (hB91.kl E117 (ninS (Nat.ne_of_gt n114) nin0))) 1 rfl)) (by dsimp only [List.set]; try rfl) ?_
      refine q_is rfl rfl (does_iarith (p := ix) (q := A_g.x) (r := ix - A_g.x) (ev rfl) (ev rfl) (.inr (.inl ⟨rfl, (in_i64 (by omega) (by omega)).symm⟩))) (by dsimp only [List.set]; try rfl) ?_
      refine seqd rfl rfl (does_buildSlice (e := 2) (parts' := [(0, (Iv (ix - A_g.x)))]) (cells := [(Iv (ix - A_g.x))]) (evp rfl) (fun _ => by kernel_rfl)) ?_; rintro _ w446 ⟨b442, rfl, hb443, hB444, E445⟩
      have n447 : g_b < b442 := Nat.lt_of_lt_of_le (cell_lt (Cells.at (hc_g.ext X119) 0 rfl)) hb443
      have n448 : b32 < b442 := Nat.lt_of_lt_of_le (Blk.lt (((((hB50.wr W53 (Nat.ne_of_lt n46)).ext E59).ext E78).wr W90 (Nat.ne_of_lt n87)).kl E117 (ninS (Nat.ne_of_gt n112) nin0))) hb443
      have n449 : b40 < b442 := Nat.lt_of_lt_of_le (Blk.lt ((((hB54.ext E59).ext E78).wr W90 (Nat.ne_of_lt n88)).kl E117 (ninS (Nat.ne_of_gt n113) nin0))) hb443
      have n450 : b83 < b442 := Nat.lt_of_lt_of_le (Blk.lt (hB91.kl E117 (ninS (Nat.ne_of_gt n114) nin0))) hb443
      have g451 : w.heap.size ≤ b442 := Nat.le_trans (Below.size X119) hb443
      have X452 := Ext.gr X119 E445
      show wpList _ _ _ _ (fr [_, _, _, _, _, _, _, _, _, _, _, _, _, _, _, _, _, _, _, _, _, _, _, _, _, _, _, _, _, _, _, _, _, _, _, _, _, _, _, _, _, _, _, _, _, _, _, _, _, _, _, _, _, _, _, _, _, _, _, _, _, _, _, _, _, _, _, _]) _
      refine seqd rfl rfl (does_append (R := RI) (k := 1) (g0 := gg128) (B := w116.heap.size) (xs := (nbK A_g ix 1)) (ys := [ix - A_g.x]) Try.underlying27 inf2 rfl (by decide) (ev rfl) (ev rfl) (Own.same hO131 RI.flat ((Same.refl _ _).ext E445) hN136 (Nat.le_trans (Nat.le_trans (Nat.le_trans (Nat.le_trans (Nat.le_trans (Nat.le_trans (Nat.le_trans (Nat.le_trans (Below.size E26) (Below.size E35)) (Below.size E43)) (Nat.le_of_eq (Eq.symm (Wr.size W49)))) (Nat.le_of_eq (Eq.symm (Wr.size W53)))) (Below.size E59)) (Below.size E78)) (Nat.le_of_eq (Eq.symm (Wr.size W90)))) (KpL.size E117))) RI.flat hB444 rfl rfl rfl (fun i x hi => lit1 (R := RI) (cs := [(Iv (ix - A_g.x))]) (y := ix - A_g.x)  rfl i x hi) (by first | (simp only [List.length_append, List.length_cons, List.length_nil]; omega) | omega) (Below.size E445)) ?_; rintro y' w453 ⟨gg454, hg455, K456, hO457⟩
      have hN458 : w20.heap.size ≤ gg454 := by rcases hg455 with h | h; exact h ▸ hN136; exact Nat.le_trans (Nat.le_trans (Nat.le_trans (Nat.le_trans (Nat.le_trans (Nat.le_trans (Nat.le_trans (Nat.le_trans (Nat.le_trans (Below.size E26) (Below.size E35)) (Below.size E43)) (Nat.le_of_eq (Eq.symm (Wr.size W49)))) (Nat.le_of_eq (Eq.symm (Wr.size W53)))) (Below.size E59)) (Below.size E78)) (Nat.le_of_eq (Eq.symm (Wr.size W90)))) (KpL.size E117)) h
      have g459 : w.heap.size ≤ gg454 := Nat.le_trans (Nat.le_trans (Below.size E16) (Below.size E19)) hN458
      have n460 : g_b ≠ gg454 := hg455.elim (fun h => by rw [h]; exact n138) (fun h => Nat.ne_of_lt (Nat.lt_of_lt_of_le n132 h))
      have n461 : b32 ≠ gg454 := hg455.elim (fun h => by rw [h]; exact n139) (fun h => Nat.ne_of_lt (Nat.lt_of_lt_of_le n133 h))
      have n462 : b40 ≠ gg454 := hg455.elim (fun h => by rw [h]; exact n140) (fun h => Nat.ne_of_lt (Nat.lt_of_lt_of_le n134 h))
      have n463 : b83 ≠ gg454 := hg455.elim (fun h => by rw [h]; exact n141) (fun h => Nat.ne_of_lt (Nat.lt_of_lt_of_le n135 h))
      have X464 := Below.kl X452 K456 (allS g459 all0) (Nat.le_refl _)
      obtain ⟨p465, q466, rfl⟩ := Own.shape hO457
      have hH467 : Hang w20.heap.size w453 (fun u => Sl RI 1 u (.slice p465 (((nbK A_g ix 1) ++ [ix - A_g.x]).length) q466) ((nbK A_g ix 1) ++ [ix - A_g.x])) := Own.hang hO457 RI.flat (by decide) hN136 (Nat.le_trans (Nat.le_trans (Nat.le_trans (Nat.le_trans (Nat.le_trans (Nat.le_trans (Nat.le_trans (Nat.le_trans (Below.size E26) (Below.size E35)) (Below.size E43)) (Nat.le_of_eq (Eq.symm (Wr.size W49)))) (Nat.le_of_eq (Eq.symm (Wr.size W53)))) (Below.size E59)) (Below.size E78)) (Nat.le_of_eq (Eq.symm (Wr.size W90)))) (KpL.size E117))
      show wpList _ _ _ _ (fr [_, _, _, _, _, _, _, _, _, _, _, _, _, _, _, _, _, _, _, _, _, _, _, _, _, _, _, _, _, _, _, _, _, _, _, _, _, _, _, _, _, _, _, _, _, _, _, _, _, _, _, _, _, _, _, _, _, _, _, _, _, _, _, _, _, _, _, _]) _
      refine q_is rfl rfl (does_assign (u := (.slice p465 (((nbK A_g ix 1) ++ [ix - A_g.x]).length) q466)) (ev rfl)) (by dsimp only [List.set]; try rfl) ?_
      have hO468 := Own.cast (ys := nbK A_g ix 2) hO457 (by first | exact nb_f0 (if_neg (by omega)) | exact nb_t0 (if_pos (by omega)) | exact nb_t (if_pos (by omega)) | exact nb_f (if_neg (by omega)))
      exact wpList_nil (J125 (fun t => (([(Pt g_b g_o), (Iv ix), Ud, Ud, (.slice none 0 0), (Pt b32 0), (Pt b40 0), (.slice p465 (((nbK A_g ix 1) ++ [ix - A_g.x]).length) q466), (Pt b83 0), (Iv 1), Ud, (Pt g_b g_o), (Iv ix), (.agg #[(Iv (ix % A_g.x)), (Iv (ix / A_g.x % A_g.y)), (Iv (ix / A_g.x / A_g.y))]), (Pt g_b g_o), (.agg #[(Iv A_g.x), (Iv A_g.y), (Iv A_g.z)]), (.slice (some ⟨b22, 0, none⟩) 0 0), v62, v63, v64, v65, v66, v67, v68, v69, v70, v71, v72, v73, v74, (.agg #[(Iv 1), (Iv A_g.x), (Iv (A_g.x * A_g.y))]), (Iv 1), (Bo true), (Iv 2), (Iv 1), (Iv 1), (Pt b32 1), (Iv (ix / A_g.x % A_g.y)), (Bo (icmp .gtr (ix / A_g.x % A_g.y) 0)), (.slice p120 ((nbK A_g ix 1).length) q121), (Iv ix), (Iv 1), (Pt b83 1), (Iv A_g.x), (Iv (ix - A_g.x)), (.slice (some ⟨b442, 0, none⟩) 1 1), (.slice p465 (((nbK A_g ix 1) ++ [ix - A_g.x]).length) q466), Ud, Ud, Ud, Ud, Ud, Ud, Ud, Ud, Ud, Ud, Ud, Ud, Ud, Ud, Ud, Ud, Ud, Ud, Ud, Ud, Ud] : List Value)[t]?).getD undef) (.slice p465 (((nbK A_g ix 1) ++ [ix - A_g.x]).length) q466) _ (KpL.more (KpL.ext (KpL.refl _ _) E445) K456 (allS (hg455.imp (fun h => by simp [h]) id) all0)) hO468)
    have c441' := c441
    (try simp only [icmp, Bool.and_eq_true, Bool.or_eq_true, Bool.and_eq_false_iff, Bool.or_eq_false_iff, Bool.not_eq_true', Bool.not_eq_false', decide_eq_true_eq, decide_eq_false_iff_not, beq_iff_eq, bne_iff_ne, beq_eq_false_iff_ne, bne_eq_false_iff_eq] at c441')
    have hO469 := Own.cast (ys := nbK A_g ix 2) hO131 (by first | exact nb_f0 (if_neg (by omega)) | exact nb_t0 (if_pos (by omega)) | exact nb_t (if_pos (by omega)) | exact nb_f (if_neg (by omega)))
    exact wp_skip (J125 (fun t => (([(Pt g_b g_o), (Iv ix), Ud, Ud, (.slice none 0 0), (Pt b32 0), (Pt b40 0), (.slice p120 ((nbK A_g ix 1).length) q121), (Pt b83 0), (Iv 1), Ud, (Pt g_b g_o), (Iv ix), (.agg #[(Iv (ix % A_g.x)), (Iv (ix / A_g.x % A_g.y)), (Iv (ix / A_g.x / A_g.y))]), (Pt g_b g_o), (.agg #[(Iv A_g.x), (Iv A_g.y), (Iv A_g.z)]), (.slice (some ⟨b22, 0, none⟩) 0 0), v62, v63, v64, v65, v66, v67, v68, v69, v70, v71, v72, v73, v74, (.agg #[(Iv 1), (Iv A_g.x), (Iv (A_g.x * A_g.y))]), (Iv 1), (Bo true), (Iv 2), (Iv 1), (Iv 1), (Pt b32 1), (Iv (ix / A_g.x % A_g.y)), (Bo (icmp .gtr (ix / A_g.x % A_g.y) 0)), (u100 39), (u100 40), (u100 41), (u100 42), (u100 43), (u100 44), (u100 45), (u100 46), Ud, Ud, Ud, Ud, Ud, Ud, Ud, Ud, Ud, Ud, Ud, Ud, Ud, Ud, Ud, Ud, Ud, Ud, Ud, Ud, Ud] : List Value)[t]?).getD undef) (.slice p120 ((nbK A_g ix 1).length) q121) _ (KpL.refl _ _) hO469)
  refine wp_cond_split (t := icmp .gtr (ix / A_g.x / A_g.y) 0) (ev rfl) (fun c470 => ?_) (fun c470 => ?_)
  · have c470' := c470
    (try simp only [icmp, Bool.and_eq_true, Bool.or_eq_true, Bool.and_eq_false_iff, Bool.or_eq_false_iff, Bool.not_eq_true', Bool.not_eq_false', decide_eq_true_eq, decide_eq_false_iff_not, beq_iff_eq, bne_iff_ne, beq_eq_false_iff_ne, bne_eq_false_iff_eq] at c470')
    refine wp_region_lit ?_
    refine q_is rfl rfl (does_move (u := (.slice (some ⟨b22, 0, none⟩) 0 0)) (ev rfl)) (by dsimp only [List.set]; try rfl) ?_
    refine q_is rfl rfl (does_move (u := (Iv ix)) (ev rfl)) (by dsimp only [List.set]; try rfl) ?_
    refine q_is rfl rfl (does_move (u := (Iv 2)) (ev rfl)) (by dsimp only [List.set]; try rfl) ?_
    refine q_is rfl rfl (does_indexAt_run (r := (Pt b83 2)) (ev rfl) (ev rfl) (fun w => ia88_2 _ _ w)) (by dsimp only [List.set]; try rfl) ?_
    refine q_is rfl rfl (does_load (u := (Iv (A_g.x * A_g.y))) (ev rfl) Try.isAgg2 (Cells.at (Blk.cells hB91) 2 rfl)) (by dsimp only [List.set]; try rfl) ?_
    refine q_is rfl rfl (does_iarith (p := ix) (q := A_g.x * A_g.y) (r := ix - (A_g.x * A_g.y)) (ev rfl) (ev rfl) (.inr (.inl ⟨rfl, (in_i64 (by omega) (by omega)).symm⟩))) (by dsimp only [List.set]; try rfl) ?_
    refine seqd rfl rfl (does_buildSlice (e := 2) (parts' := [(0, (Iv (ix - (A_g.x * A_g.y))))]) (cells := [(Iv (ix - (A_g.x * A_g.y)))]) (evp rfl) (fun _ => by kernel_rfl)) ?_; rintro _ w475 ⟨b471, rfl, hb472, hB473, E474⟩
    have n476 : g_b < b471 := Nat.lt_of_lt_of_le (cell_lt (Cells.at (hc_g.ext X93) 0 rfl)) hb472
    have n477 : b32 < b471 := Nat.lt_of_lt_of_le (Blk.lt ((((hB50.wr W53 (Nat.ne_of_lt n46)).ext E59).ext E78).wr W90 (Nat.ne_of_lt n87))) hb472
    have n478 : b40 < b471 := Nat.lt_of_lt_of_le (Blk.lt (((hB54.ext E59).ext E78).wr W90 (Nat.ne_of_lt n88))) hb472
    have n479 : b83 < b471 := Nat.lt_of_lt_of_le (Blk.lt hB91) hb472
    have g480 : w.heap.size ≤ b471 := Nat.le_trans (Below.size X93) hb472
    have X481 := Ext.gr X93 E474
    show wpList _ _ _ _ (fr [_, _, _, _, _, _, _, _, _, _, _, _, _, _, _, _, _, _, _, _, _, _, _, _, _, _, _, _, _, _, _, _, _, _, _, _, _, _, _, _, _, _, _, _, _, _, _, _, _, _, _, _, _, _, _, _, _, _, _, _, _, _, _, _, _, _, _, _]) _
    refine seqd rfl rfl (does_append (R := RI) (k := 1) (g0 := gg101) (B := w92.heap.size) (xs := ([])) (ys := [ix - (A_g.x * A_g.y)]) Try.underlying27 inf2 rfl (by decide) (ev rfl) (ev rfl) (Own.same hO104 RI.flat ((Same.refl _ _).ext E474) hN109 (Nat.le_trans (Nat.le_trans (Nat.le_trans (Nat.le_trans (Nat.le_trans (Nat.le_trans (Nat.le_trans (Below.size E26) (Below.size E35)) (Below.size E43)) (Nat.le_of_eq (Eq.symm (Wr.size W49)))) (Nat.le_of_eq (Eq.symm (Wr.size W53)))) (Below.size E59)) (Below.size E78)) (Nat.le_of_eq (Eq.symm (Wr.size W90))))) RI.flat hB473 rfl rfl rfl (fun i x hi => lit1 (R := RI) (cs := [(Iv (ix - (A_g.x * A_g.y)))]) (y := ix - (A_g.x * A_g.y))  rfl i x hi) (by first | (simp only [List.length_append, List.length_cons, List.length_nil]; omega) | omega) (Below.size E474)) ?_; rintro y' w482 ⟨gg483, hg484, K485, hO486⟩
    have hN487 : w20.heap.size ≤ gg483 := by rcases hg484 with h | h; exact h ▸ hN109; exact Nat.le_trans (Nat.le_trans (Nat.le_trans (Nat.le_trans (Nat.le_trans (Nat.le_trans (Nat.le_trans (Nat.le_trans (Below.size E26) (Below.size E35)) (Below.size E43)) (Nat.le_of_eq (Eq.symm (Wr.size W49)))) (Nat.le_of_eq (Eq.symm (Wr.size W53)))) (Below.size E59)) (Below.size E78)) (Nat.le_of_eq (Eq.symm (Wr.size W90)))) h
    have g488 : w.heap.size ≤ gg483 := Nat.le_trans (Nat.le_trans (Below.size E16) (Below.size E19)) hN487
    have n489 : g_b ≠ gg483 := hg484.elim (fun h => by rw [h]; exact (Nat.ne_of_lt (Nat.lt_of_lt_of_le n28 hN109))) (fun h => Nat.ne_of_lt (Nat.lt_of_lt_of_le n105 h))
    have n490 : b32 ≠ gg483 := hg484.elim (fun h => by rw [h]; exact (Nat.ne_of_gt n112)) (fun h => Nat.ne_of_lt (Nat.lt_of_lt_of_le n106 h))
    have n491 : b40 ≠ gg483 := hg484.elim (fun h => by rw [h]; exact (Nat.ne_of_gt n113)) (fun h => Nat.ne_of_lt (Nat.lt_of_lt_of_le n107 h))
    have n492 : b83 ≠ gg483 := hg484.elim (fun h => by rw [h]; exact (Nat.ne_of_gt n114)) (fun h => Nat.ne_of_lt (Nat.lt_of_lt_of_le n108 h))
    have X493 := Below.kl X481 K485 (allS g488 all0) (Nat.le_refl _)
    replace hO486 := hO486.cast (List.nil_append _)
    obtain ⟨p494, q495, rfl⟩ := Own.shape hO486
    have hH496 : Hang w20.heap.size w482 (fun u => Sl RI 1 u (.slice p494 (([ix - (A_g.x * A_g.y)]).length) q495) ([ix - (A_g.x * A_g.y)])) := Own.hang hO486 RI.flat (by decide) hN109 (Nat.le_trans (Nat.le_trans (Nat.le_trans (Nat.le_trans (Nat.le_trans (Nat.le_trans (Nat.le_trans (Below.size E26) (Below.size E35)) (Below.size E43)) (Nat.le_of_eq (Eq.symm (Wr.size W49)))) (Nat.le_of_eq (Eq.symm (Wr.size W53)))) (Below.size E59)) (Below.size E78)) (Nat.le_of_eq (Eq.symm (Wr.size W90))))
    show wpList _ _ _ _ (fr [_, _, _, _, _, _, _, _, _, _, _, _, _, _, _, _, _, _, _, _, _, _, _, _, _, _, _, _, _, _, _, _, _, _, _, _, _, _, _, _, _, _, _, _, _, _, _, _, _, _, _, _, _, _, _, _, _, _, _, _, _, _, _, _, _, _, _, _]) _
    refine q_is rfl rfl (does_assign (u := (.slice p494 (([ix - (A_g.x * A_g.y)]).length) q495)) (ev rfl)) (by dsimp only [List.set]; try rfl) ?_
    have hO497 := Own.cast (ys := nbK A_g ix 1) hO486 (by first | exact nb_f0 (if_neg (by omega)) | exact nb_t0 (if_pos (by omega)) | exact nb_t (if_pos (by omega)) | exact nb_f (if_neg (by omega)))
    exact wpList_nil (J98 (fun t => (([(Pt g_b g_o), (Iv ix), Ud, Ud, (.slice none 0 0), (Pt b32 0), (Pt b40 0), (.slice p494 (([ix - (A_g.x * A_g.y)]).length) q495), (Pt b83 0), (Iv 2), Ud, (Pt g_b g_o), (Iv ix), (.agg #[(Iv (ix % A_g.x)), (Iv (ix / A_g.x % A_g.y)), (Iv (ix / A_g.x / A_g.y))]), (Pt g_b g_o), (.agg #[(Iv A_g.x), (Iv A_g.y), (Iv A_g.z)]), (.slice (some ⟨b22, 0, none⟩) 0 0), v62, v63, v64, v65, v66, v67, v68, v69, v70, v71, v72, v73, v74, (.agg #[(Iv 1), (Iv A_g.x), (Iv (A_g.x * A_g.y))]), (Iv 2), (Bo true), Ud, Ud, (Iv 2), (Pt b32 2), (Iv (ix / A_g.x / A_g.y)), (Bo (icmp .gtr (ix / A_g.x / A_g.y) 0)), (.slice (some ⟨b22, 0, none⟩) 0 0), (Iv ix), (Iv 2), (Pt b83 2), (Iv (A_g.x * A_g.y)), (Iv (ix - (A_g.x * A_g.y))), (.slice (some ⟨b471, 0, none⟩) 1 1), (.slice p494 (([ix - (A_g.x * A_g.y)]).length) q495), Ud, Ud, Ud, Ud, Ud, Ud, Ud, Ud, Ud, Ud, Ud, Ud, Ud, Ud, Ud, Ud, Ud, Ud, Ud, Ud, Ud] : List Value)[t]?).getD undef) (.slice p494 (([ix - (A_g.x * A_g.y)]).length) q495) _ (KpL.more (KpL.ext (KpL.refl _ _) E474) K485 (allS (hg484.imp (fun h => by simp [h]) id) all0)) hO497)
  have c470' := c470
  (try simp only [icmp, Bool.and_eq_true, Bool.or_eq_true, Bool.and_eq_false_iff, Bool.or_eq_false_iff, Bool.not_eq_true', Bool.not_eq_false', decide_eq_true_eq, decide_eq_false_iff_not, beq_iff_eq, bne_iff_ne, beq_eq_false_iff_ne, bne_eq_false_iff_eq] at c470')
  have hO498 := Own.cast (ys := nbK A_g ix 1) hO104 (by first | exact nb_f0 (if_neg (by omega)) | exact nb_t0 (if_pos (by omega)) | exact nb_t (if_pos (by omega)) | exact nb_f (if_neg (by omega)))
  exact wp_skip (J98 (fun t => (([(Pt g_b g_o), (Iv ix), Ud, Ud, (.slice none 0 0), (Pt b32 0), (Pt b40 0), (.slice (some ⟨b22, 0, none⟩) 0 0), (Pt b83 0), (Iv 2), Ud, (Pt g_b g_o), (Iv ix), (.agg #[(Iv (ix % A_g.x)), (Iv (ix / A_g.x % A_g.y)), (Iv (ix / A_g.x / A_g.y))]), (Pt g_b g_o), (.agg #[(Iv A_g.x), (Iv A_g.y), (Iv A_g.z)]), (.slice (some ⟨b22, 0, none⟩) 0 0), v62, v63, v64, v65, v66, v67, v68, v69, v70, v71, v72, v73, v74, (.agg #[(Iv 1), (Iv A_g.x), (Iv (A_g.x * A_g.y))]), (Iv 2), (Bo true), Ud, Ud, (Iv 2), (Pt b32 2), (Iv (ix / A_g.x / A_g.y)), (Bo (icmp .gtr (ix / A_g.x / A_g.y) 0)), Ud, Ud, Ud, Ud, Ud, Ud, Ud, Ud, Ud, Ud, Ud, Ud, Ud, Ud, Ud, Ud, Ud, Ud, Ud, Ud, Ud, Ud, Ud, Ud, Ud, Ud, Ud, Ud, Ud] : List Value)[t]?).getD undef) (.slice (some ⟨b22, 0, none⟩) 0 0) _ (KpL.refl _ _) hO498)

/- impl.PartsInside -/
theorem c_impl_PartsInside (g : List Value) (A_g : GridT) (w : World) (hv_g : RGridT w A_g g) : Gives Try.prog 17 #[(.agg g.toArray)] w (fun v w' => ∃ y_1 : Value, ∃ Lw_2 : List Nat, v = (.tuple #[y_1, (Iv ((prtG A_g).2)), (Bo (isGrid A_g))]) ∧ Hang w.heap.size w' (fun u => Sl RI 1 u y_1 ((prtG A_g).1)) ∧ WL 1 w.heap.size w' Lw_2 y_1 ((prtG A_g).1).length) := by
  obtain ⟨r1, r3, r5, r7, y9, rfl, h2, h4, h6, h8, h10⟩ := hv_g
  have hs13 := h10; have hs13l := Sl.len h10; obtain ⟨p11, q12, rfl⟩ := Sl.shape h10
  refine enter [(.agg #[(Fl r1), (Fl r3), (Fl r5), (Fl r7), (Iv A_g.x), (Iv A_g.y), (Iv A_g.z), (.slice p11 A_g.vals.length q12)]), Ud, Ud, Ud, Ud, Ud, Ud, Ud, Ud, Ud, Ud, Ud, Ud, Ud, Ud, Ud, Ud, Ud, Ud, Ud, Ud] Try.func17 rfl Try.ntmps17 rfl ?_
  refine wp_seq_k fun K14 hK14 => ?_
  refine wp_region_lit ?_
  refine seqd rfl rfl (does_box (u := (.agg #[(Fl r1), (Fl r3), (Fl r5), (Fl r7), (Iv A_g.x), (Iv A_g.y), (Iv A_g.z), (.slice p11 A_g.vals.length q12)])) (ev rfl)) ?_; rintro _ w19 ⟨b15, rfl, hb16, hB17, E18⟩
  have g20 : w.heap.size ≤ b15 := Nat.le_trans (Below.size (Ext.refl w)) hb16
  change Blk _ _ [(Fl r1), (Fl r3), (Fl r5), (Fl r7), (Iv A_g.x), (Iv A_g.y), (Iv A_g.z), (.slice p11 A_g.vals.length q12)] at hB17
  have X21 := Ext.gr (Ext.refl w) E18
  show wpList _ _ _ _ (fr [(.agg #[(Fl r1), (Fl r3), (Fl r5), (Fl r7), (Iv A_g.x), (Iv A_g.y), (Iv A_g.z), (.slice p11 A_g.vals.length q12)]), (Pt b15 0), Ud, Ud, Ud, Ud, Ud, Ud, Ud, Ud, Ud, Ud, Ud, Ud, Ud, Ud, Ud, Ud, Ud, Ud, Ud]) _
  refine q_is (l' := [(.agg #[(Fl r1), (Fl r3), (Fl r5), (Fl r7), (Iv A_g.x), (Iv A_g.y), (Iv A_g.z), (.slice p11 A_g.vals.length q12)]), (Pt b15 0), (.slice none 0 0), Ud, Ud, Ud, Ud, Ud, Ud, Ud, Ud, Ud, Ud, Ud, Ud, Ud, Ud, Ud, Ud, Ud, Ud]) rfl rfl (does_assign (u := (.slice none 0 0)) (ev rfl)) rfl ?_
  refine q_is (l' := [(.agg #[(Fl r1), (Fl r3), (Fl r5), (Fl r7), (Iv A_g.x), (Iv A_g.y), (Iv A_g.z), (.slice p11 A_g.vals.length q12)]), (Pt b15 0), (.slice none 0 0), (Iv 0), Ud, Ud, Ud, Ud, Ud, Ud, Ud, Ud, Ud, Ud, Ud, Ud, Ud, Ud, Ud, Ud, Ud]) rfl rfl (does_assign (u := (Iv 0)) (ev rfl)) rfl ?_
  refine q_is (l' := [(.agg #[(Fl r1), (Fl r3), (Fl r5), (Fl r7), (Iv A_g.x), (Iv A_g.y), (Iv A_g.z), (.slice p11 A_g.vals.length q12)]), (Pt b15 0), (.slice none 0 0), (Iv 0), (Bo false), Ud, Ud, Ud, Ud, Ud, Ud, Ud, Ud, Ud, Ud, Ud, Ud, Ud, Ud, Ud, Ud]) rfl rfl (does_assign (u := (Bo false)) (ev rfl)) rfl ?_
  refine wpList_nil (hK14 _ _ ?_)
  refine wp_seq_k fun K22 hK22 => ?_
  refine wp_seq_k fun K23 hK23 => ?_
  refine wp_region_lit ?_
  refine q_is (l' := [(.agg #[(Fl r1), (Fl r3), (Fl r5), (Fl r7), (Iv A_g.x), (Iv A_g.y), (Iv A_g.z), (.slice p11 A_g.vals.length q12)]), (Pt b15 0), (.slice none 0 0), (Iv 0), (Bo false), Ud, Ud, (.agg #[(Fl r1), (Fl r3), (Fl r5), (Fl r7), (Iv A_g.x), (Iv A_g.y), (Iv A_g.z), (.slice p11 A_g.vals.length q12)]), Ud, Ud, Ud, Ud, Ud, Ud, Ud, Ud, Ud, Ud, Ud, Ud, Ud]) rfl rfl (does_loadAgg (cs := [(Fl r1), (Fl r3), (Fl r5), (Fl r7), (Iv A_g.x), (Iv A_g.y), (Iv A_g.z), (.slice p11 A_g.vals.length q12)]) (ev rfl) Try.isAgg49 Try.sizeOf49 (Blk.cells hB17) rfl) rfl ?_
  refine seqd rfl rfl (does_call (args := #[(.agg #[(Fl r1), (Fl r3), (Fl r5), (Fl r7), (Iv A_g.x), (Iv A_g.y), (Iv A_g.z), (.slice p11 A_g.vals.length q12)])]) cal39 (evs rfl) (c_impl_ValidGrid [(Fl r1), (Fl r3), (Fl r5), (Fl r7), (Iv A_g.x), (Iv A_g.y), (Iv A_g.z), (.slice p11 A_g.vals.length q12)] A_g _ ⟨r1, r3, r5, r7, (.slice p11 A_g.vals.length q12), rfl, h2, h4, h6, h8, (Sl.ext hs13 RF.mono X21)⟩)) ?_; rintro _ w25 ⟨E24, rfl⟩
  have X26 := Ext.gr X21 E24
  show wpList _ _ _ _ (fr [(.agg #[(Fl r1), (Fl r3), (Fl r5), (Fl r7), (Iv A_g.x), (Iv A_g.y), (Iv A_g.z), (.slice p11 A_g.vals.length q12)]), (Pt b15 0), (.slice none 0 0), (Iv 0), (Bo false), Ud, Ud, (.agg #[(Fl r1), (Fl r3), (Fl r5), (Fl r7), (Iv A_g.x), (Iv A_g.y), (Iv A_g.z), (.slice p11 A_g.vals.length q12)]), (Bo (isGrid A_g)), Ud, Ud, Ud, Ud, Ud, Ud, Ud, Ud, Ud, Ud, Ud, Ud]) _
  refine q_is (l' := [(.agg #[(Fl r1), (Fl r3), (Fl r5), (Fl r7), (Iv A_g.x), (Iv A_g.y), (Iv A_g.z), (.slice p11 A_g.vals.length q12)]), (Pt b15 0), (.slice none 0 0), (Iv 0), (Bo false), Ud, Ud, (.agg #[(Fl r1), (Fl r3), (Fl r5), (Fl r7), (Iv A_g.x), (Iv A_g.y), (Iv A_g.z), (.slice p11 A_g.vals.length q12)]), (Bo (isGrid A_g)), (Bo (!(isGrid A_g))), Ud, Ud, Ud, Ud, Ud, Ud, Ud, Ud, Ud, Ud, Ud]) rfl rfl (does_not (ev rfl)) rfl ?_
  refine wpList_nil (hK23 _ _ ?_)
  refine wp_cond_split (t := !(isGrid A_g)) (ev rfl) (fun c27 => ?_) (fun c27 => ?_)
  · rw [Bool.not_eq_true'] at c27
    have c27' := c27
    have hgf : isGrid A_g = false := c27
    refine wp_seq_k fun K28 hK28 => ?_
    refine wp_region_lit ?_
    refine q_is (l' := [(.agg #[(Fl r1), (Fl r3), (Fl r5), (Fl r7), (Iv A_g.x), (Iv A_g.y), (Iv A_g.z), (.slice p11 A_g.vals.length q12)]), (Pt b15 0), (.slice none 0 0), (Iv 0), (Bo false), Ud, Ud, (.agg #[(Fl r1), (Fl r3), (Fl r5), (Fl r7), (Iv A_g.x), (Iv A_g.y), (Iv A_g.z), (.slice p11 A_g.vals.length q12)]), (Bo (isGrid A_g)), (Bo (!(isGrid A_g))), Ud, Ud, Ud, Ud, Ud, Ud, Ud, Ud, Ud, Ud, Ud]) rfl rfl (does_assign (u := (.slice none 0 0)) (ev rfl)) rfl ?_
    refine q_is (l' := [(.agg #[(Fl r1), (Fl r3), (Fl r5), (Fl r7), (Iv A_g.x), (Iv A_g.y), (Iv A_g.z), (.slice p11 A_g.vals.length q12)]), (Pt b15 0), (.slice none 0 0), (Iv 0), (Bo false), Ud, Ud, (.agg #[(Fl r1), (Fl r3), (Fl r5), (Fl r7), (Iv A_g.x), (Iv A_g.y), (Iv A_g.z), (.slice p11 A_g.vals.length q12)]), (Bo (isGrid A_g)), (Bo (!(isGrid A_g))), Ud, Ud, Ud, Ud, Ud, Ud, Ud, Ud, Ud, Ud, Ud]) rfl rfl (does_assign (u := (Iv 0)) (ev rfl)) rfl ?_
    refine q_is (l' := [(.agg #[(Fl r1), (Fl r3), (Fl r5), (Fl r7), (Iv A_g.x), (Iv A_g.y), (Iv A_g.z), (.slice p11 A_g.vals.length q12)]), (Pt b15 0), (.slice none 0 0), (Iv 0), (Bo false), Ud, Ud, (.agg #[(Fl r1), (Fl r3), (Fl r5), (Fl r7), (Iv A_g.x), (Iv A_g.y), (Iv A_g.z), (.slice p11 A_g.vals.length q12)]), (Bo (isGrid A_g)), (Bo (!(isGrid A_g))), Ud, Ud, Ud, Ud, Ud, Ud, Ud, Ud, Ud, Ud, Ud]) rfl rfl (does_assign (u := (Bo false)) (ev rfl)) rfl ?_
    refine wpList_nil (hK28 _ _ ?_)
    refine wp_ret ?_
    dsimp only [Exit.then, Exit.inBlock]
    refine ret_val (v := (.tuple #[(.slice none 0 0), (Iv 0), (Bo false)])) (res_TTT rfl (slot rfl) (slot rfl) (slot rfl)) X26 ?_
    try simp only [h2, h4, h6, h8] at c27
    have x29 : ((prtG A_g).2 : Int) = 0 := by first | exact hgf | exact hgt | (rw [prtG_f hgf]; done) | (rw [prtG_f hgf]; rfl) | (rw [prtG_t hgt]; (try simp only [Int.toNat_natCast]); done) | (rw [prtG_t hgt, show k = A_g.vals.length by omega])
    have x30 : (isGrid A_g) = false := by first | exact hgf | exact hgt | (rw [prtG_f hgf]; done) | (rw [prtG_f hgf]; rfl) | (rw [prtG_t hgt]; (try simp only [Int.toNat_natCast]); done) | (rw [prtG_t hgt, show k = A_g.vals.length by omega])
    have x31 : ([]) = ((prtG A_g).1) := by first | exact hgf | exact hgt | (rw [prtG_f hgf]; done) | (rw [prtG_f hgf]; rfl) | (rw [prtG_t hgt]; (try simp only [Int.toNat_natCast]); done) | (rw [prtG_t hgt, show k = A_g.vals.length by omega])
    have x32 : ([]) = ((prtG A_g).1) := by first | exact hgf | exact hgt | (rw [prtG_f hgf]; done) | (rw [prtG_f hgf]; rfl) | (rw [prtG_t hgt]; (try simp only [Int.toNat_natCast]); done) | (rw [prtG_t hgt, show k = A_g.vals.length by omega])
    exact ⟨(.slice none 0 0), [], (by first | with_reducible rfl | rw [x29, x30] | rw [x30, x29] | rfl), (Hang.castL (Sl.hang_nil _ _ _ _) x31), (WL.cast (WL.nil _ _ _) (congrArg List.length x32))⟩
  rw [Bool.not_eq_false'] at c27
  have c27' := c27
  have hgt : isGrid A_g = true := c27
  have hgc := isGrid_cnt hgt
  have hgp := grG_pos hgt
  refine wp_skip (hK22 _ _ ?_)
  refine wp_seq_k fun K33 hK33 => ?_
  refine wp_region_lit ?_
  refine q_is (l' := [(.agg #[(Fl r1), (Fl r3), (Fl r5), (Fl r7), (Iv A_g.x), (Iv A_g.y), (Iv A_g.z), (.slice p11 A_g.vals.length q12)]), (Pt b15 0), (.slice none 0 0), (Iv 0), (Bo false), Ud, Ud, (.agg #[(Fl r1), (Fl r3), (Fl r5), (Fl r7), (Iv A_g.x), (Iv A_g.y), (Iv A_g.z), (.slice p11 A_g.vals.length q12)]), (Bo (isGrid A_g)), (Bo (!(isGrid A_g))), Ud, (Pt b15 7), Ud, Ud, Ud, Ud, Ud, Ud, Ud, Ud, Ud]) rfl rfl (does_fieldAddr (ev rfl) fa49_5) rfl ?_
  refine q_is (l' := [(.agg #[(Fl r1), (Fl r3), (Fl r5), (Fl r7), (Iv A_g.x), (Iv A_g.y), (Iv A_g.z), (.slice p11 A_g.vals.length q12)]), (Pt b15 0), (.slice none 0 0), (Iv 0), (Bo false), Ud, Ud, (.agg #[(Fl r1), (Fl r3), (Fl r5), (Fl r7), (Iv A_g.x), (Iv A_g.y), (Iv A_g.z), (.slice p11 A_g.vals.length q12)]), (Bo (isGrid A_g)), (Bo (!(isGrid A_g))), Ud, (Pt b15 7), (.slice p11 A_g.vals.length q12), Ud, Ud, Ud, Ud, Ud, Ud, Ud, Ud]) rfl rfl (does_load (u := (.slice p11 A_g.vals.length q12)) (ev rfl) Try.isAgg42 (Cells.at (Blk.cells (hB17.ext E24)) 7 rfl)) rfl ?_
  refine q_is (l' := [(.agg #[(Fl r1), (Fl r3), (Fl r5), (Fl r7), (Iv A_g.x), (Iv A_g.y), (Iv A_g.z), (.slice p11 A_g.vals.length q12)]), (Pt b15 0), (.slice none 0 0), (Iv 0), (Bo false), Ud, Ud, (.agg #[(Fl r1), (Fl r3), (Fl r5), (Fl r7), (Iv A_g.x), (Iv A_g.y), (Iv A_g.z), (.slice p11 A_g.vals.length q12)]), (Bo (isGrid A_g)), (Bo (!(isGrid A_g))), Ud, (Pt b15 7), (.slice p11 A_g.vals.length q12), (Iv (A_g.vals.length : Int)), Ud, Ud, Ud, Ud, Ud, Ud, Ud]) rfl rfl (does_len_slice Try.underlying42 (ev rfl)) rfl ?_
  refine q_is (l' := [(.agg #[(Fl r1), (Fl r3), (Fl r5), (Fl r7), (Iv A_g.x), (Iv A_g.y), (Iv A_g.z), (.slice p11 A_g.vals.length q12)]), (Pt b15 0), (.slice none 0 0), (Iv 0), (Bo false), Ud, Ud, (.agg #[(Fl r1), (Fl r3), (Fl r5), (Fl r7), (Iv A_g.x), (Iv A_g.y), (Iv A_g.z), (.slice p11 A_g.vals.length q12)]), (Bo (isGrid A_g)), (Bo (!(isGrid A_g))), Ud, (Pt b15 7), (.slice p11 A_g.vals.length q12), (Iv (A_g.vals.length : Int)), (.func (.func 40) #[] #[(Pt b15 0)]), Ud, Ud, Ud, Ud, Ud, Ud]) rfl rfl (does_makeFunc (u := (.func (.func 40) #[] #[(Pt b15 0)])) (evs rfl) (evs rfl) rfl) rfl ?_
  refine q_is (l' := [(.agg #[(Fl r1), (Fl r3), (Fl r5), (Fl r7), (Iv A_g.x), (Iv A_g.y), (Iv A_g.z), (.slice p11 A_g.vals.length q12)]), (Pt b15 0), (.slice none 0 0), (Iv 0), (Bo false), Ud, Ud, (.agg #[(Fl r1), (Fl r3), (Fl r5), (Fl r7), (Iv A_g.x), (Iv A_g.y), (Iv A_g.z), (.slice p11 A_g.vals.length q12)]), (Bo (isGrid A_g)), (Bo (!(isGrid A_g))), Ud, (Pt b15 7), (.slice p11 A_g.vals.length q12), (Iv (A_g.vals.length : Int)), (.func (.func 40) #[] #[(Pt b15 0)]), (.func (.func 41) #[(Pt b15 0)] #[]), Ud, Ud, Ud, Ud, Ud]) rfl rfl (does_makeFunc (u := (.func (.func 41) #[(Pt b15 0)] #[])) (evs rfl) (evs rfl) rfl) rfl ?_
  refine seqd rfl rfl (does_call (args := #[(Iv (A_g.vals.length : Int)), (.func (.func 40) #[] #[(Pt b15 0)]), (.func (.func 41) #[(Pt b15 0)] #[])]) cal27 (evs rfl) (c_impl_numbered A_g.vals.length (.func (.func 40) #[] #[(Pt b15 0)]) (fun y => 0 ≤ y ∧ y < A_g.vals.length) (fun y => negAt A_g y) (.func (.func 41) #[(Pt b15 0)] #[]) (fun y => 0 ≤ y ∧ y < A_g.vals.length) (fun y => (nb A_g y)) _ ⟨40, #[], #[(Pt b15 0)], rfl, cal40, fun y u hD hu' => by simpa using (c_impl_PartsInside_1 y b15 0 [(Fl r1), (Fl r3), (Fl r5), (Fl r7), (Iv A_g.x), (Iv A_g.y), (Iv A_g.z), (.slice p11 A_g.vals.length q12)] A_g u (Blk.cells ((hB17.ext E24).ext hu')) ⟨r1, r3, r5, r7, (.slice p11 A_g.vals.length q12), rfl, h2, h4, h6, h8, (Sl.ext (Sl.ext hs13 RF.mono X26) RF.mono hu')⟩ (by first | exact hD | omega))⟩ ⟨41, #[(Pt b15 0)], #[], rfl, cal41, fun y u hD hu' => by simpa using (c_impl_Grid_neighbours b15 0 [(Fl r1), (Fl r3), (Fl r5), (Fl r7), (Iv A_g.x), (Iv A_g.y), (Iv A_g.z), (.slice p11 A_g.vals.length q12)] A_g y u (Blk.cells ((hB17.ext E24).ext hu')) ⟨r1, r3, r5, r7, (.slice p11 A_g.vals.length q12), rfl, h2, h4, h6, h8, (Sl.ext (Sl.ext hs13 RF.mono X26) RF.mono hu')⟩ (by exact hgt) (by first | exact hD | omega))⟩ (by omega) (by exact grG hgt) (by exact fun y hy => hy) (by exact fun y hy _ => hy) (by exact fun y _ => Nat.le_trans (nbK_len A_g y 6) (by decide)))) ?_; rintro _ w35 ⟨E34, ⟨y37, Lw38, rfl, hh36, hw39⟩⟩
  have X40 := Ext.gr X26 E34
  have n41 : b15 < w25.heap.size := Blk.lt (hB17.ext E24)
  obtain ⟨p42, q43, rfl⟩ := Sl.shape hh36.get
  have hw44 : WL 1 w25.heap.size w35 Lw38 (.slice p42 (((numTo A_g.vals.length (fun y => negAt A_g y) (fun y => (nb A_g y)) A_g.vals.length).1).length) q43) ((numTo A_g.vals.length (fun y => negAt A_g y) (fun y => (nb A_g y)) A_g.vals.length).1).length := hw39
  show wpList _ _ _ _ (fr [(.agg #[(Fl r1), (Fl r3), (Fl r5), (Fl r7), (Iv A_g.x), (Iv A_g.y), (Iv A_g.z), (.slice p11 A_g.vals.length q12)]), (Pt b15 0), (.slice none 0 0), (Iv 0), (Bo false), Ud, Ud, (.agg #[(Fl r1), (Fl r3), (Fl r5), (Fl r7), (Iv A_g.x), (Iv A_g.y), (Iv A_g.z), (.slice p11 A_g.vals.length q12)]), (Bo (isGrid A_g)), (Bo (!(isGrid A_g))), Ud, (Pt b15 7), (.slice p11 A_g.vals.length q12), (Iv (A_g.vals.length : Int)), (.func (.func 40) #[] #[(Pt b15 0)]), (.func (.func 41) #[(Pt b15 0)] #[]), (.tuple #[(.slice p42 (((numTo A_g.vals.length (fun y => negAt A_g y) (fun y => (nb A_g y)) A_g.vals.length).1).length) q43), (Iv ((numTo A_g.vals.length (fun y => negAt A_g y) (fun y => (nb A_g y)) A_g.vals.length).2))]), Ud, Ud, Ud, Ud]) _
  refine q_is (l' := [(.agg #[(Fl r1), (Fl r3), (Fl r5), (Fl r7), (Iv A_g.x), (Iv A_g.y), (Iv A_g.z), (.slice p11 A_g.vals.length q12)]), (Pt b15 0), (.slice none 0 0), (Iv 0), (Bo false), Ud, Ud, (.agg #[(Fl r1), (Fl r3), (Fl r5), (Fl r7), (Iv A_g.x), (Iv A_g.y), (Iv A_g.z), (.slice p11 A_g.vals.length q12)]), (Bo (isGrid A_g)), (Bo (!(isGrid A_g))), (.tuple #[(.slice p42 (((numTo A_g.vals.length (fun y => negAt A_g y) (fun y => (nb A_g y)) A_g.vals.length).1).length) q43), (Iv ((numTo A_g.vals.length (fun y => negAt A_g y) (fun y => (nb A_g y)) A_g.vals.length).2))]), (Pt b15 7), (.slice p11 A_g.vals.length q12), (Iv (A_g.vals.length : Int)), (.func (.func 40) #[] #[(Pt b15 0)]), (.func (.func 41) #[(Pt b15 0)] #[]), (.tuple #[(.slice p42 (((numTo A_g.vals.length (fun y => negAt A_g y) (fun y => (nb A_g y)) A_g.vals.length).1).length) q43), (Iv ((numTo A_g.vals.length (fun y => negAt A_g y) (fun y => (nb A_g y)) A_g.vals.length).2))]), Ud, Ud, Ud, Ud]) rfl rfl (does_move (u := (.tuple #[(.slice p42 (((numTo A_g.vals.length (fun y => negAt A_g y) (fun y => (nb A_g y)) A_g.vals.length).1).length) q43), (Iv ((numTo A_g.vals.length (fun y => negAt A_g y) (fun y => (nb A_g y)) A_g.vals.length).2))])) (ev rfl)) rfl ?_
  refine q_is (l' := [(.agg #[(Fl r1), (Fl r3), (Fl r5), (Fl r7), (Iv A_g.x), (Iv A_g.y), (Iv A_g.z), (.slice p11 A_g.vals.length q12)]), (Pt b15 0), (.slice none 0 0), (Iv 0), (Bo false), Ud, Ud, (.agg #[(Fl r1), (Fl r3), (Fl r5), (Fl r7), (Iv A_g.x), (Iv A_g.y), (Iv A_g.z), (.slice p11 A_g.vals.length q12)]), (Bo (isGrid A_g)), (Bo (!(isGrid A_g))), (.tuple #[(.slice p42 (((numTo A_g.vals.length (fun y => negAt A_g y) (fun y => (nb A_g y)) A_g.vals.length).1).length) q43), (Iv ((numTo A_g.vals.length (fun y => negAt A_g y) (fun y => (nb A_g y)) A_g.vals.length).2))]), (Pt b15 7), (.slice p11 A_g.vals.length q12), (Iv (A_g.vals.length : Int)), (.func (.func 40) #[] #[(Pt b15 0)]), (.func (.func 41) #[(Pt b15 0)] #[]), (.tuple #[(.slice p42 (((numTo A_g.vals.length (fun y => negAt A_g y) (fun y => (nb A_g y)) A_g.vals.length).1).length) q43), (Iv ((numTo A_g.vals.length (fun y => negAt A_g y) (fun y => (nb A_g y)) A_g.vals.length).2))]), (.slice p42 (((numTo A_g.vals.length (fun y => negAt A_g y) (fun y => (nb A_g y)) A_g.vals.length).1).length) q43), Ud, Ud, Ud]) rfl rfl (does_extract (vs := #[(.slice p42 (((numTo A_g.vals.length (fun y => negAt A_g y) (fun y => (nb A_g y)) A_g.vals.length).1).length) q43), (Iv ((numTo A_g.vals.length (fun y => negAt A_g y) (fun y => (nb A_g y)) A_g.vals.length).2))]) (u := (.slice p42 (((numTo A_g.vals.length (fun y => negAt A_g y) (fun y => (nb A_g y)) A_g.vals.length).1).length) q43)) (ev rfl) rfl) rfl ?_
  refine q_is (l' := [(.agg #[(Fl r1), (Fl r3), (Fl r5), (Fl r7), (Iv A_g.x), (Iv A_g.y), (Iv A_g.z), (.slice p11 A_g.vals.length q12)]), (Pt b15 0), (.slice none 0 0), (Iv 0), (Bo false), Ud, Ud, (.agg #[(Fl r1), (Fl r3), (Fl r5), (Fl r7), (Iv A_g.x), (Iv A_g.y), (Iv A_g.z), (.slice p11 A_g.vals.length q12)]), (Bo (isGrid A_g)), (Bo (!(isGrid A_g))), (.tuple #[(.slice p42 (((numTo A_g.vals.length (fun y => negAt A_g y) (fun y => (nb A_g y)) A_g.vals.length).1).length) q43), (Iv ((numTo A_g.vals.length (fun y => negAt A_g y) (fun y => (nb A_g y)) A_g.vals.length).2))]), (Pt b15 7), (.slice p11 A_g.vals.length q12), (Iv (A_g.vals.length : Int)), (.func (.func 40) #[] #[(Pt b15 0)]), (.func (.func 41) #[(Pt b15 0)] #[]), (.tuple #[(.slice p42 (((numTo A_g.vals.length (fun y => negAt A_g y) (fun y => (nb A_g y)) A_g.vals.length).1).length) q43), (Iv ((numTo A_g.vals.length (fun y => negAt A_g y) (fun y => (nb A_g y)) A_g.vals.length).2))]), (.slice p42 (((numTo A_g.vals.length (fun y => negAt A_g y) (fun y => (nb A_g y)) A_g.vals.length).1).length) q43), (Iv ((numTo A_g.vals.length (fun y => negAt A_g y) (fun y => (nb A_g y)) A_g.vals.length).2)), Ud, Ud]) rfl rfl (does_extract (vs := #[(.slice p42 (((numTo A_g.vals.length (fun y => negAt A_g y) (fun y => (nb A_g y)) A_g.vals.length).1).length) q43), (Iv ((numTo A_g.vals.length (fun y => negAt A_g y) (fun y => (nb A_g y)) A_g.vals.length).2))]) (u := (Iv ((numTo A_g.vals.length (fun y => negAt A_g y) (fun y => (nb A_g y)) A_g.vals.length).2))) (ev rfl) rfl) rfl ?_
  refine q_is (l' := [(.agg #[(Fl r1), (Fl r3), (Fl r5), (Fl r7), (Iv A_g.x), (Iv A_g.y), (Iv A_g.z), (.slice p11 A_g.vals.length q12)]), (Pt b15 0), (.slice none 0 0), (Iv 0), (Bo false), (.slice p42 (((numTo A_g.vals.length (fun y => negAt A_g y) (fun y => (nb A_g y)) A_g.vals.length).1).length) q43), Ud, (.agg #[(Fl r1), (Fl r3), (Fl r5), (Fl r7), (Iv A_g.x), (Iv A_g.y), (Iv A_g.z), (.slice p11 A_g.vals.length q12)]), (Bo (isGrid A_g)), (Bo (!(isGrid A_g))), (.tuple #[(.slice p42 (((numTo A_g.vals.length (fun y => negAt A_g y) (fun y => (nb A_g y)) A_g.vals.length).1).length) q43), (Iv ((numTo A_g.vals.length (fun y => negAt A_g y) (fun y => (nb A_g y)) A_g.vals.length).2))]), (Pt b15 7), (.slice p11 A_g.vals.length q12), (Iv (A_g.vals.length : Int)), (.func (.func 40) #[] #[(Pt b15 0)]), (.func (.func 41) #[(Pt b15 0)] #[]), (.tuple #[(.slice p42 (((numTo A_g.vals.length (fun y => negAt A_g y) (fun y => (nb A_g y)) A_g.vals.length).1).length) q43), (Iv ((numTo A_g.vals.length (fun y => negAt A_g y) (fun y => (nb A_g y)) A_g.vals.length).2))]), (.slice p42 (((numTo A_g.vals.length (fun y => negAt A_g y) (fun y => (nb A_g y)) A_g.vals.length).1).length) q43), (Iv ((numTo A_g.vals.length (fun y => negAt A_g y) (fun y => (nb A_g y)) A_g.vals.length).2)), Ud, Ud]) rfl rfl (does_assign (u := (.slice p42 (((numTo A_g.vals.length (fun y => negAt A_g y) (fun y => (nb A_g y)) A_g.vals.length).1).length) q43)) (ev rfl)) rfl ?_
  refine q_is (l' := [(.agg #[(Fl r1), (Fl r3), (Fl r5), (Fl r7), (Iv A_g.x), (Iv A_g.y), (Iv A_g.z), (.slice p11 A_g.vals.length q12)]), (Pt b15 0), (.slice none 0 0), (Iv 0), (Bo false), (.slice p42 (((numTo A_g.vals.length (fun y => negAt A_g y) (fun y => (nb A_g y)) A_g.vals.length).1).length) q43), (Iv ((numTo A_g.vals.length (fun y => negAt A_g y) (fun y => (nb A_g y)) A_g.vals.length).2)), (.agg #[(Fl r1), (Fl r3), (Fl r5), (Fl r7), (Iv A_g.x), (Iv A_g.y), (Iv A_g.z), (.slice p11 A_g.vals.length q12)]), (Bo (isGrid A_g)), (Bo (!(isGrid A_g))), (.tuple #[(.slice p42 (((numTo A_g.vals.length (fun y => negAt A_g y) (fun y => (nb A_g y)) A_g.vals.length).1).length) q43), (Iv ((numTo A_g.vals.length (fun y => negAt A_g y) (fun y => (nb A_g y)) A_g.vals.length).2))]), (Pt b15 7), (.slice p11 A_g.vals.length q12), (Iv (A_g.vals.length : Int)), (.func (.func 40) #[] #[(Pt b15 0)]), (.func (.func 41) #[(Pt b15 0)] #[]), (.tuple #[(.slice p42 (((numTo A_g.vals.length (fun y => negAt A_g y) (fun y => (nb A_g y)) A_g.vals.length).1).length) q43), (Iv ((numTo A_g.vals.length (fun y => negAt A_g y) (fun y => (nb A_g y)) A_g.vals.length).2))]), (.slice p42 (((numTo A_g.vals.length (fun y => negAt A_g y) (fun y => (nb A_g y)) A_g.vals.length).1).length) q43), (Iv ((numTo A_g.vals.length (fun y => negAt A_g y) (fun y => (nb A_g y)) A_g.vals.length).2)), Ud, Ud]) rfl rfl (does_assign (u := (Iv ((numTo A_g.vals.length (fun y => negAt A_g y) (fun y => (nb A_g y)) A_g.vals.length).2))) (ev rfl)) rfl ?_
  refine wpList_nil (hK33 _ _ ?_)
  refine wp_seq_k fun K45 hK45 => ?_
  refine wp_region_lit ?_
  refine q_is (l' := [(.agg #[(Fl r1), (Fl r3), (Fl r5), (Fl r7), (Iv A_g.x), (Iv A_g.y), (Iv A_g.z), (.slice p11 A_g.vals.length q12)]), (Pt b15 0), (.slice none 0 0), (Iv 0), (Bo false), (.slice p42 (((numTo A_g.vals.length (fun y => negAt A_g y) (fun y => (nb A_g y)) A_g.vals.length).1).length) q43), (Iv ((numTo A_g.vals.length (fun y => negAt A_g y) (fun y => (nb A_g y)) A_g.vals.length).2)), (.agg #[(Fl r1), (Fl r3), (Fl r5), (Fl r7), (Iv A_g.x), (Iv A_g.y), (Iv A_g.z), (.slice p11 A_g.vals.length q12)]), (Bo (isGrid A_g)), (Bo (!(isGrid A_g))), (.tuple #[(.slice p42 (((numTo A_g.vals.length (fun y => negAt A_g y) (fun y => (nb A_g y)) A_g.vals.length).1).length) q43), (Iv ((numTo A_g.vals.length (fun y => negAt A_g y) (fun y => (nb A_g y)) A_g.vals.length).2))]), (Pt b15 7), (.slice p11 A_g.vals.length q12), (Iv (A_g.vals.length : Int)), (.func (.func 40) #[] #[(Pt b15 0)]), (.func (.func 41) #[(Pt b15 0)] #[]), (.tuple #[(.slice p42 (((numTo A_g.vals.length (fun y => negAt A_g y) (fun y => (nb A_g y)) A_g.vals.length).1).length) q43), (Iv ((numTo A_g.vals.length (fun y => negAt A_g y) (fun y => (nb A_g y)) A_g.vals.length).2))]), (.slice p42 (((numTo A_g.vals.length (fun y => negAt A_g y) (fun y => (nb A_g y)) A_g.vals.length).1).length) q43), (Iv ((numTo A_g.vals.length (fun y => negAt A_g y) (fun y => (nb A_g y)) A_g.vals.length).2)), (.slice p42 (((numTo A_g.vals.length (fun y => negAt A_g y) (fun y => (nb A_g y)) A_g.vals.length).1).length) q43), Ud]) rfl rfl (does_move (u := (.slice p42 (((numTo A_g.vals.length (fun y => negAt A_g y) (fun y => (nb A_g y)) A_g.vals.length).1).length) q43)) (ev rfl)) rfl ?_
  refine q_is (l' := [(.agg #[(Fl r1), (Fl r3), (Fl r5), (Fl r7), (Iv A_g.x), (Iv A_g.y), (Iv A_g.z), (.slice p11 A_g.vals.length q12)]), (Pt b15 0), (.slice none 0 0), (Iv 0), (Bo false), (.slice p42 (((numTo A_g.vals.length (fun y => negAt A_g y) (fun y => (nb A_g y)) A_g.vals.length).1).length) q43), (Iv ((numTo A_g.vals.length (fun y => negAt A_g y) (fun y => (nb A_g y)) A_g.vals.length).2)), (.agg #[(Fl r1), (Fl r3), (Fl r5), (Fl r7), (Iv A_g.x), (Iv A_g.y), (Iv A_g.z), (.slice p11 A_g.vals.length q12)]), (Bo (isGrid A_g)), (Bo (!(isGrid A_g))), (.tuple #[(.slice p42 (((numTo A_g.vals.length (fun y => negAt A_g y) (fun y => (nb A_g y)) A_g.vals.length).1).length) q43), (Iv ((numTo A_g.vals.length (fun y => negAt A_g y) (fun y => (nb A_g y)) A_g.vals.length).2))]), (Pt b15 7), (.slice p11 A_g.vals.length q12), (Iv (A_g.vals.length : Int)), (.func (.func 40) #[] #[(Pt b15 0)]), (.func (.func 41) #[(Pt b15 0)] #[]), (.tuple #[(.slice p42 (((numTo A_g.vals.length (fun y => negAt A_g y) (fun y => (nb A_g y)) A_g.vals.length).1).length) q43), (Iv ((numTo A_g.vals.length (fun y => negAt A_g y) (fun y => (nb A_g y)) A_g.vals.length).2))]), (.slice p42 (((numTo A_g.vals.length (fun y => negAt A_g y) (fun y => (nb A_g y)) A_g.vals.length).1).length) q43), (Iv ((numTo A_g.vals.length (fun y => negAt A_g y) (fun y => (nb A_g y)) A_g.vals.length).2)), (.slice p42 (((numTo A_g.vals.length (fun y => negAt A_g y) (fun y => (nb A_g y)) A_g.vals.length).1).length) q43), (Iv ((numTo A_g.vals.length (fun y => negAt A_g y) (fun y => (nb A_g y)) A_g.vals.length).2))]) rfl rfl (does_move (u := (Iv ((numTo A_g.vals.length (fun y => negAt A_g y) (fun y => (nb A_g y)) A_g.vals.length).2))) (ev rfl)) rfl ?_
  refine q_is (l' := [(.agg #[(Fl r1), (Fl r3), (Fl r5), (Fl r7), (Iv A_g.x), (Iv A_g.y), (Iv A_g.z), (.slice p11 A_g.vals.length q12)]), (Pt b15 0), (.slice p42 (((numTo A_g.vals.length (fun y => negAt A_g y) (fun y => (nb A_g y)) A_g.vals.length).1).length) q43), (Iv 0), (Bo false), (.slice p42 (((numTo A_g.vals.length (fun y => negAt A_g y) (fun y => (nb A_g y)) A_g.vals.length).1).length) q43), (Iv ((numTo A_g.vals.length (fun y => negAt A_g y) (fun y => (nb A_g y)) A_g.vals.length).2)), (.agg #[(Fl r1), (Fl r3), (Fl r5), (Fl r7), (Iv A_g.x), (Iv A_g.y), (Iv A_g.z), (.slice p11 A_g.vals.length q12)]), (Bo (isGrid A_g)), (Bo (!(isGrid A_g))), (.tuple #[(.slice p42 (((numTo A_g.vals.length (fun y => negAt A_g y) (fun y => (nb A_g y)) A_g.vals.length).1).length) q43), (Iv ((numTo A_g.vals.length (fun y => negAt A_g y) (fun y => (nb A_g y)) A_g.vals.length).2))]), (Pt b15 7), (.slice p11 A_g.vals.length q12), (Iv (A_g.vals.length : Int)), (.func (.func 40) #[] #[(Pt b15 0)]), (.func (.func 41) #[(Pt b15 0)] #[]), (.tuple #[(.slice p42 (((numTo A_g.vals.length (fun y => negAt A_g y) (fun y => (nb A_g y)) A_g.vals.length).1).length) q43), (Iv ((numTo A_g.vals.length (fun y => negAt A_g y) (fun y => (nb A_g y)) A_g.vals.length).2))]), (.slice p42 (((numTo A_g.vals.length (fun y => negAt A_g y) (fun y => (nb A_g y)) A_g.vals.length).1).length) q43), (Iv ((numTo A_g.vals.length (fun y => negAt A_g y) (fun y => (nb A_g y)) A_g.vals.length).2)), (.slice p42 (((numTo A_g.vals.length (fun y => negAt A_g y) (fun y => (nb A_g y)) A_g.vals.length).1).length) q43), (Iv ((numTo A_g.vals.length (fun y => negAt A_g y) (fun y => (nb A_g y)) A_g.vals.length).2))]) rfl rfl (does_assign (u := (.slice p42 (((numTo A_g.vals.length (fun y => negAt A_g y) (fun y => (nb A_g y)) A_g.vals.length).1).length) q43)) (ev rfl)) rfl ?_
  refine q_is (l' := [(.agg #[(Fl r1), (Fl r3), (Fl r5), (Fl r7), (Iv A_g.x), (Iv A_g.y), (Iv A_g.z), (.slice p11 A_g.vals.length q12)]), (Pt b15 0), (.slice p42 (((numTo A_g.vals.length (fun y => negAt A_g y) (fun y => (nb A_g y)) A_g.vals.length).1).length) q43), (Iv ((numTo A_g.vals.length (fun y => negAt A_g y) (fun y => (nb A_g y)) A_g.vals.length).2)), (Bo false), (.slice p42 (((numTo A_g.vals.length (fun y => negAt A_g y) (fun y => (nb A_g y)) A_g.vals.length).1).length) q43), (Iv ((numTo A_g.vals.length (fun y => negAt A_g y) (fun y => (nb A_g y)) A_g.vals.length).2)), (.agg #[(Fl r1), (Fl r3), (Fl r5), (Fl r7), (Iv A_g.x), (Iv A_g.y), (Iv A_g.z), (.slice p11 A_g.vals.length q12)]), (Bo (isGrid A_g)), (Bo (!(isGrid A_g))), (.tuple #[(.slice p42 (((numTo A_g.vals.length (fun y => negAt A_g y) (fun y => (nb A_g y)) A_g.vals.length).1).length) q43), (Iv ((numTo A_g.vals.length (fun y => negAt A_g y) (fun y => (nb A_g y)) A_g.vals.length).2))]), (Pt b15 7), (.slice p11 A_g.vals.length q12), (Iv (A_g.vals.length : Int)), (.func (.func 40) #[] #[(Pt b15 0)]), (.func (.func 41) #[(Pt b15 0)] #[]), (.tuple #[(.slice p42 (((numTo A_g.vals.length (fun y => negAt A_g y) (fun y => (nb A_g y)) A_g.vals.length).1).length) q43), (Iv ((numTo A_g.vals.length (fun y => negAt A_g y) (fun y => (nb A_g y)) A_g.vals.length).2))]), (.slice p42 (((numTo A_g.vals.length (fun y => negAt A_g y) (fun y => (nb A_g y)) A_g.vals.length).1).length) q43), (Iv ((numTo A_g.vals.length (fun y => negAt A_g y) (fun y => (nb A_g y)) A_g.vals.length).2)), (.slice p42 (((numTo A_g.vals.length (fun y => negAt A_g y) (fun y => (nb A_g y)) A_g.vals.length).1).length) q43), (Iv ((numTo A_g.vals.length (fun y => negAt A_g y) (fun y => (nb A_g y)) A_g.vals.length).2))]) rfl rfl (does_assign (u := (Iv ((numTo A_g.vals.length (fun y => negAt A_g y) (fun y => (nb A_g y)) A_g.vals.length).2))) (ev rfl)) rfl ?_
  refine q_is (l' := [(.agg #[(Fl r1), (Fl r3), (Fl r5), (Fl r7), (Iv A_g.x), (Iv A_g.y), (Iv A_g.z), (.slice p11 A_g.vals.length q12)]), (Pt b15 0), (.slice p42 (((numTo A_g.vals.length (fun y => negAt A_g y) (fun y => (nb A_g y)) A_g.vals.length).1).length) q43), (Iv ((numTo A_g.vals.length (fun y => negAt A_g y) (fun y => (nb A_g y)) A_g.vals.length).2)), (Bo true), (.slice p42 (((numTo A_g.vals.length (fun y => negAt A_g y) (fun y => (nb A_g y)) A_g.vals.length).1).length) q43), (Iv ((numTo A_g.vals.length (fun y => negAt A_g y) (fun y => (nb A_g y)) A_g.vals.length).2)), (.agg #[(Fl r1), (Fl r3), (Fl r5), (Fl r7), (Iv A_g.x), (Iv A_g.y), (Iv A_g.z), (.slice p11 A_g.vals.length q12)]), (Bo (isGrid A_g)), (Bo (!(isGrid A_g))), (.tuple #[(.slice p42 (((numTo A_g.vals.length (fun y => negAt A_g y) (fun y => (nb A_g y)) A_g.vals.length).1).length) q43), (Iv ((numTo A_g.vals.length (fun y => negAt A_g y) (fun y => (nb A_g y)) A_g.vals.length).2))]), (Pt b15 7), (.slice p11 A_g.vals.length q12), (Iv (A_g.vals.length : Int)), (.func (.func 40) #[] #[(Pt b15 0)]), (.func (.func 41) #[(Pt b15 0)] #[]), (.tuple #[(.slice p42 (((numTo A_g.vals.length (fun y => negAt A_g y) (fun y => (nb A_g y)) A_g.vals.length).1).length) q43), (Iv ((numTo A_g.vals.length (fun y => negAt A_g y) (fun y => (nb A_g y)) A_g.vals.length).2))]), (.slice p42 (((numTo A_g.vals.length (fun y => negAt A_g y) (fun y => (nb A_g y)) A_g.vals.length).1).length) q43), (Iv ((numTo A_g.vals.length (fun y => negAt A_g y) (fun y => (nb A_g y)) A_g.vals.length).2)), (.slice p42 (((numTo A_g.vals.length (fun y => negAt A_g y) (fun y => (nb A_g y)) A_g.vals.length).1).length) q43), (Iv ((numTo A_g.vals.length (fun y => negAt A_g y) (fun y => (nb A_g y)) A_g.vals.length).2))]) rfl rfl (does_assign (u := (Bo true)) (ev rfl)) rfl ?_
  refine wpList_nil (hK45 _ _ ?_)
  refine wp_ret ?_
  refine ret_val (v := (.tuple #[(.slice p42 (((numTo A_g.vals.length (fun y => negAt A_g y) (fun y => (nb A_g y)) A_g.vals.length).1).length) q43), (Iv ((numTo A_g.vals.length (fun y => negAt A_g y) (fun y => (nb A_g y)) A_g.vals.length).2)), (Bo true)])) (res_TTT rfl (slot rfl) (slot rfl) (slot rfl)) X40 ?_
  try simp only [h2, h4, h6, h8] at c27
  have x46 : ((prtG A_g).2 : Int) = ((numTo A_g.vals.length (fun y => negAt A_g y) (fun y => (nb A_g y)) A_g.vals.length).2) := by first | exact hgf | exact hgt | (rw [prtG_f hgf]; done) | (rw [prtG_f hgf]; rfl) | (rw [prtG_t hgt]; (try simp only [Int.toNat_natCast]); done) | (rw [prtG_t hgt, show k = A_g.vals.length by omega])
  have x47 : (isGrid A_g) = true := by first | exact hgf | exact hgt | (rw [prtG_f hgf]; done) | (rw [prtG_f hgf]; rfl) | (rw [prtG_t hgt]; (try simp only [Int.toNat_natCast]); done) | (rw [prtG_t hgt, show k = A_g.vals.length by omega])
  have x48 : ((numTo A_g.vals.length (fun y => negAt A_g y) (fun y => (nb A_g y)) A_g.vals.length).1) = ((prtG A_g).1) := by first | exact hgf | exact hgt | (rw [prtG_f hgf]; done) | (rw [prtG_f hgf]; rfl) | (rw [prtG_t hgt]; (try simp only [Int.toNat_natCast]); done) | (rw [prtG_t hgt, show k = A_g.vals.length by omega])
  have x49 : ((numTo A_g.vals.length (fun y => negAt A_g y) (fun y => (nb A_g y)) A_g.vals.length).1) = ((prtG A_g).1) := by first | exact hgf | exact hgt | (rw [prtG_f hgf]; done) | (rw [prtG_f hgf]; rfl) | (rw [prtG_t hgt]; (try simp only [Int.toNat_natCast]); done) | (rw [prtG_t hgt, show k = A_g.vals.length by omega])
  exact ⟨(.slice p42 (((numTo A_g.vals.length (fun y => negAt A_g y) (fun y => (nb A_g y)) A_g.vals.length).1).length) q43), Lw38, (by first | with_reducible rfl | rw [x46, x47] | rw [x47, x46] | rfl), (Hang.castL (hh36.le (Below.size (Ext.gr (Ext.gr (Ext.refl _) E18) E24))) x48), (WL.cast (hw44.le (Below.size (Ext.gr (Ext.gr (Ext.refl _) E18) E24))) (congrArg List.length x49))⟩

/- laws.sameFloat -/
theorem c_laws_sameFloat (x : Nat) (y : Nat) (w : World) : Gives Try.prog 43 #[(Fd x), (Fd y)] w (fun v w' => v = (Bo (sameF (cf .f64 x) (cf .f64 y)))) := by
  refine enter [(Fd x), (Fd y), Ud, Ud, Ud, Ud, Ud, Ud, Ud, Ud, Ud, Ud, Ud, Ud, Ud, Ud, Ud, Ud, Ud, Ud, Ud, Ud, Ud, Ud, Ud, Ud, Ud, Ud, Ud, Ud, Ud, Ud, Ud, Ud, Ud, Ud, Ud] Try.func43 rfl Try.ntmps43 rfl ?_
  refine wp_seq_k fun K1 hK1 => ?_
  refine wp_region_lit ?_
  refine q_is rfl rfl (does_assign (u := (Bo false)) (ev rfl)) (by dsimp only [List.set]; try rfl) ?_
  refine wpList_nil (hK1 _ _ ?_)
  refine wp_seq_k fun K2 hK2 => ?_
  refine wp_seq_k fun K3 hK3 => ?_
  obtain ⟨β1, hβ1⟩ : ∃ b : Bool, b = (fcmp .neq (ford .f64 (cf .f64 x) (cf .f64 x))) := ⟨_, rfl⟩
  obtain ⟨β2, hβ2⟩ : ∃ b : Bool, b = (fcmp .neq (ford .f64 (cf .f64 y) (cf .f64 y))) := ⟨_, rfl⟩
  refine region_text (
    [Fact.pure [] (fun v => v = (Fd x)),
    Fact.pure [] (fun v => v = (Fd x)),
    Fact.pure [5, 6] (fun v => v = (Bo β1)),
    Fact.pure [7] (fun v => v = (Bo β1)),
    Fact.pure [8] (fun v => β1 = false → v = (Fd y)),
    Fact.pure [8] (fun v => β1 = false → v = (Fd y)),
    Fact.pure [9, 10, 8] (fun v => β1 = false → v = (Bo β2)),
    Fact.pure [8, 11] (fun v => v = (Bo (β1 || β2)))]) (by simp [Fact.pure, Fact.mem]) ?_
  refine RW_d _ rfl (fun v => by dsimp only [List.set]; try rfl) (fun u hu hF => ?_) (fun v4 => ?_)
  · clear hF
    refine doesG_un rfl ?_
    refine (does_move (u := (Fd x)) (ev rfl)).mono ?_; rintro _ _ ⟨rfl, rfl⟩
    exact ⟨rfl, Ext.refl _⟩
  refine RW_d _ rfl (fun v => by dsimp only [List.set]; try rfl) (fun u hu hF => ?_) (fun v5 => ?_)
  · clear hF
    refine doesG_un rfl ?_
    refine (does_move (u := (Fd x)) (ev rfl)).mono ?_; rintro _ _ ⟨rfl, rfl⟩
    exact ⟨rfl, Ext.refl _⟩
  refine RW_d _ rfl (fun v => by dsimp only [List.set]; try rfl) (fun u hu hF => ?_) (fun v6 => ?_)
  · have h5_ : v4 = (Fd x) := hF.1
    have h6_ : v5 = (Fd x) := hF.2.1
    clear hF
    refine doesG_un rfl ?_
    obtain rfl := h5_
    obtain rfl := h6_
    refine (does_fcmp (.inr (.inl rfl)) (ev rfl) (ev rfl)).mono ?_; rintro _ _ ⟨rfl, rfl⟩
    exact ⟨(by first | rfl | (show _ = _; simp only [hβ1]; done) | (show _ = _; simp only [hβ1]; rfl)), Ext.refl _⟩
  refine RW_d _ rfl (fun v => by dsimp only [List.set]; try rfl) (fun u hu hF => ?_) (fun v7 => ?_)
  · have h7_ : v6 = (Bo β1) := hF.1
    clear hF
    refine doesG_un rfl ?_
    obtain rfl := h7_
    refine (does_move (u := (Bo β1)) (ev rfl)).mono ?_; rintro _ _ ⟨rfl, rfl⟩
    exact ⟨rfl, Ext.refl _⟩
  refine RW_d _ rfl (fun v => by dsimp only [List.set]; try rfl) (fun u hu hF => ?_) (fun v8 => ?_)
  · have h8_ : v7 = (Bo β1) := hF.1
    clear hF
    obtain rfl := h8_
    refine doesG_g (b := β1) rfl (yld rfl rfl) (fun hg1 => ?_) (fun hc => ⟨fun hg1 => absurd hg1 hc, Ext.refl _⟩)
    refine (does_move (u := (Fd y)) (ev rfl)).mono ?_; rintro _ _ ⟨rfl, rfl⟩
    exact ⟨fun _ => rfl, Ext.refl _⟩
  refine RW_d _ rfl (fun v => by dsimp only [List.set]; try rfl) (fun u hu hF => ?_) (fun v9 => ?_)
  · have h8_ : v7 = (Bo β1) := hF.1
    clear hF
    obtain rfl := h8_
    refine doesG_g (b := β1) rfl (yld rfl rfl) (fun hg1 => ?_) (fun hc => ⟨fun hg1 => absurd hg1 hc, Ext.refl _⟩)
    refine (does_move (u := (Fd y)) (ev rfl)).mono ?_; rintro _ _ ⟨rfl, rfl⟩
    exact ⟨fun _ => rfl, Ext.refl _⟩
  refine RW_d _ rfl (fun v => by dsimp only [List.set]; try rfl) (fun u hu hF => ?_) (fun v10 => ?_)
  · have h9_ : β1 = false → v8 = (Fd y) := hF.1
    have h10_ : β1 = false → v9 = (Fd y) := hF.2.1
    have h8_ : v7 = (Bo β1) := hF.2.2.1
    clear hF
    obtain rfl := h8_
    refine doesG_g (b := β1) rfl (yld rfl rfl) (fun hg1 => ?_) (fun hc => ⟨fun hg1 => absurd hg1 hc, Ext.refl _⟩)
    obtain rfl := h9_ hg1
    obtain rfl := h10_ hg1
    refine (does_fcmp (.inr (.inl rfl)) (ev rfl) (ev rfl)).mono ?_; rintro _ _ ⟨rfl, rfl⟩
    exact ⟨fun _ => (by first | rfl | (show _ = _; simp only [hβ2]; done) | (show _ = _; simp only [hβ2]; rfl)), Ext.refl _⟩
  refine RW_d _ rfl (fun v => by dsimp only [List.set]; try rfl) (fun u hu hF => ?_) (fun v11 => ?_)
  · have h8_ : v7 = (Bo β1) := hF.1
    have h11_ : β1 = false → v10 = (Bo β2) := hF.2.1
    clear hF
    refine doesG_un rfl ?_
    skip
    obtain rfl := h8_
    refine (does_pick (b := β1) (u := (Bo true)) (v := v10) (ev rfl) (ev rfl) (ev rfl)).mono ?_; rintro _ _ ⟨rfl, rfl⟩; refine ⟨?_, Ext.refl _⟩; skip
    cases hbb : β1
    all_goals first | (show _ = _; simp only [↓reduceIte, Bool.true_and, Bool.false_and, Bool.true_or, Bool.false_or, Bool.false_eq_true]; done) | (have e_ := h11_ hbb; subst e_; show _ = _; simp only [↓reduceIte, Bool.true_and, Bool.false_and, Bool.true_or, Bool.false_or, Bool.false_eq_true]; done) | rfl | (have e_ := h11_ hbb; subst e_; rfl) | (simp [hbb] at h11_ ⊢; first | done | rfl | (subst h11_; rfl) | simp_all) | (simp [hbb] at h11_ ⊢; done)
  refine RW_fin ?_; intro w12 E13 hP14
  obtain ⟨⟨⟨⟨⟨⟨⟨⟨-, -⟩, -⟩, -⟩, -⟩, -⟩, -⟩, -⟩, q15⟩ := hP14
  have X16 := Ext.gr (Ext.refl w) E13
  have q15 : v11 = (Bo (β1 || β2)) := q15
  obtain rfl := q15
  show wpList _ _ _ _ (fr [_, _, _, _, _, _, _, _, _, _, _, _, _, _, _, _, _, _, _, _, _, _, _, _, _, _, _, _, _, _, _, _, _, _, _, _, _]) _
  refine wpList_nil (hK3 _ _ ?_)
  refine wp_cond_split (t := β1 || β2) (ev rfl) (fun c17 => ?_) (fun c17 => ?_)
  · have c17' := c17
    (try simp only [hβ1, hβ2] at c17')
    (try simp only [icmp, Bool.and_eq_true, Bool.or_eq_true, Bool.and_eq_false_iff, Bool.or_eq_false_iff, Bool.not_eq_true', Bool.not_eq_false', decide_eq_true_eq, decide_eq_false_iff_not, beq_iff_eq, bne_iff_ne, beq_eq_false_iff_ne, bne_eq_false_iff_eq] at c17')
    refine wp_seq_k fun K18 hK18 => ?_
    obtain ⟨β3, hβ3⟩ : ∃ b : Bool, b = (fcmp .neq (ford .f64 (cf .f64 x) (cf .f64 x))) := ⟨_, rfl⟩
    obtain ⟨β4, hβ4⟩ : ∃ b : Bool, b = (fcmp .neq (ford .f64 (cf .f64 y) (cf .f64 y))) := ⟨_, rfl⟩
    refine region_text (
      [Fact.pure [] (fun v => v = (Fd x)),
    Fact.pure [] (fun v => v = (Fd x)),
    Fact.pure [13, 14] (fun v => v = (Bo β3)),
    Fact.pure [15] (fun v => v = (Bo β3)),
    Fact.pure [16] (fun v => β3 = true → v = (Fd y)),
    Fact.pure [16] (fun v => β3 = true → v = (Fd y)),
    Fact.pure [17, 18, 16] (fun v => β3 = true → v = (Bo β4)),
    Fact.pure [16, 19] (fun v => v = (Bo (β3 && β4)))]) (by simp [Fact.pure, Fact.mem]) ?_
    refine RW_d _ rfl (fun v => by dsimp only [List.set]; try rfl) (fun u hu hF => ?_) (fun v19 => ?_)
    · clear hF
      refine doesG_un rfl ?_
      refine (does_move (u := (Fd x)) (ev rfl)).mono ?_; rintro _ _ ⟨rfl, rfl⟩
      exact ⟨rfl, Ext.refl _⟩
    refine RW_d _ rfl (fun v => by dsimp only [List.set]; try rfl) (fun u hu hF => ?_) (fun v20 => ?_)
    · clear hF
      refine doesG_un rfl ?_
      refine (does_move (u := (Fd x)) (ev rfl)).mono ?_; rintro _ _ ⟨rfl, rfl⟩
      exact ⟨rfl, Ext.refl _⟩
    refine RW_d _ rfl (fun v => by dsimp only [List.set]; try rfl) (fun u hu hF => ?_) (fun v21 => ?_)
    · have h13_ : v19 = (Fd x) := hF.1
      have h14_ : v20 = (Fd x) := hF.2.1
      clear hF
      refine doesG_un rfl ?_
      obtain rfl := h13_
      obtain rfl := h14_
      refine (does_fcmp (.inr (.inl rfl)) (ev rfl) (ev rfl)).mono ?_; rintro _ _ ⟨rfl, rfl⟩
      exact ⟨(by first | rfl | (show _ = _; simp only [hβ3]; done) | (show _ = _; simp only [hβ3]; rfl)), Ext.refl _⟩
    refine RW_d _ rfl (fun v => by dsimp only [List.set]; try rfl) (fun u hu hF => ?_) (fun v22 => ?_)
    · have h15_ : v21 = (Bo β3) := hF.1
      clear hF
      refine doesG_un rfl ?_
      obtain rfl := h15_
      refine (does_move (u := (Bo β3)) (ev rfl)).mono ?_; rintro _ _ ⟨rfl, rfl⟩
      exact ⟨rfl, Ext.refl _⟩
    refine RW_d _ rfl (fun v => by dsimp only [List.set]; try rfl) (fun u hu hF => ?_) (fun v23 => ?_)
    · have h16_ : v22 = (Bo β3) := hF.1
      clear hF
      obtain rfl := h16_
      refine doesG_g (b := β3) rfl (yld rfl rfl) (fun hg1 => ?_) (fun hc => ⟨fun hg1 => absurd hg1 hc, Ext.refl _⟩)
      refine (does_move (u := (Fd y)) (ev rfl)).mono ?_; rintro _ _ ⟨rfl, rfl⟩
      exact ⟨fun _ => rfl, Ext.refl _⟩
    refine RW_d _ rfl (fun v => by dsimp only [List.set]; try rfl) (fun u hu hF => ?_) (fun v24 => ?_)
    · have h16_ : v22 = (Bo β3) := hF.1
      clear hF
      obtain rfl := h16_
      refine doesG_g (b := β3) rfl (yld rfl rfl) (fun hg1 => ?_) (fun hc => ⟨fun hg1 => absurd hg1 hc, Ext.refl _⟩)
      refine (does_move (u := (Fd y)) (ev rfl)).mono ?_; rintro _ _ ⟨rfl, rfl⟩
      exact ⟨fun _ => rfl, Ext.refl _⟩
    refine RW_d _ rfl (fun v => by dsimp only [List.set]; try rfl) (fun u hu hF => ?_) (fun v25 => ?_)
    · have h17_ : β3 = true → v23 = (Fd y) := hF.1
      have h18_ : β3 = true → v24 = (Fd y) := hF.2.1
      have h16_ : v22 = (Bo β3) := hF.2.2.1
      clear hF
      obtain rfl := h16_
      refine doesG_g (b := β3) rfl (yld rfl rfl) (fun hg1 => ?_) (fun hc => ⟨fun hg1 => absurd hg1 hc, Ext.refl _⟩)
      obtain rfl := h17_ hg1
      obtain rfl := h18_ hg1
      refine (does_fcmp (.inr (.inl rfl)) (ev rfl) (ev rfl)).mono ?_; rintro _ _ ⟨rfl, rfl⟩
      exact ⟨fun _ => (by first | rfl | (show _ = _; simp only [hβ4]; done) | (show _ = _; simp only [hβ4]; rfl)), Ext.refl _⟩
    refine RW_d _ rfl (fun v => by dsimp only [List.set]; try rfl) (fun u hu hF => ?_) (fun v26 => ?_)
    · have h16_ : v22 = (Bo β3) := hF.1
      have h19_ : β3 = true → v25 = (Bo β4) := hF.2.1
      clear hF
      refine doesG_un rfl ?_
      skip
      obtain rfl := h16_
      refine (does_pick (b := β3) (u := v25) (v := (Bo false)) (ev rfl) (ev rfl) (ev rfl)).mono ?_; rintro _ _ ⟨rfl, rfl⟩; refine ⟨?_, Ext.refl _⟩; skip
      cases hbb : β3
      all_goals first | (show _ = _; simp only [↓reduceIte, Bool.true_and, Bool.false_and, Bool.true_or, Bool.false_or, Bool.false_eq_true]; done) | (have e_ := h19_ hbb; subst e_; show _ = _; simp only [↓reduceIte, Bool.true_and, Bool.false_and, Bool.true_or, Bool.false_or, Bool.false_eq_true]; done) | rfl | (have e_ := h19_ hbb; subst e_; rfl) | (simp [hbb] at h19_ ⊢; first | done | rfl | (subst h19_; rfl) | simp_all) | (simp [hbb] at h19_ ⊢; done)
    refine RW_fin ?_; intro w27 E28 hP29
    obtain ⟨⟨⟨⟨⟨⟨⟨⟨-, -⟩, -⟩, -⟩, -⟩, -⟩, -⟩, -⟩, q30⟩ := hP29
    have X31 := Ext.gr X16 E28
    have q30 : v26 = (Bo (β3 && β4)) := q30
    obtain rfl := q30
    show wpList _ _ _ _ (fr [_, _, _, _, _, _, _, _, _, _, _, _, _, _, _, _, _, _, _, _, _, _, _, _, _, _, _, _, _, _, _, _, _, _, _, _, _]) _
    refine q_is rfl rfl (does_assign (u := (Bo (β3 && β4))) (ev rfl)) (by dsimp only [List.set]; try rfl) ?_
    refine wpList_nil (hK18 _ _ ?_)
    refine wp_ret ?_
    dsimp only [Exit.then, Exit.inBlock]
    refine ret_val (v := (Bo (β3 && β4))) (res_T rfl (slot rfl)) X31 ?_
    try simp only [hβ1, hβ2, hβ3, hβ4] at c17
    have x32 : (sameF (cf .f64 x) (cf .f64 y)) = (β3 && β4) := by first | with_reducible rfl | (simp only [sameF, hβ1, hβ2, hβ3, hβ4, c17]; done) | (simp [sameF, hβ1, hβ2, hβ3, hβ4, c17]; done) | (revert c17; simp +contextual [sameF, hβ1, hβ2, hβ3, hβ4]; done) | (rcases c17' with hh | hh <;> simp only [hh, sameF, hβ1, hβ2, hβ3, hβ4, c17]; done) | (rcases c17' with hh | hh <;> simp_all [sameF]; done) | (rcases c17' with hh | hh | hh <;> simp_all [sameF]; done) | (rcases c17' with hh | hh | hh | hh <;> simp_all [sameF]; done) | (simp_all [sameF]; done) | rfl
    exact (by first | with_reducible rfl | rw [x32] | rfl)
  have c17' := c17
  (try simp only [hβ1, hβ2] at c17')
  (try simp only [icmp, Bool.and_eq_true, Bool.or_eq_true, Bool.and_eq_false_iff, Bool.or_eq_false_iff, Bool.not_eq_true', Bool.not_eq_false', decide_eq_true_eq, decide_eq_false_iff_not, beq_iff_eq, bne_iff_ne, beq_eq_false_iff_ne, bne_eq_false_iff_eq] at c17')
  refine wp_skip (hK2 _ _ ?_)
  refine wp_seq_k fun K33 hK33 => ?_
  refine wp_seq_k fun K34 hK34 => ?_
  obtain ⟨β5, hβ5⟩ : ∃ b : Bool, b = (fcmp .eql (ford .f64 (cf .f64 x) (cf .f64 0))) := ⟨_, rfl⟩
  obtain ⟨β6, hβ6⟩ : ∃ b : Bool, b = (fcmp .eql (ford .f64 (cf .f64 y) (cf .f64 0))) := ⟨_, rfl⟩
  refine region_text (
    [Fact.pure [] (fun v => v = (Fd x)),
    Fact.pure [21] (fun v => v = (Bo β5)),
    Fact.pure [22] (fun v => v = (Bo β5)),
    Fact.pure [23] (fun v => β5 = true → v = (Fd y)),
    Fact.pure [24, 23] (fun v => β5 = true → v = (Bo β6)),
    Fact.pure [23, 25] (fun v => v = (Bo (β5 && β6)))]) (by simp [Fact.pure, Fact.mem]) ?_
  refine RW_d _ rfl (fun v => by dsimp only [List.set]; try rfl) (fun u hu hF => ?_) (fun v35 => ?_)
  · clear hF
    refine doesG_un rfl ?_
    refine (does_move (u := (Fd x)) (ev rfl)).mono ?_; rintro _ _ ⟨rfl, rfl⟩
    exact ⟨rfl, Ext.refl _⟩
  refine RW_d _ rfl (fun v => by dsimp only [List.set]; try rfl) (fun u hu hF => ?_) (fun v36 => ?_)
  · have h21_ : v35 = (Fd x) := hF.1
    clear hF
    refine doesG_un rfl ?_
    obtain rfl := h21_
    refine (does_fcmp (.inl rfl) (ev rfl) (ev rfl)).mono ?_; rintro _ _ ⟨rfl, rfl⟩
    exact ⟨(by first | rfl | (show _ = _; simp only [hβ5]; done) | (show _ = _; simp only [hβ5]; rfl)), Ext.refl _⟩
  refine RW_d _ rfl (fun v => by dsimp only [List.set]; try rfl) (fun u hu hF => ?_) (fun v37 => ?_)
  · have h22_ : v36 = (Bo β5) := hF.1
    clear hF
    refine doesG_un rfl ?_
    obtain rfl := h22_
    refine (does_move (u := (Bo β5)) (ev rfl)).mono ?_; rintro _ _ ⟨rfl, rfl⟩
    exact ⟨rfl, Ext.refl _⟩
  refine RW_d _ rfl (fun v => by dsimp only [List.set]; try rfl) (fun u hu hF => ?_) (fun v38 => ?_)
  · have h23_ : v37 = (Bo β5) := hF.1
    clear hF
    obtain rfl := h23_
    refine doesG_g (b := β5) rfl (yld rfl rfl) (fun hg1 => ?_) (fun hc => ⟨fun hg1 => absurd hg1 hc, Ext.refl _⟩)
    refine (does_move (u := (Fd y)) (ev rfl)).mono ?_; rintro _ _ ⟨rfl, rfl⟩
    exact ⟨fun _ => rfl, Ext.refl _⟩
  refine RW_d _ rfl (fun v => by dsimp only [List.set]; try rfl) (fun u hu hF => ?_) (fun v39 => ?_)
  · have h24_ : β5 = true → v38 = (Fd y) := hF.1
    have h23_ : v37 = (Bo β5) := hF.2.1
    clear hF
    obtain rfl := h23_
    refine doesG_g (b := β5) rfl (yld rfl rfl) (fun hg1 => ?_) (fun hc => ⟨fun hg1 => absurd hg1 hc, Ext.refl _⟩)
    obtain rfl := h24_ hg1
    refine (does_fcmp (.inl rfl) (ev rfl) (ev rfl)).mono ?_; rintro _ _ ⟨rfl, rfl⟩
    exact ⟨fun _ => (by first | rfl | (show _ = _; simp only [hβ6]; done) | (show _ = _; simp only [hβ6]; rfl)), Ext.refl _⟩
  refine RW_d _ rfl (fun v => by dsimp only [List.set]; try rfl) (fun u hu hF => ?_) (fun v40 => ?_)
  · have h23_ : v37 = (Bo β5) := hF.1
    have h25_ : β5 = true → v39 = (Bo β6) := hF.2.1
    clear hF
    refine doesG_un rfl ?_
    skip
    obtain rfl := h23_
    refine (does_pick (b := β5) (u := v39) (v := (Bo false)) (ev rfl) (ev rfl) (ev rfl)).mono ?_; rintro _ _ ⟨rfl, rfl⟩; refine ⟨?_, Ext.refl _⟩; skip
    cases hbb : β5
    all_goals first | (show _ = _; simp only [↓reduceIte, Bool.true_and, Bool.false_and, Bool.true_or, Bool.false_or, Bool.false_eq_true]; done) | (have e_ := h25_ hbb; subst e_; show _ = _; simp only [↓reduceIte, Bool.true_and, Bool.false_and, Bool.true_or, Bool.false_or, Bool.false_eq_true]; done) | rfl | (have e_ := h25_ hbb; subst e_; rfl) | (simp [hbb] at h25_ ⊢; first | done | rfl | (subst h25_; rfl) | simp_all) | (simp [hbb] at h25_ ⊢; done)
  refine RW_fin ?_; intro w41 E42 hP43
  obtain ⟨⟨⟨⟨⟨⟨-, -⟩, -⟩, -⟩, -⟩, -⟩, q44⟩ := hP43
  have X45 := Ext.gr X16 E42
  have q44 : v40 = (Bo (β5 && β6)) := q44
  obtain rfl := q44
  show wpList _ _ _ _ (fr [_, _, _, _, _, _, _, _, _, _, _, _, _, _, _, _, _, _, _, _, _, _, _, _, _, _, _, _, _, _, _, _, _, _, _, _, _]) _
  refine wpList_nil (hK34 _ _ ?_)
  refine wp_cond_split (t := β5 && β6) (ev rfl) (fun c46 => ?_) (fun c46 => ?_)
  · have c46' := c46
    (try simp only [hβ1, hβ2, hβ5, hβ6] at c46')
    (try simp only [icmp, Bool.and_eq_true, Bool.or_eq_true, Bool.and_eq_false_iff, Bool.or_eq_false_iff, Bool.not_eq_true', Bool.not_eq_false', decide_eq_true_eq, decide_eq_false_iff_not, beq_iff_eq, bne_iff_ne, beq_eq_false_iff_ne, bne_eq_false_iff_eq] at c46')
    refine wp_seq_k fun K47 hK47 => ?_
    refine wp_region_lit ?_
    refine q_is rfl rfl (does_move (u := (Fd x)) (ev rfl)) (by dsimp only [List.set]; try rfl) ?_
    refine seqd rfl rfl (does_float (.inr (.inr (.inr rfl))) (ev rfl) (ev rfl)) ?_; rintro _ w51 ⟨r48, rfl, h49, E50⟩
    have X52 := Ext.gr X45 E50
    show wpList _ _ _ _ (fr [_, _, _, _, _, _, _, _, _, _, _, _, _, _, _, _, _, _, _, _, _, _, _, _, _, _, _, _, _, _, _, _, _, _, _, _, _]) _
    refine q_is rfl rfl (does_fcmp (.inr (.inr (.inr (.inr (.inl rfl))))) (ev rfl) (ev rfl)) (by dsimp only [List.set]; try rfl) ?_
    refine q_is rfl rfl (does_move (u := (Fd y)) (ev rfl)) (by dsimp only [List.set]; try rfl) ?_
    refine seqd rfl rfl (does_float (.inr (.inr (.inr rfl))) (ev rfl) (ev rfl)) ?_; rintro _ w56 ⟨r53, rfl, h54, E55⟩
    have X57 := Ext.gr X52 E55
    show wpList _ _ _ _ (fr [_, _, _, _, _, _, _, _, _, _, _, _, _, _, _, _, _, _, _, _, _, _, _, _, _, _, _, _, _, _, _, _, _, _, _, _, _]) _
    refine q_is rfl rfl (does_fcmp (.inr (.inr (.inr (.inr (.inl rfl))))) (ev rfl) (ev rfl)) (by dsimp only [List.set]; try rfl) ?_
    refine q_is rfl rfl (does_beq (p := (fcmp .gtr (ford .f64 (cf .f64 r48) (cf .f64 0)))) (q := (fcmp .gtr (ford .f64 (cf .f64 r53) (cf .f64 0)))) Try.underlying4 (ev rfl) (ev rfl)) (by dsimp only [List.set]; try rfl) ?_
    refine q_is rfl rfl (does_assign (u := (Bo ((fcmp .gtr (ford .f64 (cf .f64 r48) (cf .f64 0))) == (fcmp .gtr (ford .f64 (cf .f64 r53) (cf .f64 0)))))) (ev rfl)) (by dsimp only [List.set]; try rfl) ?_
    refine wpList_nil (hK47 _ _ ?_)
    refine wp_ret ?_
    dsimp only [Exit.then, Exit.inBlock]
    refine ret_val (v := (Bo ((fcmp .gtr (ford .f64 (cf .f64 r48) (cf .f64 0))) == (fcmp .gtr (ford .f64 (cf .f64 r53) (cf .f64 0)))))) (res_T rfl (slot rfl)) X57 ?_
    try simp only [hβ1, hβ2, hβ5, hβ6, h49, h54] at c17 c46
    have x58 : (sameF (cf .f64 x) (cf .f64 y)) = ((fcmp .gtr (ford .f64 (cf .f64 r48) (cf .f64 0))) == (fcmp .gtr (ford .f64 (cf .f64 r53) (cf .f64 0)))) := by first | with_reducible rfl | (simp only [sameF, hβ1, hβ2, hβ5, hβ6, h49, h54, c17, c46]; done) | (simp [sameF, hβ1, hβ2, hβ5, hβ6, h49, h54, c17, c46]; done) | (revert c17 c46; simp +contextual [sameF, hβ1, hβ2, hβ5, hβ6, h49, h54]; done) | (rcases c17' with hh | hh <;> simp only [hh, sameF, hβ1, hβ2, hβ5, hβ6, h49, h54, c17, c46]; done) | (rcases c46' with hh | hh <;> simp only [hh, sameF, hβ1, hβ2, hβ5, hβ6, h49, h54, c17, c46]; done) | (rcases c46' with hh | hh <;> simp_all [sameF]; done) | (rcases c46' with hh | hh | hh <;> simp_all [sameF]; done) | (rcases c46' with hh | hh | hh | hh <;> simp_all [sameF]; done) | (simp_all [sameF]; done) | rfl
    exact (by first | with_reducible rfl | rw [x58] | rfl)
  have c46' := c46
  (try simp only [hβ1, hβ2, hβ5, hβ6] at c46')
  (try simp only [icmp, Bool.and_eq_true, Bool.or_eq_true, Bool.and_eq_false_iff, Bool.or_eq_false_iff, Bool.not_eq_true', Bool.not_eq_false', decide_eq_true_eq, decide_eq_false_iff_not, beq_iff_eq, bne_iff_ne, beq_eq_false_iff_ne, bne_eq_false_iff_eq] at c46')
  refine wp_skip (hK33 _ _ ?_)
  refine wp_seq_k fun K59 hK59 => ?_
  refine wp_region_lit ?_
  refine q_is rfl rfl (does_move (u := (Fd x)) (ev rfl)) (by dsimp only [List.set]; try rfl) ?_
  refine q_is rfl rfl (does_move (u := (Fd y)) (ev rfl)) (by dsimp only [List.set]; try rfl) ?_
  refine q_is rfl rfl (does_fcmp (.inl rfl) (ev rfl) (ev rfl)) (by dsimp only [List.set]; try rfl) ?_
  refine q_is rfl rfl (does_assign (u := (Bo (fcmp .eql (ford .f64 (cf .f64 x) (cf .f64 y))))) (ev rfl)) (by dsimp only [List.set]; try rfl) ?_
  refine wpList_nil (hK59 _ _ ?_)
  refine wp_ret ?_
  refine ret_val (v := (Bo (fcmp .eql (ford .f64 (cf .f64 x) (cf .f64 y))))) (res_T rfl (slot rfl)) X45 ?_
  try simp only [hβ1, hβ2, hβ5, hβ6] at c17 c46
  have x60 : (sameF (cf .f64 x) (cf .f64 y)) = (fcmp .eql (ford .f64 (cf .f64 x) (cf .f64 y))) := by first | with_reducible rfl | (simp only [sameF, hβ1, hβ2, hβ5, hβ6, c17, c46]; done) | (simp [sameF, hβ1, hβ2, hβ5, hβ6, c17, c46]; done) | (revert c17 c46; simp +contextual [sameF, hβ1, hβ2, hβ5, hβ6]; done) | (rcases c17' with hh | hh <;> simp only [hh, sameF, hβ1, hβ2, hβ5, hβ6, c17, c46]; done) | (rcases c46' with hh | hh <;> simp only [hh, sameF, hβ1, hβ2, hβ5, hβ6, c17, c46]; done) | (rcases c46' with hh | hh <;> simp_all [sameF]; done) | (rcases c46' with hh | hh | hh <;> simp_all [sameF]; done) | (rcases c46' with hh | hh | hh | hh <;> simp_all [sameF]; done) | (simp_all [sameF]; done) | rfl
  exact (by first | with_reducible rfl | rw [x60] | rfl)

/- laws.eqVector -/
theorem c_laws_eqVector (a : List Value) (A_a : V3) (b : List Value) (A_b : V3) (w : World) (hv_a : RV3 w A_a a) (hv_b : RV3 w A_b b) : Gives Try.prog 42 #[(.agg a.toArray), (.agg b.toArray)] w (fun v w' => v = (Bo (sameV A_a A_b))) := by
  obtain ⟨r1, r3, r5, rfl, h2, h4, h6⟩ := hv_a
  obtain ⟨r7, r9, r11, rfl, h8, h10, h12⟩ := hv_b
  refine enter [(.agg #[(Fl r1), (Fl r3), (Fl r5)]), (.agg #[(Fl r7), (Fl r9), (Fl r11)]), Ud, Ud, Ud, Ud, Ud, Ud, Ud, Ud, Ud, Ud, Ud, Ud, Ud, Ud, Ud, Ud, Ud, Ud, Ud, Ud, Ud, Ud, Ud, Ud, Ud, Ud, Ud] Try.func42 rfl Try.ntmps42 rfl ?_
  refine wp_seq_k fun K13 hK13 => ?_
  refine wp_region_lit ?_
  refine seqd rfl rfl (does_box (u := (.agg #[(Fl r1), (Fl r3), (Fl r5)])) (ev rfl)) ?_; rintro _ w18 ⟨b14, rfl, hb15, hB16, E17⟩
  have g19 : w.heap.size ≤ b14 := Nat.le_trans (Below.size (Ext.refl w)) hb15
  change Blk _ _ [(Fl r1), (Fl r3), (Fl r5)] at hB16
  have X20 := Ext.gr (Ext.refl w) E17
  show wpList _ _ _ _ (fr [_, _, _, _, _, _, _, _, _, _, _, _, _, _, _, _, _, _, _, _, _, _, _, _, _, _, _, _, _]) _
  refine seqd rfl rfl (does_box (u := (.agg #[(Fl r7), (Fl r9), (Fl r11)])) (ev rfl)) ?_; rintro _ w25 ⟨b21, rfl, hb22, hB23, E24⟩
  have n26 : b14 < b21 := Nat.lt_of_lt_of_le (Blk.lt hB16) hb22
  have g27 : w.heap.size ≤ b21 := Nat.le_trans (Below.size X20) hb22
  change Blk _ _ [(Fl r7), (Fl r9), (Fl r11)] at hB23
  have X28 := Ext.gr X20 E24
  show wpList _ _ _ _ (fr [_, _, _, _, _, _, _, _, _, _, _, _, _, _, _, _, _, _, _, _, _, _, _, _, _, _, _, _, _]) _
  refine q_is rfl rfl (does_assign (u := (Bo false)) (ev rfl)) (by dsimp only [List.set]; try rfl) ?_
  refine wpList_nil (hK13 _ _ ?_)
  refine wp_seq_k fun K29 hK29 => ?_
  refine wp_seq_k fun K30 hK30 => ?_
  refine wp_region_lit ?_
  refine q_is rfl rfl (does_fieldAddr (ev rfl) fa47_0) (by dsimp only [List.set]; try rfl) ?_
  refine q_is rfl rfl (does_load (u := (Fl r1)) (ev rfl) Try.isAgg39 (Cells.at (Blk.cells (hB16.ext E24)) 0 rfl)) (by dsimp only [List.set]; try rfl) ?_
  refine seqd rfl rfl (does_widen Try.underlying39 Try.underlying78 (ev rfl)) ?_; rintro _ w34 ⟨r31, rfl, h32, E33⟩
  have X35 := Ext.gr X28 E33
  show wpList _ _ _ _ (fr [_, _, _, _, _, _, _, _, _, _, _, _, _, _, _, _, _, _, _, _, _, _, _, _, _, _, _, _, _]) _
  refine q_is rfl rfl (does_fieldAddr (ev rfl) fa47_0) (by dsimp only [List.set]; try rfl) ?_
  refine q_is rfl rfl (does_load (u := (Fl r7)) (ev rfl) Try.isAgg39 (Cells.at (Blk.cells (hB23.ext E33)) 0 rfl)) (by dsimp only [List.set]; try rfl) ?_
  refine seqd rfl rfl (does_widen Try.underlying39 Try.underlying78 (ev rfl)) ?_; rintro _ w39 ⟨r36, rfl, h37, E38⟩
  have X40 := Ext.gr X35 E38
  show wpList _ _ _ _ (fr [_, _, _, _, _, _, _, _, _, _, _, _, _, _, _, _, _, _, _, _, _, _, _, _, _, _, _, _, _]) _
  refine seqd rfl rfl (does_call (args := #[(Fd r31), (Fd r36)]) cal43 (evs rfl) (c_laws_sameFloat r31 r36 _)) ?_; rintro _ w42 ⟨E41, rfl⟩
  have X43 := Ext.gr X40 E41
  show wpList _ _ _ _ (fr [_, _, _, _, _, _, _, _, _, _, _, _, _, _, _, _, _, _, _, _, _, _, _, _, _, _, _, _, _]) _
  refine q_is rfl rfl (does_not (ev rfl)) (by dsimp only [List.set]; try rfl) ?_
  refine wpList_nil (hK30 _ _ ?_)
  refine wp_cond_split (t := !(sameF (cf .f64 r31) (cf .f64 r36))) (ev rfl) (fun c44 => ?_) (fun c44 => ?_)
  · rw [Bool.not_eq_true'] at c44
    have c44' := c44
    refine wp_seq_k fun K45 hK45 => ?_
    refine wp_region_lit ?_
    refine q_is rfl rfl (does_assign (u := (Bo false)) (ev rfl)) (by dsimp only [List.set]; try rfl) ?_
    refine wpList_nil (hK45 _ _ ?_)
    refine wp_ret ?_
    dsimp only [Exit.then, Exit.inBlock]
    refine ret_val (v := (Bo false)) (res_T rfl (slot rfl)) X43 ?_
    try simp only [h2, h4, h6, h8, h10, h12, h32, h37] at c44
    have x46 : (sameV A_a A_b) = false := by first | with_reducible rfl | (simp only [sameV, h2, h4, h6, h8, h10, h12, h32, h37, c44]; done) | (simp [sameV, h2, h4, h6, h8, h10, h12, h32, h37, c44]; done) | (revert c44; simp +contextual [sameV, h2, h4, h6, h8, h10, h12, h32, h37]; done) | (rcases c44' with hh | hh <;> simp only [hh, sameV, h2, h4, h6, h8, h10, h12, h32, h37, c44]; done) | (rcases c44' with hh | hh <;> simp_all [sameV]; done) | (rcases c44' with hh | hh | hh <;> simp_all [sameV]; done) | (rcases c44' with hh | hh | hh | hh <;> simp_all [sameV]; done) | (simp_all [sameV]; done) | rfl
    exact (by first | with_reducible rfl | rw [x46] | rfl)
  rw [Bool.not_eq_false'] at c44
  have c44' := c44
  refine wp_skip (hK29 _ _ ?_)
  refine wp_seq_k fun K47 hK47 => ?_
  refine wp_seq_k fun K48 hK48 => ?_
  refine wp_region_lit ?_
  refine q_is rfl rfl (does_fieldAddr (ev rfl) fa47_1) (by dsimp only [List.set]; try rfl) ?_
  refine q_is rfl rfl (does_load (u := (Fl r3)) (ev rfl) Try.isAgg39 (Cells.at (Blk.cells ((((hB16.ext E24).ext E33).ext E38).ext E41)) 1 rfl)) (by dsimp only [List.set]; try rfl) ?_
  refine seqd rfl rfl (does_widen Try.underlying39 Try.underlying78 (ev rfl)) ?_; rintro _ w52 ⟨r49, rfl, h50, E51⟩
  have X53 := Ext.gr X43 E51
  show wpList _ _ _ _ (fr [_, _, _, _, _, _, _, _, _, _, _, _, _, _, _, _, _, _, _, _, _, _, _, _, _, _, _, _, _]) _
  refine q_is rfl rfl (does_fieldAddr (ev rfl) fa47_1) (by dsimp only [List.set]; try rfl) ?_
  refine q_is rfl rfl (does_load (u := (Fl r9)) (ev rfl) Try.isAgg39 (Cells.at (Blk.cells ((((hB23.ext E33).ext E38).ext E41).ext E51)) 1 rfl)) (by dsimp only [List.set]; try rfl) ?_
  refine seqd rfl rfl (does_widen Try.underlying39 Try.underlying78 (ev rfl)) ?_; rintro _ w57 ⟨r54, rfl, h55, E56⟩
  have X58 := Ext.gr X53 E56
  show wpList _ _ _ _ (fr [_, _, _, _, _, _, _, _, _, _, _, _, _, _, _, _, _, _, _, _, _, _, _, _, _, _, _, _, _]) _
  refine seqd rfl rfl (does_call (args := #[(Fd r49), (Fd r54)]) cal43 (evs rfl) (c_laws_sameFloat r49 r54 _)) ?_; rintro _ w60 ⟨E59, rfl⟩
  have X61 := Ext.gr X58 E59
  show wpList _ _ _ _ (fr [_, _, _, _, _, _, _, _, _, _, _, _, _, _, _, _, _, _, _, _, _, _, _, _, _, _, _, _, _]) _
  refine q_is rfl rfl (does_not (ev rfl)) (by dsimp only [List.set]; try rfl) ?_
  refine wpList_nil (hK48 _ _ ?_)
  refine wp_cond_split (t := !(sameF (cf .f64 r49) (cf .f64 r54))) (ev rfl) (fun c62 => ?_) (fun c62 => ?_)
  · rw [Bool.not_eq_true'] at c62
    have c62' := c62
    refine wp_seq_k fun K63 hK63 => ?_
    refine wp_region_lit ?_
    refine q_is rfl rfl (does_assign (u := (Bo false)) (ev rfl)) (by dsimp only [List.set]; try rfl) ?_
    refine wpList_nil (hK63 _ _ ?_)
    refine wp_ret ?_
    dsimp only [Exit.then, Exit.inBlock]
    refine ret_val (v := (Bo false)) (res_T rfl (slot rfl)) X61 ?_
    try simp only [h2, h4, h6, h8, h10, h12, h32, h37, h50, h55] at c44 c62
    have x64 : (sameV A_a A_b) = false := by first | with_reducible rfl | (simp only [sameV, h2, h4, h6, h8, h10, h12, h32, h37, h50, h55, c44, c62]; done) | (simp [sameV, h2, h4, h6, h8, h10, h12, h32, h37, h50, h55, c44, c62]; done) | (revert c44 c62; simp +contextual [sameV, h2, h4, h6, h8, h10, h12, h32, h37, h50, h55]; done) | (rcases c44' with hh | hh <;> simp only [hh, sameV, h2, h4, h6, h8, h10, h12, h32, h37, h50, h55, c44, c62]; done) | (rcases c62' with hh | hh <;> simp only [hh, sameV, h2, h4, h6, h8, h10, h12, h32, h37, h50, h55, c44, c62]; done) | (rcases c62' with hh | hh <;> simp_all [sameV]; done) | (rcases c62' with hh | hh | hh <;> simp_all [sameV]; done) | (rcases c62' with hh | hh | hh | hh <;> simp_all [sameV]; done) | (simp_all [sameV]; done) | rfl
    exact (by first | with_reducible rfl | rw [x64] | rfl)
  rw [Bool.not_eq_false'] at c62
  have c62' := c62
  refine wp_skip (hK47 _ _ ?_)
  refine wp_seq_k fun K65 hK65 => ?_
  refine wp_seq_k fun K66 hK66 => ?_
  refine wp_region_lit ?_
  refine q_is rfl rfl (does_fieldAddr (ev rfl) fa47_2) (by dsimp only [List.set]; try rfl) ?_
  refine q_is rfl rfl (does_load (u := (Fl r5)) (ev rfl) Try.isAgg39 (Cells.at (Blk.cells (((((((hB16.ext E24).ext E33).ext E38).ext E41).ext E51).ext E56).ext E59)) 2 rfl)) (by dsimp only [List.set]; try rfl) ?_
  refine seqd rfl rfl (does_widen Try.underlying39 Try.underlying78 (ev rfl)) ?_; rintro _ w70 ⟨r67, rfl, h68, E69⟩
  have X71 := Ext.gr X61 E69
  show wpList _ _ _ _ (fr [_, _, _, _, _, _, _, _, _, _, _, _, _, _, _, _, _, _, _, _, _, _, _, _, _, _, _, _, _]) _
  refine q_is rfl rfl (does_fieldAddr (ev rfl) fa47_2) (by dsimp only [List.set]; try rfl) ?_
  refine q_is rfl rfl (does_load (u := (Fl r11)) (ev rfl) Try.isAgg39 (Cells.at (Blk.cells (((((((hB23.ext E33).ext E38).ext E41).ext E51).ext E56).ext E59).ext E69)) 2 rfl)) (by dsimp only [List.set]; try rfl) ?_
  refine seqd rfl rfl (does_widen Try.underlying39 Try.underlying78 (ev rfl)) ?_; rintro _ w75 ⟨r72, rfl, h73, E74⟩
  have X76 := Ext.gr X71 E74
  show wpList _ _ _ _ (fr [_, _, _, _, _, _, _, _, _, _, _, _, _, _, _, _, _, _, _, _, _, _, _, _, _, _, _, _, _]) _
  refine seqd rfl rfl (does_call (args := #[(Fd r67), (Fd r72)]) cal43 (evs rfl) (c_laws_sameFloat r67 r72 _)) ?_; rintro _ w78 ⟨E77, rfl⟩
  have X79 := Ext.gr X76 E77
  show wpList _ _ _ _ (fr [_, _, _, _, _, _, _, _, _, _, _, _, _, _, _, _, _, _, _, _, _, _, _, _, _, _, _, _, _]) _
  refine q_is rfl rfl (does_not (ev rfl)) (by dsimp only [List.set]; try rfl) ?_
  refine wpList_nil (hK66 _ _ ?_)
  refine wp_cond_split (t := !(sameF (cf .f64 r67) (cf .f64 r72))) (ev rfl) (fun c80 => ?_) (fun c80 => ?_)
  · rw [Bool.not_eq_true'] at c80
    have c80' := c80
    refine wp_seq_k fun K81 hK81 => ?_
    refine wp_region_lit ?_
    refine q_is rfl rfl (does_assign (u := (Bo false)) (ev rfl)) (by dsimp only [List.set]; try rfl) ?_
    refine wpList_nil (hK81 _ _ ?_)
    refine wp_ret ?_
    dsimp only [Exit.then, Exit.inBlock]
    refine ret_val (v := (Bo false)) (res_T rfl (slot rfl)) X79 ?_
    try simp only [h2, h4, h6, h8, h10, h12, h32, h37, h50, h55, h68, h73] at c44 c62 c80
    have x82 : (sameV A_a A_b) = false := by first | with_reducible rfl | (simp only [sameV, h2, h4, h6, h8, h10, h12, h32, h37, h50, h55, h68, h73, c44, c62, c80]; done) | (simp [sameV, h2, h4, h6, h8, h10, h12, h32, h37, h50, h55, h68, h73, c44, c62, c80]; done) | (revert c44 c62 c80; simp +contextual [sameV, h2, h4, h6, h8, h10, h12, h32, h37, h50, h55, h68, h73]; done) | (rcases c44' with hh | hh <;> simp only [hh, sameV, h2, h4, h6, h8, h10, h12, h32, h37, h50, h55, h68, h73, c44, c62, c80]; done) | (rcases c62' with hh | hh <;> simp only [hh, sameV, h2, h4, h6, h8, h10, h12, h32, h37, h50, h55, h68, h73, c44, c62, c80]; done) | (rcases c80' with hh | hh <;> simp only [hh, sameV, h2, h4, h6, h8, h10, h12, h32, h37, h50, h55, h68, h73, c44, c62, c80]; done) | (rcases c80' with hh | hh <;> simp_all [sameV]; done) | (rcases c80' with hh | hh | hh <;> simp_all [sameV]; done) | (rcases c80' with hh | hh | hh | hh <;> simp_all [sameV]; done) | (simp_all [sameV]; done) | rfl
    exact (by first | with_reducible rfl | rw [x82] | rfl)
  rw [Bool.not_eq_false'] at c80
  have c80' := c80
  refine wp_skip (hK65 _ _ ?_)
  refine wp_seq_k fun K83 hK83 => ?_
  refine wp_region_lit ?_
  refine q_is rfl rfl (does_assign (u := (Bo true)) (ev rfl)) (by dsimp only [List.set]; try rfl) ?_
  refine wpList_nil (hK83 _ _ ?_)
  refine wp_ret ?_
  refine ret_val (v := (Bo true)) (res_T rfl (slot rfl)) X79 ?_
  try simp only [h2, h4, h6, h8, h10, h12, h32, h37, h50, h55, h68, h73] at c44 c62 c80
  have x84 : (sameV A_a A_b) = true := by first | with_reducible rfl | (simp only [sameV, h2, h4, h6, h8, h10, h12, h32, h37, h50, h55, h68, h73, c44, c62, c80]; done) | (simp [sameV, h2, h4, h6, h8, h10, h12, h32, h37, h50, h55, h68, h73, c44, c62, c80]; done) | (revert c44 c62 c80; simp +contextual [sameV, h2, h4, h6, h8, h10, h12, h32, h37, h50, h55, h68, h73]; done) | (rcases c44' with hh | hh <;> simp only [hh, sameV, h2, h4, h6, h8, h10, h12, h32, h37, h50, h55, h68, h73, c44, c62, c80]; done) | (rcases c62' with hh | hh <;> simp only [hh, sameV, h2, h4, h6, h8, h10, h12, h32, h37, h50, h55, h68, h73, c44, c62, c80]; done) | (rcases c80' with hh | hh <;> simp only [hh, sameV, h2, h4, h6, h8, h10, h12, h32, h37, h50, h55, h68, h73, c44, c62, c80]; done) | (rcases c80' with hh | hh <;> simp_all [sameV]; done) | (rcases c80' with hh | hh | hh <;> simp_all [sameV]; done) | (rcases c80' with hh | hh | hh | hh <;> simp_all [sameV]; done) | (simp_all [sameV]; done) | rfl
  exact (by first | with_reducible rfl | rw [x84] | rfl)

/- laws.eqFloat32S -/
theorem c_laws_eqFloat32S (a : Value) (L_a : List Nat) (b : Value) (L_b : List Nat) (w : World) (hv_a : Sl RF 1 w a L_a) (hv_b : Sl RF 1 w b L_b) : Gives Try.prog 44 #[a, b] w (fun v w' => v = (Bo (sameL L_a L_b))) := by
  have hlen_a := Sl.len hv_a; obtain ⟨p_a, q_a, rfl⟩ := Sl.shape hv_a
  have hlen_b := Sl.len hv_b; obtain ⟨p_b, q_b, rfl⟩ := Sl.shape hv_b
  refine enter [(.slice p_a L_a.length q_a), (.slice p_b L_b.length q_b), Ud, Ud, Ud, Ud, Ud, Ud, Ud, Ud, Ud, Ud, Ud, Ud, Ud, Ud, Ud, Ud, Ud, Ud, Ud, Ud, Ud, Ud, Ud, Ud, Ud, Ud, Ud] Try.func44 rfl Try.ntmps44 rfl ?_
  refine wp_seq_k fun K1 hK1 => ?_
  refine wp_region_lit ?_
  refine q_is rfl rfl (does_assign (u := (Bo false)) (ev rfl)) (by dsimp only [List.set]; try rfl) ?_
  refine wpList_nil (hK1 _ _ ?_)
  refine wp_seq_k fun K2 hK2 => ?_
  refine wp_seq_k fun K3 hK3 => ?_
  refine wp_region_lit ?_
  refine q_is rfl rfl (does_move (u := (.slice p_a L_a.length q_a)) (ev rfl)) (by dsimp only [List.set]; try rfl) ?_
  refine q_is rfl rfl (does_len_slice Try.underlying42 (ev rfl)) (by dsimp only [List.set]; try rfl) ?_
  refine q_is rfl rfl (does_move (u := (.slice p_b L_b.length q_b)) (ev rfl)) (by dsimp only [List.set]; try rfl) ?_
  refine q_is rfl rfl (does_len_slice Try.underlying42 (ev rfl)) (by dsimp only [List.set]; try rfl) ?_
  refine q_is rfl rfl (does_icmp (p := (L_a.length : Int)) (q := (L_b.length : Int)) (.inr (.inl rfl)) (ev rfl) (ev rfl)) (by dsimp only [List.set]; try rfl) ?_
  refine wpList_nil (hK3 _ _ ?_)
  refine wp_cond_split (t := icmp .neq (L_a.length : Int) (L_b.length : Int)) (ev rfl) (fun c4 => ?_) (fun c4 => ?_)
  · have c4' := c4
    (try simp only [icmp, Bool.and_eq_true, Bool.or_eq_true, Bool.and_eq_false_iff, Bool.or_eq_false_iff, Bool.not_eq_true', Bool.not_eq_false', decide_eq_true_eq, decide_eq_false_iff_not, beq_iff_eq, bne_iff_ne, beq_eq_false_iff_ne, bne_eq_false_iff_eq] at c4')
    refine wp_seq_k fun K5 hK5 => ?_
    refine wp_region_lit ?_
    refine q_is rfl rfl (does_assign (u := (Bo false)) (ev rfl)) (by dsimp only [List.set]; try rfl) ?_
    refine wpList_nil (hK5 _ _ ?_)
    refine wp_ret ?_
    dsimp only [Exit.then, Exit.inBlock]
    refine ret_val (v := (Bo false)) (res_T rfl (slot rfl)) (Ext.refl w) ?_
    have x6 : (sameL L_a L_b) = false := by first | exact (sameL_len (by omega)) | exact (sameL_not (by omega) (by assumption) (by assumption) (by simp_all)) | exact (sameL_all (by omega) (by omega) hs)
    exact (by first | with_reducible rfl | rw [x6] | rfl)
  have c4' := c4
  (try simp only [icmp, Bool.and_eq_true, Bool.or_eq_true, Bool.and_eq_false_iff, Bool.or_eq_false_iff, Bool.not_eq_true', Bool.not_eq_false', decide_eq_true_eq, decide_eq_false_iff_not, beq_iff_eq, bne_iff_ne, beq_eq_false_iff_ne, bne_eq_false_iff_eq] at c4')
  refine wp_skip (hK2 _ _ ?_)
  refine wp_seq_k fun K7 hK7 => ?_
  refine wp_seq_k fun K8 hK8 => ?_
  refine wp_region_lit ?_
  refine q_is rfl rfl (does_assign (u := (Iv 0)) (ev rfl)) (by dsimp only [List.set]; try rfl) ?_
  refine wpList_nil (hK8 _ _ ?_)
  refine wp_block ?_
  refine loop_ghost (σ := Nat) (fun k a w' => ∃ u9 : Nat → Value, a = fr [(.slice p_a L_a.length q_a), (.slice p_b L_b.length q_b), Ud, Ud, (u9 4), (Iv (k : Int)), (.slice p_a L_a.length q_a), (Iv (L_a.length : Int)), (.slice p_b L_b.length q_b), (Iv (L_b.length : Int)), (Bo (icmp .neq (L_a.length : Int) (L_b.length : Int))), (u9 11), (u9 12), (u9 13), (u9 14), (u9 15), (u9 16), (u9 17), (u9 18), (u9 19), (u9 20), (u9 21), (u9 22), (u9 23), (u9 24), (u9 25), (u9 26), (u9 27), (u9 28)] ∧ Ext w w' ∧ (k ≤ L_a.length ∧ SameTo L_a L_b k)) (fun k => L_a.length - k) 0 ?_ ?_
  · refine ⟨fun t => (([(.slice p_a L_a.length q_a), (.slice p_b L_b.length q_b), Ud, Ud, (Bo false), (Iv 0), (.slice p_a L_a.length q_a), (Iv (L_a.length : Int)), (.slice p_b L_b.length q_b), (Iv (L_b.length : Int)), (Bo (icmp .neq (L_a.length : Int) (L_b.length : Int))), Ud, Ud, Ud, Ud, Ud, Ud, Ud, Ud, Ud, Ud, Ud, Ud, Ud, Ud, Ud, Ud, Ud, Ud] : List Value)[t]?).getD undef, rfl, Ext.refl _, ?_⟩
    exact ⟨Nat.zero_le _, SameTo.zero⟩
  · rintro k a w10 ⟨u9, rfl, E11, ⟨hk, hs⟩⟩
    have X13 := Ext.gr (Ext.refl w) E11
    refine wp_seq_k fun K14 hK14 => ?_
    refine wp_seq_k fun K15 hK15 => ?_
    refine wp_region_lit ?_
    refine q_is rfl rfl (does_move (u := (Iv (k : Int))) (ev rfl)) (by dsimp only [List.set]; try rfl) ?_
    refine q_is rfl rfl (does_move (u := (.slice p_a L_a.length q_a)) (ev rfl)) (by dsimp only [List.set]; try rfl) ?_
    refine q_is rfl rfl (does_len_slice Try.underlying42 (ev rfl)) (by dsimp only [List.set]; try rfl) ?_
    refine q_is rfl rfl (does_icmp (p := (k : Int)) (q := (L_a.length : Int)) (.inr (.inr (.inl rfl))) (ev rfl) (ev rfl)) (by dsimp only [List.set]; try rfl) ?_
    refine wpList_nil (hK15 _ _ ?_)
    refine wp_cond_split (t := icmp .lss (k : Int) (L_a.length : Int)) (ev rfl) (fun c16 => ?_) (fun c16 => ?_)
    · have c16' := c16
      (try simp only [icmp, Bool.and_eq_true, Bool.or_eq_true, Bool.and_eq_false_iff, Bool.or_eq_false_iff, Bool.not_eq_true', Bool.not_eq_false', decide_eq_true_eq, decide_eq_false_iff_not, beq_iff_eq, bne_iff_ne, beq_eq_false_iff_ne, bne_eq_false_iff_eq] at c16')
      refine wp_skip (hK14 _ _ ?_)
      refine wp_seq_k fun K17 hK17 => ?_
      refine wp_block ?_
      refine wp_seq_k fun K18 hK18 => ?_
      obtain ⟨el1, hel1⟩ : ∃ e, L_a[k]? = some e := ⟨_, List.getElem?_eq_getElem (by omega)⟩
      obtain ⟨el2, hel2⟩ : ∃ e, L_b[k]? = some e := ⟨_, List.getElem?_eq_getElem (by omega)⟩
      obtain ⟨β1, hβ1⟩ : ∃ b : Bool, b = (sameF (fwid el1) (fwid el2)) := ⟨_, rfl⟩
      refine region_draw (
        [Fact.pure [] (fun v => v = (.slice p_a L_a.length q_a)),
    Fact.pure [] (fun v => v = (Iv (k : Int))),
    Fact.mem [17, 18] (fun v w' => PtrR RF w' v el1) (by intro v w1 w2 hx h; exact h.ext RF.mono hx),
    Fact.pure [19] (fun v => ∃ r_1 : Nat, v = (Fl r_1) ∧ cf .f32 r_1 = el1),
    Fact.pure [20] (fun v => ∃ r_1 : Nat, v = (Fd r_1) ∧ cf .f64 r_1 = fwid el1),
    Fact.pure [] (fun v => v = (.slice p_b L_b.length q_b)),
    Fact.pure [] (fun v => v = (Iv (k : Int))),
    Fact.mem [22, 23] (fun v w' => PtrR RF w' v el2) (by intro v w1 w2 hx h; exact h.ext RF.mono hx),
    Fact.pure [24] (fun v => ∃ r_1 : Nat, v = (Fl r_1) ∧ cf .f32 r_1 = el2),
    Fact.pure [25] (fun v => ∃ r_1 : Nat, v = (Fd r_1) ∧ cf .f64 r_1 = fwid el2),
    Fact.pure [21, 26] (fun v => v = (Bo β1)),
    Fact.pure [27] (fun v => v = (Bo (!β1)))]) mixed (by kernel_rfl) (by intro _ _ d _ _ h; cases d <;> exact h) ?_
      obtain ⟨w19, hw21⟩ : ∃ w', w' = World.drew w10 := ⟨_, rfl⟩; rw [← hw21]; have E20 : Ext w10 w19 := by rw [hw21]; exact Ext.draw _
      clear hw21
      have X22 := Ext.gr X13 E20
      refine RW_d _ rfl (fun v => by dsimp only [List.set]; try rfl) (fun u hu hF => ?_) (fun v23 => ?_)
      · clear hF
        refine doesG_un rfl ?_
        refine (does_move (u := (.slice p_a L_a.length q_a)) (ev rfl)).mono ?_; rintro _ _ ⟨rfl, rfl⟩
        exact ⟨rfl, Ext.refl _⟩
      refine RW_d _ rfl (fun v => by dsimp only [List.set]; try rfl) (fun u hu hF => ?_) (fun v24 => ?_)
      · clear hF
        refine doesG_un rfl ?_
        refine (does_move (u := (Iv (k : Int))) (ev rfl)).mono ?_; rintro _ _ ⟨rfl, rfl⟩
        exact ⟨rfl, Ext.refl _⟩
      refine RW_d _ rfl (fun v => by dsimp only [List.set]; try rfl) (fun u hu hF => ?_) (fun v25 => ?_)
      · have h17_ : v23 = (.slice p_a L_a.length q_a) := hF.1
        have h18_ : v24 = (Iv (k : Int)) := hF.2.1
        clear hF
        refine doesG_un rfl ?_
        obtain rfl := h17_
        obtain rfl := h18_
        refine (does_indexSl (R := RF) (i := (k : Int)) (xs := L_a) (e := el1) Try.underlying42 Try.sizeOf39 (ev rfl) (ev rfl) (Sl.ext (Sl.ext hv_a RF.mono (Ext.gr X13 E20)) RF.mono hu) (by omega) hel1).mono ?_; rintro v u' ⟨b, of, cs, hv, hc, hR, hu'⟩; subst hu'
        exact ⟨⟨b, of, cs, hv, hc, hR⟩, Ext.refl _⟩
      refine RW_d _ rfl (fun v => by dsimp only [List.set]; try rfl) (fun u hu hF => ?_) (fun v26 => ?_)
      · have h19_ : PtrR RF u v25 el1 := hF.1
        clear hF
        refine doesG_un rfl ?_
        obtain ⟨b19_, o19_, _, rfl, hc19_, ⟨r19_1, rfl, h19_2⟩⟩ := h19_
        refine (does_load (u := (Fl r19_1)) (ev rfl) Try.isAgg39 (Cells.at hc19_ 0 rfl)).mono ?_; rintro _ _ ⟨rfl, rfl⟩
        exact ⟨⟨r19_1, rfl, (by simp only [h19_2])⟩, Ext.refl _⟩
      refine RW_d _ rfl (fun v => by dsimp only [List.set]; try rfl) (fun u hu hF => ?_) (fun v27 => ?_)
      · have h20_ : ∃ r_1 : Nat, v26 = (Fl r_1) ∧ cf .f32 r_1 = el1 := hF.1
        clear hF
        refine doesG_un rfl ?_
        obtain ⟨r20_1, rfl, h20_2⟩ := h20_
        refine (does_widen Try.underlying39 Try.underlying78 (ev rfl)).mono ?_; rintro _ _ ⟨r, rfl, hr, hx⟩
        exact ⟨⟨r, rfl, (by simp only [hr, h20_2])⟩, hx⟩
      refine RW_d _ rfl (fun v => by dsimp only [List.set]; try rfl) (fun u hu hF => ?_) (fun v28 => ?_)
      · clear hF
        refine doesG_un rfl ?_
        refine (does_move (u := (.slice p_b L_b.length q_b)) (ev rfl)).mono ?_; rintro _ _ ⟨rfl, rfl⟩
        exact ⟨rfl, Ext.refl _⟩
      refine RW_d _ rfl (fun v => by dsimp only [List.set]; try rfl) (fun u hu hF => ?_) (fun v29 => ?_)
      · clear hF
        refine doesG_un rfl ?_
        refine (does_move (u := (Iv (k : Int))) (ev rfl)).mono ?_; rintro _ _ ⟨rfl, rfl⟩
        exact ⟨rfl, Ext.refl _⟩
      refine RW_d _ rfl (fun v => by dsimp only [List.set]; try rfl) (fun u hu hF => ?_) (fun v30 => ?_)
      · have h22_ : v28 = (.slice p_b L_b.length q_b) := hF.1
        have h23_ : v29 = (Iv (k : Int)) := hF.2.1
        clear hF
        refine doesG_un rfl ?_
        obtain rfl := h22_
        obtain rfl := h23_
        refine (does_indexSl (R := RF) (i := (k : Int)) (xs := L_b) (e := el2) Try.underlying42 Try.sizeOf39 (ev rfl) (ev rfl) (Sl.ext (Sl.ext hv_b RF.mono (Ext.gr X13 E20)) RF.mono hu) (by omega) hel2).mono ?_; rintro v u' ⟨b, of, cs, hv, hc, hR, hu'⟩; subst hu'
        exact ⟨⟨b, of, cs, hv, hc, hR⟩, Ext.refl _⟩
      refine RW_d _ rfl (fun v => by dsimp only [List.set]; try rfl) (fun u hu hF => ?_) (fun v31 => ?_)
      · have h24_ : PtrR RF u v30 el2 := hF.1
        clear hF
        refine doesG_un rfl ?_
        obtain ⟨b24_, o24_, _, rfl, hc24_, ⟨r24_1, rfl, h24_2⟩⟩ := h24_
        refine (does_load (u := (Fl r24_1)) (ev rfl) Try.isAgg39 (Cells.at hc24_ 0 rfl)).mono ?_; rintro _ _ ⟨rfl, rfl⟩
        exact ⟨⟨r24_1, rfl, (by simp only [h24_2])⟩, Ext.refl _⟩
      refine RW_d _ rfl (fun v => by dsimp only [List.set]; try rfl) (fun u hu hF => ?_) (fun v32 => ?_)
      · have h25_ : ∃ r_1 : Nat, v31 = (Fl r_1) ∧ cf .f32 r_1 = el2 := hF.1
        clear hF
        refine doesG_un rfl ?_
        obtain ⟨r25_1, rfl, h25_2⟩ := h25_
        refine (does_widen Try.underlying39 Try.underlying78 (ev rfl)).mono ?_; rintro _ _ ⟨r, rfl, hr, hx⟩
        exact ⟨⟨r, rfl, (by simp only [hr, h25_2])⟩, hx⟩
      refine RW_d _ rfl (fun v => by dsimp only [List.set]; try rfl) (fun u hu hF => ?_) (fun v33 => ?_)
      · have h21_ : ∃ r_1 : Nat, v27 = (Fd r_1) ∧ cf .f64 r_1 = fwid el1 := hF.1
        have h26_ : ∃ r_1 : Nat, v32 = (Fd r_1) ∧ cf .f64 r_1 = fwid el2 := hF.2.1
        clear hF
        refine doesG_un rfl ?_
        obtain ⟨r21_1, rfl, h21_2⟩ := h21_
        obtain ⟨r26_1, rfl, h26_2⟩ := h26_
        refine (does_call (args := #[(Fd r21_1), (Fd r26_1)]) cal43 (evs rfl) (c_laws_sameFloat r21_1 r26_1 _)).mono ?_; rintro v u' ⟨hx, hv⟩
        exact ⟨hv.trans (by simp only [hβ1, h21_2, h26_2]), hx⟩
      refine RW_d _ rfl (fun v => by dsimp only [List.set]; try rfl) (fun u hu hF => ?_) (fun v34 => ?_)
      · have h27_ : v33 = (Bo β1) := hF.1
        clear hF
        refine doesG_un rfl ?_
        obtain rfl := h27_
        refine (does_not (ev rfl)).mono ?_; rintro _ _ ⟨rfl, rfl⟩
        exact ⟨rfl, Ext.refl _⟩
      refine RW_fin ?_; intro w35 E36 hP37
      obtain ⟨⟨⟨⟨⟨⟨⟨⟨⟨⟨⟨⟨-, -⟩, -⟩, -⟩, -⟩, -⟩, -⟩, -⟩, -⟩, -⟩, -⟩, -⟩, q38⟩ := hP37
      have X39 := Ext.gr X22 E36
      have q38 : v34 = (Bo (!β1)) := q38
      obtain rfl := q38
      show wpList _ _ _ _ (fr [_, _, _, _, _, _, _, _, _, _, _, _, _, _, _, _, _, _, _, _, _, _, _, _, _, _, _, _, _]) _
      refine wpList_nil (hK18 _ _ ?_)
      refine wp_cond_split (t := !β1) (ev rfl) (fun c40 => ?_) (fun c40 => ?_)
      · rw [Bool.not_eq_true'] at c40
        have c40' := c40
        (try simp only [hβ1] at c40')
        (try simp only [icmp, Bool.and_eq_true, Bool.or_eq_true, Bool.and_eq_false_iff, Bool.or_eq_false_iff, Bool.not_eq_true', Bool.not_eq_false', decide_eq_true_eq, decide_eq_false_iff_not, beq_iff_eq, bne_iff_ne, beq_eq_false_iff_ne, bne_eq_false_iff_eq] at c40')
        refine wp_seq_k fun K41 hK41 => ?_
        refine wp_region_lit ?_
        refine q_is rfl rfl (does_assign (u := (Bo false)) (ev rfl)) (by dsimp only [List.set]; try rfl) ?_
        refine wpList_nil (hK41 _ _ ?_)
        refine wp_ret ?_
        dsimp only [Exit.then, Exit.inBlock]
        refine ret_val (v := (Bo false)) (res_T rfl (slot rfl)) X39 ?_
        try simp only [hβ1, hel1, hel2] at c4 c16 c40
        have x42 : (sameL L_a L_b) = false := by first | exact (sameL_len (by omega)) | exact (sameL_not (by omega) (by assumption) (by assumption) (by simp_all)) | exact (sameL_all (by omega) (by omega) hs)
        exact (by first | with_reducible rfl | rw [x42] | rfl)
      rw [Bool.not_eq_false'] at c40
      have c40' := c40
      (try simp only [hβ1] at c40')
      (try simp only [icmp, Bool.and_eq_true, Bool.or_eq_true, Bool.and_eq_false_iff, Bool.or_eq_false_iff, Bool.not_eq_true', Bool.not_eq_false', decide_eq_true_eq, decide_eq_false_iff_not, beq_iff_eq, bne_iff_ne, beq_eq_false_iff_ne, bne_eq_false_iff_eq] at c40')
      refine wp_skip (hK17 _ _ ?_)
      refine wp_region_lit ?_
      refine q_is rfl rfl (does_move (u := (Iv (k : Int))) (ev rfl)) (by dsimp only [List.set]; try rfl) ?_
      refine q_is rfl rfl (does_iarith (p := (k : Int)) (q := 1) (r := (k : Int) + 1) (ev rfl) (ev rfl) (.inl ⟨rfl, (in_i64 (by omega) (by omega)).symm⟩)) (by dsimp only [List.set]; try rfl) ?_
      refine q_is rfl rfl (does_assign (u := (Iv ((k : Int) + 1))) (ev rfl)) (by dsimp only [List.set]; try rfl) ?_
      refine wpList_nil ?_
      refine ⟨k + 1, ⟨fun t => (([(.slice p_a L_a.length q_a), (.slice p_b L_b.length q_b), Ud, Ud, (u9 4), (Iv ((k : Int) + 1)), (.slice p_a L_a.length q_a), (Iv (L_a.length : Int)), (.slice p_b L_b.length q_b), (Iv (L_b.length : Int)), (Bo (icmp .neq (L_a.length : Int) (L_b.length : Int))), (Iv (k : Int)), (.slice p_a L_a.length q_a), (Iv (L_a.length : Int)), (Bo (icmp .lss (k : Int) (L_a.length : Int))), (Iv (k : Int)), (Iv ((k : Int) + 1)), v23, v24, v25, v26, v27, v28, v29, v30, v31, v32, v33, (Bo (!β1))] : List Value)[t]?).getD undef, ?_, (Ext.gr (Ext.gr E11 E20) E36), ?_⟩, ?_⟩
      · first | rfl | (simp only [Int.natCast_add, Int.natCast_one]; rfl)
      · exact ⟨by omega, SameTo.step hs (by assumption) (by assumption) (by simp_all)⟩
      · omega
    have c16' := c16
    (try simp only [icmp, Bool.and_eq_true, Bool.or_eq_true, Bool.and_eq_false_iff, Bool.or_eq_false_iff, Bool.not_eq_true', Bool.not_eq_false', decide_eq_true_eq, decide_eq_false_iff_not, beq_iff_eq, bne_iff_ne, beq_eq_false_iff_ne, bne_eq_false_iff_eq] at c16')
    refine wp_exit ?_
    refine hK7 _ _ ?_
    refine wp_seq_k fun K43 hK43 => ?_
    refine wp_region_lit ?_
    refine q_is rfl rfl (does_assign (u := (Bo true)) (ev rfl)) (by dsimp only [List.set]; try rfl) ?_
    refine wpList_nil (hK43 _ _ ?_)
    refine wp_ret ?_
    refine ret_val (v := (Bo true)) (res_T rfl (slot rfl)) X13 ?_
    have x44 : (sameL L_a L_b) = true := by first | exact (sameL_len (by omega)) | exact (sameL_not (by omega) (by assumption) (by assumption) (by simp_all)) | exact (sameL_all (by omega) (by omega) hs)
    exact (by first | with_reducible rfl | rw [x44] | rfl)

end Go.Proofs.Ytlfpeihlfmdmdaa
