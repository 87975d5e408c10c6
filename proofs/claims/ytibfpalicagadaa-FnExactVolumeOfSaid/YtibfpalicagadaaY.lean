/- contracts of functions, each walked once -/
import Derived.Test.YtibfpalicagadaaZ
import Derived.Test.YtibfpalicagadaaZ2
namespace Go.Proofs.Ytibfpalicagadaa
open Go Go.RowKit
set_option maxRecDepth 100000
set_option linter.unusedVariables false
set_option linter.unusedSimpArgs false

/- spec.l06Has -/
theorem c_spec_l06Has (g_b : Nat) (g_o : Nat) (g : List Value) (A_g : GridT) (x : Int) (y : Int) (z : Int) (w : World) (hc_g : Cells w g_b g_o g) (hv_g : RGridT w A_g g) : Gives Try.prog 68 #[(Pt g_b g_o), (Iv x), (Iv y), (Iv z)] w (fun v w' => v = (Bo (hasG A_g x y z))) := by
  obtain ⟨r1, r3, r5, r7, y9, rfl, h2, h4, h6, h8, h10⟩ := hv_g
  have hs13 := h10; have hs13l := Sl.len h10; obtain ⟨p11, q12, rfl⟩ := Sl.shape h10
  refine enter [(Pt g_b g_o), (Iv x), (Iv y), (Iv z), Ud, Ud, Ud, Ud, Ud, Ud, Ud, Ud, Ud, Ud, Ud, Ud, Ud, Ud, Ud, Ud, Ud, Ud, Ud, Ud, Ud, Ud, Ud, Ud, Ud, Ud, Ud, Ud, Ud, Ud] Try.func68 rfl Try.ntmps68 rfl ?_
  refine wp_seq_k fun K14 hK14 => ?_
  refine wp_region_lit ?_
  refine q_is (l' := [(Pt g_b g_o), (Iv x), (Iv y), (Iv z), Ud, Ud, Ud, Ud, (Bo false), Ud, Ud, Ud, Ud, Ud, Ud, Ud, Ud, Ud, Ud, Ud, Ud, Ud, Ud, Ud, Ud, Ud, Ud, Ud, Ud, Ud, Ud, Ud, Ud, Ud]) rfl rfl (does_assign (u := (Bo false)) (ev rfl)) rfl ?_
  refine wpList_nil (hK14 _ _ ?_)
  refine wp_seq_k fun K15 hK15 => ?_
  obtain ⟨β1, hβ1⟩ : ∃ b : Bool, b = (inI x 0 (IntKind.i64.wrap (A_g.x - 1))) := ⟨_, rfl⟩
  obtain ⟨β2, hβ2⟩ : ∃ b : Bool, b = (inI y 0 (IntKind.i64.wrap (A_g.y - 1))) := ⟨_, rfl⟩
  obtain ⟨β3, hβ3⟩ : ∃ b : Bool, b = (inI z 0 (IntKind.i64.wrap (A_g.z - 1))) := ⟨_, rfl⟩
  refine region_text (
    [Fact.pure [] (fun v => v = (Iv x)),
    Fact.pure [] (fun v => v = (Pt g_b g_o)),
    Fact.pure [10] (fun v => v = (Pt g_b g_o)),
    Fact.pure [11] (fun v => v = (Pt g_b (g_o + 4))),
    Fact.pure [12] (fun v => v = (Iv A_g.x)),
    Fact.pure [13] (fun v => v = (Iv (IntKind.i64.wrap (A_g.x - 1)))),
    Fact.pure [9, 14] (fun v => v = (Bo β1)),
    Fact.pure [15] (fun v => v = (Bo β1)),
    Fact.pure [16] (fun v => β1 = true → v = (Iv y)),
    Fact.pure [16] (fun v => β1 = true → v = (Pt g_b g_o)),
    Fact.pure [18, 16] (fun v => β1 = true → v = (Pt g_b g_o)),
    Fact.pure [19, 16] (fun v => β1 = true → v = (Pt g_b (g_o + 5))),
    Fact.pure [20, 16] (fun v => β1 = true → v = (Iv A_g.y)),
    Fact.pure [21, 16] (fun v => β1 = true → v = (Iv (IntKind.i64.wrap (A_g.y - 1)))),
    Fact.pure [17, 22, 16] (fun v => β1 = true → v = (Bo β2)),
    Fact.pure [16, 23] (fun v => v = (Bo (β1 && β2))),
    Fact.pure [24] (fun v => v = (Bo (β1 && β2))),
    Fact.pure [25] (fun v => (β1 && β2) = true → v = (Iv z)),
    Fact.pure [25] (fun v => (β1 && β2) = true → v = (Pt g_b g_o)),
    Fact.pure [27, 25] (fun v => (β1 && β2) = true → v = (Pt g_b g_o)),
    Fact.pure [28, 25] (fun v => (β1 && β2) = true → v = (Pt g_b (g_o + 6))),
    Fact.pure [29, 25] (fun v => (β1 && β2) = true → v = (Iv A_g.z)),
    Fact.pure [30, 25] (fun v => (β1 && β2) = true → v = (Iv (IntKind.i64.wrap (A_g.z - 1)))),
    Fact.pure [26, 31, 25] (fun v => (β1 && β2) = true → v = (Bo β3)),
    Fact.pure [25, 32] (fun v => v = (Bo ((β1 && β2) && β3)))]) (by simp [Fact.pure, Fact.mem]) ?_
  refine RW_d (fun v16 => [(Pt g_b g_o), (Iv x), (Iv y), (Iv z), Ud, Ud, Ud, Ud, (Bo false), v16, Ud, Ud, Ud, Ud, Ud, Ud, Ud, Ud, Ud, Ud, Ud, Ud, Ud, Ud, Ud, Ud, Ud, Ud, Ud, Ud, Ud, Ud, Ud, Ud]) rfl (fun _ => rfl) (fun u hu hF => ?_) (fun v16 => ?_)
  · clear hF
    refine doesG_un rfl ?_
    refine (does_move (u := (Iv x)) (ev rfl)).mono ?_; rintro _ _ ⟨rfl, rfl⟩
    exact ⟨rfl, Ext.refl _⟩
  refine RW_d (fun v17 => [(Pt g_b g_o), (Iv x), (Iv y), (Iv z), Ud, Ud, Ud, Ud, (Bo false), v16, v17, Ud, Ud, Ud, Ud, Ud, Ud, Ud, Ud, Ud, Ud, Ud, Ud, Ud, Ud, Ud, Ud, Ud, Ud, Ud, Ud, Ud, Ud, Ud]) rfl (fun _ => rfl) (fun u hu hF => ?_) (fun v17 => ?_)
  · clear hF
    refine doesG_un rfl ?_
    refine (does_move (u := (Pt g_b g_o)) (ev rfl)).mono ?_; rintro _ _ ⟨rfl, rfl⟩
    exact ⟨rfl, Ext.refl _⟩
  refine RW_d (fun v18 => [(Pt g_b g_o), (Iv x), (Iv y), (Iv z), Ud, Ud, Ud, Ud, (Bo false), v16, v17, v18, Ud, Ud, Ud, Ud, Ud, Ud, Ud, Ud, Ud, Ud, Ud, Ud, Ud, Ud, Ud, Ud, Ud, Ud, Ud, Ud, Ud, Ud]) rfl (fun _ => rfl) (fun u hu hF => ?_) (fun v18 => ?_)
  · have h10_ : v17 = (Pt g_b g_o) := hF.1
    clear hF
    obtain rfl := h10_
    refine doesG_un rfl ?_
    refine (does_nilCheck (ev rfl)).mono ?_; rintro _ _ ⟨rfl, rfl⟩
    exact ⟨rfl, Ext.refl _⟩
  refine RW_d (fun v19 => [(Pt g_b g_o), (Iv x), (Iv y), (Iv z), Ud, Ud, Ud, Ud, (Bo false), v16, v17, v18, v19, Ud, Ud, Ud, Ud, Ud, Ud, Ud, Ud, Ud, Ud, Ud, Ud, Ud, Ud, Ud, Ud, Ud, Ud, Ud, Ud, Ud]) rfl (fun _ => rfl) (fun u hu hF => ?_) (fun v19 => ?_)
  · have h11_ : v18 = (Pt g_b g_o) := hF.1
    clear hF
    obtain rfl := h11_
    refine doesG_un rfl ?_
    refine (does_fieldAddr (ev rfl) fa32_2).mono ?_; rintro _ _ ⟨rfl, rfl⟩
    exact ⟨rfl, Ext.refl _⟩
  refine RW_d (fun v20 => [(Pt g_b g_o), (Iv x), (Iv y), (Iv z), Ud, Ud, Ud, Ud, (Bo false), v16, v17, v18, v19, v20, Ud, Ud, Ud, Ud, Ud, Ud, Ud, Ud, Ud, Ud, Ud, Ud, Ud, Ud, Ud, Ud, Ud, Ud, Ud, Ud]) rfl (fun _ => rfl) (fun u hu hF => ?_) (fun v20 => ?_)
  · have h12_ : v19 = (Pt g_b (g_o + 4)) := hF.1
    clear hF
    obtain rfl := h12_
    refine doesG_un rfl ?_
    refine (does_load (u := (Iv A_g.x)) (ev rfl) Try.isAgg2 (Cells.at (hc_g.ext hu) 4 rfl)).mono ?_; rintro _ _ ⟨rfl, rfl⟩
    exact ⟨rfl, Ext.refl _⟩
  refine RW_d (fun v21 => [(Pt g_b g_o), (Iv x), (Iv y), (Iv z), Ud, Ud, Ud, Ud, (Bo false), v16, v17, v18, v19, v20, v21, Ud, Ud, Ud, Ud, Ud, Ud, Ud, Ud, Ud, Ud, Ud, Ud, Ud, Ud, Ud, Ud, Ud, Ud, Ud]) rfl (fun _ => rfl) (fun u hu hF => ?_) (fun v21 => ?_)
  · have h13_ : v20 = (Iv A_g.x) := hF.1
    clear hF
    obtain rfl := h13_
    refine doesG_un rfl ?_
    refine (does_iarith (p := A_g.x) (q := 1) (r := IntKind.i64.wrap (A_g.x - 1)) (ev rfl) (ev rfl) (.inr (.inl ⟨rfl, rfl⟩))).mono ?_; rintro _ _ ⟨rfl, rfl⟩
    exact ⟨rfl, Ext.refl _⟩
  refine RW_d (fun v22 => [(Pt g_b g_o), (Iv x), (Iv y), (Iv z), Ud, Ud, Ud, Ud, (Bo false), v16, v17, v18, v19, v20, v21, v22, Ud, Ud, Ud, Ud, Ud, Ud, Ud, Ud, Ud, Ud, Ud, Ud, Ud, Ud, Ud, Ud, Ud, Ud]) rfl (fun _ => rfl) (fun u hu hF => ?_) (fun v22 => ?_)
  · have h9_ : v16 = (Iv x) := hF.1
    have h14_ : v21 = (Iv (IntKind.i64.wrap (A_g.x - 1))) := hF.2.1
    clear hF
    obtain rfl := h9_
    obtain rfl := h14_
    refine doesG_un rfl ?_
    refine (does_call (args := #[(Iv x), (Iv 0), (Iv (IntKind.i64.wrap (A_g.x - 1)))]) cal81 (evs rfl) (c_spec_l00In x 0 (IntKind.i64.wrap (A_g.x - 1)) _)).mono ?_; rintro v u' ⟨hx, hv⟩
    exact ⟨hv.trans (by simp only [hβ1]), hx⟩
  refine RW_d (fun v23 => [(Pt g_b g_o), (Iv x), (Iv y), (Iv z), Ud, Ud, Ud, Ud, (Bo false), v16, v17, v18, v19, v20, v21, v22, v23, Ud, Ud, Ud, Ud, Ud, Ud, Ud, Ud, Ud, Ud, Ud, Ud, Ud, Ud, Ud, Ud, Ud]) rfl (fun _ => rfl) (fun u hu hF => ?_) (fun v23 => ?_)
  · have h15_ : v22 = (Bo β1) := hF.1
    clear hF
    obtain rfl := h15_
    refine doesG_un rfl ?_
    refine (does_move (u := (Bo β1)) (ev rfl)).mono ?_; rintro _ _ ⟨rfl, rfl⟩
    exact ⟨rfl, Ext.refl _⟩
  refine RW_d (fun v24 => [(Pt g_b g_o), (Iv x), (Iv y), (Iv z), Ud, Ud, Ud, Ud, (Bo false), v16, v17, v18, v19, v20, v21, v22, v23, v24, Ud, Ud, Ud, Ud, Ud, Ud, Ud, Ud, Ud, Ud, Ud, Ud, Ud, Ud, Ud, Ud]) rfl (fun _ => rfl) (fun u hu hF => ?_) (fun v24 => ?_)
  · have h16_ : v23 = (Bo β1) := hF.1
    clear hF
    obtain rfl := h16_
    refine doesG_g (b := β1) rfl (yld rfl rfl) (fun hg => ?_) (fun hg => ⟨fun h => absurd h hg, Ext.refl _⟩)
    refine (does_move (u := (Iv y)) (ev rfl)).mono ?_; rintro _ _ ⟨rfl, rfl⟩
    exact ⟨fun _ => rfl, Ext.refl _⟩
  refine RW_d (fun v25 => [(Pt g_b g_o), (Iv x), (Iv y), (Iv z), Ud, Ud, Ud, Ud, (Bo false), v16, v17, v18, v19, v20, v21, v22, v23, v24, v25, Ud, Ud, Ud, Ud, Ud, Ud, Ud, Ud, Ud, Ud, Ud, Ud, Ud, Ud, Ud]) rfl (fun _ => rfl) (fun u hu hF => ?_) (fun v25 => ?_)
  · have h16_ : v23 = (Bo β1) := hF.1
    clear hF
    obtain rfl := h16_
    refine doesG_g (b := β1) rfl (yld rfl rfl) (fun hg => ?_) (fun hg => ⟨fun h => absurd h hg, Ext.refl _⟩)
    refine (does_move (u := (Pt g_b g_o)) (ev rfl)).mono ?_; rintro _ _ ⟨rfl, rfl⟩
    exact ⟨fun _ => rfl, Ext.refl _⟩
  refine RW_d (fun v26 => [(Pt g_b g_o), (Iv x), (Iv y), (Iv z), Ud, Ud, Ud, Ud, (Bo false), v16, v17, v18, v19, v20, v21, v22, v23, v24, v25, v26, Ud, Ud, Ud, Ud, Ud, Ud, Ud, Ud, Ud, Ud, Ud, Ud, Ud, Ud]) rfl (fun _ => rfl) (fun u hu hF => ?_) (fun v26 => ?_)
  · have h18_ : β1 = true → v25 = (Pt g_b g_o) := hF.1
    have h16_ : v23 = (Bo β1) := hF.2.1
    clear hF
    obtain rfl := h16_
    refine doesG_g (b := β1) rfl (yld rfl rfl) (fun hg => ?_) (fun hg => ⟨fun h => absurd h hg, Ext.refl _⟩)
    obtain rfl := h18_ hg
    refine (does_nilCheck (ev rfl)).mono ?_; rintro _ _ ⟨rfl, rfl⟩
    exact ⟨fun _ => rfl, Ext.refl _⟩
  refine RW_d (fun v27 => [(Pt g_b g_o), (Iv x), (Iv y), (Iv z), Ud, Ud, Ud, Ud, (Bo false), v16, v17, v18, v19, v20, v21, v22, v23, v24, v25, v26, v27, Ud, Ud, Ud, Ud, Ud, Ud, Ud, Ud, Ud, Ud, Ud, Ud, Ud]) rfl (fun _ => rfl) (fun u hu hF => ?_) (fun v27 => ?_)
  · have h19_ : β1 = true → v26 = (Pt g_b g_o) := hF.1
    have h16_ : v23 = (Bo β1) := hF.2.1
    clear hF
    obtain rfl := h16_
    refine doesG_g (b := β1) rfl (yld rfl rfl) (fun hg => ?_) (fun hg => ⟨fun h => absurd h hg, Ext.refl _⟩)
    obtain rfl := h19_ hg
    refine (does_fieldAddr (ev rfl) fa32_3).mono ?_; rintro _ _ ⟨rfl, rfl⟩
    exact ⟨fun _ => rfl, Ext.refl _⟩
  refine RW_d (fun v28 => [(Pt g_b g_o), (Iv x), (Iv y), (Iv z), Ud, Ud, Ud, Ud, (Bo false), v16, v17, v18, v19, v20, v21, v22, v23, v24, v25, v26, v27, v28, Ud, Ud, Ud, Ud, Ud, Ud, Ud, Ud, Ud, Ud, Ud, Ud]) rfl (fun _ => rfl) (fun u hu hF => ?_) (fun v28 => ?_)
  · have h20_ : β1 = true → v27 = (Pt g_b (g_o + 5)) := hF.1
    have h16_ : v23 = (Bo β1) := hF.2.1
    clear hF
    obtain rfl := h16_
    refine doesG_g (b := β1) rfl (yld rfl rfl) (fun hg => ?_) (fun hg => ⟨fun h => absurd h hg, Ext.refl _⟩)
    obtain rfl := h20_ hg
    refine (does_load (u := (Iv A_g.y)) (ev rfl) Try.isAgg2 (Cells.at (hc_g.ext hu) 5 rfl)).mono ?_; rintro _ _ ⟨rfl, rfl⟩
    exact ⟨fun _ => rfl, Ext.refl _⟩
  refine RW_d (fun v29 => [(Pt g_b g_o), (Iv x), (Iv y), (Iv z), Ud, Ud, Ud, Ud, (Bo false), v16, v17, v18, v19, v20, v21, v22, v23, v24, v25, v26, v27, v28, v29, Ud, Ud, Ud, Ud, Ud, Ud, Ud, Ud, Ud, Ud, Ud]) rfl (fun _ => rfl) (fun u hu hF => ?_) (fun v29 => ?_)
  · have h21_ : β1 = true → v28 = (Iv A_g.y) := hF.1
    have h16_ : v23 = (Bo β1) := hF.2.1
    clear hF
    obtain rfl := h16_
    refine doesG_g (b := β1) rfl (yld rfl rfl) (fun hg => ?_) (fun hg => ⟨fun h => absurd h hg, Ext.refl _⟩)
    obtain rfl := h21_ hg
    refine (does_iarith (p := A_g.y) (q := 1) (r := IntKind.i64.wrap (A_g.y - 1)) (ev rfl) (ev rfl) (.inr (.inl ⟨rfl, rfl⟩))).mono ?_; rintro _ _ ⟨rfl, rfl⟩
    exact ⟨fun _ => rfl, Ext.refl _⟩
  refine RW_d (fun v30 => [(Pt g_b g_o), (Iv x), (Iv y), (Iv z), Ud, Ud, Ud, Ud, (Bo false), v16, v17, v18, v19, v20, v21, v22, v23, v24, v25, v26, v27, v28, v29, v30, Ud, Ud, Ud, Ud, Ud, Ud, Ud, Ud, Ud, Ud]) rfl (fun _ => rfl) (fun u hu hF => ?_) (fun v30 => ?_)
  · have h17_ : β1 = true → v24 = (Iv y) := hF.1
    have h22_ : β1 = true → v29 = (Iv (IntKind.i64.wrap (A_g.y - 1))) := hF.2.1
    have h16_ : v23 = (Bo β1) := hF.2.2.1
    clear hF
    obtain rfl := h16_
    refine doesG_g (b := β1) rfl (yld rfl rfl) (fun hg => ?_) (fun hg => ⟨fun h => absurd h hg, Ext.refl _⟩)
    obtain rfl := h17_ hg
    obtain rfl := h22_ hg
    refine (does_call (args := #[(Iv y), (Iv 0), (Iv (IntKind.i64.wrap (A_g.y - 1)))]) cal81 (evs rfl) (c_spec_l00In y 0 (IntKind.i64.wrap (A_g.y - 1)) _)).mono ?_; rintro v u' ⟨hx, hv⟩
    exact ⟨fun _ => hv.trans (by simp only [hβ2]), hx⟩
  refine RW_d (fun v31 => [(Pt g_b g_o), (Iv x), (Iv y), (Iv z), Ud, Ud, Ud, Ud, (Bo false), v16, v17, v18, v19, v20, v21, v22, v23, v24, v25, v26, v27, v28, v29, v30, v31, Ud, Ud, Ud, Ud, Ud, Ud, Ud, Ud, Ud]) rfl (fun _ => rfl) (fun u hu hF => ?_) (fun v31 => ?_)
  · have h16_ : v23 = (Bo β1) := hF.1
    have h23_ : β1 = true → v30 = (Bo β2) := hF.2.1
    clear hF
    obtain rfl := h16_
    refine doesG_un rfl ((does_pick (b := β1) (ev rfl) (ev rfl) (ev rfl)).mono ?_); rintro _ _ ⟨rfl, rfl⟩; refine ⟨?_, Ext.refl _⟩; skip
    cases hbb : β1 <;> simp [hbb] at h23_ ⊢
    all_goals (first | rfl | (subst h23_; rfl) | simp_all)
  refine RW_d (fun v32 => [(Pt g_b g_o), (Iv x), (Iv y), (Iv z), Ud, Ud, Ud, Ud, (Bo false), v16, v17, v18, v19, v20, v21, v22, v23, v24, v25, v26, v27, v28, v29, v30, v31, v32, Ud, Ud, Ud, Ud, Ud, Ud, Ud, Ud]) rfl (fun _ => rfl) (fun u hu hF => ?_) (fun v32 => ?_)
  · have h24_ : v31 = (Bo (β1 && β2)) := hF.1
    clear hF
    obtain rfl := h24_
    refine doesG_un rfl ?_
    refine (does_move (u := (Bo (β1 && β2))) (ev rfl)).mono ?_; rintro _ _ ⟨rfl, rfl⟩
    exact ⟨rfl, Ext.refl _⟩
  refine RW_d (fun v33 => [(Pt g_b g_o), (Iv x), (Iv y), (Iv z), Ud, Ud, Ud, Ud, (Bo false), v16, v17, v18, v19, v20, v21, v22, v23, v24, v25, v26, v27, v28, v29, v30, v31, v32, v33, Ud, Ud, Ud, Ud, Ud, Ud, Ud]) rfl (fun _ => rfl) (fun u hu hF => ?_) (fun v33 => ?_)
  · have h25_ : v32 = (Bo (β1 && β2)) := hF.1
    clear hF
    obtain rfl := h25_
    refine doesG_g (b := (β1 && β2)) rfl (yld rfl rfl) (fun hg => ?_) (fun hg => ⟨fun h => absurd h hg, Ext.refl _⟩)
    refine (does_move (u := (Iv z)) (ev rfl)).mono ?_; rintro _ _ ⟨rfl, rfl⟩
    exact ⟨fun _ => rfl, Ext.refl _⟩
  refine RW_d (fun v34 => [(Pt g_b g_o), (Iv x), (Iv y), (Iv z), Ud, Ud, Ud, Ud, (Bo false), v16, v17, v18, v19, v20, v21, v22, v23, v24, v25, v26, v27, v28, v29, v30, v31, v32, v33, v34, Ud, Ud, Ud, Ud, Ud, Ud]) rfl (fun _ => rfl) (fun u hu hF => ?_) (fun v34 => ?_)
  · have h25_ : v32 = (Bo (β1 && β2)) := hF.1
    clear hF
    obtain rfl := h25_
    refine doesG_g (b := (β1 && β2)) rfl (yld rfl rfl) (fun hg => ?_) (fun hg => ⟨fun h => absurd h hg, Ext.refl _⟩)
    refine (does_move (u := (Pt g_b g_o)) (ev rfl)).mono ?_; rintro _ _ ⟨rfl, rfl⟩
    exact ⟨fun _ => rfl, Ext.refl _⟩
  refine RW_d (fun v35 => [(Pt g_b g_o), (Iv x), (Iv y), (Iv z), Ud, Ud, Ud, Ud, (Bo false), v16, v17, v18, v19, v20, v21, v22, v23, v24, v25, v26, v27, v28, v29, v30, v31, v32, v33, v34, v35, Ud, Ud, Ud, Ud, Ud]) rfl (fun _ => rfl) (fun u hu hF => ?_) (fun v35 => ?_)
  · have h27_ : (β1 && β2) = true → v34 = (Pt g_b g_o) := hF.1
    have h25_ : v32 = (Bo (β1 && β2)) := hF.2.1
    clear hF
    obtain rfl := h25_
    refine doesG_g (b := (β1 && β2)) rfl (yld rfl rfl) (fun hg => ?_) (fun hg => ⟨fun h => absurd h hg, Ext.refl _⟩)
    obtain rfl := h27_ hg
    refine (does_nilCheck (ev rfl)).mono ?_; rintro _ _ ⟨rfl, rfl⟩
    exact ⟨fun _ => rfl, Ext.refl _⟩
  refine RW_d (fun v36 => [(Pt g_b g_o), (Iv x), (Iv y), (Iv z), Ud, Ud, Ud, Ud, (Bo false), v16, v17, v18, v19, v20, v21, v22, v23, v24, v25, v26, v27, v28, v29, v30, v31, v32, v33, v34, v35, v36, Ud, Ud, Ud, Ud]) rfl (fun _ => rfl) (fun u hu hF => ?_) (fun v36 => ?_)
  · have h28_ : (β1 && β2) = true → v35 = (Pt g_b g_o) := hF.1
    have h25_ : v32 = (Bo (β1 && β2)) := hF.2.1
    clear hF
    obtain rfl := h25_
    refine doesG_g (b := (β1 && β2)) rfl (yld rfl rfl) (fun hg => ?_) (fun hg => ⟨fun h => absurd h hg, Ext.refl _⟩)
    obtain rfl := h28_ hg
    refine (does_fieldAddr (ev rfl) fa32_4).mono ?_; rintro _ _ ⟨rfl, rfl⟩
    exact ⟨fun _ => rfl, Ext.refl _⟩
  refine RW_d (fun v37 => [(Pt g_b g_o), (Iv x), (Iv y), (Iv z), Ud, Ud, Ud, Ud, (Bo false), v16, v17, v18, v19, v20, v21, v22, v23, v24, v25, v26, v27, v28, v29, v30, v31, v32, v33, v34, v35, v36, v37, Ud, Ud, Ud]) rfl (fun _ => rfl) (fun u hu hF => ?_) (fun v37 => ?_)
  · have h29_ : (β1 && β2) = true → v36 = (Pt g_b (g_o + 6)) := hF.1
    have h25_ : v32 = (Bo (β1 && β2)) := hF.2.1
    clear hF
    obtain rfl := h25_
    refine doesG_g (b := (β1 && β2)) rfl (yld rfl rfl) (fun hg => ?_) (fun hg => ⟨fun h => absurd h hg, Ext.refl _⟩)
    obtain rfl := h29_ hg
    refine (does_load (u := (Iv A_g.z)) (ev rfl) Try.isAgg2 (Cells.at (hc_g.ext hu) 6 rfl)).mono ?_; rintro _ _ ⟨rfl, rfl⟩
    exact ⟨fun _ => rfl, Ext.refl _⟩
  refine RW_d (fun v38 => [(Pt g_b g_o), (Iv x), (Iv y), (Iv z), Ud, Ud, Ud, Ud, (Bo false), v16, v17, v18, v19, v20, v21, v22, v23, v24, v25, v26, v27, v28, v29, v30, v31, v32, v33, v34, v35, v36, v37, v38, Ud, Ud]) rfl (fun _ => rfl) (fun u hu hF => ?_) (fun v38 => ?_)
  · have h30_ : (β1 && β2) = true → v37 = (Iv A_g.z) := hF.1
    have h25_ : v32 = (Bo (β1 && β2)) := hF.2.1
    clear hF
    obtain rfl := h25_
    refine doesG_g (b := (β1 && β2)) rfl (yld rfl rfl) (fun hg => ?_) (fun hg => ⟨fun h => absurd h hg, Ext.refl _⟩)
    obtain rfl := h30_ hg
    refine (does_iarith (p := A_g.z) (q := 1) (r := IntKind.i64.wrap (A_g.z - 1)) (ev rfl) (ev rfl) (.inr (.inl ⟨rfl, rfl⟩))).mono ?_; rintro _ _ ⟨rfl, rfl⟩
    exact ⟨fun _ => rfl, Ext.refl _⟩
  refine RW_d (fun v39 => [(Pt g_b g_o), (Iv x), (Iv y), (Iv z), Ud, Ud, Ud, Ud, (Bo false), v16, v17, v18, v19, v20, v21, v22, v23, v24, v25, v26, v27, v28, v29, v30, v31, v32, v33, v34, v35, v36, v37, v38, v39, Ud]) rfl (fun _ => rfl) (fun u hu hF => ?_) (fun v39 => ?_)
  · have h26_ : (β1 && β2) = true → v33 = (Iv z) := hF.1
    have h31_ : (β1 && β2) = true → v38 = (Iv (IntKind.i64.wrap (A_g.z - 1))) := hF.2.1
    have h25_ : v32 = (Bo (β1 && β2)) := hF.2.2.1
    clear hF
    obtain rfl := h25_
    refine doesG_g (b := (β1 && β2)) rfl (yld rfl rfl) (fun hg => ?_) (fun hg => ⟨fun h => absurd h hg, Ext.refl _⟩)
    obtain rfl := h26_ hg
    obtain rfl := h31_ hg
    refine (does_call (args := #[(Iv z), (Iv 0), (Iv (IntKind.i64.wrap (A_g.z - 1)))]) cal81 (evs rfl) (c_spec_l00In z 0 (IntKind.i64.wrap (A_g.z - 1)) _)).mono ?_; rintro v u' ⟨hx, hv⟩
    exact ⟨fun _ => hv.trans (by simp only [hβ3]), hx⟩
  refine RW_d (fun v40 => [(Pt g_b g_o), (Iv x), (Iv y), (Iv z), Ud, Ud, Ud, Ud, (Bo false), v16, v17, v18, v19, v20, v21, v22, v23, v24, v25, v26, v27, v28, v29, v30, v31, v32, v33, v34, v35, v36, v37, v38, v39, v40]) rfl (fun _ => rfl) (fun u hu hF => ?_) (fun v40 => ?_)
  · have h25_ : v32 = (Bo (β1 && β2)) := hF.1
    have h32_ : (β1 && β2) = true → v39 = (Bo β3) := hF.2.1
    clear hF
    obtain rfl := h25_
    refine doesG_un rfl ((does_pick (b := (β1 && β2)) (ev rfl) (ev rfl) (ev rfl)).mono ?_); rintro _ _ ⟨rfl, rfl⟩; refine ⟨?_, Ext.refl _⟩; skip
    cases hbb : (β1 && β2) <;> simp [hbb] at h32_ ⊢
    all_goals (first | rfl | (subst h32_; rfl) | simp_all)
  refine RW_fin ?_; intro w41 E42 hP43
  obtain ⟨⟨⟨⟨⟨⟨⟨⟨⟨⟨⟨⟨⟨⟨⟨⟨⟨⟨⟨⟨⟨⟨⟨⟨⟨-, -⟩, -⟩, -⟩, -⟩, -⟩, -⟩, -⟩, -⟩, -⟩, -⟩, -⟩, -⟩, -⟩, -⟩, -⟩, -⟩, -⟩, -⟩, -⟩, -⟩, -⟩, -⟩, -⟩, -⟩, q44⟩ := hP43
  have X45 := Ext.gr (Ext.refl w) E42
  have q44 : v40 = (Bo ((β1 && β2) && β3)) := q44
  obtain rfl := q44
  show wpList _ _ _ _ (fr [(Pt g_b g_o), (Iv x), (Iv y), (Iv z), Ud, Ud, Ud, Ud, (Bo false), v16, v17, v18, v19, v20, v21, v22, v23, v24, v25, v26, v27, v28, v29, v30, v31, v32, v33, v34, v35, v36, v37, v38, v39, (Bo ((β1 && β2) && β3))]) _
  refine q_is (l' := [(Pt g_b g_o), (Iv x), (Iv y), (Iv z), Ud, Ud, Ud, Ud, (Bo ((β1 && β2) && β3)), v16, v17, v18, v19, v20, v21, v22, v23, v24, v25, v26, v27, v28, v29, v30, v31, v32, v33, v34, v35, v36, v37, v38, v39, (Bo ((β1 && β2) && β3))]) rfl rfl (does_assign (u := (Bo ((β1 && β2) && β3))) (ev rfl)) rfl ?_
  refine wpList_nil (hK15 _ _ ?_)
  refine wp_ret ?_
  refine ret_val (v := (Bo ((β1 && β2) && β3))) (res_T rfl (slot rfl)) X45 ?_
  have x46 : (hasG A_g x y z) = ((β1 && β2) && β3) := by first | rfl | (simp only [hasG, h2, h4, h6, h8, hβ1, hβ2, hβ3]; done) | (simp [hasG, h2, h4, h6, h8, hβ1, hβ2, hβ3]; done)
  exact (by first | rfl | rw [x46])

/- spec.l06Index -/
theorem c_spec_l06Index (g_b : Nat) (g_o : Nat) (g : List Value) (A_g : GridT) (x : Int) (y : Int) (z : Int) (w : World) (hc_g : Cells w g_b g_o g) (hv_g : RGridT w A_g g) : Gives Try.prog 69 #[(Pt g_b g_o), (Iv x), (Iv y), (Iv z)] w (fun v w' => v = (Iv (idxG A_g x y z))) := by
  obtain ⟨r1, r3, r5, r7, y9, rfl, h2, h4, h6, h8, h10⟩ := hv_g
  have hs13 := h10; have hs13l := Sl.len h10; obtain ⟨p11, q12, rfl⟩ := Sl.shape h10
  refine enter [(Pt g_b g_o), (Iv x), (Iv y), (Iv z), Ud, Ud, Ud, Ud, Ud, Ud, Ud, Ud, Ud, Ud, Ud, Ud, Ud, Ud, Ud, Ud, Ud, Ud, Ud, Ud] Try.func69 rfl Try.ntmps69 rfl ?_
  refine wp_seq_k fun K14 hK14 => ?_
  refine wp_region_lit ?_
  refine q_is (l' := [(Pt g_b g_o), (Iv x), (Iv y), (Iv z), Ud, Ud, Ud, Ud, (Iv 0), Ud, Ud, Ud, Ud, Ud, Ud, Ud, Ud, Ud, Ud, Ud, Ud, Ud, Ud, Ud]) rfl rfl (does_assign (u := (Iv 0)) (ev rfl)) rfl ?_
  refine wpList_nil (hK14 _ _ ?_)
  refine wp_seq_k fun K15 hK15 => ?_
  refine region_draw (
    [Fact.pure [] (fun v => v = (Iv x)),
    Fact.pure [] (fun v => v = (Pt g_b g_o)),
    Fact.pure [10] (fun v => v = (Pt g_b g_o)),
    Fact.pure [11] (fun v => v = (Pt g_b (g_o + 4))),
    Fact.pure [12] (fun v => v = (Iv A_g.x)),
    Fact.pure [] (fun v => v = (Iv y)),
    Fact.pure [] (fun v => v = (Pt g_b g_o)),
    Fact.pure [15] (fun v => v = (Pt g_b g_o)),
    Fact.pure [16] (fun v => v = (Pt g_b (g_o + 5))),
    Fact.pure [17] (fun v => v = (Iv A_g.y)),
    Fact.pure [] (fun v => v = (Iv z)),
    Fact.pure [18, 19] (fun v => v = (Iv (IntKind.i64.wrap (A_g.y * z)))),
    Fact.pure [14, 20] (fun v => v = (Iv (IntKind.i64.wrap (y + (IntKind.i64.wrap (A_g.y * z)))))),
    Fact.pure [13, 21] (fun v => v = (Iv (IntKind.i64.wrap (A_g.x * (IntKind.i64.wrap (y + (IntKind.i64.wrap (A_g.y * z)))))))),
    Fact.pure [9, 22] (fun v => v = (Iv (IntKind.i64.wrap (x + (IntKind.i64.wrap (A_g.x * (IntKind.i64.wrap (y + (IntKind.i64.wrap (A_g.y * z))))))))))]) mixed (by kernel_rfl) (by intro _ _ d _ _ h; cases d <;> exact h) ?_
  obtain ⟨w16, hw18⟩ : ∃ w', w' = World.drew w := ⟨_, rfl⟩; rw [← hw18]; have E17 : Ext w w16 := by rw [hw18]; exact Ext.draw _
  clear hw18
  have X19 := Ext.gr (Ext.refl w) E17
  refine RW_d (fun v20 => [(Pt g_b g_o), (Iv x), (Iv y), (Iv z), Ud, Ud, Ud, Ud, (Iv 0), v20, Ud, Ud, Ud, Ud, Ud, Ud, Ud, Ud, Ud, Ud, Ud, Ud, Ud, Ud]) rfl (fun _ => rfl) (fun u hu hF => ?_) (fun v20 => ?_)
  · clear hF
    refine doesG_un rfl ?_
    refine (does_move (u := (Iv x)) (ev rfl)).mono ?_; rintro _ _ ⟨rfl, rfl⟩
    exact ⟨rfl, Ext.refl _⟩
  refine RW_d (fun v21 => [(Pt g_b g_o), (Iv x), (Iv y), (Iv z), Ud, Ud, Ud, Ud, (Iv 0), v20, v21, Ud, Ud, Ud, Ud, Ud, Ud, Ud, Ud, Ud, Ud, Ud, Ud, Ud]) rfl (fun _ => rfl) (fun u hu hF => ?_) (fun v21 => ?_)
  · clear hF
    refine doesG_un rfl ?_
    refine (does_move (u := (Pt g_b g_o)) (ev rfl)).mono ?_; rintro _ _ ⟨rfl, rfl⟩
    exact ⟨rfl, Ext.refl _⟩
  refine RW_d (fun v22 => [(Pt g_b g_o), (Iv x), (Iv y), (Iv z), Ud, Ud, Ud, Ud, (Iv 0), v20, v21, v22, Ud, Ud, Ud, Ud, Ud, Ud, Ud, Ud, Ud, Ud, Ud, Ud]) rfl (fun _ => rfl) (fun u hu hF => ?_) (fun v22 => ?_)
  · have h10_ : v21 = (Pt g_b g_o) := hF.1
    clear hF
    obtain rfl := h10_
    refine doesG_un rfl ?_
    refine (does_nilCheck (ev rfl)).mono ?_; rintro _ _ ⟨rfl, rfl⟩
    exact ⟨rfl, Ext.refl _⟩
  refine RW_d (fun v23 => [(Pt g_b g_o), (Iv x), (Iv y), (Iv z), Ud, Ud, Ud, Ud, (Iv 0), v20, v21, v22, v23, Ud, Ud, Ud, Ud, Ud, Ud, Ud, Ud, Ud, Ud, Ud]) rfl (fun _ => rfl) (fun u hu hF => ?_) (fun v23 => ?_)
  · have h11_ : v22 = (Pt g_b g_o) := hF.1
    clear hF
    obtain rfl := h11_
    refine doesG_un rfl ?_
    refine (does_fieldAddr (ev rfl) fa32_2).mono ?_; rintro _ _ ⟨rfl, rfl⟩
    exact ⟨rfl, Ext.refl _⟩
  refine RW_d (fun v24 => [(Pt g_b g_o), (Iv x), (Iv y), (Iv z), Ud, Ud, Ud, Ud, (Iv 0), v20, v21, v22, v23, v24, Ud, Ud, Ud, Ud, Ud, Ud, Ud, Ud, Ud, Ud]) rfl (fun _ => rfl) (fun u hu hF => ?_) (fun v24 => ?_)
  · have h12_ : v23 = (Pt g_b (g_o + 4)) := hF.1
    clear hF
    obtain rfl := h12_
    refine doesG_un rfl ?_
    refine (does_load (u := (Iv A_g.x)) (ev rfl) Try.isAgg2 (Cells.at ((hc_g.ext (Ext.gr (Ext.refl w) E17)).ext hu) 4 rfl)).mono ?_; rintro _ _ ⟨rfl, rfl⟩
    exact ⟨rfl, Ext.refl _⟩
  refine RW_d (fun v25 => [(Pt g_b g_o), (Iv x), (Iv y), (Iv z), Ud, Ud, Ud, Ud, (Iv 0), v20, v21, v22, v23, v24, v25, Ud, Ud, Ud, Ud, Ud, Ud, Ud, Ud, Ud]) rfl (fun _ => rfl) (fun u hu hF => ?_) (fun v25 => ?_)
  · clear hF
    refine doesG_un rfl ?_
    refine (does_move (u := (Iv y)) (ev rfl)).mono ?_; rintro _ _ ⟨rfl, rfl⟩
    exact ⟨rfl, Ext.refl _⟩
  refine RW_d (fun v26 => [(Pt g_b g_o), (Iv x), (Iv y), (Iv z), Ud, Ud, Ud, Ud, (Iv 0), v20, v21, v22, v23, v24, v25, v26, Ud, Ud, Ud, Ud, Ud, Ud, Ud, Ud]) rfl (fun _ => rfl) (fun u hu hF => ?_) (fun v26 => ?_)
  · clear hF
    refine doesG_un rfl ?_
    refine (does_move (u := (Pt g_b g_o)) (ev rfl)).mono ?_; rintro _ _ ⟨rfl, rfl⟩
    exact ⟨rfl, Ext.refl _⟩
  refine RW_d (fun v27 => [(Pt g_b g_o), (Iv x), (Iv y), (Iv z), Ud, Ud, Ud, Ud, (Iv 0), v20, v21, v22, v23, v24, v25, v26, v27, Ud, Ud, Ud, Ud, Ud, Ud, Ud]) rfl (fun _ => rfl) (fun u hu hF => ?_) (fun v27 => ?_)
  · have h15_ : v26 = (Pt g_b g_o) := hF.1
    clear hF
    obtain rfl := h15_
    refine doesG_un rfl ?_
    refine (does_nilCheck (ev rfl)).mono ?_; rintro _ _ ⟨rfl, rfl⟩
    exact ⟨rfl, Ext.refl _⟩
  refine RW_d (fun v28 => [(Pt g_b g_o), (Iv x), (Iv y), (Iv z), Ud, Ud, Ud, Ud, (Iv 0), v20, v21, v22, v23, v24, v25, v26, v27, v28, Ud, Ud, Ud, Ud, Ud, Ud]) rfl (fun _ => rfl) (fun u hu hF => ?_) (fun v28 => ?_)
  · have h16_ : v27 = (Pt g_b g_o) := hF.1
    clear hF
    obtain rfl := h16_
    refine doesG_un rfl ?_
    refine (does_fieldAddr (ev rfl) fa32_3).mono ?_; rintro _ _ ⟨rfl, rfl⟩
    exact ⟨rfl, Ext.refl _⟩
  refine RW_d (fun v29 => [(Pt g_b g_o), (Iv x), (Iv y), (Iv z), Ud, Ud, Ud, Ud, (Iv 0), v20, v21, v22, v23, v24, v25, v26, v27, v28, v29, Ud, Ud, Ud, Ud, Ud]) rfl (fun _ => rfl) (fun u hu hF => ?_) (fun v29 => ?_)
  · have h17_ : v28 = (Pt g_b (g_o + 5)) := hF.1
    clear hF
    obtain rfl := h17_
    refine doesG_un rfl ?_
    refine (does_load (u := (Iv A_g.y)) (ev rfl) Try.isAgg2 (Cells.at ((hc_g.ext (Ext.gr (Ext.refl w) E17)).ext hu) 5 rfl)).mono ?_; rintro _ _ ⟨rfl, rfl⟩
    exact ⟨rfl, Ext.refl _⟩
  refine RW_d (fun v30 => [(Pt g_b g_o), (Iv x), (Iv y), (Iv z), Ud, Ud, Ud, Ud, (Iv 0), v20, v21, v22, v23, v24, v25, v26, v27, v28, v29, v30, Ud, Ud, Ud, Ud]) rfl (fun _ => rfl) (fun u hu hF => ?_) (fun v30 => ?_)
  · clear hF
    refine doesG_un rfl ?_
    refine (does_move (u := (Iv z)) (ev rfl)).mono ?_; rintro _ _ ⟨rfl, rfl⟩
    exact ⟨rfl, Ext.refl _⟩
  refine RW_d (fun v31 => [(Pt g_b g_o), (Iv x), (Iv y), (Iv z), Ud, Ud, Ud, Ud, (Iv 0), v20, v21, v22, v23, v24, v25, v26, v27, v28, v29, v30, v31, Ud, Ud, Ud]) rfl (fun _ => rfl) (fun u hu hF => ?_) (fun v31 => ?_)
  · have h18_ : v29 = (Iv A_g.y) := hF.1
    have h19_ : v30 = (Iv z) := hF.2.1
    clear hF
    obtain rfl := h18_
    obtain rfl := h19_
    refine doesG_un rfl ?_
    refine (does_iarith (p := A_g.y) (q := z) (r := IntKind.i64.wrap (A_g.y * z)) (ev rfl) (ev rfl) (.inr (.inr ⟨rfl, rfl⟩))).mono ?_; rintro _ _ ⟨rfl, rfl⟩
    exact ⟨rfl, Ext.refl _⟩
  refine RW_d (fun v32 => [(Pt g_b g_o), (Iv x), (Iv y), (Iv z), Ud, Ud, Ud, Ud, (Iv 0), v20, v21, v22, v23, v24, v25, v26, v27, v28, v29, v30, v31, v32, Ud, Ud]) rfl (fun _ => rfl) (fun u hu hF => ?_) (fun v32 => ?_)
  · have h14_ : v25 = (Iv y) := hF.1
    have h20_ : v31 = (Iv (IntKind.i64.wrap (A_g.y * z))) := hF.2.1
    clear hF
    obtain rfl := h14_
    obtain rfl := h20_
    refine doesG_un rfl ?_
    refine (does_iarith (p := y) (q := IntKind.i64.wrap (A_g.y * z)) (r := IntKind.i64.wrap (y + (IntKind.i64.wrap (A_g.y * z)))) (ev rfl) (ev rfl) (.inl ⟨rfl, rfl⟩)).mono ?_; rintro _ _ ⟨rfl, rfl⟩
    exact ⟨rfl, Ext.refl _⟩
  refine RW_d (fun v33 => [(Pt g_b g_o), (Iv x), (Iv y), (Iv z), Ud, Ud, Ud, Ud, (Iv 0), v20, v21, v22, v23, v24, v25, v26, v27, v28, v29, v30, v31, v32, v33, Ud]) rfl (fun _ => rfl) (fun u hu hF => ?_) (fun v33 => ?_)
  · have h13_ : v24 = (Iv A_g.x) := hF.1
    have h21_ : v32 = (Iv (IntKind.i64.wrap (y + (IntKind.i64.wrap (A_g.y * z))))) := hF.2.1
    clear hF
    obtain rfl := h13_
    obtain rfl := h21_
    refine doesG_un rfl ?_
    refine (does_iarith (p := A_g.x) (q := IntKind.i64.wrap (y + (IntKind.i64.wrap (A_g.y * z)))) (r := IntKind.i64.wrap (A_g.x * (IntKind.i64.wrap (y + (IntKind.i64.wrap (A_g.y * z)))))) (ev rfl) (ev rfl) (.inr (.inr ⟨rfl, rfl⟩))).mono ?_; rintro _ _ ⟨rfl, rfl⟩
    exact ⟨rfl, Ext.refl _⟩
  refine RW_d (fun v34 => [(Pt g_b g_o), (Iv x), (Iv y), (Iv z), Ud, Ud, Ud, Ud, (Iv 0), v20, v21, v22, v23, v24, v25, v26, v27, v28, v29, v30, v31, v32, v33, v34]) rfl (fun _ => rfl) (fun u hu hF => ?_) (fun v34 => ?_)
  · have h9_ : v20 = (Iv x) := hF.1
    have h22_ : v33 = (Iv (IntKind.i64.wrap (A_g.x * (IntKind.i64.wrap (y + (IntKind.i64.wrap (A_g.y * z))))))) := hF.2.1
    clear hF
    obtain rfl := h9_
    obtain rfl := h22_
    refine doesG_un rfl ?_
    refine (does_iarith (p := x) (q := IntKind.i64.wrap (A_g.x * (IntKind.i64.wrap (y + (IntKind.i64.wrap (A_g.y * z)))))) (r := IntKind.i64.wrap (x + (IntKind.i64.wrap (A_g.x * (IntKind.i64.wrap (y + (IntKind.i64.wrap (A_g.y * z)))))))) (ev rfl) (ev rfl) (.inl ⟨rfl, rfl⟩)).mono ?_; rintro _ _ ⟨rfl, rfl⟩
    exact ⟨rfl, Ext.refl _⟩
  refine RW_fin ?_; intro w35 E36 hP37
  obtain ⟨⟨⟨⟨⟨⟨⟨⟨⟨⟨⟨⟨⟨⟨⟨-, -⟩, -⟩, -⟩, -⟩, -⟩, -⟩, -⟩, -⟩, -⟩, -⟩, -⟩, -⟩, -⟩, -⟩, q38⟩ := hP37
  have X39 := Ext.gr X19 E36
  have q38 : v34 = (Iv (IntKind.i64.wrap (x + (IntKind.i64.wrap (A_g.x * (IntKind.i64.wrap (y + (IntKind.i64.wrap (A_g.y * z))))))))) := q38
  obtain rfl := q38
  show wpList _ _ _ _ (fr [(Pt g_b g_o), (Iv x), (Iv y), (Iv z), Ud, Ud, Ud, Ud, (Iv 0), v20, v21, v22, v23, v24, v25, v26, v27, v28, v29, v30, v31, v32, v33, (Iv (IntKind.i64.wrap (x + (IntKind.i64.wrap (A_g.x * (IntKind.i64.wrap (y + (IntKind.i64.wrap (A_g.y * z)))))))))]) _
  refine q_is (l' := [(Pt g_b g_o), (Iv x), (Iv y), (Iv z), Ud, Ud, Ud, Ud, (Iv (IntKind.i64.wrap (x + (IntKind.i64.wrap (A_g.x * (IntKind.i64.wrap (y + (IntKind.i64.wrap (A_g.y * z))))))))), v20, v21, v22, v23, v24, v25, v26, v27, v28, v29, v30, v31, v32, v33, (Iv (IntKind.i64.wrap (x + (IntKind.i64.wrap (A_g.x * (IntKind.i64.wrap (y + (IntKind.i64.wrap (A_g.y * z)))))))))]) rfl rfl (does_assign (u := (Iv (IntKind.i64.wrap (x + (IntKind.i64.wrap (A_g.x * (IntKind.i64.wrap (y + (IntKind.i64.wrap (A_g.y * z)))))))))) (ev rfl)) rfl ?_
  refine wpList_nil (hK15 _ _ ?_)
  refine wp_ret ?_
  refine ret_val (v := (Iv (IntKind.i64.wrap (x + (IntKind.i64.wrap (A_g.x * (IntKind.i64.wrap (y + (IntKind.i64.wrap (A_g.y * z)))))))))) (res_T rfl (slot rfl)) X39 ?_
  have x40 : (idxG A_g x y z : Int) = (IntKind.i64.wrap (x + (IntKind.i64.wrap (A_g.x * (IntKind.i64.wrap (y + (IntKind.i64.wrap (A_g.y * z)))))))) := by first | rfl | (simp only [idxG, h2, h4, h6, h8]; done) | (simp [idxG, h2, h4, h6, h8]; done)
  exact (by first | rfl | rw [x40])

/- spec.GridValue -/
theorem c_spec_GridValue (g : List Value) (A_g : GridT) (x : Int) (y : Int) (z : Int) (w : World) (hv_g : RGridT w A_g g) : Gives Try.prog 22 #[(.agg g.toArray), (Iv x), (Iv y), (Iv z)] w (fun v w' => ∃ r_1 : Nat, v = (.tuple #[(Fl r_1), (Bo (hasOk A_g x y z))]) ∧ cf .f32 r_1 = valG A_g x y z) := by
  obtain ⟨r1, r3, r5, r7, y9, rfl, h2, h4, h6, h8, h10⟩ := hv_g
  have hs13 := h10; have hs13l := Sl.len h10; obtain ⟨p11, q12, rfl⟩ := Sl.shape h10
  refine enter [(.agg #[(Fl r1), (Fl r3), (Fl r5), (Fl r7), (Iv A_g.x), (Iv A_g.y), (Iv A_g.z), (.slice p11 A_g.vals.length q12)]), (Iv x), (Iv y), (Iv z), Ud, Ud, Ud, Ud, Ud, Ud, Ud, Ud, Ud, Ud, Ud, Ud, Ud, Ud, Ud, Ud, Ud, Ud, Ud, Ud, Ud, Ud, Ud] Try.func22 rfl Try.ntmps22 rfl ?_
  refine wp_seq_k fun K14 hK14 => ?_
  refine wp_region_lit ?_
  refine seqd rfl rfl (does_box (u := (.agg #[(Fl r1), (Fl r3), (Fl r5), (Fl r7), (Iv A_g.x), (Iv A_g.y), (Iv A_g.z), (.slice p11 A_g.vals.length q12)])) (ev rfl)) ?_; rintro _ w19 ⟨b15, rfl, hb16, hB17, E18⟩
  have g20 : w.heap.size ≤ b15 := Nat.le_trans (Below.size (Ext.refl w)) hb16
  change Blk _ _ [(Fl r1), (Fl r3), (Fl r5), (Fl r7), (Iv A_g.x), (Iv A_g.y), (Iv A_g.z), (.slice p11 A_g.vals.length q12)] at hB17
  have X21 := Ext.gr (Ext.refl w) E18
  show wpList _ _ _ _ (fr [(.agg #[(Fl r1), (Fl r3), (Fl r5), (Fl r7), (Iv A_g.x), (Iv A_g.y), (Iv A_g.z), (.slice p11 A_g.vals.length q12)]), (Iv x), (Iv y), (Iv z), (Pt b15 0), Ud, Ud, Ud, Ud, Ud, Ud, Ud, Ud, Ud, Ud, Ud, Ud, Ud, Ud, Ud, Ud, Ud, Ud, Ud, Ud, Ud, Ud]) _
  refine q_is (l' := [(.agg #[(Fl r1), (Fl r3), (Fl r5), (Fl r7), (Iv A_g.x), (Iv A_g.y), (Iv A_g.z), (.slice p11 A_g.vals.length q12)]), (Iv x), (Iv y), (Iv z), (Pt b15 0), Ud, Ud, Ud, (Fl 0), Ud, Ud, Ud, Ud, Ud, Ud, Ud, Ud, Ud, Ud, Ud, Ud, Ud, Ud, Ud, Ud, Ud, Ud]) rfl rfl (does_assign (u := (Fl 0)) (ev rfl)) rfl ?_
  refine q_is (l' := [(.agg #[(Fl r1), (Fl r3), (Fl r5), (Fl r7), (Iv A_g.x), (Iv A_g.y), (Iv A_g.z), (.slice p11 A_g.vals.length q12)]), (Iv x), (Iv y), (Iv z), (Pt b15 0), Ud, Ud, Ud, (Fl 0), (Bo false), Ud, Ud, Ud, Ud, Ud, Ud, Ud, Ud, Ud, Ud, Ud, Ud, Ud, Ud, Ud, Ud, Ud]) rfl rfl (does_assign (u := (Bo false)) (ev rfl)) rfl ?_
  refine wpList_nil (hK14 _ _ ?_)
  refine wp_seq_k fun K22 hK22 => ?_
  refine wp_seq_k fun K23 hK23 => ?_
  obtain ⟨β1, hβ1⟩ : ∃ b : Bool, b = ((!(isGrid A_g)) || (!(hasG A_g x y z))) := ⟨_, rfl⟩
  refine region_text (
    [Fact.pure [] (fun v => v = (Bo (isGrid A_g))),
    Fact.pure [10] (fun v => v = (Bo (!(isGrid A_g)))),
    Fact.pure [11] (fun v => v = (Bo (!(isGrid A_g)))),
    Fact.pure [12] (fun v => (!(isGrid A_g)) = false → v = (Iv x)),
    Fact.pure [12] (fun v => (!(isGrid A_g)) = false → v = (Iv y)),
    Fact.pure [12] (fun v => (!(isGrid A_g)) = false → v = (Iv z)),
    Fact.pure [13, 14, 15, 12] (fun v => (!(isGrid A_g)) = false → v = (Bo (hasG A_g x y z))),
    Fact.pure [16, 12] (fun v => (!(isGrid A_g)) = false → v = (Bo (!(hasG A_g x y z)))),
    Fact.pure [12, 17] (fun v => v = (Bo β1))]) (by simp [Fact.pure, Fact.mem]) ?_
  refine RW_d (fun v24 => [(.agg #[(Fl r1), (Fl r3), (Fl r5), (Fl r7), (Iv A_g.x), (Iv A_g.y), (Iv A_g.z), (.slice p11 A_g.vals.length q12)]), (Iv x), (Iv y), (Iv z), (Pt b15 0), Ud, Ud, Ud, (Fl 0), (Bo false), v24, Ud, Ud, Ud, Ud, Ud, Ud, Ud, Ud, Ud, Ud, Ud, Ud, Ud, Ud, Ud, Ud]) rfl (fun _ => rfl) (fun u hu hF => ?_) (fun v24 => ?_)
  · clear hF
    refine doesG_un rfl ?_
    refine (does_call (args := #[(Pt b15 0)]) cal61 (evs rfl) (c_spec_l06Is b15 0 [(Fl r1), (Fl r3), (Fl r5), (Fl r7), (Iv A_g.x), (Iv A_g.y), (Iv A_g.z), (.slice p11 A_g.vals.length q12)] A_g _ (Blk.cells (hB17.ext hu)) ⟨r1, r3, r5, r7, (.slice p11 A_g.vals.length q12), rfl, h2, h4, h6, h8, (Sl.ext (Sl.ext hs13 RF.mono X21) RF.mono hu)⟩)).mono ?_; rintro v u' ⟨hx, hv⟩
    exact ⟨hv, hx⟩
  refine RW_d (fun v25 => [(.agg #[(Fl r1), (Fl r3), (Fl r5), (Fl r7), (Iv A_g.x), (Iv A_g.y), (Iv A_g.z), (.slice p11 A_g.vals.length q12)]), (Iv x), (Iv y), (Iv z), (Pt b15 0), Ud, Ud, Ud, (Fl 0), (Bo false), v24, v25, Ud, Ud, Ud, Ud, Ud, Ud, Ud, Ud, Ud, Ud, Ud, Ud, Ud, Ud, Ud]) rfl (fun _ => rfl) (fun u hu hF => ?_) (fun v25 => ?_)
  · have h10_ : v24 = (Bo (isGrid A_g)) := hF.1
    clear hF
    obtain rfl := h10_
    refine doesG_un rfl ?_
    refine (does_not (ev rfl)).mono ?_; rintro _ _ ⟨rfl, rfl⟩
    exact ⟨rfl, Ext.refl _⟩
  refine RW_d (fun v26 => [(.agg #[(Fl r1), (Fl r3), (Fl r5), (Fl r7), (Iv A_g.x), (Iv A_g.y), (Iv A_g.z), (.slice p11 A_g.vals.length q12)]), (Iv x), (Iv y), (Iv z), (Pt b15 0), Ud, Ud, Ud, (Fl 0), (Bo false), v24, v25, v26, Ud, Ud, Ud, Ud, Ud, Ud, Ud, Ud, Ud, Ud, Ud, Ud, Ud, Ud]) rfl (fun _ => rfl) (fun u hu hF => ?_) (fun v26 => ?_)
  · have h11_ : v25 = (Bo (!(isGrid A_g))) := hF.1
    clear hF
    obtain rfl := h11_
    refine doesG_un rfl ?_
    refine (does_move (u := (Bo (!(isGrid A_g)))) (ev rfl)).mono ?_; rintro _ _ ⟨rfl, rfl⟩
    exact ⟨rfl, Ext.refl _⟩
  refine RW_d (fun v27 => [(.agg #[(Fl r1), (Fl r3), (Fl r5), (Fl r7), (Iv A_g.x), (Iv A_g.y), (Iv A_g.z), (.slice p11 A_g.vals.length q12)]), (Iv x), (Iv y), (Iv z), (Pt b15 0), Ud, Ud, Ud, (Fl 0), (Bo false), v24, v25, v26, v27, Ud, Ud, Ud, Ud, Ud, Ud, Ud, Ud, Ud, Ud, Ud, Ud, Ud]) rfl (fun _ => rfl) (fun u hu hF => ?_) (fun v27 => ?_)
  · have h12_ : v26 = (Bo (!(isGrid A_g))) := hF.1
    clear hF
    obtain rfl := h12_
    refine doesG_g (b := (!(isGrid A_g))) rfl (yld rfl rfl) (fun hg => ?_) (fun hg => ⟨fun h => absurd h hg, Ext.refl _⟩)
    refine (does_move (u := (Iv x)) (ev rfl)).mono ?_; rintro _ _ ⟨rfl, rfl⟩
    exact ⟨fun _ => rfl, Ext.refl _⟩
  refine RW_d (fun v28 => [(.agg #[(Fl r1), (Fl r3), (Fl r5), (Fl r7), (Iv A_g.x), (Iv A_g.y), (Iv A_g.z), (.slice p11 A_g.vals.length q12)]), (Iv x), (Iv y), (Iv z), (Pt b15 0), Ud, Ud, Ud, (Fl 0), (Bo false), v24, v25, v26, v27, v28, Ud, Ud, Ud, Ud, Ud, Ud, Ud, Ud, Ud, Ud, Ud, Ud]) rfl (fun _ => rfl) (fun u hu hF => ?_) (fun v28 => ?_)
  · have h12_ : v26 = (Bo (!(isGrid A_g))) := hF.1
    clear hF
    obtain rfl := h12_
    refine doesG_g (b := (!(isGrid A_g))) rfl (yld rfl rfl) (fun hg => ?_) (fun hg => ⟨fun h => absurd h hg, Ext.refl _⟩)
    refine (does_move (u := (Iv y)) (ev rfl)).mono ?_; rintro _ _ ⟨rfl, rfl⟩
    exact ⟨fun _ => rfl, Ext.refl _⟩
  refine RW_d (fun v29 => [(.agg #[(Fl r1), (Fl r3), (Fl r5), (Fl r7), (Iv A_g.x), (Iv A_g.y), (Iv A_g.z), (.slice p11 A_g.vals.length q12)]), (Iv x), (Iv y), (Iv z), (Pt b15 0), Ud, Ud, Ud, (Fl 0), (Bo false), v24, v25, v26, v27, v28, v29, Ud, Ud, Ud, Ud, Ud, Ud, Ud, Ud, Ud, Ud, Ud]) rfl (fun _ => rfl) (fun u hu hF => ?_) (fun v29 => ?_)
  · have h12_ : v26 = (Bo (!(isGrid A_g))) := hF.1
    clear hF
    obtain rfl := h12_
    refine doesG_g (b := (!(isGrid A_g))) rfl (yld rfl rfl) (fun hg => ?_) (fun hg => ⟨fun h => absurd h hg, Ext.refl _⟩)
    refine (does_move (u := (Iv z)) (ev rfl)).mono ?_; rintro _ _ ⟨rfl, rfl⟩
    exact ⟨fun _ => rfl, Ext.refl _⟩
  refine RW_d (fun v30 => [(.agg #[(Fl r1), (Fl r3), (Fl r5), (Fl r7), (Iv A_g.x), (Iv A_g.y), (Iv A_g.z), (.slice p11 A_g.vals.length q12)]), (Iv x), (Iv y), (Iv z), (Pt b15 0), Ud, Ud, Ud, (Fl 0), (Bo false), v24, v25, v26, v27, v28, v29, v30, Ud, Ud, Ud, Ud, Ud, Ud, Ud, Ud, Ud, Ud]) rfl (fun _ => rfl) (fun u hu hF => ?_) (fun v30 => ?_)
  · have h13_ : (!(isGrid A_g)) = false → v27 = (Iv x) := hF.1
    have h14_ : (!(isGrid A_g)) = false → v28 = (Iv y) := hF.2.1
    have h15_ : (!(isGrid A_g)) = false → v29 = (Iv z) := hF.2.2.1
    have h12_ : v26 = (Bo (!(isGrid A_g))) := hF.2.2.2.1
    clear hF
    obtain rfl := h12_
    refine doesG_g (b := (!(isGrid A_g))) rfl (yld rfl rfl) (fun hg => ?_) (fun hg => ⟨fun h => absurd h hg, Ext.refl _⟩)
    obtain rfl := h13_ hg
    obtain rfl := h14_ hg
    obtain rfl := h15_ hg
    refine (does_call (args := #[(Pt b15 0), (Iv x), (Iv y), (Iv z)]) cal68 (evs rfl) (c_spec_l06Has b15 0 [(Fl r1), (Fl r3), (Fl r5), (Fl r7), (Iv A_g.x), (Iv A_g.y), (Iv A_g.z), (.slice p11 A_g.vals.length q12)] A_g x y z _ (Blk.cells (hB17.ext hu)) ⟨r1, r3, r5, r7, (.slice p11 A_g.vals.length q12), rfl, h2, h4, h6, h8, (Sl.ext (Sl.ext hs13 RF.mono X21) RF.mono hu)⟩)).mono ?_; rintro v u' ⟨hx, hv⟩
    exact ⟨fun _ => hv, hx⟩
  refine RW_d (fun v31 => [(.agg #[(Fl r1), (Fl r3), (Fl r5), (Fl r7), (Iv A_g.x), (Iv A_g.y), (Iv A_g.z), (.slice p11 A_g.vals.length q12)]), (Iv x), (Iv y), (Iv z), (Pt b15 0), Ud, Ud, Ud, (Fl 0), (Bo false), v24, v25, v26, v27, v28, v29, v30, v31, Ud, Ud, Ud, Ud, Ud, Ud, Ud, Ud, Ud]) rfl (fun _ => rfl) (fun u hu hF => ?_) (fun v31 => ?_)
  · have h16_ : (!(isGrid A_g)) = false → v30 = (Bo (hasG A_g x y z)) := hF.1
    have h12_ : v26 = (Bo (!(isGrid A_g))) := hF.2.1
    clear hF
    obtain rfl := h12_
    refine doesG_g (b := (!(isGrid A_g))) rfl (yld rfl rfl) (fun hg => ?_) (fun hg => ⟨fun h => absurd h hg, Ext.refl _⟩)
    obtain rfl := h16_ hg
    refine (does_not (ev rfl)).mono ?_; rintro _ _ ⟨rfl, rfl⟩
    exact ⟨fun _ => rfl, Ext.refl _⟩
  refine RW_d (fun v32 => [(.agg #[(Fl r1), (Fl r3), (Fl r5), (Fl r7), (Iv A_g.x), (Iv A_g.y), (Iv A_g.z), (.slice p11 A_g.vals.length q12)]), (Iv x), (Iv y), (Iv z), (Pt b15 0), Ud, Ud, Ud, (Fl 0), (Bo false), v24, v25, v26, v27, v28, v29, v30, v31, v32, Ud, Ud, Ud, Ud, Ud, Ud, Ud, Ud]) rfl (fun _ => rfl) (fun u hu hF => ?_) (fun v32 => ?_)
  · have h12_ : v26 = (Bo (!(isGrid A_g))) := hF.1
    have h17_ : (!(isGrid A_g)) = false → v31 = (Bo (!(hasG A_g x y z))) := hF.2.1
    clear hF
    obtain rfl := h12_
    refine doesG_un rfl ((does_pick (b := (!(isGrid A_g))) (ev rfl) (ev rfl) (ev rfl)).mono ?_); rintro _ _ ⟨rfl, rfl⟩; refine ⟨?_, Ext.refl _⟩; rw [hβ1]; skip
    cases hbb : (!(isGrid A_g)) <;> simp [hbb] at h17_ ⊢
    all_goals (first | rfl | (subst h17_; rfl) | simp_all)
  refine RW_fin ?_; intro w33 E34 hP35
  obtain ⟨⟨⟨⟨⟨⟨⟨⟨⟨-, -⟩, -⟩, -⟩, -⟩, -⟩, -⟩, -⟩, -⟩, q36⟩ := hP35
  have X37 := Ext.gr X21 E34
  have q36 : v32 = (Bo β1) := q36
  obtain rfl := q36
  show wpList _ _ _ _ (fr [(.agg #[(Fl r1), (Fl r3), (Fl r5), (Fl r7), (Iv A_g.x), (Iv A_g.y), (Iv A_g.z), (.slice p11 A_g.vals.length q12)]), (Iv x), (Iv y), (Iv z), (Pt b15 0), Ud, Ud, Ud, (Fl 0), (Bo false), v24, v25, v26, v27, v28, v29, v30, v31, (Bo β1), Ud, Ud, Ud, Ud, Ud, Ud, Ud, Ud]) _
  refine wpList_nil (hK23 _ _ ?_)
  refine wp_cond_split (t := β1) (ev rfl) (fun c38 => ?_) (fun c38 => ?_)
  · have c38' := c38
    (try simp only [hβ1] at c38')
    (try simp only [icmp, Bool.and_eq_true, Bool.or_eq_true, Bool.and_eq_false_iff, Bool.or_eq_false_iff, Bool.not_eq_true', Bool.not_eq_false', decide_eq_true_eq, decide_eq_false_iff_not, beq_iff_eq, bne_iff_ne, beq_eq_false_iff_ne, bne_eq_false_iff_eq] at c38')
    refine wp_seq_k fun K39 hK39 => ?_
    refine wp_region_lit ?_
    refine q_is (l' := [(.agg #[(Fl r1), (Fl r3), (Fl r5), (Fl r7), (Iv A_g.x), (Iv A_g.y), (Iv A_g.z), (.slice p11 A_g.vals.length q12)]), (Iv x), (Iv y), (Iv z), (Pt b15 0), Ud, Ud, Ud, (Fl 0), (Bo false), v24, v25, v26, v27, v28, v29, v30, v31, (Bo β1), Ud, Ud, Ud, Ud, Ud, Ud, Ud, Ud]) rfl rfl (does_assign (u := (Fl 0)) (ev rfl)) rfl ?_
    refine q_is (l' := [(.agg #[(Fl r1), (Fl r3), (Fl r5), (Fl r7), (Iv A_g.x), (Iv A_g.y), (Iv A_g.z), (.slice p11 A_g.vals.length q12)]), (Iv x), (Iv y), (Iv z), (Pt b15 0), Ud, Ud, Ud, (Fl 0), (Bo false), v24, v25, v26, v27, v28, v29, v30, v31, (Bo β1), Ud, Ud, Ud, Ud, Ud, Ud, Ud, Ud]) rfl rfl (does_assign (u := (Bo false)) (ev rfl)) rfl ?_
    refine wpList_nil (hK39 _ _ ?_)
    refine wp_ret ?_
    dsimp only [Exit.then, Exit.inBlock]
    refine ret_val (v := (.tuple #[(Fl 0), (Bo false)])) (res_TT rfl (slot rfl) (slot rfl)) X37 ?_
    try simp only [h2, h4, h6, h8, hβ1] at c38
    have x40 : (hasOk A_g x y z) = false := by first | rfl | exact (valG_f (hasOk_f (by assumption))).symm | exact (valG_f (by assumption)).symm | exact hasOk_f (by assumption) | assumption | exact hok | (rw [valG_t' hok (by assumption)]; assumption)
    have x41 : cf .f32 0 = valG A_g x y z := by first | rfl | exact (valG_f (hasOk_f (by assumption))).symm | exact (valG_f (by assumption)).symm | exact hasOk_f (by assumption) | assumption | exact hok | (rw [valG_t' hok (by assumption)]; assumption)
    exact ⟨0, (by first | rfl | rw [x40]), x41⟩
  have c38' := c38
  (try simp only [hβ1] at c38')
  (try simp only [icmp, Bool.and_eq_true, Bool.or_eq_true, Bool.and_eq_false_iff, Bool.or_eq_false_iff, Bool.not_eq_true', Bool.not_eq_false', decide_eq_true_eq, decide_eq_false_iff_not, beq_iff_eq, bne_iff_ne, beq_eq_false_iff_ne, bne_eq_false_iff_eq] at c38')
  refine wp_skip (hK22 _ _ ?_)
  refine wp_seq_k fun K42 hK42 => ?_
  have hok : hasOk A_g x y z = true := by first | assumption | exact hasOk_t (by assumption)
  obtain ⟨hi0, hi1, hi2⟩ := idxG_ok' hok
  obtain ⟨el1, hel1⟩ : ∃ e, A_g.vals[(idxG A_g x y z).toNat]? = some e := ⟨_, List.getElem?_eq_getElem (by omega)⟩
  refine region_draw (
    [Fact.pure [] (fun v => v = (Pt b15 7)),
    Fact.pure [19] (fun v => v = (.slice p11 A_g.vals.length q12)),
    Fact.pure [] (fun v => v = (Iv x)),
    Fact.pure [] (fun v => v = (Iv y)),
    Fact.pure [] (fun v => v = (Iv z)),
    Fact.pure [21, 22, 23] (fun v => v = (Iv (idxG A_g x y z))),
    Fact.mem [20, 24] (fun v w' => PtrR RF w' v el1) (by intro v w1 w2 hx h; exact h.ext RF.mono hx),
    Fact.pure [25] (fun v => ∃ r_1 : Nat, v = (Fl r_1) ∧ cf .f32 r_1 = el1)]) mixed (by kernel_rfl) (by intro _ _ d _ _ h; cases d <;> exact h) ?_
  obtain ⟨w43, hw45⟩ : ∃ w', w' = World.drew w33 := ⟨_, rfl⟩; rw [← hw45]; have E44 : Ext w33 w43 := by rw [hw45]; exact Ext.draw _
  clear hw45
  have X46 := Ext.gr X37 E44
  refine RW_d (fun v47 => [(.agg #[(Fl r1), (Fl r3), (Fl r5), (Fl r7), (Iv A_g.x), (Iv A_g.y), (Iv A_g.z), (.slice p11 A_g.vals.length q12)]), (Iv x), (Iv y), (Iv z), (Pt b15 0), Ud, Ud, Ud, (Fl 0), (Bo false), v24, v25, v26, v27, v28, v29, v30, v31, (Bo β1), v47, Ud, Ud, Ud, Ud, Ud, Ud, Ud]) rfl (fun _ => rfl) (fun u hu hF => ?_) (fun v47 => ?_)
  · clear hF
    refine doesG_un rfl ?_
    refine (does_fieldAddr (ev rfl) fa32_5).mono ?_; rintro _ _ ⟨rfl, rfl⟩
    exact ⟨rfl, Ext.refl _⟩
  refine RW_d (fun v48 => [(.agg #[(Fl r1), (Fl r3), (Fl r5), (Fl r7), (Iv A_g.x), (Iv A_g.y), (Iv A_g.z), (.slice p11 A_g.vals.length q12)]), (Iv x), (Iv y), (Iv z), (Pt b15 0), Ud, Ud, Ud, (Fl 0), (Bo false), v24, v25, v26, v27, v28, v29, v30, v31, (Bo β1), v47, v48, Ud, Ud, Ud, Ud, Ud, Ud]) rfl (fun _ => rfl) (fun u hu hF => ?_) (fun v48 => ?_)
  · have h19_ : v47 = (Pt b15 7) := hF.1
    clear hF
    obtain rfl := h19_
    refine doesG_un rfl ?_
    refine (does_load (u := (.slice p11 A_g.vals.length q12)) (ev rfl) Try.isAgg25 (Cells.at (Blk.cells (((hB17.ext E34).ext E44).ext hu)) 7 rfl)).mono ?_; rintro _ _ ⟨rfl, rfl⟩
    exact ⟨rfl, Ext.refl _⟩
  refine RW_d (fun v49 => [(.agg #[(Fl r1), (Fl r3), (Fl r5), (Fl r7), (Iv A_g.x), (Iv A_g.y), (Iv A_g.z), (.slice p11 A_g.vals.length q12)]), (Iv x), (Iv y), (Iv z), (Pt b15 0), Ud, Ud, Ud, (Fl 0), (Bo false), v24, v25, v26, v27, v28, v29, v30, v31, (Bo β1), v47, v48, v49, Ud, Ud, Ud, Ud, Ud]) rfl (fun _ => rfl) (fun u hu hF => ?_) (fun v49 => ?_)
  · clear hF
    refine doesG_un rfl ?_
    refine (does_move (u := (Iv x)) (ev rfl)).mono ?_; rintro _ _ ⟨rfl, rfl⟩
    exact ⟨rfl, Ext.refl _⟩
  refine RW_d (fun v50 => [(.agg #[(Fl r1), (Fl r3), (Fl r5), (Fl r7), (Iv A_g.x), (Iv A_g.y), (Iv A_g.z), (.slice p11 A_g.vals.length q12)]), (Iv x), (Iv y), (Iv z), (Pt b15 0), Ud, Ud, Ud, (Fl 0), (Bo false), v24, v25, v26, v27, v28, v29, v30, v31, (Bo β1), v47, v48, v49, v50, Ud, Ud, Ud, Ud]) rfl (fun _ => rfl) (fun u hu hF => ?_) (fun v50 => ?_)
  · clear hF
    refine doesG_un rfl ?_
    refine (does_move (u := (Iv y)) (ev rfl)).mono ?_; rintro _ _ ⟨rfl, rfl⟩
    exact ⟨rfl, Ext.refl _⟩
  refine RW_d (fun v51 => [(.agg #[(Fl r1), (Fl r3), (Fl r5), (Fl r7), (Iv A_g.x), (Iv A_g.y), (Iv A_g.z), (.slice p11 A_g.vals.length q12)]), (Iv x), (Iv y), (Iv z), (Pt b15 0), Ud, Ud, Ud, (Fl 0), (Bo false), v24, v25, v26, v27, v28, v29, v30, v31, (Bo β1), v47, v48, v49, v50, v51, Ud, Ud, Ud]) rfl (fun _ => rfl) (fun u hu hF => ?_) (fun v51 => ?_)
  · clear hF
    refine doesG_un rfl ?_
    refine (does_move (u := (Iv z)) (ev rfl)).mono ?_; rintro _ _ ⟨rfl, rfl⟩
    exact ⟨rfl, Ext.refl _⟩
  refine RW_d (fun v52 => [(.agg #[(Fl r1), (Fl r3), (Fl r5), (Fl r7), (Iv A_g.x), (Iv A_g.y), (Iv A_g.z), (.slice p11 A_g.vals.length q12)]), (Iv x), (Iv y), (Iv z), (Pt b15 0), Ud, Ud, Ud, (Fl 0), (Bo false), v24, v25, v26, v27, v28, v29, v30, v31, (Bo β1), v47, v48, v49, v50, v51, v52, Ud, Ud]) rfl (fun _ => rfl) (fun u hu hF => ?_) (fun v52 => ?_)
  · have h21_ : v49 = (Iv x) := hF.1
    have h22_ : v50 = (Iv y) := hF.2.1
    have h23_ : v51 = (Iv z) := hF.2.2.1
    clear hF
    obtain rfl := h21_
    obtain rfl := h22_
    obtain rfl := h23_
    refine doesG_un rfl ?_
    refine (does_call (args := #[(Pt b15 0), (Iv x), (Iv y), (Iv z)]) cal69 (evs rfl) (c_spec_l06Index b15 0 [(Fl r1), (Fl r3), (Fl r5), (Fl r7), (Iv A_g.x), (Iv A_g.y), (Iv A_g.z), (.slice p11 A_g.vals.length q12)] A_g x y z _ (Blk.cells (((hB17.ext E34).ext E44).ext hu)) ⟨r1, r3, r5, r7, (.slice p11 A_g.vals.length q12), rfl, h2, h4, h6, h8, (Sl.ext (Sl.ext hs13 RF.mono (Ext.gr X37 E44)) RF.mono hu)⟩)).mono ?_; rintro v u' ⟨hx, hv⟩
    exact ⟨hv, hx⟩
  refine RW_d (fun v53 => [(.agg #[(Fl r1), (Fl r3), (Fl r5), (Fl r7), (Iv A_g.x), (Iv A_g.y), (Iv A_g.z), (.slice p11 A_g.vals.length q12)]), (Iv x), (Iv y), (Iv z), (Pt b15 0), Ud, Ud, Ud, (Fl 0), (Bo false), v24, v25, v26, v27, v28, v29, v30, v31, (Bo β1), v47, v48, v49, v50, v51, v52, v53, Ud]) rfl (fun _ => rfl) (fun u hu hF => ?_) (fun v53 => ?_)
  · have h20_ : v48 = (.slice p11 A_g.vals.length q12) := hF.1
    have h24_ : v52 = (Iv (idxG A_g x y z)) := hF.2.1
    clear hF
    obtain rfl := h20_
    obtain rfl := h24_
    refine doesG_un rfl ?_
    refine (does_indexSl (R := RF) (i := idxG A_g x y z) (xs := A_g.vals) (e := el1) Try.underlying25 Try.sizeOf22 (ev rfl) (ev rfl) (Sl.ext (Sl.ext hs13 RF.mono (Ext.gr X37 E44)) RF.mono hu) (by omega) hel1).mono ?_; rintro v u' ⟨b, of, cs, hv, hc, hR, hu'⟩; subst hu'
    exact ⟨⟨b, of, cs, hv, hc, hR⟩, Ext.refl _⟩
  refine RW_d (fun v54 => [(.agg #[(Fl r1), (Fl r3), (Fl r5), (Fl r7), (Iv A_g.x), (Iv A_g.y), (Iv A_g.z), (.slice p11 A_g.vals.length q12)]), (Iv x), (Iv y), (Iv z), (Pt b15 0), Ud, Ud, Ud, (Fl 0), (Bo false), v24, v25, v26, v27, v28, v29, v30, v31, (Bo β1), v47, v48, v49, v50, v51, v52, v53, v54]) rfl (fun _ => rfl) (fun u hu hF => ?_) (fun v54 => ?_)
  · have h25_ : PtrR RF u v53 el1 := hF.1
    clear hF
    obtain ⟨b25_, o25_, _, rfl, hc25_, ⟨r25_1, rfl, h25_2⟩⟩ := h25_
    refine doesG_un rfl ?_
    refine (does_load (u := (Fl r25_1)) (ev rfl) Try.isAgg22 (Cells.at hc25_ 0 rfl)).mono ?_; rintro _ _ ⟨rfl, rfl⟩
    exact ⟨⟨r25_1, rfl, (by simp only [h25_2])⟩, Ext.refl _⟩
  refine RW_fin ?_; intro w55 E56 hP57
  obtain ⟨⟨⟨⟨⟨⟨⟨⟨-, -⟩, -⟩, -⟩, -⟩, -⟩, -⟩, -⟩, q58⟩ := hP57
  have X59 := Ext.gr X46 E56
  have q58 : ∃ r_1 : Nat, v54 = (Fl r_1) ∧ cf .f32 r_1 = el1 := q58
  obtain ⟨r60, rfl, h61⟩ := q58
  show wpList _ _ _ _ (fr [(.agg #[(Fl r1), (Fl r3), (Fl r5), (Fl r7), (Iv A_g.x), (Iv A_g.y), (Iv A_g.z), (.slice p11 A_g.vals.length q12)]), (Iv x), (Iv y), (Iv z), (Pt b15 0), Ud, Ud, Ud, (Fl 0), (Bo false), v24, v25, v26, v27, v28, v29, v30, v31, (Bo β1), v47, v48, v49, v50, v51, v52, v53, (Fl r60)]) _
  refine q_is (l' := [(.agg #[(Fl r1), (Fl r3), (Fl r5), (Fl r7), (Iv A_g.x), (Iv A_g.y), (Iv A_g.z), (.slice p11 A_g.vals.length q12)]), (Iv x), (Iv y), (Iv z), (Pt b15 0), Ud, Ud, Ud, (Fl r60), (Bo false), v24, v25, v26, v27, v28, v29, v30, v31, (Bo β1), v47, v48, v49, v50, v51, v52, v53, (Fl r60)]) rfl rfl (does_assign (u := (Fl r60)) (ev rfl)) rfl ?_
  refine q_is (l' := [(.agg #[(Fl r1), (Fl r3), (Fl r5), (Fl r7), (Iv A_g.x), (Iv A_g.y), (Iv A_g.z), (.slice p11 A_g.vals.length q12)]), (Iv x), (Iv y), (Iv z), (Pt b15 0), Ud, Ud, Ud, (Fl r60), (Bo true), v24, v25, v26, v27, v28, v29, v30, v31, (Bo β1), v47, v48, v49, v50, v51, v52, v53, (Fl r60)]) rfl rfl (does_assign (u := (Bo true)) (ev rfl)) rfl ?_
  refine wpList_nil (hK42 _ _ ?_)
  refine wp_ret ?_
  refine ret_val (v := (.tuple #[(Fl r60), (Bo true)])) (res_TT rfl (slot rfl) (slot rfl)) X59 ?_
  try simp only [h2, h4, h6, h8, hβ1, hel1, h61] at c38
  have x62 : (hasOk A_g x y z) = true := by first | rfl | exact (valG_f (hasOk_f (by assumption))).symm | exact (valG_f (by assumption)).symm | exact hasOk_f (by assumption) | assumption | exact hok | (rw [valG_t' hok (by assumption)]; assumption)
  have x63 : cf .f32 r60 = valG A_g x y z := by first | rfl | exact (valG_f (hasOk_f (by assumption))).symm | exact (valG_f (by assumption)).symm | exact hasOk_f (by assumption) | assumption | exact hok | (rw [valG_t' hok (by assumption)]; assumption)
  exact ⟨r60, (by first | rfl | rw [x62]), x63⟩

/- (*impl.Grid).has -/
theorem c_impl_Grid_has (g_b : Nat) (g_o : Nat) (g : List Value) (A_g : GridT) (x : Int) (y : Int) (z : Int) (w : World) (hc_g : Cells w g_b g_o g) (hv_g : RGridT w A_g g) : Gives Try.prog 70 #[(Pt g_b g_o), (Iv x), (Iv y), (Iv z)] w (fun v w' => v = (Bo (hasOk A_g x y z))) := by
  obtain ⟨r1, r3, r5, r7, y9, rfl, h2, h4, h6, h8, h10⟩ := hv_g
  have hs13 := h10; have hs13l := Sl.len h10; obtain ⟨p11, q12, rfl⟩ := Sl.shape h10
  refine enter [(Pt g_b g_o), (Iv x), (Iv y), (Iv z), Ud, Ud, Ud, Ud, Ud, Ud, Ud, Ud, Ud, Ud, Ud, Ud, Ud, Ud, Ud, Ud, Ud, Ud, Ud, Ud, Ud, Ud, Ud, Ud, Ud, Ud, Ud, Ud, Ud, Ud, Ud, Ud, Ud, Ud, Ud, Ud] Try.func70 rfl Try.ntmps70 rfl ?_
  refine wp_seq_k fun K14 hK14 => ?_
  refine wp_region_lit ?_
  refine q_is (l' := [(Pt g_b g_o), (Iv x), (Iv y), (Iv z), Ud, Ud, Ud, Ud, (Bo false), Ud, Ud, Ud, Ud, Ud, Ud, Ud, Ud, Ud, Ud, Ud, Ud, Ud, Ud, Ud, Ud, Ud, Ud, Ud, Ud, Ud, Ud, Ud, Ud, Ud, Ud, Ud, Ud, Ud, Ud, Ud]) rfl rfl (does_assign (u := (Bo false)) (ev rfl)) rfl ?_
  refine wpList_nil (hK14 _ _ ?_)
  refine wp_seq_k fun K15 hK15 => ?_
  obtain ⟨β1, hβ1⟩ : ∃ b : Bool, b = (inI x 0 (IntKind.i64.wrap (A_g.x - 1))) := ⟨_, rfl⟩
  obtain ⟨β2, hβ2⟩ : ∃ b : Bool, b = (inI y 0 (IntKind.i64.wrap (A_g.y - 1))) := ⟨_, rfl⟩
  obtain ⟨β3, hβ3⟩ : ∃ b : Bool, b = (((isGrid A_g) && β1) && β2) := ⟨_, rfl⟩
  obtain ⟨β4, hβ4⟩ : ∃ b : Bool, b = (inI z 0 (IntKind.i64.wrap (A_g.z - 1))) := ⟨_, rfl⟩
  refine region_text (
    [Fact.pure [] (fun v => v = (Pt g_b g_o)),
    Fact.pure [9] (fun v => v = (Pt g_b g_o)),
    Fact.pure [10] (fun v => v = (.agg #[(Fl r1), (Fl r3), (Fl r5), (Fl r7), (Iv A_g.x), (Iv A_g.y), (Iv A_g.z), (.slice p11 A_g.vals.length q12)])),
    Fact.pure [11] (fun v => v = (Bo (isGrid A_g))),
    Fact.pure [12] (fun v => v = (Bo (isGrid A_g))),
    Fact.pure [13] (fun v => (isGrid A_g) = true → v = (Iv x)),
    Fact.pure [13] (fun v => (isGrid A_g) = true → v = (Pt g_b g_o)),
    Fact.pure [15, 13] (fun v => (isGrid A_g) = true → v = (Pt g_b g_o)),
    Fact.pure [16, 13] (fun v => (isGrid A_g) = true → v = (Pt g_b (g_o + 4))),
    Fact.pure [17, 13] (fun v => (isGrid A_g) = true → v = (Iv A_g.x)),
    Fact.pure [18, 13] (fun v => (isGrid A_g) = true → v = (Iv (IntKind.i64.wrap (A_g.x - 1)))),
    Fact.pure [14, 19, 13] (fun v => (isGrid A_g) = true → v = (Bo β1)),
    Fact.pure [13, 20] (fun v => v = (Bo ((isGrid A_g) && β1))),
    Fact.pure [21] (fun v => v = (Bo ((isGrid A_g) && β1))),
    Fact.pure [22] (fun v => ((isGrid A_g) && β1) = true → v = (Iv y)),
    Fact.pure [22] (fun v => ((isGrid A_g) && β1) = true → v = (Pt g_b g_o)),
    Fact.pure [24, 22] (fun v => ((isGrid A_g) && β1) = true → v = (Pt g_b g_o)),
    Fact.pure [25, 22] (fun v => ((isGrid A_g) && β1) = true → v = (Pt g_b (g_o + 5))),
    Fact.pure [26, 22] (fun v => ((isGrid A_g) && β1) = true → v = (Iv A_g.y)),
    Fact.pure [27, 22] (fun v => ((isGrid A_g) && β1) = true → v = (Iv (IntKind.i64.wrap (A_g.y - 1)))),
    Fact.pure [23, 28, 22] (fun v => ((isGrid A_g) && β1) = true → v = (Bo β2)),
    Fact.pure [22, 29] (fun v => v = (Bo β3)),
    Fact.pure [30] (fun v => v = (Bo β3)),
    Fact.pure [31] (fun v => β3 = true → v = (Iv z)),
    Fact.pure [31] (fun v => β3 = true → v = (Pt g_b g_o)),
    Fact.pure [33, 31] (fun v => β3 = true → v = (Pt g_b g_o)),
    Fact.pure [34, 31] (fun v => β3 = true → v = (Pt g_b (g_o + 6))),
    Fact.pure [35, 31] (fun v => β3 = true → v = (Iv A_g.z)),
    Fact.pure [36, 31] (fun v => β3 = true → v = (Iv (IntKind.i64.wrap (A_g.z - 1)))),
    Fact.pure [32, 37, 31] (fun v => β3 = true → v = (Bo β4)),
    Fact.pure [31, 38] (fun v => v = (Bo (β3 && β4)))]) (by simp [Fact.pure, Fact.mem]) ?_
  refine RW_d (fun v16 => [(Pt g_b g_o), (Iv x), (Iv y), (Iv z), Ud, Ud, Ud, Ud, (Bo false), v16, Ud, Ud, Ud, Ud, Ud, Ud, Ud, Ud, Ud, Ud, Ud, Ud, Ud, Ud, Ud, Ud, Ud, Ud, Ud, Ud, Ud, Ud, Ud, Ud, Ud, Ud, Ud, Ud, Ud, Ud]) rfl (fun _ => rfl) (fun u hu hF => ?_) (fun v16 => ?_)
  · clear hF
    refine doesG_un rfl ?_
    refine (does_move (u := (Pt g_b g_o)) (ev rfl)).mono ?_; rintro _ _ ⟨rfl, rfl⟩
    exact ⟨rfl, Ext.refl _⟩
  refine RW_d (fun v17 => [(Pt g_b g_o), (Iv x), (Iv y), (Iv z), Ud, Ud, Ud, Ud, (Bo false), v16, v17, Ud, Ud, Ud, Ud, Ud, Ud, Ud, Ud, Ud, Ud, Ud, Ud, Ud, Ud, Ud, Ud, Ud, Ud, Ud, Ud, Ud, Ud, Ud, Ud, Ud, Ud, Ud, Ud, Ud]) rfl (fun _ => rfl) (fun u hu hF => ?_) (fun v17 => ?_)
  · have h9_ : v16 = (Pt g_b g_o) := hF.1
    clear hF
    obtain rfl := h9_
    refine doesG_un rfl ?_
    refine (does_nilCheck (ev rfl)).mono ?_; rintro _ _ ⟨rfl, rfl⟩
    exact ⟨rfl, Ext.refl _⟩
  refine RW_d (fun v18 => [(Pt g_b g_o), (Iv x), (Iv y), (Iv z), Ud, Ud, Ud, Ud, (Bo false), v16, v17, v18, Ud, Ud, Ud, Ud, Ud, Ud, Ud, Ud, Ud, Ud, Ud, Ud, Ud, Ud, Ud, Ud, Ud, Ud, Ud, Ud, Ud, Ud, Ud, Ud, Ud, Ud, Ud, Ud]) rfl (fun _ => rfl) (fun u hu hF => ?_) (fun v18 => ?_)
  · have h10_ : v17 = (Pt g_b g_o) := hF.1
    clear hF
    obtain rfl := h10_
    refine doesG_un rfl ?_
    refine (does_loadAgg (cs := [(Fl r1), (Fl r3), (Fl r5), (Fl r7), (Iv A_g.x), (Iv A_g.y), (Iv A_g.z), (.slice p11 A_g.vals.length q12)]) (ev rfl) Try.isAgg32 Try.sizeOf32 (hc_g.ext hu) rfl).mono ?_; rintro _ _ ⟨rfl, rfl⟩
    exact ⟨rfl, Ext.refl _⟩
  refine RW_d (fun v19 => [(Pt g_b g_o), (Iv x), (Iv y), (Iv z), Ud, Ud, Ud, Ud, (Bo false), v16, v17, v18, v19, Ud, Ud, Ud, Ud, Ud, Ud, Ud, Ud, Ud, Ud, Ud, Ud, Ud, Ud, Ud, Ud, Ud, Ud, Ud, Ud, Ud, Ud, Ud, Ud, Ud, Ud, Ud]) rfl (fun _ => rfl) (fun u hu hF => ?_) (fun v19 => ?_)
  · have h11_ : v18 = (.agg #[(Fl r1), (Fl r3), (Fl r5), (Fl r7), (Iv A_g.x), (Iv A_g.y), (Iv A_g.z), (.slice p11 A_g.vals.length q12)]) := hF.1
    clear hF
    obtain rfl := h11_
    refine doesG_un rfl ?_
    refine (does_call (args := #[(.agg #[(Fl r1), (Fl r3), (Fl r5), (Fl r7), (Iv A_g.x), (Iv A_g.y), (Iv A_g.z), (.slice p11 A_g.vals.length q12)])]) cal20 (evs rfl) (c_impl_ValidGrid [(Fl r1), (Fl r3), (Fl r5), (Fl r7), (Iv A_g.x), (Iv A_g.y), (Iv A_g.z), (.slice p11 A_g.vals.length q12)] A_g _ ⟨r1, r3, r5, r7, (.slice p11 A_g.vals.length q12), rfl, h2, h4, h6, h8, (Sl.ext hs13 RF.mono hu)⟩)).mono ?_; rintro v u' ⟨hx, hv⟩
    exact ⟨hv, hx⟩
  refine RW_d (fun v20 => [(Pt g_b g_o), (Iv x), (Iv y), (Iv z), Ud, Ud, Ud, Ud, (Bo false), v16, v17, v18, v19, v20, Ud, Ud, Ud, Ud, Ud, Ud, Ud, Ud, Ud, Ud, Ud, Ud, Ud, Ud, Ud, Ud, Ud, Ud, Ud, Ud, Ud, Ud, Ud, Ud, Ud, Ud]) rfl (fun _ => rfl) (fun u hu hF => ?_) (fun v20 => ?_)
  · have h12_ : v19 = (Bo (isGrid A_g)) := hF.1
    clear hF
    obtain rfl := h12_
    refine doesG_un rfl ?_
    refine (does_move (u := (Bo (isGrid A_g))) (ev rfl)).mono ?_; rintro _ _ ⟨rfl, rfl⟩
    exact ⟨rfl, Ext.refl _⟩
  refine RW_d (fun v21 => [(Pt g_b g_o), (Iv x), (Iv y), (Iv z), Ud, Ud, Ud, Ud, (Bo false), v16, v17, v18, v19, v20, v21, Ud, Ud, Ud, Ud, Ud, Ud, Ud, Ud, Ud, Ud, Ud, Ud, Ud, Ud, Ud, Ud, Ud, Ud, Ud, Ud, Ud, Ud, Ud, Ud, Ud]) rfl (fun _ => rfl) (fun u hu hF => ?_) (fun v21 => ?_)
  · have h13_ : v20 = (Bo (isGrid A_g)) := hF.1
    clear hF
    obtain rfl := h13_
    refine doesG_g (b := (isGrid A_g)) rfl (yld rfl rfl) (fun hg => ?_) (fun hg => ⟨fun h => absurd h hg, Ext.refl _⟩)
    refine (does_move (u := (Iv x)) (ev rfl)).mono ?_; rintro _ _ ⟨rfl, rfl⟩
    exact ⟨fun _ => rfl, Ext.refl _⟩
  refine RW_d (fun v22 => [(Pt g_b g_o), (Iv x), (Iv y), (Iv z), Ud, Ud, Ud, Ud, (Bo false), v16, v17, v18, v19, v20, v21, v22, Ud, Ud, Ud, Ud, Ud, Ud, Ud, Ud, Ud, Ud, Ud, Ud, Ud, Ud, Ud, Ud, Ud, Ud, Ud, Ud, Ud, Ud, Ud, Ud]) rfl (fun _ => rfl) (fun u hu hF => ?_) (fun v22 => ?_)
  · have h13_ : v20 = (Bo (isGrid A_g)) := hF.1
    clear hF
    obtain rfl := h13_
    refine doesG_g (b := (isGrid A_g)) rfl (yld rfl rfl) (fun hg => ?_) (fun hg => ⟨fun h => absurd h hg, Ext.refl _⟩)
    refine (does_move (u := (Pt g_b g_o)) (ev rfl)).mono ?_; rintro _ _ ⟨rfl, rfl⟩
    exact ⟨fun _ => rfl, Ext.refl _⟩
  refine RW_d (fun v23 => [(Pt g_b g_o), (Iv x), (Iv y), (Iv z), Ud, Ud, Ud, Ud, (Bo false), v16, v17, v18, v19, v20, v21, v22, v23, Ud, Ud, Ud, Ud, Ud, Ud, Ud, Ud, Ud, Ud, Ud, Ud, Ud, Ud, Ud, Ud, Ud, Ud, Ud, Ud, Ud, Ud, Ud]) rfl (fun _ => rfl) (fun u hu hF => ?_) (fun v23 => ?_)
  · have h15_ : (isGrid A_g) = true → v22 = (Pt g_b g_o) := hF.1
    have h13_ : v20 = (Bo (isGrid A_g)) := hF.2.1
    clear hF
    obtain rfl := h13_
    refine doesG_g (b := (isGrid A_g)) rfl (yld rfl rfl) (fun hg => ?_) (fun hg => ⟨fun h => absurd h hg, Ext.refl _⟩)
    obtain rfl := h15_ hg
    refine (does_nilCheck (ev rfl)).mono ?_; rintro _ _ ⟨rfl, rfl⟩
    exact ⟨fun _ => rfl, Ext.refl _⟩
  refine RW_d (fun v24 => [(Pt g_b g_o), (Iv x), (Iv y), (Iv z), Ud, Ud, Ud, Ud, (Bo false), v16, v17, v18, v19, v20, v21, v22, v23, v24, Ud, Ud, Ud, Ud, Ud, Ud, Ud, Ud, Ud, Ud, Ud, Ud, Ud, Ud, Ud, Ud, Ud, Ud, Ud, Ud, Ud, Ud]) rfl (fun _ => rfl) (fun u hu hF => ?_) (fun v24 => ?_)
  · have h16_ : (isGrid A_g) = true → v23 = (Pt g_b g_o) := hF.1
    have h13_ : v20 = (Bo (isGrid A_g)) := hF.2.1
    clear hF
    obtain rfl := h13_
    refine doesG_g (b := (isGrid A_g)) rfl (yld rfl rfl) (fun hg => ?_) (fun hg => ⟨fun h => absurd h hg, Ext.refl _⟩)
    obtain rfl := h16_ hg
    refine (does_fieldAddr (ev rfl) fa32_2).mono ?_; rintro _ _ ⟨rfl, rfl⟩
    exact ⟨fun _ => rfl, Ext.refl _⟩
  refine RW_d (fun v25 => [(Pt g_b g_o), (Iv x), (Iv y), (Iv z), Ud, Ud, Ud, Ud, (Bo false), v16, v17, v18, v19, v20, v21, v22, v23, v24, v25, Ud, Ud, Ud, Ud, Ud, Ud, Ud, Ud, Ud, Ud, Ud, Ud, Ud, Ud, Ud, Ud, Ud, Ud, Ud, Ud, Ud]) rfl (fun _ => rfl) (fun u hu hF => ?_) (fun v25 => ?_)
  · have h17_ : (isGrid A_g) = true → v24 = (Pt g_b (g_o + 4)) := hF.1
    have h13_ : v20 = (Bo (isGrid A_g)) := hF.2.1
    clear hF
    obtain rfl := h13_
    refine doesG_g (b := (isGrid A_g)) rfl (yld rfl rfl) (fun hg => ?_) (fun hg => ⟨fun h => absurd h hg, Ext.refl _⟩)
    obtain rfl := h17_ hg
    refine (does_load (u := (Iv A_g.x)) (ev rfl) Try.isAgg2 (Cells.at (hc_g.ext hu) 4 rfl)).mono ?_; rintro _ _ ⟨rfl, rfl⟩
    exact ⟨fun _ => rfl, Ext.refl _⟩
  refine RW_d (fun v26 => [(Pt g_b g_o), (Iv x), (Iv y), (Iv z), Ud, Ud, Ud, Ud, (Bo false), v16, v17, v18, v19, v20, v21, v22, v23, v24, v25, v26, Ud, Ud, Ud, Ud, Ud, Ud, Ud, Ud, Ud, Ud, Ud, Ud, Ud, Ud, Ud, Ud, Ud, Ud, Ud, Ud]) rfl (fun _ => rfl) (fun u hu hF => ?_) (fun v26 => ?_)
  · have h18_ : (isGrid A_g) = true → v25 = (Iv A_g.x) := hF.1
    have h13_ : v20 = (Bo (isGrid A_g)) := hF.2.1
    clear hF
    obtain rfl := h13_
    refine doesG_g (b := (isGrid A_g)) rfl (yld rfl rfl) (fun hg => ?_) (fun hg => ⟨fun h => absurd h hg, Ext.refl _⟩)
    obtain rfl := h18_ hg
    refine (does_iarith (p := A_g.x) (q := 1) (r := IntKind.i64.wrap (A_g.x - 1)) (ev rfl) (ev rfl) (.inr (.inl ⟨rfl, rfl⟩))).mono ?_; rintro _ _ ⟨rfl, rfl⟩
    exact ⟨fun _ => rfl, Ext.refl _⟩
  refine RW_d (fun v27 => [(Pt g_b g_o), (Iv x), (Iv y), (Iv z), Ud, Ud, Ud, Ud, (Bo false), v16, v17, v18, v19, v20, v21, v22, v23, v24, v25, v26, v27, Ud, Ud, Ud, Ud, Ud, Ud, Ud, Ud, Ud, Ud, Ud, Ud, Ud, Ud, Ud, Ud, Ud, Ud, Ud]) rfl (fun _ => rfl) (fun u hu hF => ?_) (fun v27 => ?_)
  · have h14_ : (isGrid A_g) = true → v21 = (Iv x) := hF.1
    have h19_ : (isGrid A_g) = true → v26 = (Iv (IntKind.i64.wrap (A_g.x - 1))) := hF.2.1
    have h13_ : v20 = (Bo (isGrid A_g)) := hF.2.2.1
    clear hF
    obtain rfl := h13_
    refine doesG_g (b := (isGrid A_g)) rfl (yld rfl rfl) (fun hg => ?_) (fun hg => ⟨fun h => absurd h hg, Ext.refl _⟩)
    obtain rfl := h14_ hg
    obtain rfl := h19_ hg
    refine (does_call (args := #[(Iv x), (Iv 0), (Iv (IntKind.i64.wrap (A_g.x - 1)))]) cal66 (evs rfl) (c_impl_in x 0 (IntKind.i64.wrap (A_g.x - 1)) _)).mono ?_; rintro v u' ⟨hx, hv⟩
    exact ⟨fun _ => hv.trans (by simp only [hβ1]), hx⟩
  refine RW_d (fun v28 => [(Pt g_b g_o), (Iv x), (Iv y), (Iv z), Ud, Ud, Ud, Ud, (Bo false), v16, v17, v18, v19, v20, v21, v22, v23, v24, v25, v26, v27, v28, Ud, Ud, Ud, Ud, Ud, Ud, Ud, Ud, Ud, Ud, Ud, Ud, Ud, Ud, Ud, Ud, Ud, Ud]) rfl (fun _ => rfl) (fun u hu hF => ?_) (fun v28 => ?_)
  · have h13_ : v20 = (Bo (isGrid A_g)) := hF.1
    have h20_ : (isGrid A_g) = true → v27 = (Bo β1) := hF.2.1
    clear hF
    obtain rfl := h13_
    refine doesG_un rfl ((does_pick (b := (isGrid A_g)) (ev rfl) (ev rfl) (ev rfl)).mono ?_); rintro _ _ ⟨rfl, rfl⟩; refine ⟨?_, Ext.refl _⟩; skip
    cases hbb : (isGrid A_g) <;> simp [hbb] at h20_ ⊢
    all_goals (first | rfl | (subst h20_; rfl) | simp_all)
  refine RW_d (fun v29 => [(Pt g_b g_o), (Iv x), (Iv y), (Iv z), Ud, Ud, Ud, Ud, (Bo false), v16, v17, v18, v19, v20, v21, v22, v23, v24, v25, v26, v27, v28, v29, Ud, Ud, Ud, Ud, Ud, Ud, Ud, Ud, Ud, Ud, Ud, Ud, Ud, Ud, Ud, Ud, Ud]) rfl (fun _ => rfl) (fun u hu hF => ?_) (fun v29 => ?_)
  · have h21_ : v28 = (Bo ((isGrid A_g) && β1)) := hF.1
    clear hF
    obtain rfl := h21_
    refine doesG_un rfl ?_
    refine (does_move (u := (Bo ((isGrid A_g) && β1))) (ev rfl)).mono ?_; rintro _ _ ⟨rfl, rfl⟩
    exact ⟨rfl, Ext.refl _⟩
  refine RW_d (fun v30 => [(Pt g_b g_o), (Iv x), (Iv y), (Iv z), Ud, Ud, Ud, Ud, (Bo false), v16, v17, v18, v19, v20, v21, v22, v23, v24, v25, v26, v27, v28, v29, v30, Ud, Ud, Ud, Ud, Ud, Ud, Ud, Ud, Ud, Ud, Ud, Ud, Ud, Ud, Ud, Ud]) rfl (fun _ => rfl) (fun u hu hF => ?_) (fun v30 => ?_)
  · have h22_ : v29 = (Bo ((isGrid A_g) && β1)) := hF.1
    clear hF
    obtain rfl := h22_
    refine doesG_g (b := ((isGrid A_g) && β1)) rfl (yld rfl rfl) (fun hg => ?_) (fun hg => ⟨fun h => absurd h hg, Ext.refl _⟩)
    refine (does_move (u := (Iv y)) (ev rfl)).mono ?_; rintro _ _ ⟨rfl, rfl⟩
    exact ⟨fun _ => rfl, Ext.refl _⟩
  refine RW_d (fun v31 => [(Pt g_b g_o), (Iv x), (Iv y), (Iv z), Ud, Ud, Ud, Ud, (Bo false), v16, v17, v18, v19, v20, v21, v22, v23, v24, v25, v26, v27, v28, v29, v30, v31, Ud, Ud, Ud, Ud, Ud, Ud, Ud, Ud, Ud, Ud, Ud, Ud, Ud, Ud, Ud]) rfl (fun _ => rfl) (fun u hu hF => ?_) (fun v31 => ?_)
  · have h22_ : v29 = (Bo ((isGrid A_g) && β1)) := hF.1
    clear hF
    obtain rfl := h22_
    refine doesG_g (b := ((isGrid A_g) && β1)) rfl (yld rfl rfl) (fun hg => ?_) (fun hg => ⟨fun h => absurd h hg, Ext.refl _⟩)
    refine (does_move (u := (Pt g_b g_o)) (ev rfl)).mono ?_; rintro _ _ ⟨rfl, rfl⟩
    exact ⟨fun _ => rfl, Ext.refl _⟩
  refine RW_d (fun v32 => [(Pt g_b g_o), (Iv x), (Iv y), (Iv z), Ud, Ud, Ud, Ud, (Bo false), v16, v17, v18, v19, v20, v21, v22, v23, v24, v25, v26, v27, v28, v29, v30, v31, v32, Ud, Ud, Ud, Ud, Ud, Ud, Ud, Ud, Ud, Ud, Ud, Ud, Ud, Ud]) rfl (fun _ => rfl) (fun u hu hF => ?_) (fun v32 => ?_)
  · have h24_ : ((isGrid A_g) && β1) = true → v31 = (Pt g_b g_o) := hF.1
    have h22_ : v29 = (Bo ((isGrid A_g) && β1)) := hF.2.1
    clear hF
    obtain rfl := h22_
    refine doesG_g (b := ((isGrid A_g) && β1)) rfl (yld rfl rfl) (fun hg => ?_) (fun hg => ⟨fun h => absurd h hg, Ext.refl _⟩)
    obtain rfl := h24_ hg
    refine (does_nilCheck (ev rfl)).mono ?_; rintro _ _ ⟨rfl, rfl⟩
    exact ⟨fun _ => rfl, Ext.refl _⟩
  refine RW_d (fun v33 => [(Pt g_b g_o), (Iv x), (Iv y), (Iv z), Ud, Ud, Ud, Ud, (Bo false), v16, v17, v18, v19, v20, v21, v22, v23, v24, v25, v26, v27, v28, v29, v30, v31, v32, v33, Ud, Ud, Ud, Ud, Ud, Ud, Ud, Ud, Ud, Ud, Ud, Ud, Ud]) rfl (fun _ => rfl) (fun u hu hF => ?_) (fun v33 => ?_)
  · have h25_ : ((isGrid A_g) && β1) = true → v32 = (Pt g_b g_o) := hF.1
    have h22_ : v29 = (Bo ((isGrid A_g) && β1)) := hF.2.1
    clear hF
    obtain rfl := h22_
    refine doesG_g (b := ((isGrid A_g) && β1)) rfl (yld rfl rfl) (fun hg => ?_) (fun hg => ⟨fun h => absurd h hg, Ext.refl _⟩)
    obtain rfl := h25_ hg
    refine (does_fieldAddr (ev rfl) fa32_3).mono ?_; rintro _ _ ⟨rfl, rfl⟩
    exact ⟨fun _ => rfl, Ext.refl _⟩
  refine RW_d (fun v34 => [(Pt g_b g_o), (Iv x), (Iv y), (Iv z), Ud, Ud, Ud, Ud, (Bo false), v16, v17, v18, v19, v20, v21, v22, v23, v24, v25, v26, v27, v28, v29, v30, v31, v32, v33, v34, Ud, Ud, Ud, Ud, Ud, Ud, Ud, Ud, Ud, Ud, Ud, Ud]) rfl (fun _ => rfl) (fun u hu hF => ?_) (fun v34 => ?_)
  · have h26_ : ((isGrid A_g) && β1) = true → v33 = (Pt g_b (g_o + 5)) := hF.1
    have h22_ : v29 = (Bo ((isGrid A_g) && β1)) := hF.2.1
    clear hF
    obtain rfl := h22_
    refine doesG_g (b := ((isGrid A_g) && β1)) rfl (yld rfl rfl) (fun hg => ?_) (fun hg => ⟨fun h => absurd h hg, Ext.refl _⟩)
    obtain rfl := h26_ hg
    refine (does_load (u := (Iv A_g.y)) (ev rfl) Try.isAgg2 (Cells.at (hc_g.ext hu) 5 rfl)).mono ?_; rintro _ _ ⟨rfl, rfl⟩
    exact ⟨fun _ => rfl, Ext.refl _⟩
  refine RW_d (fun v35 => [(Pt g_b g_o), (Iv x), (Iv y), (Iv z), Ud, Ud, Ud, Ud, (Bo false), v16, v17, v18, v19, v20, v21, v22, v23, v24, v25, v26, v27, v28, v29, v30, v31, v32, v33, v34, v35, Ud, Ud, Ud, Ud, Ud, Ud, Ud, Ud, Ud, Ud, Ud]) rfl (fun _ => rfl) (fun u hu hF => ?_) (fun v35 => ?_)
  · have h27_ : ((isGrid A_g) && β1) = true → v34 = (Iv A_g.y) := hF.1
    have h22_ : v29 = (Bo ((isGrid A_g) && β1)) := hF.2.1
    clear hF
    obtain rfl := h22_
    refine doesG_g (b := ((isGrid A_g) && β1)) rfl (yld rfl rfl) (fun hg => ?_) (fun hg => ⟨fun h => absurd h hg, Ext.refl _⟩)
    obtain rfl := h27_ hg
    refine (does_iarith (p := A_g.y) (q := 1) (r := IntKind.i64.wrap (A_g.y - 1)) (ev rfl) (ev rfl) (.inr (.inl ⟨rfl, rfl⟩))).mono ?_; rintro _ _ ⟨rfl, rfl⟩
    exact ⟨fun _ => rfl, Ext.refl _⟩
  refine RW_d (fun v36 => [(Pt g_b g_o), (Iv x), (Iv y), (Iv z), Ud, Ud, Ud, Ud, (Bo false), v16, v17, v18, v19, v20, v21, v22, v23, v24, v25, v26, v27, v28, v29, v30, v31, v32, v33, v34, v35, v36, Ud, Ud, Ud, Ud, Ud, Ud, Ud, Ud, Ud, Ud]) rfl (fun _ => rfl) (fun u hu hF => ?_) (fun v36 => ?_)
  · have h23_ : ((isGrid A_g) && β1) = true → v30 = (Iv y) := hF.1
    have h28_ : ((isGrid A_g) && β1) = true → v35 = (Iv (IntKind.i64.wrap (A_g.y - 1))) := hF.2.1
    have h22_ : v29 = (Bo ((isGrid A_g) && β1)) := hF.2.2.1
    clear hF
    obtain rfl := h22_
    refine doesG_g (b := ((isGrid A_g) && β1)) rfl (yld rfl rfl) (fun hg => ?_) (fun hg => ⟨fun h => absurd h hg, Ext.refl _⟩)
    obtain rfl := h23_ hg
    obtain rfl := h28_ hg
    refine (does_call (args := #[(Iv y), (Iv 0), (Iv (IntKind.i64.wrap (A_g.y - 1)))]) cal66 (evs rfl) (c_impl_in y 0 (IntKind.i64.wrap (A_g.y - 1)) _)).mono ?_; rintro v u' ⟨hx, hv⟩
    exact ⟨fun _ => hv.trans (by simp only [hβ2]), hx⟩
  refine RW_d (fun v37 => [(Pt g_b g_o), (Iv x), (Iv y), (Iv z), Ud, Ud, Ud, Ud, (Bo false), v16, v17, v18, v19, v20, v21, v22, v23, v24, v25, v26, v27, v28, v29, v30, v31, v32, v33, v34, v35, v36, v37, Ud, Ud, Ud, Ud, Ud, Ud, Ud, Ud, Ud]) rfl (fun _ => rfl) (fun u hu hF => ?_) (fun v37 => ?_)
  · have h22_ : v29 = (Bo ((isGrid A_g) && β1)) := hF.1
    have h29_ : ((isGrid A_g) && β1) = true → v36 = (Bo β2) := hF.2.1
    clear hF
    obtain rfl := h22_
    refine doesG_un rfl ((does_pick (b := ((isGrid A_g) && β1)) (ev rfl) (ev rfl) (ev rfl)).mono ?_); rintro _ _ ⟨rfl, rfl⟩; refine ⟨?_, Ext.refl _⟩; rw [hβ3]; skip
    cases hbb : ((isGrid A_g) && β1) <;> simp [hbb] at h29_ ⊢
    all_goals (first | rfl | (subst h29_; rfl) | simp_all)
  refine RW_d (fun v38 => [(Pt g_b g_o), (Iv x), (Iv y), (Iv z), Ud, Ud, Ud, Ud, (Bo false), v16, v17, v18, v19, v20, v21, v22, v23, v24, v25, v26, v27, v28, v29, v30, v31, v32, v33, v34, v35, v36, v37, v38, Ud, Ud, Ud, Ud, Ud, Ud, Ud, Ud]) rfl (fun _ => rfl) (fun u hu hF => ?_) (fun v38 => ?_)
  · have h30_ : v37 = (Bo β3) := hF.1
    clear hF
    obtain rfl := h30_
    refine doesG_un rfl ?_
    refine (does_move (u := (Bo β3)) (ev rfl)).mono ?_; rintro _ _ ⟨rfl, rfl⟩
    exact ⟨rfl, Ext.refl _⟩
  refine RW_d (fun v39 => [(Pt g_b g_o), (Iv x), (Iv y), (Iv z), Ud, Ud, Ud, Ud, (Bo false), v16, v17, v18, v19, v20, v21, v22, v23, v24, v25, v26, v27, v28, v29, v30, v31, v32, v33, v34, v35, v36, v37, v38, v39, Ud, Ud, Ud, Ud, Ud, Ud, Ud]) rfl (fun _ => rfl) (fun u hu hF => ?_) (fun v39 => ?_)
  · have h31_ : v38 = (Bo β3) := hF.1
    clear hF
    obtain rfl := h31_
    refine doesG_g (b := β3) rfl (yld rfl rfl) (fun hg => ?_) (fun hg => ⟨fun h => absurd h hg, Ext.refl _⟩)
    refine (does_move (u := (Iv z)) (ev rfl)).mono ?_; rintro _ _ ⟨rfl, rfl⟩
    exact ⟨fun _ => rfl, Ext.refl _⟩
  refine RW_d (fun v40 => [(Pt g_b g_o), (Iv x), (Iv y), (Iv z), Ud, Ud, Ud, Ud, (Bo false), v16, v17, v18, v19, v20, v21, v22, v23, v24, v25, v26, v27, v28, v29, v30, v31, v32, v33, v34, v35, v36, v37, v38, v39, v40, Ud, Ud, Ud, Ud, Ud, Ud]) rfl (fun _ => rfl) (fun u hu hF => ?_) (fun v40 => ?_)
  · have h31_ : v38 = (Bo β3) := hF.1
    clear hF
    obtain rfl := h31_
    refine doesG_g (b := β3) rfl (yld rfl rfl) (fun hg => ?_) (fun hg => ⟨fun h => absurd h hg, Ext.refl _⟩)
    refine (does_move (u := (Pt g_b g_o)) (ev rfl)).mono ?_; rintro _ _ ⟨rfl, rfl⟩
    exact ⟨fun _ => rfl, Ext.refl _⟩
  refine RW_d (fun v41 => [(Pt g_b g_o), (Iv x), (Iv y), (Iv z), Ud, Ud, Ud, Ud, (Bo false), v16, v17, v18, v19, v20, v21, v22, v23, v24, v25, v26, v27, v28, v29, v30, v31, v32, v33, v34, v35, v36, v37, v38, v39, v40, v41, Ud, Ud, Ud, Ud, Ud]) rfl (fun _ => rfl) (fun u hu hF => ?_) (fun v41 => ?_)
  · have h33_ : β3 = true → v40 = (Pt g_b g_o) := hF.1
    have h31_ : v38 = (Bo β3) := hF.2.1
    clear hF
    obtain rfl := h31_
    refine doesG_g (b := β3) rfl (yld rfl rfl) (fun hg => ?_) (fun hg => ⟨fun h => absurd h hg, Ext.refl _⟩)
    obtain rfl := h33_ hg
    refine (does_nilCheck (ev rfl)).mono ?_; rintro _ _ ⟨rfl, rfl⟩
    exact ⟨fun _ => rfl, Ext.refl _⟩
  refine RW_d (fun v42 => [(Pt g_b g_o), (Iv x), (Iv y), (Iv z), Ud, Ud, Ud, Ud, (Bo false), v16, v17, v18, v19, v20, v21, v22, v23, v24, v25, v26, v27, v28, v29, v30, v31, v32, v33, v34, v35, v36, v37, v38, v39, v40, v41, v42, Ud, Ud, Ud, Ud]) rfl (fun _ => rfl) (fun u hu hF => ?_) (fun v42 => ?_)
  · have h34_ : β3 = true → v41 = (Pt g_b g_o) := hF.1
    have h31_ : v38 = (Bo β3) := hF.2.1
    clear hF
    obtain rfl := h31_
    refine doesG_g (b := β3) rfl (yld rfl rfl) (fun hg => ?_) (fun hg => ⟨fun h => absurd h hg, Ext.refl _⟩)
    obtain rfl := h34_ hg
    refine (does_fieldAddr (ev rfl) fa32_4).mono ?_; rintro _ _ ⟨rfl, rfl⟩
    exact ⟨fun _ => rfl, Ext.refl _⟩
  refine RW_d (fun v43 => [(Pt g_b g_o), (Iv x), (Iv y), (Iv z), Ud, Ud, Ud, Ud, (Bo false), v16, v17, v18, v19, v20, v21, v22, v23, v24, v25, v26, v27, v28, v29, v30, v31, v32, v33, v34, v35, v36, v37, v38, v39, v40, v41, v42, v43, Ud, Ud, Ud]) rfl (fun _ => rfl) (fun u hu hF => ?_) (fun v43 => ?_)
  · have h35_ : β3 = true → v42 = (Pt g_b (g_o + 6)) := hF.1
    have h31_ : v38 = (Bo β3) := hF.2.1
    clear hF
    obtain rfl := h31_
    refine doesG_g (b := β3) rfl (yld rfl rfl) (fun hg => ?_) (fun hg => ⟨fun h => absurd h hg, Ext.refl _⟩)
    obtain rfl := h35_ hg
    refine (does_load (u := (Iv A_g.z)) (ev rfl) Try.isAgg2 (Cells.at (hc_g.ext hu) 6 rfl)).mono ?_; rintro _ _ ⟨rfl, rfl⟩
    exact ⟨fun _ => rfl, Ext.refl _⟩
  refine RW_d (fun v44 => [(Pt g_b g_o), (Iv x), (Iv y), (Iv z), Ud, Ud, Ud, Ud, (Bo false), v16, v17, v18, v19, v20, v21, v22, v23, v24, v25, v26, v27, v28, v29, v30, v31, v32, v33, v34, v35, v36, v37, v38, v39, v40, v41, v42, v43, v44, Ud, Ud]) rfl (fun _ => rfl) (fun u hu hF => ?_) (fun v44 => ?_)
  · have h36_ : β3 = true → v43 = (Iv A_g.z) := hF.1
    have h31_ : v38 = (Bo β3) := hF.2.1
    clear hF
    obtain rfl := h31_
    refine doesG_g (b := β3) rfl (yld rfl rfl) (fun hg => ?_) (fun hg => ⟨fun h => absurd h hg, Ext.refl _⟩)
    obtain rfl := h36_ hg
    refine (does_iarith (p := A_g.z) (q := 1) (r := IntKind.i64.wrap (A_g.z - 1)) (ev rfl) (ev rfl) (.inr (.inl ⟨rfl, rfl⟩))).mono ?_; rintro _ _ ⟨rfl, rfl⟩
    exact ⟨fun _ => rfl, Ext.refl _⟩
  refine RW_d (fun v45 => [(Pt g_b g_o), (Iv x), (Iv y), (Iv z), Ud, Ud, Ud, Ud, (Bo false), v16, v17, v18, v19, v20, v21, v22, v23, v24, v25, v26, v27, v28, v29, v30, v31, v32, v33, v34, v35, v36, v37, v38, v39, v40, v41, v42, v43, v44, v45, Ud]) rfl (fun _ => rfl) (fun u hu hF => ?_) (fun v45 => ?_)
  · have h32_ : β3 = true → v39 = (Iv z) := hF.1
    have h37_ : β3 = true → v44 = (Iv (IntKind.i64.wrap (A_g.z - 1))) := hF.2.1
    have h31_ : v38 = (Bo β3) := hF.2.2.1
    clear hF
    obtain rfl := h31_
    refine doesG_g (b := β3) rfl (yld rfl rfl) (fun hg => ?_) (fun hg => ⟨fun h => absurd h hg, Ext.refl _⟩)
    obtain rfl := h32_ hg
    obtain rfl := h37_ hg
    refine (does_call (args := #[(Iv z), (Iv 0), (Iv (IntKind.i64.wrap (A_g.z - 1)))]) cal66 (evs rfl) (c_impl_in z 0 (IntKind.i64.wrap (A_g.z - 1)) _)).mono ?_; rintro v u' ⟨hx, hv⟩
    exact ⟨fun _ => hv.trans (by simp only [hβ4]), hx⟩
  refine RW_d (fun v46 => [(Pt g_b g_o), (Iv x), (Iv y), (Iv z), Ud, Ud, Ud, Ud, (Bo false), v16, v17, v18, v19, v20, v21, v22, v23, v24, v25, v26, v27, v28, v29, v30, v31, v32, v33, v34, v35, v36, v37, v38, v39, v40, v41, v42, v43, v44, v45, v46]) rfl (fun _ => rfl) (fun u hu hF => ?_) (fun v46 => ?_)
  · have h31_ : v38 = (Bo β3) := hF.1
    have h38_ : β3 = true → v45 = (Bo β4) := hF.2.1
    clear hF
    obtain rfl := h31_
    refine doesG_un rfl ((does_pick (b := β3) (ev rfl) (ev rfl) (ev rfl)).mono ?_); rintro _ _ ⟨rfl, rfl⟩; refine ⟨?_, Ext.refl _⟩; skip
    cases hbb : β3 <;> simp [hbb] at h38_ ⊢
    all_goals (first | rfl | (subst h38_; rfl) | simp_all)
  refine RW_fin ?_; intro w47 E48 hP49
  obtain ⟨⟨⟨⟨⟨⟨⟨⟨⟨⟨⟨⟨⟨⟨⟨⟨⟨⟨⟨⟨⟨⟨⟨⟨⟨⟨⟨⟨⟨⟨⟨-, -⟩, -⟩, -⟩, -⟩, -⟩, -⟩, -⟩, -⟩, -⟩, -⟩, -⟩, -⟩, -⟩, -⟩, -⟩, -⟩, -⟩, -⟩, -⟩, -⟩, -⟩, -⟩, -⟩, -⟩, -⟩, -⟩, -⟩, -⟩, -⟩, -⟩, q50⟩ := hP49
  have X51 := Ext.gr (Ext.refl w) E48
  have q50 : v46 = (Bo (β3 && β4)) := q50
  obtain rfl := q50
  show wpList _ _ _ _ (fr [(Pt g_b g_o), (Iv x), (Iv y), (Iv z), Ud, Ud, Ud, Ud, (Bo false), v16, v17, v18, v19, v20, v21, v22, v23, v24, v25, v26, v27, v28, v29, v30, v31, v32, v33, v34, v35, v36, v37, v38, v39, v40, v41, v42, v43, v44, v45, (Bo (β3 && β4))]) _
  refine q_is (l' := [(Pt g_b g_o), (Iv x), (Iv y), (Iv z), Ud, Ud, Ud, Ud, (Bo (β3 && β4)), v16, v17, v18, v19, v20, v21, v22, v23, v24, v25, v26, v27, v28, v29, v30, v31, v32, v33, v34, v35, v36, v37, v38, v39, v40, v41, v42, v43, v44, v45, (Bo (β3 && β4))]) rfl rfl (does_assign (u := (Bo (β3 && β4))) (ev rfl)) rfl ?_
  refine wpList_nil (hK15 _ _ ?_)
  refine wp_ret ?_
  refine ret_val (v := (Bo (β3 && β4))) (res_T rfl (slot rfl)) X51 ?_
  have x52 : (hasOk A_g x y z) = (β3 && β4) := by first | rfl | (simp only [hasOk, hasG, Bool.and_assoc, h2, h4, h6, h8, hβ1, hβ2, hβ3, hβ4]; done) | (simp [hasOk, hasG, Bool.and_assoc, h2, h4, h6, h8, hβ1, hβ2, hβ3, hβ4]; done)
  exact (by first | rfl | rw [x52])

/- (*impl.Grid).index -/
theorem c_impl_Grid_index (g_b : Nat) (g_o : Nat) (g : List Value) (A_g : GridT) (x : Int) (y : Int) (z : Int) (w : World) (hc_g : Cells w g_b g_o g) (hv_g : RGridT w A_g g) : Gives Try.prog 71 #[(Pt g_b g_o), (.agg #[(Iv x), (Iv y), (Iv z)])] w (fun v w' => v = (Iv (idxG A_g x y z))) := by
  obtain ⟨r1, r3, r5, r7, y9, rfl, h2, h4, h6, h8, h10⟩ := hv_g
  have hs13 := h10; have hs13l := Sl.len h10; obtain ⟨p11, q12, rfl⟩ := Sl.shape h10
  refine enter [(Pt g_b g_o), (.agg #[(Iv x), (Iv y), (Iv z)]), Ud, Ud, Ud, Ud, Ud, Ud, Ud, Ud, Ud, Ud, Ud, Ud, Ud, Ud, Ud, Ud, Ud, Ud, Ud, Ud, Ud] Try.func71 rfl Try.ntmps71 rfl ?_
  refine wp_seq_k fun K14 hK14 => ?_
  refine wp_region_lit ?_
  refine seqd rfl rfl (does_box (u := (.agg #[(Iv x), (Iv y), (Iv z)])) (ev rfl)) ?_; rintro _ w19 ⟨b15, rfl, hb16, hB17, E18⟩
  have n20 : g_b < b15 := Nat.lt_of_lt_of_le (cell_lt (Cells.at hc_g 0 rfl)) hb16
  have g21 : w.heap.size ≤ b15 := Nat.le_trans (Below.size (Ext.refl w)) hb16
  change Blk _ _ [(Iv x), (Iv y), (Iv z)] at hB17
  have X22 := Ext.gr (Ext.refl w) E18
  show wpList _ _ _ _ (fr [(Pt g_b g_o), (.agg #[(Iv x), (Iv y), (Iv z)]), Ud, (Pt b15 0), Ud, Ud, Ud, Ud, Ud, Ud, Ud, Ud, Ud, Ud, Ud, Ud, Ud, Ud, Ud, Ud, Ud, Ud, Ud]) _
  refine q_is (l' := [(Pt g_b g_o), (.agg #[(Iv x), (Iv y), (Iv z)]), Ud, (Pt b15 0), (Iv 0), Ud, Ud, Ud, Ud, Ud, Ud, Ud, Ud, Ud, Ud, Ud, Ud, Ud, Ud, Ud, Ud, Ud, Ud]) rfl rfl (does_assign (u := (Iv 0)) (ev rfl)) rfl ?_
  refine wpList_nil (hK14 _ _ ?_)
  refine wp_seq_k fun K23 hK23 => ?_
  refine region_draw (
    [Fact.pure [] (fun v => v = (Pt b15 0)),
    Fact.pure [5] (fun v => v = (Iv x)),
    Fact.pure [] (fun v => v = (Pt g_b g_o)),
    Fact.pure [7] (fun v => v = (Pt g_b g_o)),
    Fact.pure [8] (fun v => v = (Pt g_b (g_o + 4))),
    Fact.pure [9] (fun v => v = (Iv A_g.x)),
    Fact.pure [] (fun v => v = (Pt b15 1)),
    Fact.pure [11] (fun v => v = (Iv y)),
    Fact.pure [] (fun v => v = (Pt g_b g_o)),
    Fact.pure [13] (fun v => v = (Pt g_b g_o)),
    Fact.pure [14] (fun v => v = (Pt g_b (g_o + 5))),
    Fact.pure [15] (fun v => v = (Iv A_g.y)),
    Fact.pure [] (fun v => v = (Pt b15 2)),
    Fact.pure [17] (fun v => v = (Iv z)),
    Fact.pure [16, 18] (fun v => v = (Iv (IntKind.i64.wrap (A_g.y * z)))),
    Fact.pure [12, 19] (fun v => v = (Iv (IntKind.i64.wrap (y + (IntKind.i64.wrap (A_g.y * z)))))),
    Fact.pure [10, 20] (fun v => v = (Iv (IntKind.i64.wrap (A_g.x * (IntKind.i64.wrap (y + (IntKind.i64.wrap (A_g.y * z)))))))),
    Fact.pure [6, 21] (fun v => v = (Iv (IntKind.i64.wrap (x + (IntKind.i64.wrap (A_g.x * (IntKind.i64.wrap (y + (IntKind.i64.wrap (A_g.y * z))))))))))]) mixed (by kernel_rfl) (by intro _ _ d _ _ h; cases d <;> exact h) ?_
  obtain ⟨w24, hw26⟩ : ∃ w', w' = World.drew w19 := ⟨_, rfl⟩; rw [← hw26]; have E25 : Ext w19 w24 := by rw [hw26]; exact Ext.draw _
  clear hw26
  have X27 := Ext.gr X22 E25
  refine RW_d (fun v28 => [(Pt g_b g_o), (.agg #[(Iv x), (Iv y), (Iv z)]), Ud, (Pt b15 0), (Iv 0), v28, Ud, Ud, Ud, Ud, Ud, Ud, Ud, Ud, Ud, Ud, Ud, Ud, Ud, Ud, Ud, Ud, Ud]) rfl (fun _ => rfl) (fun u hu hF => ?_) (fun v28 => ?_)
  · clear hF
    refine doesG_un rfl ?_
    refine (does_indexAt_run (r := (Pt b15 0)) (ev rfl) (ev rfl) (fun w => ia80_0 _ _ w)).mono ?_; rintro _ _ ⟨rfl, rfl⟩
    exact ⟨rfl, Ext.refl _⟩
  refine RW_d (fun v29 => [(Pt g_b g_o), (.agg #[(Iv x), (Iv y), (Iv z)]), Ud, (Pt b15 0), (Iv 0), v28, v29, Ud, Ud, Ud, Ud, Ud, Ud, Ud, Ud, Ud, Ud, Ud, Ud, Ud, Ud, Ud, Ud]) rfl (fun _ => rfl) (fun u hu hF => ?_) (fun v29 => ?_)
  · have h5_ : v28 = (Pt b15 0) := hF.1
    clear hF
    obtain rfl := h5_
    refine doesG_un rfl ?_
    refine (does_load (u := (Iv x)) (ev rfl) Try.isAgg2 (Cells.at (Blk.cells ((hB17.ext E25).ext hu)) 0 rfl)).mono ?_; rintro _ _ ⟨rfl, rfl⟩
    exact ⟨rfl, Ext.refl _⟩
  refine RW_d (fun v30 => [(Pt g_b g_o), (.agg #[(Iv x), (Iv y), (Iv z)]), Ud, (Pt b15 0), (Iv 0), v28, v29, v30, Ud, Ud, Ud, Ud, Ud, Ud, Ud, Ud, Ud, Ud, Ud, Ud, Ud, Ud, Ud]) rfl (fun _ => rfl) (fun u hu hF => ?_) (fun v30 => ?_)
  · clear hF
    refine doesG_un rfl ?_
    refine (does_move (u := (Pt g_b g_o)) (ev rfl)).mono ?_; rintro _ _ ⟨rfl, rfl⟩
    exact ⟨rfl, Ext.refl _⟩
  refine RW_d (fun v31 => [(Pt g_b g_o), (.agg #[(Iv x), (Iv y), (Iv z)]), Ud, (Pt b15 0), (Iv 0), v28, v29, v30, v31, Ud, Ud, Ud, Ud, Ud, Ud, Ud, Ud, Ud, Ud, Ud, Ud, Ud, Ud]) rfl (fun _ => rfl) (fun u hu hF => ?_) (fun v31 => ?_)
  · have h7_ : v30 = (Pt g_b g_o) := hF.1
    clear hF
    obtain rfl := h7_
    refine doesG_un rfl ?_
    refine (does_nilCheck (ev rfl)).mono ?_; rintro _ _ ⟨rfl, rfl⟩
    exact ⟨rfl, Ext.refl _⟩
  refine RW_d (fun v32 => [(Pt g_b g_o), (.agg #[(Iv x), (Iv y), (Iv z)]), Ud, (Pt b15 0), (Iv 0), v28, v29, v30, v31, v32, Ud, Ud, Ud, Ud, Ud, Ud, Ud, Ud, Ud, Ud, Ud, Ud, Ud]) rfl (fun _ => rfl) (fun u hu hF => ?_) (fun v32 => ?_)
  · have h8_ : v31 = (Pt g_b g_o) := hF.1
    clear hF
    obtain rfl := h8_
    refine doesG_un rfl ?_
    refine (does_fieldAddr (ev rfl) fa32_2).mono ?_; rintro _ _ ⟨rfl, rfl⟩
    exact ⟨rfl, Ext.refl _⟩
  refine RW_d (fun v33 => [(Pt g_b g_o), (.agg #[(Iv x), (Iv y), (Iv z)]), Ud, (Pt b15 0), (Iv 0), v28, v29, v30, v31, v32, v33, Ud, Ud, Ud, Ud, Ud, Ud, Ud, Ud, Ud, Ud, Ud, Ud]) rfl (fun _ => rfl) (fun u hu hF => ?_) (fun v33 => ?_)
  · have h9_ : v32 = (Pt g_b (g_o + 4)) := hF.1
    clear hF
    obtain rfl := h9_
    refine doesG_un rfl ?_
    refine (does_load (u := (Iv A_g.x)) (ev rfl) Try.isAgg2 (Cells.at ((hc_g.ext (Ext.gr X22 E25)).ext hu) 4 rfl)).mono ?_; rintro _ _ ⟨rfl, rfl⟩
    exact ⟨rfl, Ext.refl _⟩
  refine RW_d (fun v34 => [(Pt g_b g_o), (.agg #[(Iv x), (Iv y), (Iv z)]), Ud, (Pt b15 0), (Iv 0), v28, v29, v30, v31, v32, v33, v34, Ud, Ud, Ud, Ud, Ud, Ud, Ud, Ud, Ud, Ud, Ud]) rfl (fun _ => rfl) (fun u hu hF => ?_) (fun v34 => ?_)
  · clear hF
    refine doesG_un rfl ?_
    refine (does_indexAt_run (r := (Pt b15 1)) (ev rfl) (ev rfl) (fun w => ia80_1 _ _ w)).mono ?_; rintro _ _ ⟨rfl, rfl⟩
    exact ⟨rfl, Ext.refl _⟩
  refine RW_d (fun v35 => [(Pt g_b g_o), (.agg #[(Iv x), (Iv y), (Iv z)]), Ud, (Pt b15 0), (Iv 0), v28, v29, v30, v31, v32, v33, v34, v35, Ud, Ud, Ud, Ud, Ud, Ud, Ud, Ud, Ud, Ud]) rfl (fun _ => rfl) (fun u hu hF => ?_) (fun v35 => ?_)
  · have h11_ : v34 = (Pt b15 1) := hF.1
    clear hF
    obtain rfl := h11_
    refine doesG_un rfl ?_
    refine (does_load (u := (Iv y)) (ev rfl) Try.isAgg2 (Cells.at (Blk.cells ((hB17.ext E25).ext hu)) 1 rfl)).mono ?_; rintro _ _ ⟨rfl, rfl⟩
    exact ⟨rfl, Ext.refl _⟩
  refine RW_d (fun v36 => [(Pt g_b g_o), (.agg #[(Iv x), (Iv y), (Iv z)]), Ud, (Pt b15 0), (Iv 0), v28, v29, v30, v31, v32, v33, v34, v35, v36, Ud, Ud, Ud, Ud, Ud, Ud, Ud, Ud, Ud]) rfl (fun _ => rfl) (fun u hu hF => ?_) (fun v36 => ?_)
  · clear hF
    refine doesG_un rfl ?_
    refine (does_move (u := (Pt g_b g_o)) (ev rfl)).mono ?_; rintro _ _ ⟨rfl, rfl⟩
    exact ⟨rfl, Ext.refl _⟩
  refine RW_d (fun v37 => [(Pt g_b g_o), (.agg #[(Iv x), (Iv y), (Iv z)]), Ud, (Pt b15 0), (Iv 0), v28, v29, v30, v31, v32, v33, v34, v35, v36, v37, Ud, Ud, Ud, Ud, Ud, Ud, Ud, Ud]) rfl (fun _ => rfl) (fun u hu hF => ?_) (fun v37 => ?_)
  · have h13_ : v36 = (Pt g_b g_o) := hF.1
    clear hF
    obtain rfl := h13_
    refine doesG_un rfl ?_
    refine (does_nilCheck (ev rfl)).mono ?_; rintro _ _ ⟨rfl, rfl⟩
    exact ⟨rfl, Ext.refl _⟩
  refine RW_d (fun v38 => [(Pt g_b g_o), (.agg #[(Iv x), (Iv y), (Iv z)]), Ud, (Pt b15 0), (Iv 0), v28, v29, v30, v31, v32, v33, v34, v35, v36, v37, v38, Ud, Ud, Ud, Ud, Ud, Ud, Ud]) rfl (fun _ => rfl) (fun u hu hF => ?_) (fun v38 => ?_)
  · have h14_ : v37 = (Pt g_b g_o) := hF.1
    clear hF
    obtain rfl := h14_
    refine doesG_un rfl ?_
    refine (does_fieldAddr (ev rfl) fa32_3).mono ?_; rintro _ _ ⟨rfl, rfl⟩
    exact ⟨rfl, Ext.refl _⟩
  refine RW_d (fun v39 => [(Pt g_b g_o), (.agg #[(Iv x), (Iv y), (Iv z)]), Ud, (Pt b15 0), (Iv 0), v28, v29, v30, v31, v32, v33, v34, v35, v36, v37, v38, v39, Ud, Ud, Ud, Ud, Ud, Ud]) rfl (fun _ => rfl) (fun u hu hF => ?_) (fun v39 => ?_)
  · have h15_ : v38 = (Pt g_b (g_o + 5)) := hF.1
    clear hF
    obtain rfl := h15_
    refine doesG_un rfl ?_
    refine (does_load (u := (Iv A_g.y)) (ev rfl) Try.isAgg2 (Cells.at ((hc_g.ext (Ext.gr X22 E25)).ext hu) 5 rfl)).mono ?_; rintro _ _ ⟨rfl, rfl⟩
    exact ⟨rfl, Ext.refl _⟩
  refine RW_d (fun v40 => [(Pt g_b g_o), (.agg #[(Iv x), (Iv y), (Iv z)]), Ud, (Pt b15 0), (Iv 0), v28, v29, v30, v31, v32, v33, v34, v35, v36, v37, v38, v39, v40, Ud, Ud, Ud, Ud, Ud]) rfl (fun _ => rfl) (fun u hu hF => ?_) (fun v40 => ?_)
  · clear hF
    refine doesG_un rfl ?_
    refine (does_indexAt_run (r := (Pt b15 2)) (ev rfl) (ev rfl) (fun w => ia80_2 _ _ w)).mono ?_; rintro _ _ ⟨rfl, rfl⟩
    exact ⟨rfl, Ext.refl _⟩
  refine RW_d (fun v41 => [(Pt g_b g_o), (.agg #[(Iv x), (Iv y), (Iv z)]), Ud, (Pt b15 0), (Iv 0), v28, v29, v30, v31, v32, v33, v34, v35, v36, v37, v38, v39, v40, v41, Ud, Ud, Ud, Ud]) rfl (fun _ => rfl) (fun u hu hF => ?_) (fun v41 => ?_)
  · have h17_ : v40 = (Pt b15 2) := hF.1
    clear hF
    obtain rfl := h17_
    refine doesG_un rfl ?_
    refine (does_load (u := (Iv z)) (ev rfl) Try.isAgg2 (Cells.at (Blk.cells ((hB17.ext E25).ext hu)) 2 rfl)).mono ?_; rintro _ _ ⟨rfl, rfl⟩
    exact ⟨rfl, Ext.refl _⟩
  refine RW_d (fun v42 => [(Pt g_b g_o), (.agg #[(Iv x), (Iv y), (Iv z)]), Ud, (Pt b15 0), (Iv 0), v28, v29, v30, v31, v32, v33, v34, v35, v36, v37, v38, v39, v40, v41, v42, Ud, Ud, Ud]) rfl (fun _ => rfl) (fun u hu hF => ?_) (fun v42 => ?_)
  · have h16_ : v39 = (Iv A_g.y) := hF.1
    have h18_ : v41 = (Iv z) := hF.2.1
    clear hF
    obtain rfl := h16_
    obtain rfl := h18_
    refine doesG_un rfl ?_
    refine (does_iarith (p := A_g.y) (q := z) (r := IntKind.i64.wrap (A_g.y * z)) (ev rfl) (ev rfl) (.inr (.inr ⟨rfl, rfl⟩))).mono ?_; rintro _ _ ⟨rfl, rfl⟩
    exact ⟨rfl, Ext.refl _⟩
  refine RW_d (fun v43 => [(Pt g_b g_o), (.agg #[(Iv x), (Iv y), (Iv z)]), Ud, (Pt b15 0), (Iv 0), v28, v29, v30, v31, v32, v33, v34, v35, v36, v37, v38, v39, v40, v41, v42, v43, Ud, Ud]) rfl (fun _ => rfl) (fun u hu hF => ?_) (fun v43 => ?_)
  · have h12_ : v35 = (Iv y) := hF.1
    have h19_ : v42 = (Iv (IntKind.i64.wrap (A_g.y * z))) := hF.2.1
    clear hF
    obtain rfl := h12_
    obtain rfl := h19_
    refine doesG_un rfl ?_
    refine (does_iarith (p := y) (q := IntKind.i64.wrap (A_g.y * z)) (r := IntKind.i64.wrap (y + (IntKind.i64.wrap (A_g.y * z)))) (ev rfl) (ev rfl) (.inl ⟨rfl, rfl⟩)).mono ?_; rintro _ _ ⟨rfl, rfl⟩
    exact ⟨rfl, Ext.refl _⟩
  refine RW_d (fun v44 => [(Pt g_b g_o), (.agg #[(Iv x), (Iv y), (Iv z)]), Ud, (Pt b15 0), (Iv 0), v28, v29, v30, v31, v32, v33, v34, v35, v36, v37, v38, v39, v40, v41, v42, v43, v44, Ud]) rfl (fun _ => rfl) (fun u hu hF => ?_) (fun v44 => ?_)
  · have h10_ : v33 = (Iv A_g.x) := hF.1
    have h20_ : v43 = (Iv (IntKind.i64.wrap (y + (IntKind.i64.wrap (A_g.y * z))))) := hF.2.1
    clear hF
    obtain rfl := h10_
    obtain rfl := h20_
    refine doesG_un rfl ?_
    refine (does_iarith (p := A_g.x) (q := IntKind.i64.wrap (y + (IntKind.i64.wrap (A_g.y * z)))) (r := IntKind.i64.wrap (A_g.x * (IntKind.i64.wrap (y + (IntKind.i64.wrap (A_g.y * z)))))) (ev rfl) (ev rfl) (.inr (.inr ⟨rfl, rfl⟩))).mono ?_; rintro _ _ ⟨rfl, rfl⟩
    exact ⟨rfl, Ext.refl _⟩
  refine RW_d (fun v45 => [(Pt g_b g_o), (.agg #[(Iv x), (Iv y), (Iv z)]), Ud, (Pt b15 0), (Iv 0), v28, v29, v30, v31, v32, v33, v34, v35, v36, v37, v38, v39, v40, v41, v42, v43, v44, v45]) rfl (fun _ => rfl) (fun u hu hF => ?_) (fun v45 => ?_)
  · have h6_ : v29 = (Iv x) := hF.1
    have h21_ : v44 = (Iv (IntKind.i64.wrap (A_g.x * (IntKind.i64.wrap (y + (IntKind.i64.wrap (A_g.y * z))))))) := hF.2.1
    clear hF
    obtain rfl := h6_
    obtain rfl := h21_
    refine doesG_un rfl ?_
    refine (does_iarith (p := x) (q := IntKind.i64.wrap (A_g.x * (IntKind.i64.wrap (y + (IntKind.i64.wrap (A_g.y * z)))))) (r := IntKind.i64.wrap (x + (IntKind.i64.wrap (A_g.x * (IntKind.i64.wrap (y + (IntKind.i64.wrap (A_g.y * z)))))))) (ev rfl) (ev rfl) (.inl ⟨rfl, rfl⟩)).mono ?_; rintro _ _ ⟨rfl, rfl⟩
    exact ⟨rfl, Ext.refl _⟩
  refine RW_fin ?_; intro w46 E47 hP48
  obtain ⟨⟨⟨⟨⟨⟨⟨⟨⟨⟨⟨⟨⟨⟨⟨⟨⟨⟨-, -⟩, -⟩, -⟩, -⟩, -⟩, -⟩, -⟩, -⟩, -⟩, -⟩, -⟩, -⟩, -⟩, -⟩, -⟩, -⟩, -⟩, q49⟩ := hP48
  have X50 := Ext.gr X27 E47
  have q49 : v45 = (Iv (IntKind.i64.wrap (x + (IntKind.i64.wrap (A_g.x * (IntKind.i64.wrap (y + (IntKind.i64.wrap (A_g.y * z))))))))) := q49
  obtain rfl := q49
  show wpList _ _ _ _ (fr [(Pt g_b g_o), (.agg #[(Iv x), (Iv y), (Iv z)]), Ud, (Pt b15 0), (Iv 0), v28, v29, v30, v31, v32, v33, v34, v35, v36, v37, v38, v39, v40, v41, v42, v43, v44, (Iv (IntKind.i64.wrap (x + (IntKind.i64.wrap (A_g.x * (IntKind.i64.wrap (y + (IntKind.i64.wrap (A_g.y * z)))))))))]) _
  refine q_is (l' := [(Pt g_b g_o), (.agg #[(Iv x), (Iv y), (Iv z)]), Ud, (Pt b15 0), (Iv (IntKind.i64.wrap (x + (IntKind.i64.wrap (A_g.x * (IntKind.i64.wrap (y + (IntKind.i64.wrap (A_g.y * z))))))))), v28, v29, v30, v31, v32, v33, v34, v35, v36, v37, v38, v39, v40, v41, v42, v43, v44, (Iv (IntKind.i64.wrap (x + (IntKind.i64.wrap (A_g.x * (IntKind.i64.wrap (y + (IntKind.i64.wrap (A_g.y * z)))))))))]) rfl rfl (does_assign (u := (Iv (IntKind.i64.wrap (x + (IntKind.i64.wrap (A_g.x * (IntKind.i64.wrap (y + (IntKind.i64.wrap (A_g.y * z)))))))))) (ev rfl)) rfl ?_
  refine wpList_nil (hK23 _ _ ?_)
  refine wp_ret ?_
  refine ret_val (v := (Iv (IntKind.i64.wrap (x + (IntKind.i64.wrap (A_g.x * (IntKind.i64.wrap (y + (IntKind.i64.wrap (A_g.y * z)))))))))) (res_T rfl (slot rfl)) X50 ?_
  have x51 : (idxG A_g x y z : Int) = (IntKind.i64.wrap (x + (IntKind.i64.wrap (A_g.x * (IntKind.i64.wrap (y + (IntKind.i64.wrap (A_g.y * z)))))))) := by first | rfl | (simp only [idxG, h2, h4, h6, h8]; done) | (simp [idxG, h2, h4, h6, h8]; done)
  exact (by first | rfl | rw [x51])

/- impl.GridValue -/
theorem c_impl_GridValue (g : List Value) (A_g : GridT) (x : Int) (y : Int) (z : Int) (w : World) (hv_g : RGridT w A_g g) : Gives Try.prog 23 #[(.agg g.toArray), (Iv x), (Iv y), (Iv z)] w (fun v w' => ∃ r_1 : Nat, v = (.tuple #[(Fl r_1), (Bo (hasOk A_g x y z))]) ∧ cf .f32 r_1 = valG A_g x y z) := by
  obtain ⟨r1, r3, r5, r7, y9, rfl, h2, h4, h6, h8, h10⟩ := hv_g
  have hs13 := h10; have hs13l := Sl.len h10; obtain ⟨p11, q12, rfl⟩ := Sl.shape h10
  refine enter [(.agg #[(Fl r1), (Fl r3), (Fl r5), (Fl r7), (Iv A_g.x), (Iv A_g.y), (Iv A_g.z), (.slice p11 A_g.vals.length q12)]), (Iv x), (Iv y), (Iv z), Ud, Ud, Ud, Ud, Ud, Ud, Ud, Ud, Ud, Ud, Ud, Ud, Ud, Ud, Ud, Ud, Ud, Ud, Ud, Ud] Try.func23 rfl Try.ntmps23 rfl ?_
  refine wp_seq_k fun K14 hK14 => ?_
  refine wp_region_lit ?_
  refine seqd rfl rfl (does_box (u := (.agg #[(Fl r1), (Fl r3), (Fl r5), (Fl r7), (Iv A_g.x), (Iv A_g.y), (Iv A_g.z), (.slice p11 A_g.vals.length q12)])) (ev rfl)) ?_; rintro _ w19 ⟨b15, rfl, hb16, hB17, E18⟩
  have g20 : w.heap.size ≤ b15 := Nat.le_trans (Below.size (Ext.refl w)) hb16
  change Blk _ _ [(Fl r1), (Fl r3), (Fl r5), (Fl r7), (Iv A_g.x), (Iv A_g.y), (Iv A_g.z), (.slice p11 A_g.vals.length q12)] at hB17
  have X21 := Ext.gr (Ext.refl w) E18
  show wpList _ _ _ _ (fr [(.agg #[(Fl r1), (Fl r3), (Fl r5), (Fl r7), (Iv A_g.x), (Iv A_g.y), (Iv A_g.z), (.slice p11 A_g.vals.length q12)]), (Iv x), (Iv y), (Iv z), (Pt b15 0), Ud, Ud, Ud, Ud, Ud, Ud, Ud, Ud, Ud, Ud, Ud, Ud, Ud, Ud, Ud, Ud, Ud, Ud, Ud]) _
  refine q_is (l' := [(.agg #[(Fl r1), (Fl r3), (Fl r5), (Fl r7), (Iv A_g.x), (Iv A_g.y), (Iv A_g.z), (.slice p11 A_g.vals.length q12)]), (Iv x), (Iv y), (Iv z), (Pt b15 0), Ud, Ud, Ud, (Fl 0), Ud, Ud, Ud, Ud, Ud, Ud, Ud, Ud, Ud, Ud, Ud, Ud, Ud, Ud, Ud]) rfl rfl (does_assign (u := (Fl 0)) (ev rfl)) rfl ?_
  refine q_is (l' := [(.agg #[(Fl r1), (Fl r3), (Fl r5), (Fl r7), (Iv A_g.x), (Iv A_g.y), (Iv A_g.z), (.slice p11 A_g.vals.length q12)]), (Iv x), (Iv y), (Iv z), (Pt b15 0), Ud, Ud, Ud, (Fl 0), (Bo false), Ud, Ud, Ud, Ud, Ud, Ud, Ud, Ud, Ud, Ud, Ud, Ud, Ud, Ud]) rfl rfl (does_assign (u := (Bo false)) (ev rfl)) rfl ?_
  refine wpList_nil (hK14 _ _ ?_)
  refine wp_seq_k fun K22 hK22 => ?_
  refine wp_seq_k fun K23 hK23 => ?_
  refine wp_region_lit ?_
  refine q_is (l' := [(.agg #[(Fl r1), (Fl r3), (Fl r5), (Fl r7), (Iv A_g.x), (Iv A_g.y), (Iv A_g.z), (.slice p11 A_g.vals.length q12)]), (Iv x), (Iv y), (Iv z), (Pt b15 0), Ud, Ud, Ud, (Fl 0), (Bo false), (Iv x), Ud, Ud, Ud, Ud, Ud, Ud, Ud, Ud, Ud, Ud, Ud, Ud, Ud]) rfl rfl (does_move (u := (Iv x)) (ev rfl)) rfl ?_
  refine q_is (l' := [(.agg #[(Fl r1), (Fl r3), (Fl r5), (Fl r7), (Iv A_g.x), (Iv A_g.y), (Iv A_g.z), (.slice p11 A_g.vals.length q12)]), (Iv x), (Iv y), (Iv z), (Pt b15 0), Ud, Ud, Ud, (Fl 0), (Bo false), (Iv x), (Iv y), Ud, Ud, Ud, Ud, Ud, Ud, Ud, Ud, Ud, Ud, Ud, Ud]) rfl rfl (does_move (u := (Iv y)) (ev rfl)) rfl ?_
  refine q_is (l' := [(.agg #[(Fl r1), (Fl r3), (Fl r5), (Fl r7), (Iv A_g.x), (Iv A_g.y), (Iv A_g.z), (.slice p11 A_g.vals.length q12)]), (Iv x), (Iv y), (Iv z), (Pt b15 0), Ud, Ud, Ud, (Fl 0), (Bo false), (Iv x), (Iv y), (Iv z), Ud, Ud, Ud, Ud, Ud, Ud, Ud, Ud, Ud, Ud, Ud]) rfl rfl (does_move (u := (Iv z)) (ev rfl)) rfl ?_
  refine seqd rfl rfl (does_call (args := #[(Pt b15 0), (Iv x), (Iv y), (Iv z)]) cal70 (evs rfl) (c_impl_Grid_has b15 0 [(Fl r1), (Fl r3), (Fl r5), (Fl r7), (Iv A_g.x), (Iv A_g.y), (Iv A_g.z), (.slice p11 A_g.vals.length q12)] A_g x y z _ (Blk.cells hB17) ⟨r1, r3, r5, r7, (.slice p11 A_g.vals.length q12), rfl, h2, h4, h6, h8, (Sl.ext hs13 RF.mono X21)⟩)) ?_; rintro _ w25 ⟨E24, rfl⟩
  have X26 := Ext.gr X21 E24
  show wpList _ _ _ _ (fr [(.agg #[(Fl r1), (Fl r3), (Fl r5), (Fl r7), (Iv A_g.x), (Iv A_g.y), (Iv A_g.z), (.slice p11 A_g.vals.length q12)]), (Iv x), (Iv y), (Iv z), (Pt b15 0), Ud, Ud, Ud, (Fl 0), (Bo false), (Iv x), (Iv y), (Iv z), (Bo (hasOk A_g x y z)), Ud, Ud, Ud, Ud, Ud, Ud, Ud, Ud, Ud, Ud]) _
  refine q_is (l' := [(.agg #[(Fl r1), (Fl r3), (Fl r5), (Fl r7), (Iv A_g.x), (Iv A_g.y), (Iv A_g.z), (.slice p11 A_g.vals.length q12)]), (Iv x), (Iv y), (Iv z), (Pt b15 0), Ud, Ud, Ud, (Fl 0), (Bo false), (Iv x), (Iv y), (Iv z), (Bo (hasOk A_g x y z)), (Bo (!(hasOk A_g x y z))), Ud, Ud, Ud, Ud, Ud, Ud, Ud, Ud, Ud]) rfl rfl (does_not (ev rfl)) rfl ?_
  refine wpList_nil (hK23 _ _ ?_)
  refine wp_cond_split (t := !(hasOk A_g x y z)) (ev rfl) (fun c27 => ?_) (fun c27 => ?_)
  · rw [Bool.not_eq_true'] at c27
    have c27' := c27
    refine wp_seq_k fun K28 hK28 => ?_
    refine wp_region_lit ?_
    refine q_is (l' := [(.agg #[(Fl r1), (Fl r3), (Fl r5), (Fl r7), (Iv A_g.x), (Iv A_g.y), (Iv A_g.z), (.slice p11 A_g.vals.length q12)]), (Iv x), (Iv y), (Iv z), (Pt b15 0), Ud, Ud, Ud, (Fl 0), (Bo false), (Iv x), (Iv y), (Iv z), (Bo (hasOk A_g x y z)), (Bo (!(hasOk A_g x y z))), Ud, Ud, Ud, Ud, Ud, Ud, Ud, Ud, Ud]) rfl rfl (does_assign (u := (Fl 0)) (ev rfl)) rfl ?_
    refine q_is (l' := [(.agg #[(Fl r1), (Fl r3), (Fl r5), (Fl r7), (Iv A_g.x), (Iv A_g.y), (Iv A_g.z), (.slice p11 A_g.vals.length q12)]), (Iv x), (Iv y), (Iv z), (Pt b15 0), Ud, Ud, Ud, (Fl 0), (Bo false), (Iv x), (Iv y), (Iv z), (Bo (hasOk A_g x y z)), (Bo (!(hasOk A_g x y z))), Ud, Ud, Ud, Ud, Ud, Ud, Ud, Ud, Ud]) rfl rfl (does_assign (u := (Bo false)) (ev rfl)) rfl ?_
    refine wpList_nil (hK28 _ _ ?_)
    refine wp_ret ?_
    dsimp only [Exit.then, Exit.inBlock]
    refine ret_val (v := (.tuple #[(Fl 0), (Bo false)])) (res_TT rfl (slot rfl) (slot rfl)) X26 ?_
    try simp only [h2, h4, h6, h8] at c27
    have x29 : (hasOk A_g x y z) = false := by first | rfl | exact (valG_f (hasOk_f (by assumption))).symm | exact (valG_f (by assumption)).symm | exact hasOk_f (by assumption) | assumption | exact hok | (rw [valG_t' hok (by assumption)]; assumption)
    have x30 : cf .f32 0 = valG A_g x y z := by first | rfl | exact (valG_f (hasOk_f (by assumption))).symm | exact (valG_f (by assumption)).symm | exact hasOk_f (by assumption) | assumption | exact hok | (rw [valG_t' hok (by assumption)]; assumption)
    exact ⟨0, (by first | rfl | rw [x29]), x30⟩
  rw [Bool.not_eq_false'] at c27
  have c27' := c27
  refine wp_skip (hK22 _ _ ?_)
  refine wp_seq_k fun K31 hK31 => ?_
  have hok : hasOk A_g x y z = true := by first | assumption | exact hasOk_t (by assumption)
  obtain ⟨hi0, hi1, hi2⟩ := idxG_ok' hok
  obtain ⟨el1, hel1⟩ : ∃ e, A_g.vals[(idxG A_g x y z).toNat]? = some e := ⟨_, List.getElem?_eq_getElem (by omega)⟩
  refine region_draw (
    [Fact.pure [] (fun v => v = (Pt b15 7)),
    Fact.pure [15] (fun v => v = (.slice p11 A_g.vals.length q12)),
    Fact.pure [] (fun v => v = (Iv x)),
    Fact.pure [] (fun v => v = (Iv y)),
    Fact.pure [] (fun v => v = (Iv z)),
    Fact.pure [17, 18, 19] (fun v => v = (.agg #[(Iv x), (Iv y), (Iv z)])),
    Fact.pure [20] (fun v => v = (Iv (idxG A_g x y z))),
    Fact.mem [16, 21] (fun v w' => PtrR RF w' v el1) (by intro v w1 w2 hx h; exact h.ext RF.mono hx),
    Fact.pure [22] (fun v => ∃ r_1 : Nat, v = (Fl r_1) ∧ cf .f32 r_1 = el1)]) mixed (by kernel_rfl) (by intro _ _ d _ _ h; cases d <;> exact h) ?_
  obtain ⟨w32, hw34⟩ : ∃ w', w' = World.drew w25 := ⟨_, rfl⟩; rw [← hw34]; have E33 : Ext w25 w32 := by rw [hw34]; exact Ext.draw _
  clear hw34
  have X35 := Ext.gr X26 E33
  refine RW_d (fun v36 => [(.agg #[(Fl r1), (Fl r3), (Fl r5), (Fl r7), (Iv A_g.x), (Iv A_g.y), (Iv A_g.z), (.slice p11 A_g.vals.length q12)]), (Iv x), (Iv y), (Iv z), (Pt b15 0), Ud, Ud, Ud, (Fl 0), (Bo false), (Iv x), (Iv y), (Iv z), (Bo (hasOk A_g x y z)), (Bo (!(hasOk A_g x y z))), v36, Ud, Ud, Ud, Ud, Ud, Ud, Ud, Ud]) rfl (fun _ => rfl) (fun u hu hF => ?_) (fun v36 => ?_)
  · clear hF
    refine doesG_un rfl ?_
    refine (does_fieldAddr (ev rfl) fa32_5).mono ?_; rintro _ _ ⟨rfl, rfl⟩
    exact ⟨rfl, Ext.refl _⟩
  refine RW_d (fun v37 => [(.agg #[(Fl r1), (Fl r3), (Fl r5), (Fl r7), (Iv A_g.x), (Iv A_g.y), (Iv A_g.z), (.slice p11 A_g.vals.length q12)]), (Iv x), (Iv y), (Iv z), (Pt b15 0), Ud, Ud, Ud, (Fl 0), (Bo false), (Iv x), (Iv y), (Iv z), (Bo (hasOk A_g x y z)), (Bo (!(hasOk A_g x y z))), v36, v37, Ud, Ud, Ud, Ud, Ud, Ud, Ud]) rfl (fun _ => rfl) (fun u hu hF => ?_) (fun v37 => ?_)
  · have h15_ : v36 = (Pt b15 7) := hF.1
    clear hF
    obtain rfl := h15_
    refine doesG_un rfl ?_
    refine (does_load (u := (.slice p11 A_g.vals.length q12)) (ev rfl) Try.isAgg25 (Cells.at (Blk.cells (((hB17.ext E24).ext E33).ext hu)) 7 rfl)).mono ?_; rintro _ _ ⟨rfl, rfl⟩
    exact ⟨rfl, Ext.refl _⟩
  refine RW_d (fun v38 => [(.agg #[(Fl r1), (Fl r3), (Fl r5), (Fl r7), (Iv A_g.x), (Iv A_g.y), (Iv A_g.z), (.slice p11 A_g.vals.length q12)]), (Iv x), (Iv y), (Iv z), (Pt b15 0), Ud, Ud, Ud, (Fl 0), (Bo false), (Iv x), (Iv y), (Iv z), (Bo (hasOk A_g x y z)), (Bo (!(hasOk A_g x y z))), v36, v37, v38, Ud, Ud, Ud, Ud, Ud, Ud]) rfl (fun _ => rfl) (fun u hu hF => ?_) (fun v38 => ?_)
  · clear hF
    refine doesG_un rfl ?_
    refine (does_move (u := (Iv x)) (ev rfl)).mono ?_; rintro _ _ ⟨rfl, rfl⟩
    exact ⟨rfl, Ext.refl _⟩
  refine RW_d (fun v39 => [(.agg #[(Fl r1), (Fl r3), (Fl r5), (Fl r7), (Iv A_g.x), (Iv A_g.y), (Iv A_g.z), (.slice p11 A_g.vals.length q12)]), (Iv x), (Iv y), (Iv z), (Pt b15 0), Ud, Ud, Ud, (Fl 0), (Bo false), (Iv x), (Iv y), (Iv z), (Bo (hasOk A_g x y z)), (Bo (!(hasOk A_g x y z))), v36, v37, v38, v39, Ud, Ud, Ud, Ud, Ud]) rfl (fun _ => rfl) (fun u hu hF => ?_) (fun v39 => ?_)
  · clear hF
    refine doesG_un rfl ?_
    refine (does_move (u := (Iv y)) (ev rfl)).mono ?_; rintro _ _ ⟨rfl, rfl⟩
    exact ⟨rfl, Ext.refl _⟩
  refine RW_d (fun v40 => [(.agg #[(Fl r1), (Fl r3), (Fl r5), (Fl r7), (Iv A_g.x), (Iv A_g.y), (Iv A_g.z), (.slice p11 A_g.vals.length q12)]), (Iv x), (Iv y), (Iv z), (Pt b15 0), Ud, Ud, Ud, (Fl 0), (Bo false), (Iv x), (Iv y), (Iv z), (Bo (hasOk A_g x y z)), (Bo (!(hasOk A_g x y z))), v36, v37, v38, v39, v40, Ud, Ud, Ud, Ud]) rfl (fun _ => rfl) (fun u hu hF => ?_) (fun v40 => ?_)
  · clear hF
    refine doesG_un rfl ?_
    refine (does_move (u := (Iv z)) (ev rfl)).mono ?_; rintro _ _ ⟨rfl, rfl⟩
    exact ⟨rfl, Ext.refl _⟩
  refine RW_d (fun v41 => [(.agg #[(Fl r1), (Fl r3), (Fl r5), (Fl r7), (Iv A_g.x), (Iv A_g.y), (Iv A_g.z), (.slice p11 A_g.vals.length q12)]), (Iv x), (Iv y), (Iv z), (Pt b15 0), Ud, Ud, Ud, (Fl 0), (Bo false), (Iv x), (Iv y), (Iv z), (Bo (hasOk A_g x y z)), (Bo (!(hasOk A_g x y z))), v36, v37, v38, v39, v40, v41, Ud, Ud, Ud]) rfl (fun _ => rfl) (fun u hu hF => ?_) (fun v41 => ?_)
  · have h17_ : v38 = (Iv x) := hF.1
    have h18_ : v39 = (Iv y) := hF.2.1
    have h19_ : v40 = (Iv z) := hF.2.2.1
    clear hF
    obtain rfl := h17_
    obtain rfl := h18_
    obtain rfl := h19_
    refine doesG_un rfl ?_
    refine (does_build (parts' := [(0, (Iv x)), (1, (Iv y)), (2, (Iv z))]) (cells := #[(Iv x), (Iv y), (Iv z)]) (evp rfl) (by kernel_rfl)).mono ?_; rintro _ _ ⟨rfl, rfl⟩
    exact ⟨rfl, Ext.refl _⟩
  refine RW_d (fun v42 => [(.agg #[(Fl r1), (Fl r3), (Fl r5), (Fl r7), (Iv A_g.x), (Iv A_g.y), (Iv A_g.z), (.slice p11 A_g.vals.length q12)]), (Iv x), (Iv y), (Iv z), (Pt b15 0), Ud, Ud, Ud, (Fl 0), (Bo false), (Iv x), (Iv y), (Iv z), (Bo (hasOk A_g x y z)), (Bo (!(hasOk A_g x y z))), v36, v37, v38, v39, v40, v41, v42, Ud, Ud]) rfl (fun _ => rfl) (fun u hu hF => ?_) (fun v42 => ?_)
  · have h20_ : v41 = (.agg #[(Iv x), (Iv y), (Iv z)]) := hF.1
    clear hF
    obtain rfl := h20_
    refine doesG_un rfl ?_
    refine (does_call (args := #[(Pt b15 0), (.agg #[(Iv x), (Iv y), (Iv z)])]) cal71 (evs rfl) (c_impl_Grid_index b15 0 [(Fl r1), (Fl r3), (Fl r5), (Fl r7), (Iv A_g.x), (Iv A_g.y), (Iv A_g.z), (.slice p11 A_g.vals.length q12)] A_g x y z _ (Blk.cells (((hB17.ext E24).ext E33).ext hu)) ⟨r1, r3, r5, r7, (.slice p11 A_g.vals.length q12), rfl, h2, h4, h6, h8, (Sl.ext (Sl.ext hs13 RF.mono (Ext.gr X26 E33)) RF.mono hu)⟩)).mono ?_; rintro v u' ⟨hx, hv⟩
    exact ⟨hv, hx⟩
  refine RW_d (fun v43 => [(.agg #[(Fl r1), (Fl r3), (Fl r5), (Fl r7), (Iv A_g.x), (Iv A_g.y), (Iv A_g.z), (.slice p11 A_g.vals.length q12)]), (Iv x), (Iv y), (Iv z), (Pt b15 0), Ud, Ud, Ud, (Fl 0), (Bo false), (Iv x), (Iv y), (Iv z), (Bo (hasOk A_g x y z)), (Bo (!(hasOk A_g x y z))), v36, v37, v38, v39, v40, v41, v42, v43, Ud]) rfl (fun _ => rfl) (fun u hu hF => ?_) (fun v43 => ?_)
  · have h16_ : v37 = (.slice p11 A_g.vals.length q12) := hF.1
    have h21_ : v42 = (Iv (idxG A_g x y z)) := hF.2.1
    clear hF
    obtain rfl := h16_
    obtain rfl := h21_
    refine doesG_un rfl ?_
    refine (does_indexSl (R := RF) (i := idxG A_g x y z) (xs := A_g.vals) (e := el1) Try.underlying25 Try.sizeOf22 (ev rfl) (ev rfl) (Sl.ext (Sl.ext hs13 RF.mono (Ext.gr X26 E33)) RF.mono hu) (by omega) hel1).mono ?_; rintro v u' ⟨b, of, cs, hv, hc, hR, hu'⟩; subst hu'
    exact ⟨⟨b, of, cs, hv, hc, hR⟩, Ext.refl _⟩
  refine RW_d (fun v44 => [(.agg #[(Fl r1), (Fl r3), (Fl r5), (Fl r7), (Iv A_g.x), (Iv A_g.y), (Iv A_g.z), (.slice p11 A_g.vals.length q12)]), (Iv x), (Iv y), (Iv z), (Pt b15 0), Ud, Ud, Ud, (Fl 0), (Bo false), (Iv x), (Iv y), (Iv z), (Bo (hasOk A_g x y z)), (Bo (!(hasOk A_g x y z))), v36, v37, v38, v39, v40, v41, v42, v43, v44]) rfl (fun _ => rfl) (fun u hu hF => ?_) (fun v44 => ?_)
  · have h22_ : PtrR RF u v43 el1 := hF.1
    clear hF
    obtain ⟨b22_, o22_, _, rfl, hc22_, ⟨r22_1, rfl, h22_2⟩⟩ := h22_
    refine doesG_un rfl ?_
    refine (does_load (u := (Fl r22_1)) (ev rfl) Try.isAgg22 (Cells.at hc22_ 0 rfl)).mono ?_; rintro _ _ ⟨rfl, rfl⟩
    exact ⟨⟨r22_1, rfl, (by simp only [h22_2])⟩, Ext.refl _⟩
  refine RW_fin ?_; intro w45 E46 hP47
  obtain ⟨⟨⟨⟨⟨⟨⟨⟨⟨-, -⟩, -⟩, -⟩, -⟩, -⟩, -⟩, -⟩, -⟩, q48⟩ := hP47
  have X49 := Ext.gr X35 E46
  have q48 : ∃ r_1 : Nat, v44 = (Fl r_1) ∧ cf .f32 r_1 = el1 := q48
  obtain ⟨r50, rfl, h51⟩ := q48
  show wpList _ _ _ _ (fr [(.agg #[(Fl r1), (Fl r3), (Fl r5), (Fl r7), (Iv A_g.x), (Iv A_g.y), (Iv A_g.z), (.slice p11 A_g.vals.length q12)]), (Iv x), (Iv y), (Iv z), (Pt b15 0), Ud, Ud, Ud, (Fl 0), (Bo false), (Iv x), (Iv y), (Iv z), (Bo (hasOk A_g x y z)), (Bo (!(hasOk A_g x y z))), v36, v37, v38, v39, v40, v41, v42, v43, (Fl r50)]) _
  refine q_is (l' := [(.agg #[(Fl r1), (Fl r3), (Fl r5), (Fl r7), (Iv A_g.x), (Iv A_g.y), (Iv A_g.z), (.slice p11 A_g.vals.length q12)]), (Iv x), (Iv y), (Iv z), (Pt b15 0), Ud, Ud, Ud, (Fl r50), (Bo false), (Iv x), (Iv y), (Iv z), (Bo (hasOk A_g x y z)), (Bo (!(hasOk A_g x y z))), v36, v37, v38, v39, v40, v41, v42, v43, (Fl r50)]) rfl rfl (does_assign (u := (Fl r50)) (ev rfl)) rfl ?_
  refine q_is (l' := [(.agg #[(Fl r1), (Fl r3), (Fl r5), (Fl r7), (Iv A_g.x), (Iv A_g.y), (Iv A_g.z), (.slice p11 A_g.vals.length q12)]), (Iv x), (Iv y), (Iv z), (Pt b15 0), Ud, Ud, Ud, (Fl r50), (Bo true), (Iv x), (Iv y), (Iv z), (Bo (hasOk A_g x y z)), (Bo (!(hasOk A_g x y z))), v36, v37, v38, v39, v40, v41, v42, v43, (Fl r50)]) rfl rfl (does_assign (u := (Bo true)) (ev rfl)) rfl ?_
  refine wpList_nil (hK31 _ _ ?_)
  refine wp_ret ?_
  refine ret_val (v := (.tuple #[(Fl r50), (Bo true)])) (res_TT rfl (slot rfl) (slot rfl)) X49 ?_
  try simp only [h2, h4, h6, h8, hel1, h51] at c27
  have x52 : (hasOk A_g x y z) = true := by first | rfl | exact (valG_f (hasOk_f (by assumption))).symm | exact (valG_f (by assumption)).symm | exact hasOk_f (by assumption) | assumption | exact hok | (rw [valG_t' hok (by assumption)]; assumption)
  have x53 : cf .f32 r50 = valG A_g x y z := by first | rfl | exact (valG_f (hasOk_f (by assumption))).symm | exact (valG_f (by assumption)).symm | exact hasOk_f (by assumption) | assumption | exact hok | (rw [valG_t' hok (by assumption)]; assumption)
  exact ⟨r50, (by first | rfl | rw [x52]), x53⟩

/- laws.FnExactGridValue -/
theorem c_laws_FnExactGridValue (g : List Value) (A_g : GridT) (x : Int) (y : Int) (z : Int) (w : World) (hv_g : RGridT w A_g g) : Gives Try.prog 4 #[(.agg g.toArray), (Iv x), (Iv y), (Iv z)] w (fun v w' => v = (Bo true)) := by
  obtain ⟨r1, r3, r5, r7, y9, rfl, h2, h4, h6, h8, h10⟩ := hv_g
  have hs13 := h10; have hs13l := Sl.len h10; obtain ⟨p11, q12, rfl⟩ := Sl.shape h10
  refine enter [(.agg #[(Fl r1), (Fl r3), (Fl r5), (Fl r7), (Iv A_g.x), (Iv A_g.y), (Iv A_g.z), (.slice p11 A_g.vals.length q12)]), (Iv x), (Iv y), (Iv z), Ud, Ud, Ud, Ud, Ud, Ud, Ud, Ud, Ud, Ud, Ud, Ud, Ud, Ud, Ud, Ud, Ud, Ud, Ud, Ud, Ud, Ud, Ud, Ud, Ud, Ud, Ud, Ud, Ud, Ud, Ud, Ud, Ud, Ud, Ud, Ud, Ud, Ud, Ud, Ud, Ud, Ud, Ud, Ud, Ud, Ud, Ud, Ud, Ud, Ud, Ud] Try.func4 rfl Try.ntmps4 rfl ?_
  refine wp_seq_k fun K14 hK14 => ?_
  refine wp_region_lit ?_
  refine seqd rfl rfl (does_box (u := (.agg #[(Fl r1), (Fl r3), (Fl r5), (Fl r7), (Iv A_g.x), (Iv A_g.y), (Iv A_g.z), (.slice p11 A_g.vals.length q12)])) (ev rfl)) ?_; rintro _ w19 ⟨b15, rfl, hb16, hB17, E18⟩
  have g20 : w.heap.size ≤ b15 := Nat.le_trans (Below.size (Ext.refl w)) hb16
  change Blk _ _ [(Fl r1), (Fl r3), (Fl r5), (Fl r7), (Iv A_g.x), (Iv A_g.y), (Iv A_g.z), (.slice p11 A_g.vals.length q12)] at hB17
  have X21 := Ext.gr (Ext.refl w) E18
  show wpList _ _ _ _ (fr [(.agg #[(Fl r1), (Fl r3), (Fl r5), (Fl r7), (Iv A_g.x), (Iv A_g.y), (Iv A_g.z), (.slice p11 A_g.vals.length q12)]), (Iv x), (Iv y), (Iv z), (Pt b15 0), Ud, Ud, Ud, Ud, Ud, Ud, Ud, Ud, Ud, Ud, Ud, Ud, Ud, Ud, Ud, Ud, Ud, Ud, Ud, Ud, Ud, Ud, Ud, Ud, Ud, Ud, Ud, Ud, Ud, Ud, Ud, Ud, Ud, Ud, Ud, Ud, Ud, Ud, Ud, Ud, Ud, Ud, Ud, Ud, Ud, Ud, Ud, Ud, Ud, Ud]) _
  refine q_is (l' := [(.agg #[(Fl r1), (Fl r3), (Fl r5), (Fl r7), (Iv A_g.x), (Iv A_g.y), (Iv A_g.z), (.slice p11 A_g.vals.length q12)]), (Iv x), (Iv y), (Iv z), (Pt b15 0), Ud, Ud, Ud, (Bo false), Ud, Ud, Ud, Ud, Ud, Ud, Ud, Ud, Ud, Ud, Ud, Ud, Ud, Ud, Ud, Ud, Ud, Ud, Ud, Ud, Ud, Ud, Ud, Ud, Ud, Ud, Ud, Ud, Ud, Ud, Ud, Ud, Ud, Ud, Ud, Ud, Ud, Ud, Ud, Ud, Ud, Ud, Ud, Ud, Ud, Ud]) rfl rfl (does_assign (u := (Bo false)) (ev rfl)) rfl ?_
  refine wpList_nil (hK14 _ _ ?_)
  refine wp_seq_k fun K22 hK22 => ?_
  refine wp_region_lit ?_
  refine q_is (l' := [(.agg #[(Fl r1), (Fl r3), (Fl r5), (Fl r7), (Iv A_g.x), (Iv A_g.y), (Iv A_g.z), (.slice p11 A_g.vals.length q12)]), (Iv x), (Iv y), (Iv z), (Pt b15 0), Ud, Ud, Ud, (Bo false), (Iv 1048576), Ud, Ud, Ud, Ud, Ud, Ud, Ud, Ud, Ud, Ud, Ud, Ud, Ud, Ud, Ud, Ud, Ud, Ud, Ud, Ud, Ud, Ud, Ud, Ud, Ud, Ud, Ud, Ud, Ud, Ud, Ud, Ud, Ud, Ud, Ud, Ud, Ud, Ud, Ud, Ud, Ud, Ud, Ud, Ud, Ud]) rfl rfl (does_assign (u := (Iv 1048576)) (ev rfl)) rfl ?_
  refine wpList_nil (hK22 _ _ ?_)
  refine wp_seq_k fun K23 hK23 => ?_
  refine wp_region_lit ?_
  refine q_is (l' := [(.agg #[(Fl r1), (Fl r3), (Fl r5), (Fl r7), (Iv A_g.x), (Iv A_g.y), (Iv A_g.z), (.slice p11 A_g.vals.length q12)]), (Iv x), (Iv y), (Iv z), (Pt b15 0), Ud, Ud, Ud, (Bo false), (Iv 1048576), Ud, Ud, Ud, Ud, Ud, (.agg #[(Fl r1), (Fl r3), (Fl r5), (Fl r7), (Iv A_g.x), (Iv A_g.y), (Iv A_g.z), (.slice p11 A_g.vals.length q12)]), Ud, Ud, Ud, Ud, Ud, Ud, Ud, Ud, Ud, Ud, Ud, Ud, Ud, Ud, Ud, Ud, Ud, Ud, Ud, Ud, Ud, Ud, Ud, Ud, Ud, Ud, Ud, Ud, Ud, Ud, Ud, Ud, Ud, Ud, Ud, Ud, Ud, Ud, Ud]) rfl rfl (does_loadAgg (cs := [(Fl r1), (Fl r3), (Fl r5), (Fl r7), (Iv A_g.x), (Iv A_g.y), (Iv A_g.z), (.slice p11 A_g.vals.length q12)]) (ev rfl) Try.isAgg27 Try.sizeOf27 (Blk.cells hB17) rfl) rfl ?_
  refine q_is (l' := [(.agg #[(Fl r1), (Fl r3), (Fl r5), (Fl r7), (Iv A_g.x), (Iv A_g.y), (Iv A_g.z), (.slice p11 A_g.vals.length q12)]), (Iv x), (Iv y), (Iv z), (Pt b15 0), Ud, Ud, Ud, (Bo false), (Iv 1048576), Ud, Ud, Ud, Ud, Ud, (.agg #[(Fl r1), (Fl r3), (Fl r5), (Fl r7), (Iv A_g.x), (Iv A_g.y), (Iv A_g.z), (.slice p11 A_g.vals.length q12)]), (Iv 1048576), Ud, Ud, Ud, Ud, Ud, Ud, Ud, Ud, Ud, Ud, Ud, Ud, Ud, Ud, Ud, Ud, Ud, Ud, Ud, Ud, Ud, Ud, Ud, Ud, Ud, Ud, Ud, Ud, Ud, Ud, Ud, Ud, Ud, Ud, Ud, Ud, Ud, Ud]) rfl rfl (does_move (u := (Iv 1048576)) (ev rfl)) rfl ?_
  refine seqd rfl rfl (does_call (args := #[(.agg #[(Fl r1), (Fl r3), (Fl r5), (Fl r7), (Iv A_g.x), (Iv A_g.y), (Iv A_g.z), (.slice p11 A_g.vals.length q12)]), (Iv 1048576)]) cal17 (evs rfl) (c_laws_szGrid [(Fl r1), (Fl r3), (Fl r5), (Fl r7), (Iv A_g.x), (Iv A_g.y), (Iv A_g.z), (.slice p11 A_g.vals.length q12)] A_g 1048576 _ ⟨r1, r3, r5, r7, (.slice p11 A_g.vals.length q12), rfl, h2, h4, h6, h8, (Sl.ext hs13 RF.mono X21)⟩ (by omega) (by omega))) ?_; rintro _ w25 ⟨E24, ⟨i26, rfl, h27⟩⟩
  have X28 := Ext.gr X21 E24
  show wpList _ _ _ _ (fr [(.agg #[(Fl r1), (Fl r3), (Fl r5), (Fl r7), (Iv A_g.x), (Iv A_g.y), (Iv A_g.z), (.slice p11 A_g.vals.length q12)]), (Iv x), (Iv y), (Iv z), (Pt b15 0), Ud, Ud, Ud, (Bo false), (Iv 1048576), Ud, Ud, Ud, Ud, Ud, (.agg #[(Fl r1), (Fl r3), (Fl r5), (Fl r7), (Iv A_g.x), (Iv A_g.y), (Iv A_g.z), (.slice p11 A_g.vals.length q12)]), (Iv 1048576), (Iv i26), Ud, Ud, Ud, Ud, Ud, Ud, Ud, Ud, Ud, Ud, Ud, Ud, Ud, Ud, Ud, Ud, Ud, Ud, Ud, Ud, Ud, Ud, Ud, Ud, Ud, Ud, Ud, Ud, Ud, Ud, Ud, Ud, Ud, Ud, Ud, Ud, Ud]) _
  refine q_is (l' := [(.agg #[(Fl r1), (Fl r3), (Fl r5), (Fl r7), (Iv A_g.x), (Iv A_g.y), (Iv A_g.z), (.slice p11 A_g.vals.length q12)]), (Iv x), (Iv y), (Iv z), (Pt b15 0), Ud, Ud, Ud, (Bo false), (Iv i26), Ud, Ud, Ud, Ud, Ud, (.agg #[(Fl r1), (Fl r3), (Fl r5), (Fl r7), (Iv A_g.x), (Iv A_g.y), (Iv A_g.z), (.slice p11 A_g.vals.length q12)]), (Iv 1048576), (Iv i26), Ud, Ud, Ud, Ud, Ud, Ud, Ud, Ud, Ud, Ud, Ud, Ud, Ud, Ud, Ud, Ud, Ud, Ud, Ud, Ud, Ud, Ud, Ud, Ud, Ud, Ud, Ud, Ud, Ud, Ud, Ud, Ud, Ud, Ud, Ud, Ud, Ud]) rfl rfl (does_assign (u := (Iv i26)) (ev rfl)) rfl ?_
  refine wpList_nil (hK23 _ _ ?_)
  refine wp_seq_k fun K29 hK29 => ?_
  refine wp_seq_k fun K30 hK30 => ?_
  refine wp_region_lit ?_
  refine q_is (l' := [(.agg #[(Fl r1), (Fl r3), (Fl r5), (Fl r7), (Iv A_g.x), (Iv A_g.y), (Iv A_g.z), (.slice p11 A_g.vals.length q12)]), (Iv x), (Iv y), (Iv z), (Pt b15 0), Ud, Ud, Ud, (Bo false), (Iv i26), Ud, Ud, Ud, Ud, Ud, (.agg #[(Fl r1), (Fl r3), (Fl r5), (Fl r7), (Iv A_g.x), (Iv A_g.y), (Iv A_g.z), (.slice p11 A_g.vals.length q12)]), (Iv 1048576), (Iv i26), (Iv i26), Ud, Ud, Ud, Ud, Ud, Ud, Ud, Ud, Ud, Ud, Ud, Ud, Ud, Ud, Ud, Ud, Ud, Ud, Ud, Ud, Ud, Ud, Ud, Ud, Ud, Ud, Ud, Ud, Ud, Ud, Ud, Ud, Ud, Ud, Ud, Ud]) rfl rfl (does_move (u := (Iv i26)) (ev rfl)) rfl ?_
  refine q_is (l' := [(.agg #[(Fl r1), (Fl r3), (Fl r5), (Fl r7), (Iv A_g.x), (Iv A_g.y), (Iv A_g.z), (.slice p11 A_g.vals.length q12)]), (Iv x), (Iv y), (Iv z), (Pt b15 0), Ud, Ud, Ud, (Bo false), (Iv i26), Ud, Ud, Ud, Ud, Ud, (.agg #[(Fl r1), (Fl r3), (Fl r5), (Fl r7), (Iv A_g.x), (Iv A_g.y), (Iv A_g.z), (.slice p11 A_g.vals.length q12)]), (Iv 1048576), (Iv i26), (Iv i26), (Bo (icmp .lss i26 0)), Ud, Ud, Ud, Ud, Ud, Ud, Ud, Ud, Ud, Ud, Ud, Ud, Ud, Ud, Ud, Ud, Ud, Ud, Ud, Ud, Ud, Ud, Ud, Ud, Ud, Ud, Ud, Ud, Ud, Ud, Ud, Ud, Ud, Ud, Ud]) rfl rfl (does_icmp (p := i26) (q := 0) (.inr (.inr (.inl rfl))) (ev rfl) (ev rfl)) rfl ?_
  refine wpList_nil (hK30 _ _ ?_)
  refine wp_cond_split (t := icmp .lss i26 0) (ev rfl) (fun c31 => ?_) (fun c31 => ?_)
  · have c31' := c31
    (try simp only [icmp, Bool.and_eq_true, Bool.or_eq_true, Bool.and_eq_false_iff, Bool.or_eq_false_iff, Bool.not_eq_true', Bool.not_eq_false', decide_eq_true_eq, decide_eq_false_iff_not, beq_iff_eq, bne_iff_ne, beq_eq_false_iff_ne, bne_eq_false_iff_eq] at c31')
    refine wp_seq_k fun K32 hK32 => ?_
    refine wp_region_lit ?_
    refine q_is (l' := [(.agg #[(Fl r1), (Fl r3), (Fl r5), (Fl r7), (Iv A_g.x), (Iv A_g.y), (Iv A_g.z), (.slice p11 A_g.vals.length q12)]), (Iv x), (Iv y), (Iv z), (Pt b15 0), Ud, Ud, Ud, (Bo true), (Iv i26), Ud, Ud, Ud, Ud, Ud, (.agg #[(Fl r1), (Fl r3), (Fl r5), (Fl r7), (Iv A_g.x), (Iv A_g.y), (Iv A_g.z), (.slice p11 A_g.vals.length q12)]), (Iv 1048576), (Iv i26), (Iv i26), (Bo (icmp .lss i26 0)), Ud, Ud, Ud, Ud, Ud, Ud, Ud, Ud, Ud, Ud, Ud, Ud, Ud, Ud, Ud, Ud, Ud, Ud, Ud, Ud, Ud, Ud, Ud, Ud, Ud, Ud, Ud, Ud, Ud, Ud, Ud, Ud, Ud, Ud, Ud]) rfl rfl (does_assign (u := (Bo true)) (ev rfl)) rfl ?_
    refine wpList_nil (hK32 _ _ ?_)
    refine wp_ret ?_
    dsimp only [Exit.then, Exit.inBlock]
    refine ret_val (v := (Bo true)) (res_T rfl (slot rfl)) X28 ?_
    try simp only [h2, h4, h6, h8] at c31
    exact rfl
  have c31' := c31
  (try simp only [icmp, Bool.and_eq_true, Bool.or_eq_true, Bool.and_eq_false_iff, Bool.or_eq_false_iff, Bool.not_eq_true', Bool.not_eq_false', decide_eq_true_eq, decide_eq_false_iff_not, beq_iff_eq, bne_iff_ne, beq_eq_false_iff_ne, bne_eq_false_iff_eq] at c31')
  refine wp_skip (hK29 _ _ ?_)
  refine wp_seq_k fun K33 hK33 => ?_
  refine wp_region_lit ?_
  refine q_is (l' := [(.agg #[(Fl r1), (Fl r3), (Fl r5), (Fl r7), (Iv A_g.x), (Iv A_g.y), (Iv A_g.z), (.slice p11 A_g.vals.length q12)]), (Iv x), (Iv y), (Iv z), (Pt b15 0), Ud, Ud, Ud, (Bo false), (Iv i26), Ud, Ud, Ud, Ud, Ud, (.agg #[(Fl r1), (Fl r3), (Fl r5), (Fl r7), (Iv A_g.x), (Iv A_g.y), (Iv A_g.z), (.slice p11 A_g.vals.length q12)]), (Iv 1048576), (Iv i26), (Iv i26), (Bo (icmp .lss i26 0)), Ud, (.agg #[(Fl r1), (Fl r3), (Fl r5), (Fl r7), (Iv A_g.x), (Iv A_g.y), (Iv A_g.z), (.slice p11 A_g.vals.length q12)]), Ud, Ud, Ud, Ud, Ud, Ud, Ud, Ud, Ud, Ud, Ud, Ud, Ud, Ud, Ud, Ud, Ud, Ud, Ud, Ud, Ud, Ud, Ud, Ud, Ud, Ud, Ud, Ud, Ud, Ud, Ud, Ud, Ud]) rfl rfl (does_loadAgg (cs := [(Fl r1), (Fl r3), (Fl r5), (Fl r7), (Iv A_g.x), (Iv A_g.y), (Iv A_g.z), (.slice p11 A_g.vals.length q12)]) (ev rfl) Try.isAgg27 Try.sizeOf27 (Blk.cells (hB17.ext E24)) rfl) rfl ?_
  refine seqd rfl rfl (does_call (args := #[(.agg #[(Fl r1), (Fl r3), (Fl r5), (Fl r7), (Iv A_g.x), (Iv A_g.y), (Iv A_g.z), (.slice p11 A_g.vals.length q12)])]) cal19 (evs rfl) (c_laws_toGrid [(Fl r1), (Fl r3), (Fl r5), (Fl r7), (Iv A_g.x), (Iv A_g.y), (Iv A_g.z), (.slice p11 A_g.vals.length q12)] A_g _ ⟨r1, r3, r5, r7, (.slice p11 A_g.vals.length q12), rfl, h2, h4, h6, h8, (Sl.ext hs13 RF.mono X28)⟩ (by omega))) ?_; rintro _ w35 ⟨E34, ⟨cs37, rfl, hh36⟩⟩
  have X38 := Ext.gr X28 E34
  have n39 : b15 < w25.heap.size := Blk.lt (hB17.ext E24)
  obtain ⟨r40, r42, r44, r46, y48, rfl, h41, h43, h45, h47, h49⟩ := hh36.get
  have h49l := Sl.len h49; obtain ⟨p50, q51, rfl⟩ := Sl.shape h49
  have hh52 : Hang w25.heap.size w35 (fun u => Sl RF 1 u (.slice p50 A_g.vals.length q51) A_g.vals) := fun u hu => by obtain ⟨_, _, _, _, _, hq, _, _, _, _, _⟩ := hh36 u hu; cases hq; assumption
  show wpList _ _ _ _ (fr [(.agg #[(Fl r1), (Fl r3), (Fl r5), (Fl r7), (Iv A_g.x), (Iv A_g.y), (Iv A_g.z), (.slice p11 A_g.vals.length q12)]), (Iv x), (Iv y), (Iv z), (Pt b15 0), Ud, Ud, Ud, (Bo false), (Iv i26), Ud, Ud, Ud, Ud, Ud, (.agg #[(Fl r1), (Fl r3), (Fl r5), (Fl r7), (Iv A_g.x), (Iv A_g.y), (Iv A_g.z), (.slice p11 A_g.vals.length q12)]), (Iv 1048576), (Iv i26), (Iv i26), (Bo (icmp .lss i26 0)), Ud, (.agg #[(Fl r1), (Fl r3), (Fl r5), (Fl r7), (Iv A_g.x), (Iv A_g.y), (Iv A_g.z), (.slice p11 A_g.vals.length q12)]), (.agg #[(Fl r40), (Fl r42), (Fl r44), (Fl r46), (Iv A_g.x), (Iv A_g.y), (Iv A_g.z), (.slice p50 A_g.vals.length q51)]), Ud, Ud, Ud, Ud, Ud, Ud, Ud, Ud, Ud, Ud, Ud, Ud, Ud, Ud, Ud, Ud, Ud, Ud, Ud, Ud, Ud, Ud, Ud, Ud, Ud, Ud, Ud, Ud, Ud, Ud, Ud, Ud]) _
  refine q_is (l' := [(.agg #[(Fl r1), (Fl r3), (Fl r5), (Fl r7), (Iv A_g.x), (Iv A_g.y), (Iv A_g.z), (.slice p11 A_g.vals.length q12)]), (Iv x), (Iv y), (Iv z), (Pt b15 0), Ud, Ud, Ud, (Bo false), (Iv i26), Ud, Ud, Ud, Ud, Ud, (.agg #[(Fl r1), (Fl r3), (Fl r5), (Fl r7), (Iv A_g.x), (Iv A_g.y), (Iv A_g.z), (.slice p11 A_g.vals.length q12)]), (Iv 1048576), (Iv i26), (Iv i26), (Bo (icmp .lss i26 0)), Ud, (.agg #[(Fl r1), (Fl r3), (Fl r5), (Fl r7), (Iv A_g.x), (Iv A_g.y), (Iv A_g.z), (.slice p11 A_g.vals.length q12)]), (.agg #[(Fl r40), (Fl r42), (Fl r44), (Fl r46), (Iv A_g.x), (Iv A_g.y), (Iv A_g.z), (.slice p50 A_g.vals.length q51)]), (Iv x), Ud, Ud, Ud, Ud, Ud, Ud, Ud, Ud, Ud, Ud, Ud, Ud, Ud, Ud, Ud, Ud, Ud, Ud, Ud, Ud, Ud, Ud, Ud, Ud, Ud, Ud, Ud, Ud, Ud, Ud, Ud]) rfl rfl (does_move (u := (Iv x)) (ev rfl)) rfl ?_
  refine q_is (l' := [(.agg #[(Fl r1), (Fl r3), (Fl r5), (Fl r7), (Iv A_g.x), (Iv A_g.y), (Iv A_g.z), (.slice p11 A_g.vals.length q12)]), (Iv x), (Iv y), (Iv z), (Pt b15 0), Ud, Ud, Ud, (Bo false), (Iv i26), Ud, Ud, Ud, Ud, Ud, (.agg #[(Fl r1), (Fl r3), (Fl r5), (Fl r7), (Iv A_g.x), (Iv A_g.y), (Iv A_g.z), (.slice p11 A_g.vals.length q12)]), (Iv 1048576), (Iv i26), (Iv i26), (Bo (icmp .lss i26 0)), Ud, (.agg #[(Fl r1), (Fl r3), (Fl r5), (Fl r7), (Iv A_g.x), (Iv A_g.y), (Iv A_g.z), (.slice p11 A_g.vals.length q12)]), (.agg #[(Fl r40), (Fl r42), (Fl r44), (Fl r46), (Iv A_g.x), (Iv A_g.y), (Iv A_g.z), (.slice p50 A_g.vals.length q51)]), (Iv x), (Iv y), Ud, Ud, Ud, Ud, Ud, Ud, Ud, Ud, Ud, Ud, Ud, Ud, Ud, Ud, Ud, Ud, Ud, Ud, Ud, Ud, Ud, Ud, Ud, Ud, Ud, Ud, Ud, Ud, Ud, Ud]) rfl rfl (does_move (u := (Iv y)) (ev rfl)) rfl ?_
  refine q_is (l' := [(.agg #[(Fl r1), (Fl r3), (Fl r5), (Fl r7), (Iv A_g.x), (Iv A_g.y), (Iv A_g.z), (.slice p11 A_g.vals.length q12)]), (Iv x), (Iv y), (Iv z), (Pt b15 0), Ud, Ud, Ud, (Bo false), (Iv i26), Ud, Ud, Ud, Ud, Ud, (.agg #[(Fl r1), (Fl r3), (Fl r5), (Fl r7), (Iv A_g.x), (Iv A_g.y), (Iv A_g.z), (.slice p11 A_g.vals.length q12)]), (Iv 1048576), (Iv i26), (Iv i26), (Bo (icmp .lss i26 0)), Ud, (.agg #[(Fl r1), (Fl r3), (Fl r5), (Fl r7), (Iv A_g.x), (Iv A_g.y), (Iv A_g.z), (.slice p11 A_g.vals.length q12)]), (.agg #[(Fl r40), (Fl r42), (Fl r44), (Fl r46), (Iv A_g.x), (Iv A_g.y), (Iv A_g.z), (.slice p50 A_g.vals.length q51)]), (Iv x), (Iv y), (Iv z), Ud, Ud, Ud, Ud, Ud, Ud, Ud, Ud, Ud, Ud, Ud, Ud, Ud, Ud, Ud, Ud, Ud, Ud, Ud, Ud, Ud, Ud, Ud, Ud, Ud, Ud, Ud, Ud, Ud]) rfl rfl (does_move (u := (Iv z)) (ev rfl)) rfl ?_
  refine seqd rfl rfl (does_call (args := #[(.agg #[(Fl r40), (Fl r42), (Fl r44), (Fl r46), (Iv A_g.x), (Iv A_g.y), (Iv A_g.z), (.slice p50 A_g.vals.length q51)]), (Iv x), (Iv y), (Iv z)]) cal22 (evs rfl) (c_spec_GridValue [(Fl r40), (Fl r42), (Fl r44), (Fl r46), (Iv A_g.x), (Iv A_g.y), (Iv A_g.z), (.slice p50 A_g.vals.length q51)] A_g x y z _ ⟨r40, r42, r44, r46, (.slice p50 A_g.vals.length q51), rfl, h41, h43, h45, h47, hh52.get⟩)) ?_; rintro _ w54 ⟨E53, ⟨r55, rfl, h56⟩⟩
  have X57 := Ext.gr X38 E53
  show wpList _ _ _ _ (fr [(.agg #[(Fl r1), (Fl r3), (Fl r5), (Fl r7), (Iv A_g.x), (Iv A_g.y), (Iv A_g.z), (.slice p11 A_g.vals.length q12)]), (Iv x), (Iv y), (Iv z), (Pt b15 0), Ud, Ud, Ud, (Bo false), (Iv i26), Ud, Ud, Ud, Ud, Ud, (.agg #[(Fl r1), (Fl r3), (Fl r5), (Fl r7), (Iv A_g.x), (Iv A_g.y), (Iv A_g.z), (.slice p11 A_g.vals.length q12)]), (Iv 1048576), (Iv i26), (Iv i26), (Bo (icmp .lss i26 0)), Ud, (.agg #[(Fl r1), (Fl r3), (Fl r5), (Fl r7), (Iv A_g.x), (Iv A_g.y), (Iv A_g.z), (.slice p11 A_g.vals.length q12)]), (.agg #[(Fl r40), (Fl r42), (Fl r44), (Fl r46), (Iv A_g.x), (Iv A_g.y), (Iv A_g.z), (.slice p50 A_g.vals.length q51)]), (Iv x), (Iv y), (Iv z), (.tuple #[(Fl r55), (Bo (hasOk A_g x y z))]), Ud, Ud, Ud, Ud, Ud, Ud, Ud, Ud, Ud, Ud, Ud, Ud, Ud, Ud, Ud, Ud, Ud, Ud, Ud, Ud, Ud, Ud, Ud, Ud, Ud, Ud, Ud, Ud]) _
  refine q_is (l' := [(.agg #[(Fl r1), (Fl r3), (Fl r5), (Fl r7), (Iv A_g.x), (Iv A_g.y), (Iv A_g.z), (.slice p11 A_g.vals.length q12)]), (Iv x), (Iv y), (Iv z), (Pt b15 0), Ud, Ud, Ud, (Bo false), (Iv i26), Ud, Ud, Ud, Ud, Ud, (.agg #[(Fl r1), (Fl r3), (Fl r5), (Fl r7), (Iv A_g.x), (Iv A_g.y), (Iv A_g.z), (.slice p11 A_g.vals.length q12)]), (Iv 1048576), (Iv i26), (Iv i26), (Bo (icmp .lss i26 0)), (.tuple #[(Fl r55), (Bo (hasOk A_g x y z))]), (.agg #[(Fl r1), (Fl r3), (Fl r5), (Fl r7), (Iv A_g.x), (Iv A_g.y), (Iv A_g.z), (.slice p11 A_g.vals.length q12)]), (.agg #[(Fl r40), (Fl r42), (Fl r44), (Fl r46), (Iv A_g.x), (Iv A_g.y), (Iv A_g.z), (.slice p50 A_g.vals.length q51)]), (Iv x), (Iv y), (Iv z), (.tuple #[(Fl r55), (Bo (hasOk A_g x y z))]), Ud, Ud, Ud, Ud, Ud, Ud, Ud, Ud, Ud, Ud, Ud, Ud, Ud, Ud, Ud, Ud, Ud, Ud, Ud, Ud, Ud, Ud, Ud, Ud, Ud, Ud, Ud, Ud]) rfl rfl (does_move (u := (.tuple #[(Fl r55), (Bo (hasOk A_g x y z))])) (ev rfl)) rfl ?_
  refine q_is (l' := [(.agg #[(Fl r1), (Fl r3), (Fl r5), (Fl r7), (Iv A_g.x), (Iv A_g.y), (Iv A_g.z), (.slice p11 A_g.vals.length q12)]), (Iv x), (Iv y), (Iv z), (Pt b15 0), Ud, Ud, Ud, (Bo false), (Iv i26), Ud, Ud, Ud, Ud, Ud, (.agg #[(Fl r1), (Fl r3), (Fl r5), (Fl r7), (Iv A_g.x), (Iv A_g.y), (Iv A_g.z), (.slice p11 A_g.vals.length q12)]), (Iv 1048576), (Iv i26), (Iv i26), (Bo (icmp .lss i26 0)), (.tuple #[(Fl r55), (Bo (hasOk A_g x y z))]), (.agg #[(Fl r1), (Fl r3), (Fl r5), (Fl r7), (Iv A_g.x), (Iv A_g.y), (Iv A_g.z), (.slice p11 A_g.vals.length q12)]), (.agg #[(Fl r40), (Fl r42), (Fl r44), (Fl r46), (Iv A_g.x), (Iv A_g.y), (Iv A_g.z), (.slice p50 A_g.vals.length q51)]), (Iv x), (Iv y), (Iv z), (.tuple #[(Fl r55), (Bo (hasOk A_g x y z))]), (Fl r55), Ud, Ud, Ud, Ud, Ud, Ud, Ud, Ud, Ud, Ud, Ud, Ud, Ud, Ud, Ud, Ud, Ud, Ud, Ud, Ud, Ud, Ud, Ud, Ud, Ud, Ud, Ud]) rfl rfl (does_extract (vs := #[(Fl r55), (Bo (hasOk A_g x y z))]) (u := (Fl r55)) (ev rfl) rfl) rfl ?_
  refine q_is (l' := [(.agg #[(Fl r1), (Fl r3), (Fl r5), (Fl r7), (Iv A_g.x), (Iv A_g.y), (Iv A_g.z), (.slice p11 A_g.vals.length q12)]), (Iv x), (Iv y), (Iv z), (Pt b15 0), Ud, Ud, Ud, (Bo false), (Iv i26), Ud, Ud, Ud, Ud, Ud, (.agg #[(Fl r1), (Fl r3), (Fl r5), (Fl r7), (Iv A_g.x), (Iv A_g.y), (Iv A_g.z), (.slice p11 A_g.vals.length q12)]), (Iv 1048576), (Iv i26), (Iv i26), (Bo (icmp .lss i26 0)), (.tuple #[(Fl r55), (Bo (hasOk A_g x y z))]), (.agg #[(Fl r1), (Fl r3), (Fl r5), (Fl r7), (Iv A_g.x), (Iv A_g.y), (Iv A_g.z), (.slice p11 A_g.vals.length q12)]), (.agg #[(Fl r40), (Fl r42), (Fl r44), (Fl r46), (Iv A_g.x), (Iv A_g.y), (Iv A_g.z), (.slice p50 A_g.vals.length q51)]), (Iv x), (Iv y), (Iv z), (.tuple #[(Fl r55), (Bo (hasOk A_g x y z))]), (Fl r55), (Bo (hasOk A_g x y z)), Ud, Ud, Ud, Ud, Ud, Ud, Ud, Ud, Ud, Ud, Ud, Ud, Ud, Ud, Ud, Ud, Ud, Ud, Ud, Ud, Ud, Ud, Ud, Ud, Ud, Ud]) rfl rfl (does_extract (vs := #[(Fl r55), (Bo (hasOk A_g x y z))]) (u := (Bo (hasOk A_g x y z))) (ev rfl) rfl) rfl ?_
  refine q_is (l' := [(.agg #[(Fl r1), (Fl r3), (Fl r5), (Fl r7), (Iv A_g.x), (Iv A_g.y), (Iv A_g.z), (.slice p11 A_g.vals.length q12)]), (Iv x), (Iv y), (Iv z), (Pt b15 0), Ud, Ud, Ud, (Bo false), (Iv i26), (Fl r55), Ud, Ud, Ud, Ud, (.agg #[(Fl r1), (Fl r3), (Fl r5), (Fl r7), (Iv A_g.x), (Iv A_g.y), (Iv A_g.z), (.slice p11 A_g.vals.length q12)]), (Iv 1048576), (Iv i26), (Iv i26), (Bo (icmp .lss i26 0)), (.tuple #[(Fl r55), (Bo (hasOk A_g x y z))]), (.agg #[(Fl r1), (Fl r3), (Fl r5), (Fl r7), (Iv A_g.x), (Iv A_g.y), (Iv A_g.z), (.slice p11 A_g.vals.length q12)]), (.agg #[(Fl r40), (Fl r42), (Fl r44), (Fl r46), (Iv A_g.x), (Iv A_g.y), (Iv A_g.z), (.slice p50 A_g.vals.length q51)]), (Iv x), (Iv y), (Iv z), (.tuple #[(Fl r55), (Bo (hasOk A_g x y z))]), (Fl r55), (Bo (hasOk A_g x y z)), Ud, Ud, Ud, Ud, Ud, Ud, Ud, Ud, Ud, Ud, Ud, Ud, Ud, Ud, Ud, Ud, Ud, Ud, Ud, Ud, Ud, Ud, Ud, Ud, Ud, Ud]) rfl rfl (does_assign (u := (Fl r55)) (ev rfl)) rfl ?_
  refine q_is (l' := [(.agg #[(Fl r1), (Fl r3), (Fl r5), (Fl r7), (Iv A_g.x), (Iv A_g.y), (Iv A_g.z), (.slice p11 A_g.vals.length q12)]), (Iv x), (Iv y), (Iv z), (Pt b15 0), Ud, Ud, Ud, (Bo false), (Iv i26), (Fl r55), (Bo (hasOk A_g x y z)), Ud, Ud, Ud, (.agg #[(Fl r1), (Fl r3), (Fl r5), (Fl r7), (Iv A_g.x), (Iv A_g.y), (Iv A_g.z), (.slice p11 A_g.vals.length q12)]), (Iv 1048576), (Iv i26), (Iv i26), (Bo (icmp .lss i26 0)), (.tuple #[(Fl r55), (Bo (hasOk A_g x y z))]), (.agg #[(Fl r1), (Fl r3), (Fl r5), (Fl r7), (Iv A_g.x), (Iv A_g.y), (Iv A_g.z), (.slice p11 A_g.vals.length q12)]), (.agg #[(Fl r40), (Fl r42), (Fl r44), (Fl r46), (Iv A_g.x), (Iv A_g.y), (Iv A_g.z), (.slice p50 A_g.vals.length q51)]), (Iv x), (Iv y), (Iv z), (.tuple #[(Fl r55), (Bo (hasOk A_g x y z))]), (Fl r55), (Bo (hasOk A_g x y z)), Ud, Ud, Ud, Ud, Ud, Ud, Ud, Ud, Ud, Ud, Ud, Ud, Ud, Ud, Ud, Ud, Ud, Ud, Ud, Ud, Ud, Ud, Ud, Ud, Ud, Ud]) rfl rfl (does_assign (u := (Bo (hasOk A_g x y z))) (ev rfl)) rfl ?_
  refine wpList_nil (hK33 _ _ ?_)
  refine wp_seq_k fun K58 hK58 => ?_
  refine wp_region_lit ?_
  refine q_is (l' := [(.agg #[(Fl r1), (Fl r3), (Fl r5), (Fl r7), (Iv A_g.x), (Iv A_g.y), (Iv A_g.z), (.slice p11 A_g.vals.length q12)]), (Iv x), (Iv y), (Iv z), (Pt b15 0), Ud, Ud, Ud, (Bo false), (Iv i26), (Fl r55), (Bo (hasOk A_g x y z)), Ud, Ud, Ud, (.agg #[(Fl r1), (Fl r3), (Fl r5), (Fl r7), (Iv A_g.x), (Iv A_g.y), (Iv A_g.z), (.slice p11 A_g.vals.length q12)]), (Iv 1048576), (Iv i26), (Iv i26), (Bo (icmp .lss i26 0)), (.tuple #[(Fl r55), (Bo (hasOk A_g x y z))]), (.agg #[(Fl r1), (Fl r3), (Fl r5), (Fl r7), (Iv A_g.x), (Iv A_g.y), (Iv A_g.z), (.slice p11 A_g.vals.length q12)]), (.agg #[(Fl r40), (Fl r42), (Fl r44), (Fl r46), (Iv A_g.x), (Iv A_g.y), (Iv A_g.z), (.slice p50 A_g.vals.length q51)]), (Iv x), (Iv y), (Iv z), (.tuple #[(Fl r55), (Bo (hasOk A_g x y z))]), (Fl r55), (Bo (hasOk A_g x y z)), (.agg #[(Fl r1), (Fl r3), (Fl r5), (Fl r7), (Iv A_g.x), (Iv A_g.y), (Iv A_g.z), (.slice p11 A_g.vals.length q12)]), Ud, Ud, Ud, Ud, Ud, Ud, Ud, Ud, Ud, Ud, Ud, Ud, Ud, Ud, Ud, Ud, Ud, Ud, Ud, Ud, Ud, Ud, Ud, Ud, Ud]) rfl rfl (does_loadAgg (cs := [(Fl r1), (Fl r3), (Fl r5), (Fl r7), (Iv A_g.x), (Iv A_g.y), (Iv A_g.z), (.slice p11 A_g.vals.length q12)]) (ev rfl) Try.isAgg27 Try.sizeOf27 (Blk.cells (((hB17.ext E24).ext E34).ext E53)) rfl) rfl ?_
  refine seqd rfl rfl (does_call (args := #[(.agg #[(Fl r1), (Fl r3), (Fl r5), (Fl r7), (Iv A_g.x), (Iv A_g.y), (Iv A_g.z), (.slice p11 A_g.vals.length q12)])]) cal19 (evs rfl) (c_laws_toGrid [(Fl r1), (Fl r3), (Fl r5), (Fl r7), (Iv A_g.x), (Iv A_g.y), (Iv A_g.z), (.slice p11 A_g.vals.length q12)] A_g _ ⟨r1, r3, r5, r7, (.slice p11 A_g.vals.length q12), rfl, h2, h4, h6, h8, (Sl.ext hs13 RF.mono X57)⟩ (by omega))) ?_; rintro _ w60 ⟨E59, ⟨cs62, rfl, hh61⟩⟩
  have X63 := Ext.gr X57 E59
  have n64 : b15 < w54.heap.size := Blk.lt (((hB17.ext E24).ext E34).ext E53)
  obtain ⟨r65, r67, r69, r71, y73, rfl, h66, h68, h70, h72, h74⟩ := hh61.get
  have h74l := Sl.len h74; obtain ⟨p75, q76, rfl⟩ := Sl.shape h74
  have hh77 : Hang w54.heap.size w60 (fun u => Sl RF 1 u (.slice p75 A_g.vals.length q76) A_g.vals) := fun u hu => by obtain ⟨_, _, _, _, _, hq, _, _, _, _, _⟩ := hh61 u hu; cases hq; assumption
  show wpList _ _ _ _ (fr [(.agg #[(Fl r1), (Fl r3), (Fl r5), (Fl r7), (Iv A_g.x), (Iv A_g.y), (Iv A_g.z), (.slice p11 A_g.vals.length q12)]), (Iv x), (Iv y), (Iv z), (Pt b15 0), Ud, Ud, Ud, (Bo false), (Iv i26), (Fl r55), (Bo (hasOk A_g x y z)), Ud, Ud, Ud, (.agg #[(Fl r1), (Fl r3), (Fl r5), (Fl r7), (Iv A_g.x), (Iv A_g.y), (Iv A_g.z), (.slice p11 A_g.vals.length q12)]), (Iv 1048576), (Iv i26), (Iv i26), (Bo (icmp .lss i26 0)), (.tuple #[(Fl r55), (Bo (hasOk A_g x y z))]), (.agg #[(Fl r1), (Fl r3), (Fl r5), (Fl r7), (Iv A_g.x), (Iv A_g.y), (Iv A_g.z), (.slice p11 A_g.vals.length q12)]), (.agg #[(Fl r40), (Fl r42), (Fl r44), (Fl r46), (Iv A_g.x), (Iv A_g.y), (Iv A_g.z), (.slice p50 A_g.vals.length q51)]), (Iv x), (Iv y), (Iv z), (.tuple #[(Fl r55), (Bo (hasOk A_g x y z))]), (Fl r55), (Bo (hasOk A_g x y z)), (.agg #[(Fl r1), (Fl r3), (Fl r5), (Fl r7), (Iv A_g.x), (Iv A_g.y), (Iv A_g.z), (.slice p11 A_g.vals.length q12)]), (.agg #[(Fl r65), (Fl r67), (Fl r69), (Fl r71), (Iv A_g.x), (Iv A_g.y), (Iv A_g.z), (.slice p75 A_g.vals.length q76)]), Ud, Ud, Ud, Ud, Ud, Ud, Ud, Ud, Ud, Ud, Ud, Ud, Ud, Ud, Ud, Ud, Ud, Ud, Ud, Ud, Ud, Ud, Ud, Ud]) _
  refine seqd rfl rfl (does_alloc z32) ?_; rintro _ w82 ⟨b78, rfl, hb79, hB80, E81⟩
  have n83 : b15 < b78 := Nat.lt_of_lt_of_le (Blk.lt ((((hB17.ext E24).ext E34).ext E53).ext E59)) hb79
  have g84 : w.heap.size ≤ b78 := Nat.le_trans (Below.size X63) hb79
  change Blk _ _ [(Fl 0), (Fl 0), (Fl 0), (Fl 0), (Iv 0), (Iv 0), (Iv 0), (.slice none 0 0)] at hB80
  have X85 := Ext.gr X63 E81
  show wpList _ _ _ _ (fr [(.agg #[(Fl r1), (Fl r3), (Fl r5), (Fl r7), (Iv A_g.x), (Iv A_g.y), (Iv A_g.z), (.slice p11 A_g.vals.length q12)]), (Iv x), (Iv y), (Iv z), (Pt b15 0), Ud, Ud, Ud, (Bo false), (Iv i26), (Fl r55), (Bo (hasOk A_g x y z)), (Pt b78 0), Ud, Ud, (.agg #[(Fl r1), (Fl r3), (Fl r5), (Fl r7), (Iv A_g.x), (Iv A_g.y), (Iv A_g.z), (.slice p11 A_g.vals.length q12)]), (Iv 1048576), (Iv i26), (Iv i26), (Bo (icmp .lss i26 0)), (.tuple #[(Fl r55), (Bo (hasOk A_g x y z))]), (.agg #[(Fl r1), (Fl r3), (Fl r5), (Fl r7), (Iv A_g.x), (Iv A_g.y), (Iv A_g.z), (.slice p11 A_g.vals.length q12)]), (.agg #[(Fl r40), (Fl r42), (Fl r44), (Fl r46), (Iv A_g.x), (Iv A_g.y), (Iv A_g.z), (.slice p50 A_g.vals.length q51)]), (Iv x), (Iv y), (Iv z), (.tuple #[(Fl r55), (Bo (hasOk A_g x y z))]), (Fl r55), (Bo (hasOk A_g x y z)), (.agg #[(Fl r1), (Fl r3), (Fl r5), (Fl r7), (Iv A_g.x), (Iv A_g.y), (Iv A_g.z), (.slice p11 A_g.vals.length q12)]), (.agg #[(Fl r65), (Fl r67), (Fl r69), (Fl r71), (Iv A_g.x), (Iv A_g.y), (Iv A_g.z), (.slice p75 A_g.vals.length q76)]), Ud, Ud, Ud, Ud, Ud, Ud, Ud, Ud, Ud, Ud, Ud, Ud, Ud, Ud, Ud, Ud, Ud, Ud, Ud, Ud, Ud, Ud, Ud, Ud]) _
  refine seqn rfl rfl (does_store (n := 8) (cs := [(Fl 0), (Fl 0), (Fl 0), (Fl 0), (Iv 0), (Iv 0), (Iv 0), (.slice none 0 0)]) (u := (.agg #[(Fl r65), (Fl r67), (Fl r69), (Fl r71), (Iv A_g.x), (Iv A_g.y), (Iv A_g.z), (.slice p75 A_g.vals.length q76)])) (ev rfl) (ev rfl) Try.sizeOf32 rfl hB80 (Nat.le_of_ble_eq_true rfl) rfl) ?_; rintro _ w88 ⟨rfl, W86, hB87⟩
  change Blk _ _ [(Fl r65), (Fl r67), (Fl r69), (Fl r71), (Iv A_g.x), (Iv A_g.y), (Iv A_g.z), (.slice p75 A_g.vals.length q76)] at hB87
  have X89 := Below.wr X85 W86 g84
  refine wpList_nil (hK58 _ _ ?_)
  refine wp_seq_k fun K90 hK90 => ?_
  refine wp_region_lit ?_
  refine q_is (l' := [(.agg #[(Fl r1), (Fl r3), (Fl r5), (Fl r7), (Iv A_g.x), (Iv A_g.y), (Iv A_g.z), (.slice p11 A_g.vals.length q12)]), (Iv x), (Iv y), (Iv z), (Pt b15 0), Ud, Ud, Ud, (Bo false), (Iv i26), (Fl r55), (Bo (hasOk A_g x y z)), (Pt b78 0), Ud, Ud, (.agg #[(Fl r1), (Fl r3), (Fl r5), (Fl r7), (Iv A_g.x), (Iv A_g.y), (Iv A_g.z), (.slice p11 A_g.vals.length q12)]), (Iv 1048576), (Iv i26), (Iv i26), (Bo (icmp .lss i26 0)), (.tuple #[(Fl r55), (Bo (hasOk A_g x y z))]), (.agg #[(Fl r1), (Fl r3), (Fl r5), (Fl r7), (Iv A_g.x), (Iv A_g.y), (Iv A_g.z), (.slice p11 A_g.vals.length q12)]), (.agg #[(Fl r40), (Fl r42), (Fl r44), (Fl r46), (Iv A_g.x), (Iv A_g.y), (Iv A_g.z), (.slice p50 A_g.vals.length q51)]), (Iv x), (Iv y), (Iv z), (.tuple #[(Fl r55), (Bo (hasOk A_g x y z))]), (Fl r55), (Bo (hasOk A_g x y z)), (.agg #[(Fl r1), (Fl r3), (Fl r5), (Fl r7), (Iv A_g.x), (Iv A_g.y), (Iv A_g.z), (.slice p11 A_g.vals.length q12)]), (.agg #[(Fl r65), (Fl r67), (Fl r69), (Fl r71), (Iv A_g.x), (Iv A_g.y), (Iv A_g.z), (.slice p75 A_g.vals.length q76)]), Ud, (.agg #[(Fl r65), (Fl r67), (Fl r69), (Fl r71), (Iv A_g.x), (Iv A_g.y), (Iv A_g.z), (.slice p75 A_g.vals.length q76)]), Ud, Ud, Ud, Ud, Ud, Ud, Ud, Ud, Ud, Ud, Ud, Ud, Ud, Ud, Ud, Ud, Ud, Ud, Ud, Ud, Ud, Ud]) rfl rfl (does_loadAgg (cs := [(Fl r65), (Fl r67), (Fl r69), (Fl r71), (Iv A_g.x), (Iv A_g.y), (Iv A_g.z), (.slice p75 A_g.vals.length q76)]) (ev rfl) Try.isAgg32 Try.sizeOf32 (Blk.cells hB87) rfl) rfl ?_
  refine q_is (l' := [(.agg #[(Fl r1), (Fl r3), (Fl r5), (Fl r7), (Iv A_g.x), (Iv A_g.y), (Iv A_g.z), (.slice p11 A_g.vals.length q12)]), (Iv x), (Iv y), (Iv z), (Pt b15 0), Ud, Ud, Ud, (Bo false), (Iv i26), (Fl r55), (Bo (hasOk A_g x y z)), (Pt b78 0), Ud, Ud, (.agg #[(Fl r1), (Fl r3), (Fl r5), (Fl r7), (Iv A_g.x), (Iv A_g.y), (Iv A_g.z), (.slice p11 A_g.vals.length q12)]), (Iv 1048576), (Iv i26), (Iv i26), (Bo (icmp .lss i26 0)), (.tuple #[(Fl r55), (Bo (hasOk A_g x y z))]), (.agg #[(Fl r1), (Fl r3), (Fl r5), (Fl r7), (Iv A_g.x), (Iv A_g.y), (Iv A_g.z), (.slice p11 A_g.vals.length q12)]), (.agg #[(Fl r40), (Fl r42), (Fl r44), (Fl r46), (Iv A_g.x), (Iv A_g.y), (Iv A_g.z), (.slice p50 A_g.vals.length q51)]), (Iv x), (Iv y), (Iv z), (.tuple #[(Fl r55), (Bo (hasOk A_g x y z))]), (Fl r55), (Bo (hasOk A_g x y z)), (.agg #[(Fl r1), (Fl r3), (Fl r5), (Fl r7), (Iv A_g.x), (Iv A_g.y), (Iv A_g.z), (.slice p11 A_g.vals.length q12)]), (.agg #[(Fl r65), (Fl r67), (Fl r69), (Fl r71), (Iv A_g.x), (Iv A_g.y), (Iv A_g.z), (.slice p75 A_g.vals.length q76)]), Ud, (.agg #[(Fl r65), (Fl r67), (Fl r69), (Fl r71), (Iv A_g.x), (Iv A_g.y), (Iv A_g.z), (.slice p75 A_g.vals.length q76)]), (Iv x), Ud, Ud, Ud, Ud, Ud, Ud, Ud, Ud, Ud, Ud, Ud, Ud, Ud, Ud, Ud, Ud, Ud, Ud, Ud, Ud, Ud]) rfl rfl (does_move (u := (Iv x)) (ev rfl)) rfl ?_
  refine q_is (l' := [(.agg #[(Fl r1), (Fl r3), (Fl r5), (Fl r7), (Iv A_g.x), (Iv A_g.y), (Iv A_g.z), (.slice p11 A_g.vals.length q12)]), (Iv x), (Iv y), (Iv z), (Pt b15 0), Ud, Ud, Ud, (Bo false), (Iv i26), (Fl r55), (Bo (hasOk A_g x y z)), (Pt b78 0), Ud, Ud, (.agg #[(Fl r1), (Fl r3), (Fl r5), (Fl r7), (Iv A_g.x), (Iv A_g.y), (Iv A_g.z), (.slice p11 A_g.vals.length q12)]), (Iv 1048576), (Iv i26), (Iv i26), (Bo (icmp .lss i26 0)), (.tuple #[(Fl r55), (Bo (hasOk A_g x y z))]), (.agg #[(Fl r1), (Fl r3), (Fl r5), (Fl r7), (Iv A_g.x), (Iv A_g.y), (Iv A_g.z), (.slice p11 A_g.vals.length q12)]), (.agg #[(Fl r40), (Fl r42), (Fl r44), (Fl r46), (Iv A_g.x), (Iv A_g.y), (Iv A_g.z), (.slice p50 A_g.vals.length q51)]), (Iv x), (Iv y), (Iv z), (.tuple #[(Fl r55), (Bo (hasOk A_g x y z))]), (Fl r55), (Bo (hasOk A_g x y z)), (.agg #[(Fl r1), (Fl r3), (Fl r5), (Fl r7), (Iv A_g.x), (Iv A_g.y), (Iv A_g.z), (.slice p11 A_g.vals.length q12)]), (.agg #[(Fl r65), (Fl r67), (Fl r69), (Fl r71), (Iv A_g.x), (Iv A_g.y), (Iv A_g.z), (.slice p75 A_g.vals.length q76)]), Ud, (.agg #[(Fl r65), (Fl r67), (Fl r69), (Fl r71), (Iv A_g.x), (Iv A_g.y), (Iv A_g.z), (.slice p75 A_g.vals.length q76)]), (Iv x), (Iv y), Ud, Ud, Ud, Ud, Ud, Ud, Ud, Ud, Ud, Ud, Ud, Ud, Ud, Ud, Ud, Ud, Ud, Ud, Ud, Ud]) rfl rfl (does_move (u := (Iv y)) (ev rfl)) rfl ?_
  refine q_is (l' := [(.agg #[(Fl r1), (Fl r3), (Fl r5), (Fl r7), (Iv A_g.x), (Iv A_g.y), (Iv A_g.z), (.slice p11 A_g.vals.length q12)]), (Iv x), (Iv y), (Iv z), (Pt b15 0), Ud, Ud, Ud, (Bo false), (Iv i26), (Fl r55), (Bo (hasOk A_g x y z)), (Pt b78 0), Ud, Ud, (.agg #[(Fl r1), (Fl r3), (Fl r5), (Fl r7), (Iv A_g.x), (Iv A_g.y), (Iv A_g.z), (.slice p11 A_g.vals.length q12)]), (Iv 1048576), (Iv i26), (Iv i26), (Bo (icmp .lss i26 0)), (.tuple #[(Fl r55), (Bo (hasOk A_g x y z))]), (.agg #[(Fl r1), (Fl r3), (Fl r5), (Fl r7), (Iv A_g.x), (Iv A_g.y), (Iv A_g.z), (.slice p11 A_g.vals.length q12)]), (.agg #[(Fl r40), (Fl r42), (Fl r44), (Fl r46), (Iv A_g.x), (Iv A_g.y), (Iv A_g.z), (.slice p50 A_g.vals.length q51)]), (Iv x), (Iv y), (Iv z), (.tuple #[(Fl r55), (Bo (hasOk A_g x y z))]), (Fl r55), (Bo (hasOk A_g x y z)), (.agg #[(Fl r1), (Fl r3), (Fl r5), (Fl r7), (Iv A_g.x), (Iv A_g.y), (Iv A_g.z), (.slice p11 A_g.vals.length q12)]), (.agg #[(Fl r65), (Fl r67), (Fl r69), (Fl r71), (Iv A_g.x), (Iv A_g.y), (Iv A_g.z), (.slice p75 A_g.vals.length q76)]), Ud, (.agg #[(Fl r65), (Fl r67), (Fl r69), (Fl r71), (Iv A_g.x), (Iv A_g.y), (Iv A_g.z), (.slice p75 A_g.vals.length q76)]), (Iv x), (Iv y), (Iv z), Ud, Ud, Ud, Ud, Ud, Ud, Ud, Ud, Ud, Ud, Ud, Ud, Ud, Ud, Ud, Ud, Ud, Ud, Ud]) rfl rfl (does_move (u := (Iv z)) (ev rfl)) rfl ?_
  refine seqd rfl rfl (does_call (args := #[(.agg #[(Fl r65), (Fl r67), (Fl r69), (Fl r71), (Iv A_g.x), (Iv A_g.y), (Iv A_g.z), (.slice p75 A_g.vals.length q76)]), (Iv x), (Iv y), (Iv z)]) cal23 (evs rfl) (c_impl_GridValue [(Fl r65), (Fl r67), (Fl r69), (Fl r71), (Iv A_g.x), (Iv A_g.y), (Iv A_g.z), (.slice p75 A_g.vals.length q76)] A_g x y z _ ⟨r65, r67, r69, r71, (.slice p75 A_g.vals.length q76), rfl, h66, h68, h70, h72, (hh77 _ (((Same.refl _ _).ext E81).wr W86 (.inr (Nat.le_trans (Below.size (Ext.refl _)) hb79))))⟩)) ?_; rintro _ w92 ⟨E91, ⟨r93, rfl, h94⟩⟩
  have X95 := Ext.gr X89 E91
  show wpList _ _ _ _ (fr [(.agg #[(Fl r1), (Fl r3), (Fl r5), (Fl r7), (Iv A_g.x), (Iv A_g.y), (Iv A_g.z), (.slice p11 A_g.vals.length q12)]), (Iv x), (Iv y), (Iv z), (Pt b15 0), Ud, Ud, Ud, (Bo false), (Iv i26), (Fl r55), (Bo (hasOk A_g x y z)), (Pt b78 0), Ud, Ud, (.agg #[(Fl r1), (Fl r3), (Fl r5), (Fl r7), (Iv A_g.x), (Iv A_g.y), (Iv A_g.z), (.slice p11 A_g.vals.length q12)]), (Iv 1048576), (Iv i26), (Iv i26), (Bo (icmp .lss i26 0)), (.tuple #[(Fl r55), (Bo (hasOk A_g x y z))]), (.agg #[(Fl r1), (Fl r3), (Fl r5), (Fl r7), (Iv A_g.x), (Iv A_g.y), (Iv A_g.z), (.slice p11 A_g.vals.length q12)]), (.agg #[(Fl r40), (Fl r42), (Fl r44), (Fl r46), (Iv A_g.x), (Iv A_g.y), (Iv A_g.z), (.slice p50 A_g.vals.length q51)]), (Iv x), (Iv y), (Iv z), (.tuple #[(Fl r55), (Bo (hasOk A_g x y z))]), (Fl r55), (Bo (hasOk A_g x y z)), (.agg #[(Fl r1), (Fl r3), (Fl r5), (Fl r7), (Iv A_g.x), (Iv A_g.y), (Iv A_g.z), (.slice p11 A_g.vals.length q12)]), (.agg #[(Fl r65), (Fl r67), (Fl r69), (Fl r71), (Iv A_g.x), (Iv A_g.y), (Iv A_g.z), (.slice p75 A_g.vals.length q76)]), Ud, (.agg #[(Fl r65), (Fl r67), (Fl r69), (Fl r71), (Iv A_g.x), (Iv A_g.y), (Iv A_g.z), (.slice p75 A_g.vals.length q76)]), (Iv x), (Iv y), (Iv z), (.tuple #[(Fl r93), (Bo (hasOk A_g x y z))]), Ud, Ud, Ud, Ud, Ud, Ud, Ud, Ud, Ud, Ud, Ud, Ud, Ud, Ud, Ud, Ud, Ud, Ud]) _
  refine q_is (l' := [(.agg #[(Fl r1), (Fl r3), (Fl r5), (Fl r7), (Iv A_g.x), (Iv A_g.y), (Iv A_g.z), (.slice p11 A_g.vals.length q12)]), (Iv x), (Iv y), (Iv z), (Pt b15 0), Ud, Ud, Ud, (Bo false), (Iv i26), (Fl r55), (Bo (hasOk A_g x y z)), (Pt b78 0), Ud, Ud, (.agg #[(Fl r1), (Fl r3), (Fl r5), (Fl r7), (Iv A_g.x), (Iv A_g.y), (Iv A_g.z), (.slice p11 A_g.vals.length q12)]), (Iv 1048576), (Iv i26), (Iv i26), (Bo (icmp .lss i26 0)), (.tuple #[(Fl r55), (Bo (hasOk A_g x y z))]), (.agg #[(Fl r1), (Fl r3), (Fl r5), (Fl r7), (Iv A_g.x), (Iv A_g.y), (Iv A_g.z), (.slice p11 A_g.vals.length q12)]), (.agg #[(Fl r40), (Fl r42), (Fl r44), (Fl r46), (Iv A_g.x), (Iv A_g.y), (Iv A_g.z), (.slice p50 A_g.vals.length q51)]), (Iv x), (Iv y), (Iv z), (.tuple #[(Fl r55), (Bo (hasOk A_g x y z))]), (Fl r55), (Bo (hasOk A_g x y z)), (.agg #[(Fl r1), (Fl r3), (Fl r5), (Fl r7), (Iv A_g.x), (Iv A_g.y), (Iv A_g.z), (.slice p11 A_g.vals.length q12)]), (.agg #[(Fl r65), (Fl r67), (Fl r69), (Fl r71), (Iv A_g.x), (Iv A_g.y), (Iv A_g.z), (.slice p75 A_g.vals.length q76)]), (.tuple #[(Fl r93), (Bo (hasOk A_g x y z))]), (.agg #[(Fl r65), (Fl r67), (Fl r69), (Fl r71), (Iv A_g.x), (Iv A_g.y), (Iv A_g.z), (.slice p75 A_g.vals.length q76)]), (Iv x), (Iv y), (Iv z), (.tuple #[(Fl r93), (Bo (hasOk A_g x y z))]), Ud, Ud, Ud, Ud, Ud, Ud, Ud, Ud, Ud, Ud, Ud, Ud, Ud, Ud, Ud, Ud, Ud, Ud]) rfl rfl (does_move (u := (.tuple #[(Fl r93), (Bo (hasOk A_g x y z))])) (ev rfl)) rfl ?_
  refine q_is (l' := [(.agg #[(Fl r1), (Fl r3), (Fl r5), (Fl r7), (Iv A_g.x), (Iv A_g.y), (Iv A_g.z), (.slice p11 A_g.vals.length q12)]), (Iv x), (Iv y), (Iv z), (Pt b15 0), Ud, Ud, Ud, (Bo false), (Iv i26), (Fl r55), (Bo (hasOk A_g x y z)), (Pt b78 0), Ud, Ud, (.agg #[(Fl r1), (Fl r3), (Fl r5), (Fl r7), (Iv A_g.x), (Iv A_g.y), (Iv A_g.z), (.slice p11 A_g.vals.length q12)]), (Iv 1048576), (Iv i26), (Iv i26), (Bo (icmp .lss i26 0)), (.tuple #[(Fl r55), (Bo (hasOk A_g x y z))]), (.agg #[(Fl r1), (Fl r3), (Fl r5), (Fl r7), (Iv A_g.x), (Iv A_g.y), (Iv A_g.z), (.slice p11 A_g.vals.length q12)]), (.agg #[(Fl r40), (Fl r42), (Fl r44), (Fl r46), (Iv A_g.x), (Iv A_g.y), (Iv A_g.z), (.slice p50 A_g.vals.length q51)]), (Iv x), (Iv y), (Iv z), (.tuple #[(Fl r55), (Bo (hasOk A_g x y z))]), (Fl r55), (Bo (hasOk A_g x y z)), (.agg #[(Fl r1), (Fl r3), (Fl r5), (Fl r7), (Iv A_g.x), (Iv A_g.y), (Iv A_g.z), (.slice p11 A_g.vals.length q12)]), (.agg #[(Fl r65), (Fl r67), (Fl r69), (Fl r71), (Iv A_g.x), (Iv A_g.y), (Iv A_g.z), (.slice p75 A_g.vals.length q76)]), (.tuple #[(Fl r93), (Bo (hasOk A_g x y z))]), (.agg #[(Fl r65), (Fl r67), (Fl r69), (Fl r71), (Iv A_g.x), (Iv A_g.y), (Iv A_g.z), (.slice p75 A_g.vals.length q76)]), (Iv x), (Iv y), (Iv z), (.tuple #[(Fl r93), (Bo (hasOk A_g x y z))]), (Fl r93), Ud, Ud, Ud, Ud, Ud, Ud, Ud, Ud, Ud, Ud, Ud, Ud, Ud, Ud, Ud, Ud, Ud]) rfl rfl (does_extract (vs := #[(Fl r93), (Bo (hasOk A_g x y z))]) (u := (Fl r93)) (ev rfl) rfl) rfl ?_
  refine q_is (l' := [(.agg #[(Fl r1), (Fl r3), (Fl r5), (Fl r7), (Iv A_g.x), (Iv A_g.y), (Iv A_g.z), (.slice p11 A_g.vals.length q12)]), (Iv x), (Iv y), (Iv z), (Pt b15 0), Ud, Ud, Ud, (Bo false), (Iv i26), (Fl r55), (Bo (hasOk A_g x y z)), (Pt b78 0), Ud, Ud, (.agg #[(Fl r1), (Fl r3), (Fl r5), (Fl r7), (Iv A_g.x), (Iv A_g.y), (Iv A_g.z), (.slice p11 A_g.vals.length q12)]), (Iv 1048576), (Iv i26), (Iv i26), (Bo (icmp .lss i26 0)), (.tuple #[(Fl r55), (Bo (hasOk A_g x y z))]), (.agg #[(Fl r1), (Fl r3), (Fl r5), (Fl r7), (Iv A_g.x), (Iv A_g.y), (Iv A_g.z), (.slice p11 A_g.vals.length q12)]), (.agg #[(Fl r40), (Fl r42), (Fl r44), (Fl r46), (Iv A_g.x), (Iv A_g.y), (Iv A_g.z), (.slice p50 A_g.vals.length q51)]), (Iv x), (Iv y), (Iv z), (.tuple #[(Fl r55), (Bo (hasOk A_g x y z))]), (Fl r55), (Bo (hasOk A_g x y z)), (.agg #[(Fl r1), (Fl r3), (Fl r5), (Fl r7), (Iv A_g.x), (Iv A_g.y), (Iv A_g.z), (.slice p11 A_g.vals.length q12)]), (.agg #[(Fl r65), (Fl r67), (Fl r69), (Fl r71), (Iv A_g.x), (Iv A_g.y), (Iv A_g.z), (.slice p75 A_g.vals.length q76)]), (.tuple #[(Fl r93), (Bo (hasOk A_g x y z))]), (.agg #[(Fl r65), (Fl r67), (Fl r69), (Fl r71), (Iv A_g.x), (Iv A_g.y), (Iv A_g.z), (.slice p75 A_g.vals.length q76)]), (Iv x), (Iv y), (Iv z), (.tuple #[(Fl r93), (Bo (hasOk A_g x y z))]), (Fl r93), (Bo (hasOk A_g x y z)), Ud, Ud, Ud, Ud, Ud, Ud, Ud, Ud, Ud, Ud, Ud, Ud, Ud, Ud, Ud, Ud]) rfl rfl (does_extract (vs := #[(Fl r93), (Bo (hasOk A_g x y z))]) (u := (Bo (hasOk A_g x y z))) (ev rfl) rfl) rfl ?_
  refine q_is (l' := [(.agg #[(Fl r1), (Fl r3), (Fl r5), (Fl r7), (Iv A_g.x), (Iv A_g.y), (Iv A_g.z), (.slice p11 A_g.vals.length q12)]), (Iv x), (Iv y), (Iv z), (Pt b15 0), Ud, Ud, Ud, (Bo false), (Iv i26), (Fl r55), (Bo (hasOk A_g x y z)), (Pt b78 0), (Fl r93), Ud, (.agg #[(Fl r1), (Fl r3), (Fl r5), (Fl r7), (Iv A_g.x), (Iv A_g.y), (Iv A_g.z), (.slice p11 A_g.vals.length q12)]), (Iv 1048576), (Iv i26), (Iv i26), (Bo (icmp .lss i26 0)), (.tuple #[(Fl r55), (Bo (hasOk A_g x y z))]), (.agg #[(Fl r1), (Fl r3), (Fl r5), (Fl r7), (Iv A_g.x), (Iv A_g.y), (Iv A_g.z), (.slice p11 A_g.vals.length q12)]), (.agg #[(Fl r40), (Fl r42), (Fl r44), (Fl r46), (Iv A_g.x), (Iv A_g.y), (Iv A_g.z), (.slice p50 A_g.vals.length q51)]), (Iv x), (Iv y), (Iv z), (.tuple #[(Fl r55), (Bo (hasOk A_g x y z))]), (Fl r55), (Bo (hasOk A_g x y z)), (.agg #[(Fl r1), (Fl r3), (Fl r5), (Fl r7), (Iv A_g.x), (Iv A_g.y), (Iv A_g.z), (.slice p11 A_g.vals.length q12)]), (.agg #[(Fl r65), (Fl r67), (Fl r69), (Fl r71), (Iv A_g.x), (Iv A_g.y), (Iv A_g.z), (.slice p75 A_g.vals.length q76)]), (.tuple #[(Fl r93), (Bo (hasOk A_g x y z))]), (.agg #[(Fl r65), (Fl r67), (Fl r69), (Fl r71), (Iv A_g.x), (Iv A_g.y), (Iv A_g.z), (.slice p75 A_g.vals.length q76)]), (Iv x), (Iv y), (Iv z), (.tuple #[(Fl r93), (Bo (hasOk A_g x y z))]), (Fl r93), (Bo (hasOk A_g x y z)), Ud, Ud, Ud, Ud, Ud, Ud, Ud, Ud, Ud, Ud, Ud, Ud, Ud, Ud, Ud, Ud]) rfl rfl (does_assign (u := (Fl r93)) (ev rfl)) rfl ?_
  refine q_is (l' := [(.agg #[(Fl r1), (Fl r3), (Fl r5), (Fl r7), (Iv A_g.x), (Iv A_g.y), (Iv A_g.z), (.slice p11 A_g.vals.length q12)]), (Iv x), (Iv y), (Iv z), (Pt b15 0), Ud, Ud, Ud, (Bo false), (Iv i26), (Fl r55), (Bo (hasOk A_g x y z)), (Pt b78 0), (Fl r93), (Bo (hasOk A_g x y z)), (.agg #[(Fl r1), (Fl r3), (Fl r5), (Fl r7), (Iv A_g.x), (Iv A_g.y), (Iv A_g.z), (.slice p11 A_g.vals.length q12)]), (Iv 1048576), (Iv i26), (Iv i26), (Bo (icmp .lss i26 0)), (.tuple #[(Fl r55), (Bo (hasOk A_g x y z))]), (.agg #[(Fl r1), (Fl r3), (Fl r5), (Fl r7), (Iv A_g.x), (Iv A_g.y), (Iv A_g.z), (.slice p11 A_g.vals.length q12)]), (.agg #[(Fl r40), (Fl r42), (Fl r44), (Fl r46), (Iv A_g.x), (Iv A_g.y), (Iv A_g.z), (.slice p50 A_g.vals.length q51)]), (Iv x), (Iv y), (Iv z), (.tuple #[(Fl r55), (Bo (hasOk A_g x y z))]), (Fl r55), (Bo (hasOk A_g x y z)), (.agg #[(Fl r1), (Fl r3), (Fl r5), (Fl r7), (Iv A_g.x), (Iv A_g.y), (Iv A_g.z), (.slice p11 A_g.vals.length q12)]), (.agg #[(Fl r65), (Fl r67), (Fl r69), (Fl r71), (Iv A_g.x), (Iv A_g.y), (Iv A_g.z), (.slice p75 A_g.vals.length q76)]), (.tuple #[(Fl r93), (Bo (hasOk A_g x y z))]), (.agg #[(Fl r65), (Fl r67), (Fl r69), (Fl r71), (Iv A_g.x), (Iv A_g.y), (Iv A_g.z), (.slice p75 A_g.vals.length q76)]), (Iv x), (Iv y), (Iv z), (.tuple #[(Fl r93), (Bo (hasOk A_g x y z))]), (Fl r93), (Bo (hasOk A_g x y z)), Ud, Ud, Ud, Ud, Ud, Ud, Ud, Ud, Ud, Ud, Ud, Ud, Ud, Ud, Ud, Ud]) rfl rfl (does_assign (u := (Bo (hasOk A_g x y z))) (ev rfl)) rfl ?_
  refine wpList_nil (hK90 _ _ ?_)
  refine wp_seq_k fun K96 hK96 => ?_
  refine wp_seq_k fun K97 hK97 => ?_
  obtain ⟨β1, hβ1⟩ : ∃ b : Bool, b = (sameF (fwid (cf .f32 r93)) (fwid (cf .f32 r55))) := ⟨_, rfl⟩
  obtain ⟨β2, hβ2⟩ : ∃ b : Bool, b = ((hasOk A_g x y z) != (hasOk A_g x y z)) := ⟨_, rfl⟩
  refine region_text (
    [Fact.pure [] (fun v => v = (Fl r93)),
    Fact.pure [39] (fun v => ∃ r_1 : Nat, v = (Fd r_1) ∧ cf .f64 r_1 = fwid (cf .f32 r93)),
    Fact.pure [] (fun v => v = (Fl r55)),
    Fact.pure [41] (fun v => ∃ r_1 : Nat, v = (Fd r_1) ∧ cf .f64 r_1 = fwid (cf .f32 r55)),
    Fact.pure [40, 42] (fun v => v = (Bo β1)),
    Fact.pure [43] (fun v => v = (Bo (!β1))),
    Fact.pure [44] (fun v => v = (Bo (!β1))),
    Fact.pure [45] (fun v => (!β1) = false → v = (Bo (hasOk A_g x y z))),
    Fact.pure [45] (fun v => (!β1) = false → v = (Bo (hasOk A_g x y z))),
    Fact.pure [46, 47, 45] (fun v => (!β1) = false → v = (Bo β2)),
    Fact.pure [45, 48] (fun v => v = (Bo ((!β1) || β2)))]) (by simp [Fact.pure, Fact.mem]) ?_
  refine RW_d (fun v98 => [(.agg #[(Fl r1), (Fl r3), (Fl r5), (Fl r7), (Iv A_g.x), (Iv A_g.y), (Iv A_g.z), (.slice p11 A_g.vals.length q12)]), (Iv x), (Iv y), (Iv z), (Pt b15 0), Ud, Ud, Ud, (Bo false), (Iv i26), (Fl r55), (Bo (hasOk A_g x y z)), (Pt b78 0), (Fl r93), (Bo (hasOk A_g x y z)), (.agg #[(Fl r1), (Fl r3), (Fl r5), (Fl r7), (Iv A_g.x), (Iv A_g.y), (Iv A_g.z), (.slice p11 A_g.vals.length q12)]), (Iv 1048576), (Iv i26), (Iv i26), (Bo (icmp .lss i26 0)), (.tuple #[(Fl r55), (Bo (hasOk A_g x y z))]), (.agg #[(Fl r1), (Fl r3), (Fl r5), (Fl r7), (Iv A_g.x), (Iv A_g.y), (Iv A_g.z), (.slice p11 A_g.vals.length q12)]), (.agg #[(Fl r40), (Fl r42), (Fl r44), (Fl r46), (Iv A_g.x), (Iv A_g.y), (Iv A_g.z), (.slice p50 A_g.vals.length q51)]), (Iv x), (Iv y), (Iv z), (.tuple #[(Fl r55), (Bo (hasOk A_g x y z))]), (Fl r55), (Bo (hasOk A_g x y z)), (.agg #[(Fl r1), (Fl r3), (Fl r5), (Fl r7), (Iv A_g.x), (Iv A_g.y), (Iv A_g.z), (.slice p11 A_g.vals.length q12)]), (.agg #[(Fl r65), (Fl r67), (Fl r69), (Fl r71), (Iv A_g.x), (Iv A_g.y), (Iv A_g.z), (.slice p75 A_g.vals.length q76)]), (.tuple #[(Fl r93), (Bo (hasOk A_g x y z))]), (.agg #[(Fl r65), (Fl r67), (Fl r69), (Fl r71), (Iv A_g.x), (Iv A_g.y), (Iv A_g.z), (.slice p75 A_g.vals.length q76)]), (Iv x), (Iv y), (Iv z), (.tuple #[(Fl r93), (Bo (hasOk A_g x y z))]), (Fl r93), (Bo (hasOk A_g x y z)), v98, Ud, Ud, Ud, Ud, Ud, Ud, Ud, Ud, Ud, Ud, Ud, Ud, Ud, Ud, Ud]) rfl (fun _ => rfl) (fun u hu hF => ?_) (fun v98 => ?_)
  · clear hF
    refine doesG_un rfl ?_
    refine (does_move (u := (Fl r93)) (ev rfl)).mono ?_; rintro _ _ ⟨rfl, rfl⟩
    exact ⟨rfl, Ext.refl _⟩
  refine RW_d (fun v99 => [(.agg #[(Fl r1), (Fl r3), (Fl r5), (Fl r7), (Iv A_g.x), (Iv A_g.y), (Iv A_g.z), (.slice p11 A_g.vals.length q12)]), (Iv x), (Iv y), (Iv z), (Pt b15 0), Ud, Ud, Ud, (Bo false), (Iv i26), (Fl r55), (Bo (hasOk A_g x y z)), (Pt b78 0), (Fl r93), (Bo (hasOk A_g x y z)), (.agg #[(Fl r1), (Fl r3), (Fl r5), (Fl r7), (Iv A_g.x), (Iv A_g.y), (Iv A_g.z), (.slice p11 A_g.vals.length q12)]), (Iv 1048576), (Iv i26), (Iv i26), (Bo (icmp .lss i26 0)), (.tuple #[(Fl r55), (Bo (hasOk A_g x y z))]), (.agg #[(Fl r1), (Fl r3), (Fl r5), (Fl r7), (Iv A_g.x), (Iv A_g.y), (Iv A_g.z), (.slice p11 A_g.vals.length q12)]), (.agg #[(Fl r40), (Fl r42), (Fl r44), (Fl r46), (Iv A_g.x), (Iv A_g.y), (Iv A_g.z), (.slice p50 A_g.vals.length q51)]), (Iv x), (Iv y), (Iv z), (.tuple #[(Fl r55), (Bo (hasOk A_g x y z))]), (Fl r55), (Bo (hasOk A_g x y z)), (.agg #[(Fl r1), (Fl r3), (Fl r5), (Fl r7), (Iv A_g.x), (Iv A_g.y), (Iv A_g.z), (.slice p11 A_g.vals.length q12)]), (.agg #[(Fl r65), (Fl r67), (Fl r69), (Fl r71), (Iv A_g.x), (Iv A_g.y), (Iv A_g.z), (.slice p75 A_g.vals.length q76)]), (.tuple #[(Fl r93), (Bo (hasOk A_g x y z))]), (.agg #[(Fl r65), (Fl r67), (Fl r69), (Fl r71), (Iv A_g.x), (Iv A_g.y), (Iv A_g.z), (.slice p75 A_g.vals.length q76)]), (Iv x), (Iv y), (Iv z), (.tuple #[(Fl r93), (Bo (hasOk A_g x y z))]), (Fl r93), (Bo (hasOk A_g x y z)), v98, v99, Ud, Ud, Ud, Ud, Ud, Ud, Ud, Ud, Ud, Ud, Ud, Ud, Ud, Ud]) rfl (fun _ => rfl) (fun u hu hF => ?_) (fun v99 => ?_)
  · have h39_ : v98 = (Fl r93) := hF.1
    clear hF
    obtain rfl := h39_
    refine doesG_un rfl ?_
    refine (does_widen Try.underlying22 Try.underlying39 (ev rfl)).mono ?_; rintro _ _ ⟨r, rfl, hr, hx⟩
    exact ⟨⟨r, rfl, (by simp only [hr])⟩, hx⟩
  refine RW_d (fun v100 => [(.agg #[(Fl r1), (Fl r3), (Fl r5), (Fl r7), (Iv A_g.x), (Iv A_g.y), (Iv A_g.z), (.slice p11 A_g.vals.length q12)]), (Iv x), (Iv y), (Iv z), (Pt b15 0), Ud, Ud, Ud, (Bo false), (Iv i26), (Fl r55), (Bo (hasOk A_g x y z)), (Pt b78 0), (Fl r93), (Bo (hasOk A_g x y z)), (.agg #[(Fl r1), (Fl r3), (Fl r5), (Fl r7), (Iv A_g.x), (Iv A_g.y), (Iv A_g.z), (.slice p11 A_g.vals.length q12)]), (Iv 1048576), (Iv i26), (Iv i26), (Bo (icmp .lss i26 0)), (.tuple #[(Fl r55), (Bo (hasOk A_g x y z))]), (.agg #[(Fl r1), (Fl r3), (Fl r5), (Fl r7), (Iv A_g.x), (Iv A_g.y), (Iv A_g.z), (.slice p11 A_g.vals.length q12)]), (.agg #[(Fl r40), (Fl r42), (Fl r44), (Fl r46), (Iv A_g.x), (Iv A_g.y), (Iv A_g.z), (.slice p50 A_g.vals.length q51)]), (Iv x), (Iv y), (Iv z), (.tuple #[(Fl r55), (Bo (hasOk A_g x y z))]), (Fl r55), (Bo (hasOk A_g x y z)), (.agg #[(Fl r1), (Fl r3), (Fl r5), (Fl r7), (Iv A_g.x), (Iv A_g.y), (Iv A_g.z), (.slice p11 A_g.vals.length q12)]), (.agg #[(Fl r65), (Fl r67), (Fl r69), (Fl r71), (Iv A_g.x), (Iv A_g.y), (Iv A_g.z), (.slice p75 A_g.vals.length q76)]), (.tuple #[(Fl r93), (Bo (hasOk A_g x y z))]), (.agg #[(Fl r65), (Fl r67), (Fl r69), (Fl r71), (Iv A_g.x), (Iv A_g.y), (Iv A_g.z), (.slice p75 A_g.vals.length q76)]), (Iv x), (Iv y), (Iv z), (.tuple #[(Fl r93), (Bo (hasOk A_g x y z))]), (Fl r93), (Bo (hasOk A_g x y z)), v98, v99, v100, Ud, Ud, Ud, Ud, Ud, Ud, Ud, Ud, Ud, Ud, Ud, Ud, Ud]) rfl (fun _ => rfl) (fun u hu hF => ?_) (fun v100 => ?_)
  · clear hF
    refine doesG_un rfl ?_
    refine (does_move (u := (Fl r55)) (ev rfl)).mono ?_; rintro _ _ ⟨rfl, rfl⟩
    exact ⟨rfl, Ext.refl _⟩
  refine RW_d (fun v101 => [(.agg #[(Fl r1), (Fl r3), (Fl r5), (Fl r7), (Iv A_g.x), (Iv A_g.y), (Iv A_g.z), (.slice p11 A_g.vals.length q12)]), (Iv x), (Iv y), (Iv z), (Pt b15 0), Ud, Ud, Ud, (Bo false), (Iv i26), (Fl r55), (Bo (hasOk A_g x y z)), (Pt b78 0), (Fl r93), (Bo (hasOk A_g x y z)), (.agg #[(Fl r1), (Fl r3), (Fl r5), (Fl r7), (Iv A_g.x), (Iv A_g.y), (Iv A_g.z), (.slice p11 A_g.vals.length q12)]), (Iv 1048576), (Iv i26), (Iv i26), (Bo (icmp .lss i26 0)), (.tuple #[(Fl r55), (Bo (hasOk A_g x y z))]), (.agg #[(Fl r1), (Fl r3), (Fl r5), (Fl r7), (Iv A_g.x), (Iv A_g.y), (Iv A_g.z), (.slice p11 A_g.vals.length q12)]), (.agg #[(Fl r40), (Fl r42), (Fl r44), (Fl r46), (Iv A_g.x), (Iv A_g.y), (Iv A_g.z), (.slice p50 A_g.vals.length q51)]), (Iv x), (Iv y), (Iv z), (.tuple #[(Fl r55), (Bo (hasOk A_g x y z))]), (Fl r55), (Bo (hasOk A_g x y z)), (.agg #[(Fl r1), (Fl r3), (Fl r5), (Fl r7), (Iv A_g.x), (Iv A_g.y), (Iv A_g.z), (.slice p11 A_g.vals.length q12)]), (.agg #[(Fl r65), (Fl r67), (Fl r69), (Fl r71), (Iv A_g.x), (Iv A_g.y), (Iv A_g.z), (.slice p75 A_g.vals.length q76)]), (.tuple #[(Fl r93), (Bo (hasOk A_g x y z))]), (.agg #[(Fl r65), (Fl r67), (Fl r69), (Fl r71), (Iv A_g.x), (Iv A_g.y), (Iv A_g.z), (.slice p75 A_g.vals.length q76)]), (Iv x), (Iv y), (Iv z), (.tuple #[(Fl r93), (Bo (hasOk A_g x y z))]), (Fl r93), (Bo (hasOk A_g x y z)), v98, v99, v100, v101, Ud, Ud, Ud, Ud, Ud, Ud, Ud, Ud, Ud, Ud, Ud, Ud]) rfl (fun _ => rfl) (fun u hu hF => ?_) (fun v101 => ?_)
  · have h41_ : v100 = (Fl r55) := hF.1
    clear hF
    obtain rfl := h41_
    refine doesG_un rfl ?_
    refine (does_widen Try.underlying22 Try.underlying39 (ev rfl)).mono ?_; rintro _ _ ⟨r, rfl, hr, hx⟩
    exact ⟨⟨r, rfl, (by simp only [hr])⟩, hx⟩
  refine RW_d (fun v102 => [(.agg #[(Fl r1), (Fl r3), (Fl r5), (Fl r7), (Iv A_g.x), (Iv A_g.y), (Iv A_g.z), (.slice p11 A_g.vals.length q12)]), (Iv x), (Iv y), (Iv z), (Pt b15 0), Ud, Ud, Ud, (Bo false), (Iv i26), (Fl r55), (Bo (hasOk A_g x y z)), (Pt b78 0), (Fl r93), (Bo (hasOk A_g x y z)), (.agg #[(Fl r1), (Fl r3), (Fl r5), (Fl r7), (Iv A_g.x), (Iv A_g.y), (Iv A_g.z), (.slice p11 A_g.vals.length q12)]), (Iv 1048576), (Iv i26), (Iv i26), (Bo (icmp .lss i26 0)), (.tuple #[(Fl r55), (Bo (hasOk A_g x y z))]), (.agg #[(Fl r1), (Fl r3), (Fl r5), (Fl r7), (Iv A_g.x), (Iv A_g.y), (Iv A_g.z), (.slice p11 A_g.vals.length q12)]), (.agg #[(Fl r40), (Fl r42), (Fl r44), (Fl r46), (Iv A_g.x), (Iv A_g.y), (Iv A_g.z), (.slice p50 A_g.vals.length q51)]), (Iv x), (Iv y), (Iv z), (.tuple #[(Fl r55), (Bo (hasOk A_g x y z))]), (Fl r55), (Bo (hasOk A_g x y z)), (.agg #[(Fl r1), (Fl r3), (Fl r5), (Fl r7), (Iv A_g.x), (Iv A_g.y), (Iv A_g.z), (.slice p11 A_g.vals.length q12)]), (.agg #[(Fl r65), (Fl r67), (Fl r69), (Fl r71), (Iv A_g.x), (Iv A_g.y), (Iv A_g.z), (.slice p75 A_g.vals.length q76)]), (.tuple #[(Fl r93), (Bo (hasOk A_g x y z))]), (.agg #[(Fl r65), (Fl r67), (Fl r69), (Fl r71), (Iv A_g.x), (Iv A_g.y), (Iv A_g.z), (.slice p75 A_g.vals.length q76)]), (Iv x), (Iv y), (Iv z), (.tuple #[(Fl r93), (Bo (hasOk A_g x y z))]), (Fl r93), (Bo (hasOk A_g x y z)), v98, v99, v100, v101, v102, Ud, Ud, Ud, Ud, Ud, Ud, Ud, Ud, Ud, Ud, Ud]) rfl (fun _ => rfl) (fun u hu hF => ?_) (fun v102 => ?_)
  · have h40_ : ∃ r_1 : Nat, v99 = (Fd r_1) ∧ cf .f64 r_1 = fwid (cf .f32 r93) := hF.1
    have h42_ : ∃ r_1 : Nat, v101 = (Fd r_1) ∧ cf .f64 r_1 = fwid (cf .f32 r55) := hF.2.1
    clear hF
    obtain ⟨r40_1, rfl, h40_2⟩ := h40_
    obtain ⟨r42_1, rfl, h42_2⟩ := h42_
    refine doesG_un rfl ?_
    refine (does_call (args := #[(Fd r40_1), (Fd r42_1)]) cal24 (evs rfl) (c_laws_sameFloat r40_1 r42_1 _)).mono ?_; rintro v u' ⟨hx, hv⟩
    exact ⟨hv.trans (by simp only [hβ1, h40_2, h42_2]), hx⟩
  refine RW_d (fun v103 => [(.agg #[(Fl r1), (Fl r3), (Fl r5), (Fl r7), (Iv A_g.x), (Iv A_g.y), (Iv A_g.z), (.slice p11 A_g.vals.length q12)]), (Iv x), (Iv y), (Iv z), (Pt b15 0), Ud, Ud, Ud, (Bo false), (Iv i26), (Fl r55), (Bo (hasOk A_g x y z)), (Pt b78 0), (Fl r93), (Bo (hasOk A_g x y z)), (.agg #[(Fl r1), (Fl r3), (Fl r5), (Fl r7), (Iv A_g.x), (Iv A_g.y), (Iv A_g.z), (.slice p11 A_g.vals.length q12)]), (Iv 1048576), (Iv i26), (Iv i26), (Bo (icmp .lss i26 0)), (.tuple #[(Fl r55), (Bo (hasOk A_g x y z))]), (.agg #[(Fl r1), (Fl r3), (Fl r5), (Fl r7), (Iv A_g.x), (Iv A_g.y), (Iv A_g.z), (.slice p11 A_g.vals.length q12)]), (.agg #[(Fl r40), (Fl r42), (Fl r44), (Fl r46), (Iv A_g.x), (Iv A_g.y), (Iv A_g.z), (.slice p50 A_g.vals.length q51)]), (Iv x), (Iv y), (Iv z), (.tuple #[(Fl r55), (Bo (hasOk A_g x y z))]), (Fl r55), (Bo (hasOk A_g x y z)), (.agg #[(Fl r1), (Fl r3), (Fl r5), (Fl r7), (Iv A_g.x), (Iv A_g.y), (Iv A_g.z), (.slice p11 A_g.vals.length q12)]), (.agg #[(Fl r65), (Fl r67), (Fl r69), (Fl r71), (Iv A_g.x), (Iv A_g.y), (Iv A_g.z), (.slice p75 A_g.vals.length q76)]), (.tuple #[(Fl r93), (Bo (hasOk A_g x y z))]), (.agg #[(Fl r65), (Fl r67), (Fl r69), (Fl r71), (Iv A_g.x), (Iv A_g.y), (Iv A_g.z), (.slice p75 A_g.vals.length q76)]), (Iv x), (Iv y), (Iv z), (.tuple #[(Fl r93), (Bo (hasOk A_g x y z))]), (Fl r93), (Bo (hasOk A_g x y z)), v98, v99, v100, v101, v102, v103, Ud, Ud, Ud, Ud, Ud, Ud, Ud, Ud, Ud, Ud]) rfl (fun _ => rfl) (fun u hu hF => ?_) (fun v103 => ?_)
  · have h43_ : v102 = (Bo β1) := hF.1
    clear hF
    obtain rfl := h43_
    refine doesG_un rfl ?_
    refine (does_not (ev rfl)).mono ?_; rintro _ _ ⟨rfl, rfl⟩
    exact ⟨rfl, Ext.refl _⟩
  refine RW_d (fun v104 => [(.agg #[(Fl r1), (Fl r3), (Fl r5), (Fl r7), (Iv A_g.x), (Iv A_g.y), (Iv A_g.z), (.slice p11 A_g.vals.length q12)]), (Iv x), (Iv y), (Iv z), (Pt b15 0), Ud, Ud, Ud, (Bo false), (Iv i26), (Fl r55), (Bo (hasOk A_g x y z)), (Pt b78 0), (Fl r93), (Bo (hasOk A_g x y z)), (.agg #[(Fl r1), (Fl r3), (Fl r5), (Fl r7), (Iv A_g.x), (Iv A_g.y), (Iv A_g.z), (.slice p11 A_g.vals.length q12)]), (Iv 1048576), (Iv i26), (Iv i26), (Bo (icmp .lss i26 0)), (.tuple #[(Fl r55), (Bo (hasOk A_g x y z))]), (.agg #[(Fl r1), (Fl r3), (Fl r5), (Fl r7), (Iv A_g.x), (Iv A_g.y), (Iv A_g.z), (.slice p11 A_g.vals.length q12)]), (.agg #[(Fl r40), (Fl r42), (Fl r44), (Fl r46), (Iv A_g.x), (Iv A_g.y), (Iv A_g.z), (.slice p50 A_g.vals.length q51)]), (Iv x), (Iv y), (Iv z), (.tuple #[(Fl r55), (Bo (hasOk A_g x y z))]), (Fl r55), (Bo (hasOk A_g x y z)), (.agg #[(Fl r1), (Fl r3), (Fl r5), (Fl r7), (Iv A_g.x), (Iv A_g.y), (Iv A_g.z), (.slice p11 A_g.vals.length q12)]), (.agg #[(Fl r65), (Fl r67), (Fl r69), (Fl r71), (Iv A_g.x), (Iv A_g.y), (Iv A_g.z), (.slice p75 A_g.vals.length q76)]), (.tuple #[(Fl r93), (Bo (hasOk A_g x y z))]), (.agg #[(Fl r65), (Fl r67), (Fl r69), (Fl r71), (Iv A_g.x), (Iv A_g.y), (Iv A_g.z), (.slice p75 A_g.vals.length q76)]), (Iv x), (Iv y), (Iv z), (.tuple #[(Fl r93), (Bo (hasOk A_g x y z))]), (Fl r93), (Bo (hasOk A_g x y z)), v98, v99, v100, v101, v102, v103, v104, Ud, Ud, Ud, Ud, Ud, Ud, Ud, Ud, Ud]) rfl (fun _ => rfl) (fun u hu hF => ?_) (fun v104 => ?_)
  · have h44_ : v103 = (Bo (!β1)) := hF.1
    clear hF
    obtain rfl := h44_
    refine doesG_un rfl ?_
    refine (does_move (u := (Bo (!β1))) (ev rfl)).mono ?_; rintro _ _ ⟨rfl, rfl⟩
    exact ⟨rfl, Ext.refl _⟩
  refine RW_d (fun v105 => [(.agg #[(Fl r1), (Fl r3), (Fl r5), (Fl r7), (Iv A_g.x), (Iv A_g.y), (Iv A_g.z), (.slice p11 A_g.vals.length q12)]), (Iv x), (Iv y), (Iv z), (Pt b15 0), Ud, Ud, Ud, (Bo false), (Iv i26), (Fl r55), (Bo (hasOk A_g x y z)), (Pt b78 0), (Fl r93), (Bo (hasOk A_g x y z)), (.agg #[(Fl r1), (Fl r3), (Fl r5), (Fl r7), (Iv A_g.x), (Iv A_g.y), (Iv A_g.z), (.slice p11 A_g.vals.length q12)]), (Iv 1048576), (Iv i26), (Iv i26), (Bo (icmp .lss i26 0)), (.tuple #[(Fl r55), (Bo (hasOk A_g x y z))]), (.agg #[(Fl r1), (Fl r3), (Fl r5), (Fl r7), (Iv A_g.x), (Iv A_g.y), (Iv A_g.z), (.slice p11 A_g.vals.length q12)]), (.agg #[(Fl r40), (Fl r42), (Fl r44), (Fl r46), (Iv A_g.x), (Iv A_g.y), (Iv A_g.z), (.slice p50 A_g.vals.length q51)]), (Iv x), (Iv y), (Iv z), (.tuple #[(Fl r55), (Bo (hasOk A_g x y z))]), (Fl r55), (Bo (hasOk A_g x y z)), (.agg #[(Fl r1), (Fl r3), (Fl r5), (Fl r7), (Iv A_g.x), (Iv A_g.y), (Iv A_g.z), (.slice p11 A_g.vals.length q12)]), (.agg #[(Fl r65), (Fl r67), (Fl r69), (Fl r71), (Iv A_g.x), (Iv A_g.y), (Iv A_g.z), (.slice p75 A_g.vals.length q76)]), (.tuple #[(Fl r93), (Bo (hasOk A_g x y z))]), (.agg #[(Fl r65), (Fl r67), (Fl r69), (Fl r71), (Iv A_g.x), (Iv A_g.y), (Iv A_g.z), (.slice p75 A_g.vals.length q76)]), (Iv x), (Iv y), (Iv z), (.tuple #[(Fl r93), (Bo (hasOk A_g x y z))]), (Fl r93), (Bo (hasOk A_g x y z)), v98, v99, v100, v101, v102, v103, v104, v105, Ud, Ud, Ud, Ud, Ud, Ud, Ud, Ud]) rfl (fun _ => rfl) (fun u hu hF => ?_) (fun v105 => ?_)
  · have h45_ : v104 = (Bo (!β1)) := hF.1
    clear hF
    obtain rfl := h45_
    refine doesG_g (b := (!β1)) rfl (yld rfl rfl) (fun hg => ?_) (fun hg => ⟨fun h => absurd h hg, Ext.refl _⟩)
    refine (does_move (u := (Bo (hasOk A_g x y z))) (ev rfl)).mono ?_; rintro _ _ ⟨rfl, rfl⟩
    exact ⟨fun _ => rfl, Ext.refl _⟩
  refine RW_d (fun v106 => [(.agg #[(Fl r1), (Fl r3), (Fl r5), (Fl r7), (Iv A_g.x), (Iv A_g.y), (Iv A_g.z), (.slice p11 A_g.vals.length q12)]), (Iv x), (Iv y), (Iv z), (Pt b15 0), Ud, Ud, Ud, (Bo false), (Iv i26), (Fl r55), (Bo (hasOk A_g x y z)), (Pt b78 0), (Fl r93), (Bo (hasOk A_g x y z)), (.agg #[(Fl r1), (Fl r3), (Fl r5), (Fl r7), (Iv A_g.x), (Iv A_g.y), (Iv A_g.z), (.slice p11 A_g.vals.length q12)]), (Iv 1048576), (Iv i26), (Iv i26), (Bo (icmp .lss i26 0)), (.tuple #[(Fl r55), (Bo (hasOk A_g x y z))]), (.agg #[(Fl r1), (Fl r3), (Fl r5), (Fl r7), (Iv A_g.x), (Iv A_g.y), (Iv A_g.z), (.slice p11 A_g.vals.length q12)]), (.agg #[(Fl r40), (Fl r42), (Fl r44), (Fl r46), (Iv A_g.x), (Iv A_g.y), (Iv A_g.z), (.slice p50 A_g.vals.length q51)]), (Iv x), (Iv y), (Iv z), (.tuple #[(Fl r55), (Bo (hasOk A_g x y z))]), (Fl r55), (Bo (hasOk A_g x y z)), (.agg #[(Fl r1), (Fl r3), (Fl r5), (Fl r7), (Iv A_g.x), (Iv A_g.y), (Iv A_g.z), (.slice p11 A_g.vals.length q12)]), (.agg #[(Fl r65), (Fl r67), (Fl r69), (Fl r71), (Iv A_g.x), (Iv A_g.y), (Iv A_g.z), (.slice p75 A_g.vals.length q76)]), (.tuple #[(Fl r93), (Bo (hasOk A_g x y z))]), (.agg #[(Fl r65), (Fl r67), (Fl r69), (Fl r71), (Iv A_g.x), (Iv A_g.y), (Iv A_g.z), (.slice p75 A_g.vals.length q76)]), (Iv x), (Iv y), (Iv z), (.tuple #[(Fl r93), (Bo (hasOk A_g x y z))]), (Fl r93), (Bo (hasOk A_g x y z)), v98, v99, v100, v101, v102, v103, v104, v105, v106, Ud, Ud, Ud, Ud, Ud, Ud, Ud]) rfl (fun _ => rfl) (fun u hu hF => ?_) (fun v106 => ?_)
  · have h45_ : v104 = (Bo (!β1)) := hF.1
    clear hF
    obtain rfl := h45_
    refine doesG_g (b := (!β1)) rfl (yld rfl rfl) (fun hg => ?_) (fun hg => ⟨fun h => absurd h hg, Ext.refl _⟩)
    refine (does_move (u := (Bo (hasOk A_g x y z))) (ev rfl)).mono ?_; rintro _ _ ⟨rfl, rfl⟩
    exact ⟨fun _ => rfl, Ext.refl _⟩
  refine RW_d (fun v107 => [(.agg #[(Fl r1), (Fl r3), (Fl r5), (Fl r7), (Iv A_g.x), (Iv A_g.y), (Iv A_g.z), (.slice p11 A_g.vals.length q12)]), (Iv x), (Iv y), (Iv z), (Pt b15 0), Ud, Ud, Ud, (Bo false), (Iv i26), (Fl r55), (Bo (hasOk A_g x y z)), (Pt b78 0), (Fl r93), (Bo (hasOk A_g x y z)), (.agg #[(Fl r1), (Fl r3), (Fl r5), (Fl r7), (Iv A_g.x), (Iv A_g.y), (Iv A_g.z), (.slice p11 A_g.vals.length q12)]), (Iv 1048576), (Iv i26), (Iv i26), (Bo (icmp .lss i26 0)), (.tuple #[(Fl r55), (Bo (hasOk A_g x y z))]), (.agg #[(Fl r1), (Fl r3), (Fl r5), (Fl r7), (Iv A_g.x), (Iv A_g.y), (Iv A_g.z), (.slice p11 A_g.vals.length q12)]), (.agg #[(Fl r40), (Fl r42), (Fl r44), (Fl r46), (Iv A_g.x), (Iv A_g.y), (Iv A_g.z), (.slice p50 A_g.vals.length q51)]), (Iv x), (Iv y), (Iv z), (.tuple #[(Fl r55), (Bo (hasOk A_g x y z))]), (Fl r55), (Bo (hasOk A_g x y z)), (.agg #[(Fl r1), (Fl r3), (Fl r5), (Fl r7), (Iv A_g.x), (Iv A_g.y), (Iv A_g.z), (.slice p11 A_g.vals.length q12)]), (.agg #[(Fl r65), (Fl r67), (Fl r69), (Fl r71), (Iv A_g.x), (Iv A_g.y), (Iv A_g.z), (.slice p75 A_g.vals.length q76)]), (.tuple #[(Fl r93), (Bo (hasOk A_g x y z))]), (.agg #[(Fl r65), (Fl r67), (Fl r69), (Fl r71), (Iv A_g.x), (Iv A_g.y), (Iv A_g.z), (.slice p75 A_g.vals.length q76)]), (Iv x), (Iv y), (Iv z), (.tuple #[(Fl r93), (Bo (hasOk A_g x y z))]), (Fl r93), (Bo (hasOk A_g x y z)), v98, v99, v100, v101, v102, v103, v104, v105, v106, v107, Ud, Ud, Ud, Ud, Ud, Ud]) rfl (fun _ => rfl) (fun u hu hF => ?_) (fun v107 => ?_)
  · have h46_ : (!β1) = false → v105 = (Bo (hasOk A_g x y z)) := hF.1
    have h47_ : (!β1) = false → v106 = (Bo (hasOk A_g x y z)) := hF.2.1
    have h45_ : v104 = (Bo (!β1)) := hF.2.2.1
    clear hF
    obtain rfl := h45_
    refine doesG_g (b := (!β1)) rfl (yld rfl rfl) (fun hg => ?_) (fun hg => ⟨fun h => absurd h hg, Ext.refl _⟩)
    obtain rfl := h46_ hg
    obtain rfl := h47_ hg
    refine (does_bne (p := (hasOk A_g x y z)) (q := (hasOk A_g x y z)) Try.underlying4 (ev rfl) (ev rfl)).mono ?_; rintro _ _ ⟨rfl, rfl⟩
    exact ⟨fun _ => (by first | rfl | (show _ = _; simp only [hβ2])), Ext.refl _⟩
  refine RW_d (fun v108 => [(.agg #[(Fl r1), (Fl r3), (Fl r5), (Fl r7), (Iv A_g.x), (Iv A_g.y), (Iv A_g.z), (.slice p11 A_g.vals.length q12)]), (Iv x), (Iv y), (Iv z), (Pt b15 0), Ud, Ud, Ud, (Bo false), (Iv i26), (Fl r55), (Bo (hasOk A_g x y z)), (Pt b78 0), (Fl r93), (Bo (hasOk A_g x y z)), (.agg #[(Fl r1), (Fl r3), (Fl r5), (Fl r7), (Iv A_g.x), (Iv A_g.y), (Iv A_g.z), (.slice p11 A_g.vals.length q12)]), (Iv 1048576), (Iv i26), (Iv i26), (Bo (icmp .lss i26 0)), (.tuple #[(Fl r55), (Bo (hasOk A_g x y z))]), (.agg #[(Fl r1), (Fl r3), (Fl r5), (Fl r7), (Iv A_g.x), (Iv A_g.y), (Iv A_g.z), (.slice p11 A_g.vals.length q12)]), (.agg #[(Fl r40), (Fl r42), (Fl r44), (Fl r46), (Iv A_g.x), (Iv A_g.y), (Iv A_g.z), (.slice p50 A_g.vals.length q51)]), (Iv x), (Iv y), (Iv z), (.tuple #[(Fl r55), (Bo (hasOk A_g x y z))]), (Fl r55), (Bo (hasOk A_g x y z)), (.agg #[(Fl r1), (Fl r3), (Fl r5), (Fl r7), (Iv A_g.x), (Iv A_g.y), (Iv A_g.z), (.slice p11 A_g.vals.length q12)]), (.agg #[(Fl r65), (Fl r67), (Fl r69), (Fl r71), (Iv A_g.x), (Iv A_g.y), (Iv A_g.z), (.slice p75 A_g.vals.length q76)]), (.tuple #[(Fl r93), (Bo (hasOk A_g x y z))]), (.agg #[(Fl r65), (Fl r67), (Fl r69), (Fl r71), (Iv A_g.x), (Iv A_g.y), (Iv A_g.z), (.slice p75 A_g.vals.length q76)]), (Iv x), (Iv y), (Iv z), (.tuple #[(Fl r93), (Bo (hasOk A_g x y z))]), (Fl r93), (Bo (hasOk A_g x y z)), v98, v99, v100, v101, v102, v103, v104, v105, v106, v107, v108, Ud, Ud, Ud, Ud, Ud]) rfl (fun _ => rfl) (fun u hu hF => ?_) (fun v108 => ?_)
  · have h45_ : v104 = (Bo (!β1)) := hF.1
    have h48_ : (!β1) = false → v107 = (Bo β2) := hF.2.1
    clear hF
    obtain rfl := h45_
    refine doesG_un rfl ((does_pick (b := (!β1)) (ev rfl) (ev rfl) (ev rfl)).mono ?_); rintro _ _ ⟨rfl, rfl⟩; refine ⟨?_, Ext.refl _⟩; skip
    cases hbb : (!β1) <;> simp [hbb] at h48_ ⊢
    all_goals (first | rfl | (subst h48_; rfl) | simp_all)
  refine RW_fin ?_; intro w109 E110 hP111
  obtain ⟨⟨⟨⟨⟨⟨⟨⟨⟨⟨⟨-, -⟩, -⟩, -⟩, -⟩, -⟩, -⟩, -⟩, -⟩, -⟩, -⟩, q112⟩ := hP111
  have X113 := Ext.gr X95 E110
  have q112 : v108 = (Bo ((!β1) || β2)) := q112
  obtain rfl := q112
  show wpList _ _ _ _ (fr [(.agg #[(Fl r1), (Fl r3), (Fl r5), (Fl r7), (Iv A_g.x), (Iv A_g.y), (Iv A_g.z), (.slice p11 A_g.vals.length q12)]), (Iv x), (Iv y), (Iv z), (Pt b15 0), Ud, Ud, Ud, (Bo false), (Iv i26), (Fl r55), (Bo (hasOk A_g x y z)), (Pt b78 0), (Fl r93), (Bo (hasOk A_g x y z)), (.agg #[(Fl r1), (Fl r3), (Fl r5), (Fl r7), (Iv A_g.x), (Iv A_g.y), (Iv A_g.z), (.slice p11 A_g.vals.length q12)]), (Iv 1048576), (Iv i26), (Iv i26), (Bo (icmp .lss i26 0)), (.tuple #[(Fl r55), (Bo (hasOk A_g x y z))]), (.agg #[(Fl r1), (Fl r3), (Fl r5), (Fl r7), (Iv A_g.x), (Iv A_g.y), (Iv A_g.z), (.slice p11 A_g.vals.length q12)]), (.agg #[(Fl r40), (Fl r42), (Fl r44), (Fl r46), (Iv A_g.x), (Iv A_g.y), (Iv A_g.z), (.slice p50 A_g.vals.length q51)]), (Iv x), (Iv y), (Iv z), (.tuple #[(Fl r55), (Bo (hasOk A_g x y z))]), (Fl r55), (Bo (hasOk A_g x y z)), (.agg #[(Fl r1), (Fl r3), (Fl r5), (Fl r7), (Iv A_g.x), (Iv A_g.y), (Iv A_g.z), (.slice p11 A_g.vals.length q12)]), (.agg #[(Fl r65), (Fl r67), (Fl r69), (Fl r71), (Iv A_g.x), (Iv A_g.y), (Iv A_g.z), (.slice p75 A_g.vals.length q76)]), (.tuple #[(Fl r93), (Bo (hasOk A_g x y z))]), (.agg #[(Fl r65), (Fl r67), (Fl r69), (Fl r71), (Iv A_g.x), (Iv A_g.y), (Iv A_g.z), (.slice p75 A_g.vals.length q76)]), (Iv x), (Iv y), (Iv z), (.tuple #[(Fl r93), (Bo (hasOk A_g x y z))]), (Fl r93), (Bo (hasOk A_g x y z)), v98, v99, v100, v101, v102, v103, v104, v105, v106, v107, (Bo ((!β1) || β2)), Ud, Ud, Ud, Ud, Ud]) _
  refine wpList_nil (hK97 _ _ ?_)
  refine wp_cond_split (t := (!β1) || β2) (ev rfl) (fun c114 => ?_) (fun c114 => ?_)
  · have c114' := c114
    (try simp only [hβ1, hβ2] at c114')
    (try simp only [icmp, Bool.and_eq_true, Bool.or_eq_true, Bool.and_eq_false_iff, Bool.or_eq_false_iff, Bool.not_eq_true', Bool.not_eq_false', decide_eq_true_eq, decide_eq_false_iff_not, beq_iff_eq, bne_iff_ne, beq_eq_false_iff_ne, bne_eq_false_iff_eq] at c114')
    refine wp_seq_k fun K115 hK115 => ?_
    refine wp_region_lit ?_
    refine q_is (l' := [(.agg #[(Fl r1), (Fl r3), (Fl r5), (Fl r7), (Iv A_g.x), (Iv A_g.y), (Iv A_g.z), (.slice p11 A_g.vals.length q12)]), (Iv x), (Iv y), (Iv z), (Pt b15 0), Ud, Ud, Ud, (Bo false), (Iv i26), (Fl r55), (Bo (hasOk A_g x y z)), (Pt b78 0), (Fl r93), (Bo (hasOk A_g x y z)), (.agg #[(Fl r1), (Fl r3), (Fl r5), (Fl r7), (Iv A_g.x), (Iv A_g.y), (Iv A_g.z), (.slice p11 A_g.vals.length q12)]), (Iv 1048576), (Iv i26), (Iv i26), (Bo (icmp .lss i26 0)), (.tuple #[(Fl r55), (Bo (hasOk A_g x y z))]), (.agg #[(Fl r1), (Fl r3), (Fl r5), (Fl r7), (Iv A_g.x), (Iv A_g.y), (Iv A_g.z), (.slice p11 A_g.vals.length q12)]), (.agg #[(Fl r40), (Fl r42), (Fl r44), (Fl r46), (Iv A_g.x), (Iv A_g.y), (Iv A_g.z), (.slice p50 A_g.vals.length q51)]), (Iv x), (Iv y), (Iv z), (.tuple #[(Fl r55), (Bo (hasOk A_g x y z))]), (Fl r55), (Bo (hasOk A_g x y z)), (.agg #[(Fl r1), (Fl r3), (Fl r5), (Fl r7), (Iv A_g.x), (Iv A_g.y), (Iv A_g.z), (.slice p11 A_g.vals.length q12)]), (.agg #[(Fl r65), (Fl r67), (Fl r69), (Fl r71), (Iv A_g.x), (Iv A_g.y), (Iv A_g.z), (.slice p75 A_g.vals.length q76)]), (.tuple #[(Fl r93), (Bo (hasOk A_g x y z))]), (.agg #[(Fl r65), (Fl r67), (Fl r69), (Fl r71), (Iv A_g.x), (Iv A_g.y), (Iv A_g.z), (.slice p75 A_g.vals.length q76)]), (Iv x), (Iv y), (Iv z), (.tuple #[(Fl r93), (Bo (hasOk A_g x y z))]), (Fl r93), (Bo (hasOk A_g x y z)), v98, v99, v100, v101, v102, v103, v104, v105, v106, v107, (Bo ((!β1) || β2)), Ud, Ud, Ud, Ud, Ud]) rfl rfl (does_assign (u := (Bo false)) (ev rfl)) rfl ?_
    refine wpList_nil (hK115 _ _ ?_)
    refine wp_ret ?_
    dsimp only [Exit.then, Exit.inBlock]
    refine ret_val (v := (Bo false)) (res_T rfl (slot rfl)) X113 ?_
    try simp only [h2, h4, h6, h8, h41, h43, h45, h47, h56, h66, h68, h70, h72, h94, hβ1, hβ2] at c31 c114
    have x116 : true = false := by first | rfl | (simp only [sameF_self, sameV_self, sameG_self, bne_self_eq_false, icmp, h2, h4, h6, h8, h41, h43, h45, h47, h56, h66, h68, h70, h72, h94, hβ1, hβ2, c31, c114]; done) | (simp [sameF_self, sameV_self, sameG_self, bne_self_eq_false, icmp, h2, h4, h6, h8, h41, h43, h45, h47, h56, h66, h68, h70, h72, h94, hβ1, hβ2, c31, c114]; done) | (revert c31 c114; simp +contextual [sameF_self, sameV_self, sameG_self, bne_self_eq_false, icmp, h2, h4, h6, h8, h41, h43, h45, h47, h56, h66, h68, h70, h72, h94, hβ1, hβ2]; done) | (rcases c31' with hh | hh <;> simp only [hh, sameF_self, sameV_self, sameG_self, bne_self_eq_false, icmp, h2, h4, h6, h8, h41, h43, h45, h47, h56, h66, h68, h70, h72, h94, hβ1, hβ2, c31, c114]; done) | (rcases c114' with hh | hh <;> simp only [hh, sameF_self, sameV_self, sameG_self, bne_self_eq_false, icmp, h2, h4, h6, h8, h41, h43, h45, h47, h56, h66, h68, h70, h72, h94, hβ1, hβ2, c31, c114]; done) | (rcases c114' with hh | hh <;> simp_all [sameF_self, sameV_self, sameG_self, bne_self_eq_false, icmp]; done) | (rcases c114' with hh | hh | hh <;> simp_all [sameF_self, sameV_self, sameG_self, bne_self_eq_false, icmp]; done) | (rcases c114' with hh | hh | hh | hh <;> simp_all [sameF_self, sameV_self, sameG_self, bne_self_eq_false, icmp]; done) | (simp_all [sameF_self, sameV_self, sameG_self, bne_self_eq_false, icmp]; done)
    exact (by first | rfl | rw [x116])
  have c114' := c114
  (try simp only [hβ1, hβ2] at c114')
  (try simp only [icmp, Bool.and_eq_true, Bool.or_eq_true, Bool.and_eq_false_iff, Bool.or_eq_false_iff, Bool.not_eq_true', Bool.not_eq_false', decide_eq_true_eq, decide_eq_false_iff_not, beq_iff_eq, bne_iff_ne, beq_eq_false_iff_ne, bne_eq_false_iff_eq] at c114')
  refine wp_skip (hK96 _ _ ?_)
  refine wp_seq_k fun K117 hK117 => ?_
  refine wp_seq_k fun K118 hK118 => ?_
  refine region_draw (
    [Fact.pure [] (fun v => v = (.agg #[(Fl r65), (Fl r67), (Fl r69), (Fl r71), (Iv A_g.x), (Iv A_g.y), (Iv A_g.z), (.slice p75 A_g.vals.length q76)])),
    Fact.pure [] (fun v => v = (.agg #[(Fl r1), (Fl r3), (Fl r5), (Fl r7), (Iv A_g.x), (Iv A_g.y), (Iv A_g.z), (.slice p11 A_g.vals.length q12)])),
    Fact.mem [51] (fun v w' => ∃ cs_1 : List Value, v = (.agg cs_1.toArray) ∧ Hang w109.heap.size w' (fun u => RGridT u A_g cs_1)) (by rintro v w1 w2 hx ⟨z1, rfl, k0⟩; exact ⟨z1, rfl, (k0.ext hx)⟩),
    Fact.pure [50, 52] (fun v => v = (Bo (sameG A_g A_g))),
    Fact.pure [53] (fun v => v = (Bo (!(sameG A_g A_g))))]) mixed (by kernel_rfl) (by intro _ _ d _ _ h; cases d <;> exact h) ?_
  obtain ⟨w119, hw121⟩ : ∃ w', w' = World.drew w109 := ⟨_, rfl⟩; rw [← hw121]; have E120 : Ext w109 w119 := by rw [hw121]; exact Ext.draw _
  clear hw121
  have X122 := Ext.gr X113 E120
  refine RW_d (fun v123 => [(.agg #[(Fl r1), (Fl r3), (Fl r5), (Fl r7), (Iv A_g.x), (Iv A_g.y), (Iv A_g.z), (.slice p11 A_g.vals.length q12)]), (Iv x), (Iv y), (Iv z), (Pt b15 0), Ud, Ud, Ud, (Bo false), (Iv i26), (Fl r55), (Bo (hasOk A_g x y z)), (Pt b78 0), (Fl r93), (Bo (hasOk A_g x y z)), (.agg #[(Fl r1), (Fl r3), (Fl r5), (Fl r7), (Iv A_g.x), (Iv A_g.y), (Iv A_g.z), (.slice p11 A_g.vals.length q12)]), (Iv 1048576), (Iv i26), (Iv i26), (Bo (icmp .lss i26 0)), (.tuple #[(Fl r55), (Bo (hasOk A_g x y z))]), (.agg #[(Fl r1), (Fl r3), (Fl r5), (Fl r7), (Iv A_g.x), (Iv A_g.y), (Iv A_g.z), (.slice p11 A_g.vals.length q12)]), (.agg #[(Fl r40), (Fl r42), (Fl r44), (Fl r46), (Iv A_g.x), (Iv A_g.y), (Iv A_g.z), (.slice p50 A_g.vals.length q51)]), (Iv x), (Iv y), (Iv z), (.tuple #[(Fl r55), (Bo (hasOk A_g x y z))]), (Fl r55), (Bo (hasOk A_g x y z)), (.agg #[(Fl r1), (Fl r3), (Fl r5), (Fl r7), (Iv A_g.x), (Iv A_g.y), (Iv A_g.z), (.slice p11 A_g.vals.length q12)]), (.agg #[(Fl r65), (Fl r67), (Fl r69), (Fl r71), (Iv A_g.x), (Iv A_g.y), (Iv A_g.z), (.slice p75 A_g.vals.length q76)]), (.tuple #[(Fl r93), (Bo (hasOk A_g x y z))]), (.agg #[(Fl r65), (Fl r67), (Fl r69), (Fl r71), (Iv A_g.x), (Iv A_g.y), (Iv A_g.z), (.slice p75 A_g.vals.length q76)]), (Iv x), (Iv y), (Iv z), (.tuple #[(Fl r93), (Bo (hasOk A_g x y z))]), (Fl r93), (Bo (hasOk A_g x y z)), v98, v99, v100, v101, v102, v103, v104, v105, v106, v107, (Bo ((!β1) || β2)), v123, Ud, Ud, Ud, Ud]) rfl (fun _ => rfl) (fun u hu hF => ?_) (fun v123 => ?_)
  · clear hF
    refine doesG_un rfl ?_
    refine (does_loadAgg (cs := [(Fl r65), (Fl r67), (Fl r69), (Fl r71), (Iv A_g.x), (Iv A_g.y), (Iv A_g.z), (.slice p75 A_g.vals.length q76)]) (ev rfl) Try.isAgg32 Try.sizeOf32 (Blk.cells ((((hB87.ext E91).ext E110).ext E120).ext hu)) rfl).mono ?_; rintro _ _ ⟨rfl, rfl⟩
    exact ⟨rfl, Ext.refl _⟩
  refine RW_d (fun v124 => [(.agg #[(Fl r1), (Fl r3), (Fl r5), (Fl r7), (Iv A_g.x), (Iv A_g.y), (Iv A_g.z), (.slice p11 A_g.vals.length q12)]), (Iv x), (Iv y), (Iv z), (Pt b15 0), Ud, Ud, Ud, (Bo false), (Iv i26), (Fl r55), (Bo (hasOk A_g x y z)), (Pt b78 0), (Fl r93), (Bo (hasOk A_g x y z)), (.agg #[(Fl r1), (Fl r3), (Fl r5), (Fl r7), (Iv A_g.x), (Iv A_g.y), (Iv A_g.z), (.slice p11 A_g.vals.length q12)]), (Iv 1048576), (Iv i26), (Iv i26), (Bo (icmp .lss i26 0)), (.tuple #[(Fl r55), (Bo (hasOk A_g x y z))]), (.agg #[(Fl r1), (Fl r3), (Fl r5), (Fl r7), (Iv A_g.x), (Iv A_g.y), (Iv A_g.z), (.slice p11 A_g.vals.length q12)]), (.agg #[(Fl r40), (Fl r42), (Fl r44), (Fl r46), (Iv A_g.x), (Iv A_g.y), (Iv A_g.z), (.slice p50 A_g.vals.length q51)]), (Iv x), (Iv y), (Iv z), (.tuple #[(Fl r55), (Bo (hasOk A_g x y z))]), (Fl r55), (Bo (hasOk A_g x y z)), (.agg #[(Fl r1), (Fl r3), (Fl r5), (Fl r7), (Iv A_g.x), (Iv A_g.y), (Iv A_g.z), (.slice p11 A_g.vals.length q12)]), (.agg #[(Fl r65), (Fl r67), (Fl r69), (Fl r71), (Iv A_g.x), (Iv A_g.y), (Iv A_g.z), (.slice p75 A_g.vals.length q76)]), (.tuple #[(Fl r93), (Bo (hasOk A_g x y z))]), (.agg #[(Fl r65), (Fl r67), (Fl r69), (Fl r71), (Iv A_g.x), (Iv A_g.y), (Iv A_g.z), (.slice p75 A_g.vals.length q76)]), (Iv x), (Iv y), (Iv z), (.tuple #[(Fl r93), (Bo (hasOk A_g x y z))]), (Fl r93), (Bo (hasOk A_g x y z)), v98, v99, v100, v101, v102, v103, v104, v105, v106, v107, (Bo ((!β1) || β2)), v123, v124, Ud, Ud, Ud]) rfl (fun _ => rfl) (fun u hu hF => ?_) (fun v124 => ?_)
  · clear hF
    refine doesG_un rfl ?_
    refine (does_loadAgg (cs := [(Fl r1), (Fl r3), (Fl r5), (Fl r7), (Iv A_g.x), (Iv A_g.y), (Iv A_g.z), (.slice p11 A_g.vals.length q12)]) (ev rfl) Try.isAgg27 Try.sizeOf27 (Blk.cells ((((((((((hB17.ext E24).ext E34).ext E53).ext E59).ext E81).wr W86 (Nat.ne_of_lt n83)).ext E91).ext E110).ext E120).ext hu)) rfl).mono ?_; rintro _ _ ⟨rfl, rfl⟩
    exact ⟨rfl, Ext.refl _⟩
  refine RW_d (fun v125 => [(.agg #[(Fl r1), (Fl r3), (Fl r5), (Fl r7), (Iv A_g.x), (Iv A_g.y), (Iv A_g.z), (.slice p11 A_g.vals.length q12)]), (Iv x), (Iv y), (Iv z), (Pt b15 0), Ud, Ud, Ud, (Bo false), (Iv i26), (Fl r55), (Bo (hasOk A_g x y z)), (Pt b78 0), (Fl r93), (Bo (hasOk A_g x y z)), (.agg #[(Fl r1), (Fl r3), (Fl r5), (Fl r7), (Iv A_g.x), (Iv A_g.y), (Iv A_g.z), (.slice p11 A_g.vals.length q12)]), (Iv 1048576), (Iv i26), (Iv i26), (Bo (icmp .lss i26 0)), (.tuple #[(Fl r55), (Bo (hasOk A_g x y z))]), (.agg #[(Fl r1), (Fl r3), (Fl r5), (Fl r7), (Iv A_g.x), (Iv A_g.y), (Iv A_g.z), (.slice p11 A_g.vals.length q12)]), (.agg #[(Fl r40), (Fl r42), (Fl r44), (Fl r46), (Iv A_g.x), (Iv A_g.y), (Iv A_g.z), (.slice p50 A_g.vals.length q51)]), (Iv x), (Iv y), (Iv z), (.tuple #[(Fl r55), (Bo (hasOk A_g x y z))]), (Fl r55), (Bo (hasOk A_g x y z)), (.agg #[(Fl r1), (Fl r3), (Fl r5), (Fl r7), (Iv A_g.x), (Iv A_g.y), (Iv A_g.z), (.slice p11 A_g.vals.length q12)]), (.agg #[(Fl r65), (Fl r67), (Fl r69), (Fl r71), (Iv A_g.x), (Iv A_g.y), (Iv A_g.z), (.slice p75 A_g.vals.length q76)]), (.tuple #[(Fl r93), (Bo (hasOk A_g x y z))]), (.agg #[(Fl r65), (Fl r67), (Fl r69), (Fl r71), (Iv A_g.x), (Iv A_g.y), (Iv A_g.z), (.slice p75 A_g.vals.length q76)]), (Iv x), (Iv y), (Iv z), (.tuple #[(Fl r93), (Bo (hasOk A_g x y z))]), (Fl r93), (Bo (hasOk A_g x y z)), v98, v99, v100, v101, v102, v103, v104, v105, v106, v107, (Bo ((!β1) || β2)), v123, v124, v125, Ud, Ud]) rfl (fun _ => rfl) (fun u hu hF => ?_) (fun v125 => ?_)
  · have h51_ : v124 = (.agg #[(Fl r1), (Fl r3), (Fl r5), (Fl r7), (Iv A_g.x), (Iv A_g.y), (Iv A_g.z), (.slice p11 A_g.vals.length q12)]) := hF.1
    clear hF
    obtain rfl := h51_
    refine doesG_un rfl ?_
    refine (does_call (args := #[(.agg #[(Fl r1), (Fl r3), (Fl r5), (Fl r7), (Iv A_g.x), (Iv A_g.y), (Iv A_g.z), (.slice p11 A_g.vals.length q12)])]) cal19 (evs rfl) (c_laws_toGrid [(Fl r1), (Fl r3), (Fl r5), (Fl r7), (Iv A_g.x), (Iv A_g.y), (Iv A_g.z), (.slice p11 A_g.vals.length q12)] A_g _ ⟨r1, r3, r5, r7, (.slice p11 A_g.vals.length q12), rfl, h2, h4, h6, h8, (Sl.ext (Sl.ext hs13 RF.mono (Ext.gr X113 E120)) RF.mono hu)⟩ (by omega))).mono ?_; rintro v u' ⟨hx, ⟨csn1, hv, k0⟩⟩
    exact ⟨⟨csn1, hv, (Hang.le k0 (Nat.le_trans (Below.size E120) (Below.size hu)))⟩, hx⟩
  refine RW_d (fun v126 => [(.agg #[(Fl r1), (Fl r3), (Fl r5), (Fl r7), (Iv A_g.x), (Iv A_g.y), (Iv A_g.z), (.slice p11 A_g.vals.length q12)]), (Iv x), (Iv y), (Iv z), (Pt b15 0), Ud, Ud, Ud, (Bo false), (Iv i26), (Fl r55), (Bo (hasOk A_g x y z)), (Pt b78 0), (Fl r93), (Bo (hasOk A_g x y z)), (.agg #[(Fl r1), (Fl r3), (Fl r5), (Fl r7), (Iv A_g.x), (Iv A_g.y), (Iv A_g.z), (.slice p11 A_g.vals.length q12)]), (Iv 1048576), (Iv i26), (Iv i26), (Bo (icmp .lss i26 0)), (.tuple #[(Fl r55), (Bo (hasOk A_g x y z))]), (.agg #[(Fl r1), (Fl r3), (Fl r5), (Fl r7), (Iv A_g.x), (Iv A_g.y), (Iv A_g.z), (.slice p11 A_g.vals.length q12)]), (.agg #[(Fl r40), (Fl r42), (Fl r44), (Fl r46), (Iv A_g.x), (Iv A_g.y), (Iv A_g.z), (.slice p50 A_g.vals.length q51)]), (Iv x), (Iv y), (Iv z), (.tuple #[(Fl r55), (Bo (hasOk A_g x y z))]), (Fl r55), (Bo (hasOk A_g x y z)), (.agg #[(Fl r1), (Fl r3), (Fl r5), (Fl r7), (Iv A_g.x), (Iv A_g.y), (Iv A_g.z), (.slice p11 A_g.vals.length q12)]), (.agg #[(Fl r65), (Fl r67), (Fl r69), (Fl r71), (Iv A_g.x), (Iv A_g.y), (Iv A_g.z), (.slice p75 A_g.vals.length q76)]), (.tuple #[(Fl r93), (Bo (hasOk A_g x y z))]), (.agg #[(Fl r65), (Fl r67), (Fl r69), (Fl r71), (Iv A_g.x), (Iv A_g.y), (Iv A_g.z), (.slice p75 A_g.vals.length q76)]), (Iv x), (Iv y), (Iv z), (.tuple #[(Fl r93), (Bo (hasOk A_g x y z))]), (Fl r93), (Bo (hasOk A_g x y z)), v98, v99, v100, v101, v102, v103, v104, v105, v106, v107, (Bo ((!β1) || β2)), v123, v124, v125, v126, Ud]) rfl (fun _ => rfl) (fun u hu hF => ?_) (fun v126 => ?_)
  · have h50_ : v123 = (.agg #[(Fl r65), (Fl r67), (Fl r69), (Fl r71), (Iv A_g.x), (Iv A_g.y), (Iv A_g.z), (.slice p75 A_g.vals.length q76)]) := hF.1
    have h52_ : ∃ cs_1 : List Value, v125 = (.agg cs_1.toArray) ∧ Hang w109.heap.size u (fun u => RGridT u A_g cs_1) := hF.2.1
    clear hF
    obtain rfl := h50_
    obtain ⟨cs52_2, rfl, hh52_1⟩ := h52_
    obtain ⟨r52_3, r52_5, r52_7, r52_9, y52_11, rfl, h52_4, h52_6, h52_8, h52_10, h52_12⟩ := hh52_1.get
    have hh52_12 := h52_12; obtain ⟨p52_13, q52_14, rfl⟩ := Sl.shape h52_12
    refine doesG_un rfl ?_
    refine (does_call (args := #[(.agg #[(Fl r65), (Fl r67), (Fl r69), (Fl r71), (Iv A_g.x), (Iv A_g.y), (Iv A_g.z), (.slice p75 A_g.vals.length q76)]), (.agg #[(Fl r52_3), (Fl r52_5), (Fl r52_7), (Fl r52_9), (Iv A_g.x), (Iv A_g.y), (Iv A_g.z), (.slice p52_13 A_g.vals.length q52_14)])]) cal21 (evs rfl) (c_laws_eqGrid [(Fl r65), (Fl r67), (Fl r69), (Fl r71), (Iv A_g.x), (Iv A_g.y), (Iv A_g.z), (.slice p75 A_g.vals.length q76)] A_g [(Fl r52_3), (Fl r52_5), (Fl r52_7), (Fl r52_9), (Iv A_g.x), (Iv A_g.y), (Iv A_g.z), (.slice p52_13 A_g.vals.length q52_14)] A_g _ ⟨r65, r67, r69, r71, (.slice p75 A_g.vals.length q76), rfl, h66, h68, h70, h72, (Sl.ext (hh77 _ ((((((Same.refl _ _).ext E81).wr W86 (.inr (Nat.le_trans (Below.size (Ext.refl _)) hb79))).ext E91).ext E110).ext E120)) RF.mono hu)⟩ ⟨r52_3, r52_5, r52_7, r52_9, (.slice p52_13 A_g.vals.length q52_14), rfl, (by assumption), (by assumption), (by assumption), (by assumption), hh52_12⟩)).mono ?_; rintro v u' ⟨hx, hv⟩
    exact ⟨hv.trans (by simp only [h52_4, h52_6, h52_8, h52_10]), hx⟩
  refine RW_d (fun v127 => [(.agg #[(Fl r1), (Fl r3), (Fl r5), (Fl r7), (Iv A_g.x), (Iv A_g.y), (Iv A_g.z), (.slice p11 A_g.vals.length q12)]), (Iv x), (Iv y), (Iv z), (Pt b15 0), Ud, Ud, Ud, (Bo false), (Iv i26), (Fl r55), (Bo (hasOk A_g x y z)), (Pt b78 0), (Fl r93), (Bo (hasOk A_g x y z)), (.agg #[(Fl r1), (Fl r3), (Fl r5), (Fl r7), (Iv A_g.x), (Iv A_g.y), (Iv A_g.z), (.slice p11 A_g.vals.length q12)]), (Iv 1048576), (Iv i26), (Iv i26), (Bo (icmp .lss i26 0)), (.tuple #[(Fl r55), (Bo (hasOk A_g x y z))]), (.agg #[(Fl r1), (Fl r3), (Fl r5), (Fl r7), (Iv A_g.x), (Iv A_g.y), (Iv A_g.z), (.slice p11 A_g.vals.length q12)]), (.agg #[(Fl r40), (Fl r42), (Fl r44), (Fl r46), (Iv A_g.x), (Iv A_g.y), (Iv A_g.z), (.slice p50 A_g.vals.length q51)]), (Iv x), (Iv y), (Iv z), (.tuple #[(Fl r55), (Bo (hasOk A_g x y z))]), (Fl r55), (Bo (hasOk A_g x y z)), (.agg #[(Fl r1), (Fl r3), (Fl r5), (Fl r7), (Iv A_g.x), (Iv A_g.y), (Iv A_g.z), (.slice p11 A_g.vals.length q12)]), (.agg #[(Fl r65), (Fl r67), (Fl r69), (Fl r71), (Iv A_g.x), (Iv A_g.y), (Iv A_g.z), (.slice p75 A_g.vals.length q76)]), (.tuple #[(Fl r93), (Bo (hasOk A_g x y z))]), (.agg #[(Fl r65), (Fl r67), (Fl r69), (Fl r71), (Iv A_g.x), (Iv A_g.y), (Iv A_g.z), (.slice p75 A_g.vals.length q76)]), (Iv x), (Iv y), (Iv z), (.tuple #[(Fl r93), (Bo (hasOk A_g x y z))]), (Fl r93), (Bo (hasOk A_g x y z)), v98, v99, v100, v101, v102, v103, v104, v105, v106, v107, (Bo ((!β1) || β2)), v123, v124, v125, v126, v127]) rfl (fun _ => rfl) (fun u hu hF => ?_) (fun v127 => ?_)
  · have h53_ : v126 = (Bo (sameG A_g A_g)) := hF.1
    clear hF
    obtain rfl := h53_
    refine doesG_un rfl ?_
    refine (does_not (ev rfl)).mono ?_; rintro _ _ ⟨rfl, rfl⟩
    exact ⟨rfl, Ext.refl _⟩
  refine RW_fin ?_; intro w128 E129 hP130
  obtain ⟨⟨⟨⟨⟨-, -⟩, -⟩, -⟩, -⟩, q131⟩ := hP130
  have X132 := Ext.gr X122 E129
  have q131 : v127 = (Bo (!(sameG A_g A_g))) := q131
  obtain rfl := q131
  show wpList _ _ _ _ (fr [(.agg #[(Fl r1), (Fl r3), (Fl r5), (Fl r7), (Iv A_g.x), (Iv A_g.y), (Iv A_g.z), (.slice p11 A_g.vals.length q12)]), (Iv x), (Iv y), (Iv z), (Pt b15 0), Ud, Ud, Ud, (Bo false), (Iv i26), (Fl r55), (Bo (hasOk A_g x y z)), (Pt b78 0), (Fl r93), (Bo (hasOk A_g x y z)), (.agg #[(Fl r1), (Fl r3), (Fl r5), (Fl r7), (Iv A_g.x), (Iv A_g.y), (Iv A_g.z), (.slice p11 A_g.vals.length q12)]), (Iv 1048576), (Iv i26), (Iv i26), (Bo (icmp .lss i26 0)), (.tuple #[(Fl r55), (Bo (hasOk A_g x y z))]), (.agg #[(Fl r1), (Fl r3), (Fl r5), (Fl r7), (Iv A_g.x), (Iv A_g.y), (Iv A_g.z), (.slice p11 A_g.vals.length q12)]), (.agg #[(Fl r40), (Fl r42), (Fl r44), (Fl r46), (Iv A_g.x), (Iv A_g.y), (Iv A_g.z), (.slice p50 A_g.vals.length q51)]), (Iv x), (Iv y), (Iv z), (.tuple #[(Fl r55), (Bo (hasOk A_g x y z))]), (Fl r55), (Bo (hasOk A_g x y z)), (.agg #[(Fl r1), (Fl r3), (Fl r5), (Fl r7), (Iv A_g.x), (Iv A_g.y), (Iv A_g.z), (.slice p11 A_g.vals.length q12)]), (.agg #[(Fl r65), (Fl r67), (Fl r69), (Fl r71), (Iv A_g.x), (Iv A_g.y), (Iv A_g.z), (.slice p75 A_g.vals.length q76)]), (.tuple #[(Fl r93), (Bo (hasOk A_g x y z))]), (.agg #[(Fl r65), (Fl r67), (Fl r69), (Fl r71), (Iv A_g.x), (Iv A_g.y), (Iv A_g.z), (.slice p75 A_g.vals.length q76)]), (Iv x), (Iv y), (Iv z), (.tuple #[(Fl r93), (Bo (hasOk A_g x y z))]), (Fl r93), (Bo (hasOk A_g x y z)), v98, v99, v100, v101, v102, v103, v104, v105, v106, v107, (Bo ((!β1) || β2)), v123, v124, v125, v126, (Bo (!(sameG A_g A_g)))]) _
  refine wpList_nil (hK118 _ _ ?_)
  refine wp_cond_split (t := !(sameG A_g A_g)) (ev rfl) (fun c133 => ?_) (fun c133 => ?_)
  · rw [Bool.not_eq_true'] at c133
    have c133' := c133
    (try simp only [hβ1, hβ2] at c133')
    (try simp only [icmp, Bool.and_eq_true, Bool.or_eq_true, Bool.and_eq_false_iff, Bool.or_eq_false_iff, Bool.not_eq_true', Bool.not_eq_false', decide_eq_true_eq, decide_eq_false_iff_not, beq_iff_eq, bne_iff_ne, beq_eq_false_iff_ne, bne_eq_false_iff_eq] at c133')
    refine wp_seq_k fun K134 hK134 => ?_
    refine wp_region_lit ?_
    refine q_is (l' := [(.agg #[(Fl r1), (Fl r3), (Fl r5), (Fl r7), (Iv A_g.x), (Iv A_g.y), (Iv A_g.z), (.slice p11 A_g.vals.length q12)]), (Iv x), (Iv y), (Iv z), (Pt b15 0), Ud, Ud, Ud, (Bo false), (Iv i26), (Fl r55), (Bo (hasOk A_g x y z)), (Pt b78 0), (Fl r93), (Bo (hasOk A_g x y z)), (.agg #[(Fl r1), (Fl r3), (Fl r5), (Fl r7), (Iv A_g.x), (Iv A_g.y), (Iv A_g.z), (.slice p11 A_g.vals.length q12)]), (Iv 1048576), (Iv i26), (Iv i26), (Bo (icmp .lss i26 0)), (.tuple #[(Fl r55), (Bo (hasOk A_g x y z))]), (.agg #[(Fl r1), (Fl r3), (Fl r5), (Fl r7), (Iv A_g.x), (Iv A_g.y), (Iv A_g.z), (.slice p11 A_g.vals.length q12)]), (.agg #[(Fl r40), (Fl r42), (Fl r44), (Fl r46), (Iv A_g.x), (Iv A_g.y), (Iv A_g.z), (.slice p50 A_g.vals.length q51)]), (Iv x), (Iv y), (Iv z), (.tuple #[(Fl r55), (Bo (hasOk A_g x y z))]), (Fl r55), (Bo (hasOk A_g x y z)), (.agg #[(Fl r1), (Fl r3), (Fl r5), (Fl r7), (Iv A_g.x), (Iv A_g.y), (Iv A_g.z), (.slice p11 A_g.vals.length q12)]), (.agg #[(Fl r65), (Fl r67), (Fl r69), (Fl r71), (Iv A_g.x), (Iv A_g.y), (Iv A_g.z), (.slice p75 A_g.vals.length q76)]), (.tuple #[(Fl r93), (Bo (hasOk A_g x y z))]), (.agg #[(Fl r65), (Fl r67), (Fl r69), (Fl r71), (Iv A_g.x), (Iv A_g.y), (Iv A_g.z), (.slice p75 A_g.vals.length q76)]), (Iv x), (Iv y), (Iv z), (.tuple #[(Fl r93), (Bo (hasOk A_g x y z))]), (Fl r93), (Bo (hasOk A_g x y z)), v98, v99, v100, v101, v102, v103, v104, v105, v106, v107, (Bo ((!β1) || β2)), v123, v124, v125, v126, (Bo (!(sameG A_g A_g)))]) rfl rfl (does_assign (u := (Bo false)) (ev rfl)) rfl ?_
    refine wpList_nil (hK134 _ _ ?_)
    refine wp_ret ?_
    dsimp only [Exit.then, Exit.inBlock]
    refine ret_val (v := (Bo false)) (res_T rfl (slot rfl)) X132 ?_
    try simp only [h2, h4, h6, h8, h41, h43, h45, h47, h56, h66, h68, h70, h72, h94, hβ1, hβ2] at c31 c114 c133
    have x135 : true = false := by first | rfl | (simp only [sameF_self, sameV_self, sameG_self, bne_self_eq_false, icmp, h2, h4, h6, h8, h41, h43, h45, h47, h56, h66, h68, h70, h72, h94, hβ1, hβ2, c31, c114, c133]; done) | (simp [sameF_self, sameV_self, sameG_self, bne_self_eq_false, icmp, h2, h4, h6, h8, h41, h43, h45, h47, h56, h66, h68, h70, h72, h94, hβ1, hβ2, c31, c114, c133]; done) | (revert c31 c114 c133; simp +contextual [sameF_self, sameV_self, sameG_self, bne_self_eq_false, icmp, h2, h4, h6, h8, h41, h43, h45, h47, h56, h66, h68, h70, h72, h94, hβ1, hβ2]; done) | (rcases c31' with hh | hh <;> simp only [hh, sameF_self, sameV_self, sameG_self, bne_self_eq_false, icmp, h2, h4, h6, h8, h41, h43, h45, h47, h56, h66, h68, h70, h72, h94, hβ1, hβ2, c31, c114, c133]; done) | (rcases c114' with hh | hh <;> simp only [hh, sameF_self, sameV_self, sameG_self, bne_self_eq_false, icmp, h2, h4, h6, h8, h41, h43, h45, h47, h56, h66, h68, h70, h72, h94, hβ1, hβ2, c31, c114, c133]; done) | (rcases c133' with hh | hh <;> simp only [hh, sameF_self, sameV_self, sameG_self, bne_self_eq_false, icmp, h2, h4, h6, h8, h41, h43, h45, h47, h56, h66, h68, h70, h72, h94, hβ1, hβ2, c31, c114, c133]; done) | (rcases c133' with hh | hh <;> simp_all [sameF_self, sameV_self, sameG_self, bne_self_eq_false, icmp]; done) | (rcases c133' with hh | hh | hh <;> simp_all [sameF_self, sameV_self, sameG_self, bne_self_eq_false, icmp]; done) | (rcases c133' with hh | hh | hh | hh <;> simp_all [sameF_self, sameV_self, sameG_self, bne_self_eq_false, icmp]; done) | (simp_all [sameF_self, sameV_self, sameG_self, bne_self_eq_false, icmp]; done)
    exact (by first | rfl | rw [x135])
  rw [Bool.not_eq_false'] at c133
  have c133' := c133
  (try simp only [hβ1, hβ2] at c133')
  (try simp only [icmp, Bool.and_eq_true, Bool.or_eq_true, Bool.and_eq_false_iff, Bool.or_eq_false_iff, Bool.not_eq_true', Bool.not_eq_false', decide_eq_true_eq, decide_eq_false_iff_not, beq_iff_eq, bne_iff_ne, beq_eq_false_iff_ne, bne_eq_false_iff_eq] at c133')
  refine wp_skip (hK117 _ _ ?_)
  refine wp_seq_k fun K136 hK136 => ?_
  refine wp_region_lit ?_
  refine q_is (l' := [(.agg #[(Fl r1), (Fl r3), (Fl r5), (Fl r7), (Iv A_g.x), (Iv A_g.y), (Iv A_g.z), (.slice p11 A_g.vals.length q12)]), (Iv x), (Iv y), (Iv z), (Pt b15 0), Ud, Ud, Ud, (Bo true), (Iv i26), (Fl r55), (Bo (hasOk A_g x y z)), (Pt b78 0), (Fl r93), (Bo (hasOk A_g x y z)), (.agg #[(Fl r1), (Fl r3), (Fl r5), (Fl r7), (Iv A_g.x), (Iv A_g.y), (Iv A_g.z), (.slice p11 A_g.vals.length q12)]), (Iv 1048576), (Iv i26), (Iv i26), (Bo (icmp .lss i26 0)), (.tuple #[(Fl r55), (Bo (hasOk A_g x y z))]), (.agg #[(Fl r1), (Fl r3), (Fl r5), (Fl r7), (Iv A_g.x), (Iv A_g.y), (Iv A_g.z), (.slice p11 A_g.vals.length q12)]), (.agg #[(Fl r40), (Fl r42), (Fl r44), (Fl r46), (Iv A_g.x), (Iv A_g.y), (Iv A_g.z), (.slice p50 A_g.vals.length q51)]), (Iv x), (Iv y), (Iv z), (.tuple #[(Fl r55), (Bo (hasOk A_g x y z))]), (Fl r55), (Bo (hasOk A_g x y z)), (.agg #[(Fl r1), (Fl r3), (Fl r5), (Fl r7), (Iv A_g.x), (Iv A_g.y), (Iv A_g.z), (.slice p11 A_g.vals.length q12)]), (.agg #[(Fl r65), (Fl r67), (Fl r69), (Fl r71), (Iv A_g.x), (Iv A_g.y), (Iv A_g.z), (.slice p75 A_g.vals.length q76)]), (.tuple #[(Fl r93), (Bo (hasOk A_g x y z))]), (.agg #[(Fl r65), (Fl r67), (Fl r69), (Fl r71), (Iv A_g.x), (Iv A_g.y), (Iv A_g.z), (.slice p75 A_g.vals.length q76)]), (Iv x), (Iv y), (Iv z), (.tuple #[(Fl r93), (Bo (hasOk A_g x y z))]), (Fl r93), (Bo (hasOk A_g x y z)), v98, v99, v100, v101, v102, v103, v104, v105, v106, v107, (Bo ((!β1) || β2)), v123, v124, v125, v126, (Bo (!(sameG A_g A_g)))]) rfl rfl (does_assign (u := (Bo true)) (ev rfl)) rfl ?_
  refine wpList_nil (hK136 _ _ ?_)
  refine wp_ret ?_
  refine ret_val (v := (Bo true)) (res_T rfl (slot rfl)) X132 ?_
  try simp only [h2, h4, h6, h8, h41, h43, h45, h47, h56, h66, h68, h70, h72, h94, hβ1, hβ2] at c31 c114 c133
  exact rfl

/- spec.l06Inside -/
theorem c_spec_l06Inside (g_b : Nat) (g_o : Nat) (g : List Value) (A_g : GridT) (w : World) (hc_g : Cells w g_b g_o g) (hv_g : RGridT w A_g g) : Gives Try.prog 72 #[(Pt g_b g_o)] w (fun v w' => v = (Iv (insG A_g))) := by
  obtain ⟨r1, r3, r5, r7, y9, rfl, h2, h4, h6, h8, h10⟩ := hv_g
  have hs13 := h10; have hs13l := Sl.len h10; obtain ⟨p11, q12, rfl⟩ := Sl.shape h10
  refine enter [(Pt g_b g_o), Ud, Ud, Ud, Ud, Ud, Ud, Ud, Ud, Ud, Ud, Ud, Ud, Ud, Ud, Ud, Ud, Ud, Ud, Ud, Ud, Ud, Ud, Ud, Ud] Try.func72 rfl Try.ntmps72 rfl ?_
  refine wp_seq_k fun K14 hK14 => ?_
  refine wp_region_lit ?_
  refine q_is (l' := [(Pt g_b g_o), Ud, (Iv 0), Ud, Ud, Ud, Ud, Ud, Ud, Ud, Ud, Ud, Ud, Ud, Ud, Ud, Ud, Ud, Ud, Ud, Ud, Ud, Ud, Ud, Ud]) rfl rfl (does_assign (u := (Iv 0)) (ev rfl)) rfl ?_
  refine wpList_nil (hK14 _ _ ?_)
  refine wp_seq_k fun K15 hK15 => ?_
  refine wp_region_lit ?_
  refine q_is (l' := [(Pt g_b g_o), Ud, (Iv 0), (Iv 0), Ud, Ud, Ud, Ud, Ud, Ud, Ud, Ud, Ud, Ud, Ud, Ud, Ud, Ud, Ud, Ud, Ud, Ud, Ud, Ud, Ud]) rfl rfl (does_assign (u := (Iv 0)) (ev rfl)) rfl ?_
  refine wpList_nil (hK15 _ _ ?_)
  refine wp_seq_k fun K16 hK16 => ?_
  refine wp_seq_k fun K17 hK17 => ?_
  refine wp_region_lit ?_
  refine q_is (l' := [(Pt g_b g_o), Ud, (Iv 0), (Iv 0), (Iv 0), Ud, Ud, Ud, Ud, Ud, Ud, Ud, Ud, Ud, Ud, Ud, Ud, Ud, Ud, Ud, Ud, Ud, Ud, Ud, Ud]) rfl rfl (does_assign (u := (Iv 0)) (ev rfl)) rfl ?_
  refine wpList_nil (hK17 _ _ ?_)
  refine wp_block ?_
  refine loop_ghost (σ := Nat × Int) (fun s a w' => ∃ u18 : Nat → Value, a = fr [(Pt g_b g_o), Ud, (Iv 0), (Iv s.2), (Iv (s.1 : Int)), (u18 5), (u18 6), (u18 7), (u18 8), (u18 9), (u18 10), (u18 11), (u18 12), (u18 13), (u18 14), (u18 15), (u18 16), (u18 17), (u18 18), (u18 19), (u18 20), (u18 21), (u18 22), (u18 23), Ud] ∧ Ext w w' ∧ (s.1 ≤ A_g.vals.length ∧ s.2 = cntNeg A_g.vals s.1)) (fun s => A_g.vals.length - s.1) (0, 0) ?_ ?_
  · refine ⟨fun t => (([(Pt g_b g_o), Ud, (Iv 0), (Iv 0), (Iv 0), Ud, Ud, Ud, Ud, Ud, Ud, Ud, Ud, Ud, Ud, Ud, Ud, Ud, Ud, Ud, Ud, Ud, Ud, Ud, Ud] : List Value)[t]?).getD undef, rfl, Ext.refl _, ?_⟩
    exact ⟨Nat.zero_le _, rfl⟩
  · rintro s a w19 ⟨u18, rfl, E20, ⟨hk, hn⟩⟩
    have X22 := Ext.gr (Ext.refl w) E20
    have hr := cntNeg_range A_g.vals s.1
    refine wp_seq_k fun K23 hK23 => ?_
    refine wp_seq_k fun K24 hK24 => ?_
    refine wp_region_lit ?_
    refine q_is (l' := [(Pt g_b g_o), Ud, (Iv 0), (Iv s.2), (Iv (s.1 : Int)), (Iv (s.1 : Int)), (u18 6), (u18 7), (u18 8), (u18 9), (u18 10), (u18 11), (u18 12), (u18 13), (u18 14), (u18 15), (u18 16), (u18 17), (u18 18), (u18 19), (u18 20), (u18 21), (u18 22), (u18 23), Ud]) rfl rfl (does_move (u := (Iv (s.1 : Int))) (ev rfl)) rfl ?_
    refine q_is (l' := [(Pt g_b g_o), Ud, (Iv 0), (Iv s.2), (Iv (s.1 : Int)), (Iv (s.1 : Int)), (Pt g_b g_o), (u18 7), (u18 8), (u18 9), (u18 10), (u18 11), (u18 12), (u18 13), (u18 14), (u18 15), (u18 16), (u18 17), (u18 18), (u18 19), (u18 20), (u18 21), (u18 22), (u18 23), Ud]) rfl rfl (does_move (u := (Pt g_b g_o)) (ev rfl)) rfl ?_
    refine q_is (l' := [(Pt g_b g_o), Ud, (Iv 0), (Iv s.2), (Iv (s.1 : Int)), (Iv (s.1 : Int)), (Pt g_b g_o), (Pt g_b g_o), (u18 8), (u18 9), (u18 10), (u18 11), (u18 12), (u18 13), (u18 14), (u18 15), (u18 16), (u18 17), (u18 18), (u18 19), (u18 20), (u18 21), (u18 22), (u18 23), Ud]) rfl rfl (does_nilCheck (ev rfl)) rfl ?_
    refine q_is (l' := [(Pt g_b g_o), Ud, (Iv 0), (Iv s.2), (Iv (s.1 : Int)), (Iv (s.1 : Int)), (Pt g_b g_o), (Pt g_b g_o), (Pt g_b (g_o + 7)), (u18 9), (u18 10), (u18 11), (u18 12), (u18 13), (u18 14), (u18 15), (u18 16), (u18 17), (u18 18), (u18 19), (u18 20), (u18 21), (u18 22), (u18 23), Ud]) rfl rfl (does_fieldAddr (ev rfl) fa32_5) rfl ?_
    refine q_is (l' := [(Pt g_b g_o), Ud, (Iv 0), (Iv s.2), (Iv (s.1 : Int)), (Iv (s.1 : Int)), (Pt g_b g_o), (Pt g_b g_o), (Pt g_b (g_o + 7)), (.slice p11 A_g.vals.length q12), (u18 10), (u18 11), (u18 12), (u18 13), (u18 14), (u18 15), (u18 16), (u18 17), (u18 18), (u18 19), (u18 20), (u18 21), (u18 22), (u18 23), Ud]) rfl rfl (does_load (u := (.slice p11 A_g.vals.length q12)) (ev rfl) Try.isAgg25 (Cells.at (hc_g.ext X22) 7 rfl)) rfl ?_
    refine q_is (l' := [(Pt g_b g_o), Ud, (Iv 0), (Iv s.2), (Iv (s.1 : Int)), (Iv (s.1 : Int)), (Pt g_b g_o), (Pt g_b g_o), (Pt g_b (g_o + 7)), (.slice p11 A_g.vals.length q12), (Iv (A_g.vals.length : Int)), (u18 11), (u18 12), (u18 13), (u18 14), (u18 15), (u18 16), (u18 17), (u18 18), (u18 19), (u18 20), (u18 21), (u18 22), (u18 23), Ud]) rfl rfl (does_len_slice Try.underlying25 (ev rfl)) rfl ?_
    refine q_is (l' := [(Pt g_b g_o), Ud, (Iv 0), (Iv s.2), (Iv (s.1 : Int)), (Iv (s.1 : Int)), (Pt g_b g_o), (Pt g_b g_o), (Pt g_b (g_o + 7)), (.slice p11 A_g.vals.length q12), (Iv (A_g.vals.length : Int)), (Bo (icmp .lss (s.1 : Int) (A_g.vals.length : Int))), (u18 12), (u18 13), (u18 14), (u18 15), (u18 16), (u18 17), (u18 18), (u18 19), (u18 20), (u18 21), (u18 22), (u18 23), Ud]) rfl rfl (does_icmp (p := (s.1 : Int)) (q := (A_g.vals.length : Int)) (.inr (.inr (.inl rfl))) (ev rfl) (ev rfl)) rfl ?_
    refine wpList_nil (hK24 _ _ ?_)
    refine wp_cond_split (t := icmp .lss (s.1 : Int) (A_g.vals.length : Int)) (ev rfl) (fun c25 => ?_) (fun c25 => ?_)
    · have c25' := c25
      (try simp only [icmp, Bool.and_eq_true, Bool.or_eq_true, Bool.and_eq_false_iff, Bool.or_eq_false_iff, Bool.not_eq_true', Bool.not_eq_false', decide_eq_true_eq, decide_eq_false_iff_not, beq_iff_eq, bne_iff_ne, beq_eq_false_iff_ne, bne_eq_false_iff_eq] at c25')
      refine wp_skip (hK23 _ _ ?_)
      refine wp_seq_k fun K26 hK26 => ?_
      refine wp_block ?_
      refine wp_seq_k fun K27 hK27 => ?_
      refine wp_region_lit ?_
      refine q_is (l' := [(Pt g_b g_o), Ud, (Iv 0), (Iv s.2), (Iv (s.1 : Int)), (Iv (s.1 : Int)), (Pt g_b g_o), (Pt g_b g_o), (Pt g_b (g_o + 7)), (.slice p11 A_g.vals.length q12), (Iv (A_g.vals.length : Int)), (Bo (icmp .lss (s.1 : Int) (A_g.vals.length : Int))), (u18 12), (u18 13), (Pt g_b g_o), (u18 15), (u18 16), (u18 17), (u18 18), (u18 19), (u18 20), (u18 21), (u18 22), (u18 23), Ud]) rfl rfl (does_move (u := (Pt g_b g_o)) (ev rfl)) rfl ?_
      refine q_is (l' := [(Pt g_b g_o), Ud, (Iv 0), (Iv s.2), (Iv (s.1 : Int)), (Iv (s.1 : Int)), (Pt g_b g_o), (Pt g_b g_o), (Pt g_b (g_o + 7)), (.slice p11 A_g.vals.length q12), (Iv (A_g.vals.length : Int)), (Bo (icmp .lss (s.1 : Int) (A_g.vals.length : Int))), (u18 12), (u18 13), (Pt g_b g_o), (Pt g_b g_o), (u18 16), (u18 17), (u18 18), (u18 19), (u18 20), (u18 21), (u18 22), (u18 23), Ud]) rfl rfl (does_nilCheck (ev rfl)) rfl ?_
      refine q_is (l' := [(Pt g_b g_o), Ud, (Iv 0), (Iv s.2), (Iv (s.1 : Int)), (Iv (s.1 : Int)), (Pt g_b g_o), (Pt g_b g_o), (Pt g_b (g_o + 7)), (.slice p11 A_g.vals.length q12), (Iv (A_g.vals.length : Int)), (Bo (icmp .lss (s.1 : Int) (A_g.vals.length : Int))), (u18 12), (u18 13), (Pt g_b g_o), (Pt g_b g_o), (Pt g_b (g_o + 7)), (u18 17), (u18 18), (u18 19), (u18 20), (u18 21), (u18 22), (u18 23), Ud]) rfl rfl (does_fieldAddr (ev rfl) fa32_5) rfl ?_
      refine q_is (l' := [(Pt g_b g_o), Ud, (Iv 0), (Iv s.2), (Iv (s.1 : Int)), (Iv (s.1 : Int)), (Pt g_b g_o), (Pt g_b g_o), (Pt g_b (g_o + 7)), (.slice p11 A_g.vals.length q12), (Iv (A_g.vals.length : Int)), (Bo (icmp .lss (s.1 : Int) (A_g.vals.length : Int))), (u18 12), (u18 13), (Pt g_b g_o), (Pt g_b g_o), (Pt g_b (g_o + 7)), (.slice p11 A_g.vals.length q12), (u18 18), (u18 19), (u18 20), (u18 21), (u18 22), (u18 23), Ud]) rfl rfl (does_load (u := (.slice p11 A_g.vals.length q12)) (ev rfl) Try.isAgg25 (Cells.at (hc_g.ext X22) 7 rfl)) rfl ?_
      refine q_is (l' := [(Pt g_b g_o), Ud, (Iv 0), (Iv s.2), (Iv (s.1 : Int)), (Iv (s.1 : Int)), (Pt g_b g_o), (Pt g_b g_o), (Pt g_b (g_o + 7)), (.slice p11 A_g.vals.length q12), (Iv (A_g.vals.length : Int)), (Bo (icmp .lss (s.1 : Int) (A_g.vals.length : Int))), (u18 12), (u18 13), (Pt g_b g_o), (Pt g_b g_o), (Pt g_b (g_o + 7)), (.slice p11 A_g.vals.length q12), (Iv (s.1 : Int)), (u18 19), (u18 20), (u18 21), (u18 22), (u18 23), Ud]) rfl rfl (does_move (u := (Iv (s.1 : Int))) (ev rfl)) rfl ?_
      obtain ⟨el1, hel1⟩ : ∃ e, A_g.vals[s.1]? = some e := ⟨_, List.getElem?_eq_getElem (by omega)⟩
      refine seqd rfl rfl (does_indexSl (R := RF) (i := (s.1 : Int)) (xs := A_g.vals) (e := el1) Try.underlying25 Try.sizeOf22 (ev rfl) (ev rfl) (Sl.ext hs13 RF.mono X22) (by omega) hel1) ?_; rintro _ _ ⟨b28, o29, _, rfl, hc31, ⟨r32, rfl, h33⟩, rfl⟩
      show wpList _ _ _ _ (fr [(Pt g_b g_o), Ud, (Iv 0), (Iv s.2), (Iv (s.1 : Int)), (Iv (s.1 : Int)), (Pt g_b g_o), (Pt g_b g_o), (Pt g_b (g_o + 7)), (.slice p11 A_g.vals.length q12), (Iv (A_g.vals.length : Int)), (Bo (icmp .lss (s.1 : Int) (A_g.vals.length : Int))), (u18 12), (u18 13), (Pt g_b g_o), (Pt g_b g_o), (Pt g_b (g_o + 7)), (.slice p11 A_g.vals.length q12), (Iv (s.1 : Int)), (Pt b28 o29), (u18 20), (u18 21), (u18 22), (u18 23), Ud]) _
      refine q_is (l' := [(Pt g_b g_o), Ud, (Iv 0), (Iv s.2), (Iv (s.1 : Int)), (Iv (s.1 : Int)), (Pt g_b g_o), (Pt g_b g_o), (Pt g_b (g_o + 7)), (.slice p11 A_g.vals.length q12), (Iv (A_g.vals.length : Int)), (Bo (icmp .lss (s.1 : Int) (A_g.vals.length : Int))), (u18 12), (u18 13), (Pt g_b g_o), (Pt g_b g_o), (Pt g_b (g_o + 7)), (.slice p11 A_g.vals.length q12), (Iv (s.1 : Int)), (Pt b28 o29), (Fl r32), (u18 21), (u18 22), (u18 23), Ud]) rfl rfl (does_load (u := (Fl r32)) (ev rfl) Try.isAgg22 (Cells.at hc31 0 rfl)) rfl ?_
      refine q_is (l' := [(Pt g_b g_o), Ud, (Iv 0), (Iv s.2), (Iv (s.1 : Int)), (Iv (s.1 : Int)), (Pt g_b g_o), (Pt g_b g_o), (Pt g_b (g_o + 7)), (.slice p11 A_g.vals.length q12), (Iv (A_g.vals.length : Int)), (Bo (icmp .lss (s.1 : Int) (A_g.vals.length : Int))), (u18 12), (u18 13), (Pt g_b g_o), (Pt g_b g_o), (Pt g_b (g_o + 7)), (.slice p11 A_g.vals.length q12), (Iv (s.1 : Int)), (Pt b28 o29), (Fl r32), (Bo (fcmp .lss (ford .f32 (cf .f32 r32) (cf .f32 0)))), (u18 22), (u18 23), Ud]) rfl rfl (does_fcmp (.inr (.inr (.inl rfl))) (ev rfl) (ev rfl)) rfl ?_
      refine wpList_nil (hK27 _ _ ?_)
      refine wp_cond_split (t := fcmp .lss (ford .f32 (cf .f32 r32) (cf .f32 0))) (ev rfl) (fun c34 => ?_) (fun c34 => ?_)
      · have c34' := c34
        refine wp_region_lit ?_
        refine q_is (l' := [(Pt g_b g_o), Ud, (Iv 0), (Iv s.2), (Iv (s.1 : Int)), (Iv (s.1 : Int)), (Pt g_b g_o), (Pt g_b g_o), (Pt g_b (g_o + 7)), (.slice p11 A_g.vals.length q12), (Iv (A_g.vals.length : Int)), (Bo (icmp .lss (s.1 : Int) (A_g.vals.length : Int))), (u18 12), (u18 13), (Pt g_b g_o), (Pt g_b g_o), (Pt g_b (g_o + 7)), (.slice p11 A_g.vals.length q12), (Iv (s.1 : Int)), (Pt b28 o29), (Fl r32), (Bo (fcmp .lss (ford .f32 (cf .f32 r32) (cf .f32 0)))), (Iv s.2), (u18 23), Ud]) rfl rfl (does_move (u := (Iv s.2)) (ev rfl)) rfl ?_
        refine q_is (l' := [(Pt g_b g_o), Ud, (Iv 0), (Iv s.2), (Iv (s.1 : Int)), (Iv (s.1 : Int)), (Pt g_b g_o), (Pt g_b g_o), (Pt g_b (g_o + 7)), (.slice p11 A_g.vals.length q12), (Iv (A_g.vals.length : Int)), (Bo (icmp .lss (s.1 : Int) (A_g.vals.length : Int))), (u18 12), (u18 13), (Pt g_b g_o), (Pt g_b g_o), (Pt g_b (g_o + 7)), (.slice p11 A_g.vals.length q12), (Iv (s.1 : Int)), (Pt b28 o29), (Fl r32), (Bo (fcmp .lss (ford .f32 (cf .f32 r32) (cf .f32 0)))), (Iv s.2), (Iv (s.2 + 1)), Ud]) rfl rfl (does_iarith (p := s.2) (q := 1) (r := s.2 + 1) (ev rfl) (ev rfl) (.inl ⟨rfl, (in_i64 (by omega) (by omega)).symm⟩)) rfl ?_
        refine q_is (l' := [(Pt g_b g_o), Ud, (Iv 0), (Iv (s.2 + 1)), (Iv (s.1 : Int)), (Iv (s.1 : Int)), (Pt g_b g_o), (Pt g_b g_o), (Pt g_b (g_o + 7)), (.slice p11 A_g.vals.length q12), (Iv (A_g.vals.length : Int)), (Bo (icmp .lss (s.1 : Int) (A_g.vals.length : Int))), (u18 12), (u18 13), (Pt g_b g_o), (Pt g_b g_o), (Pt g_b (g_o + 7)), (.slice p11 A_g.vals.length q12), (Iv (s.1 : Int)), (Pt b28 o29), (Fl r32), (Bo (fcmp .lss (ford .f32 (cf .f32 r32) (cf .f32 0)))), (Iv s.2), (Iv (s.2 + 1)), Ud]) rfl rfl (does_assign (u := (Iv (s.2 + 1))) (ev rfl)) rfl ?_
        refine wpList_nil (hK26 _ _ ?_)
        refine wp_region_lit ?_
        refine q_is (l' := [(Pt g_b g_o), Ud, (Iv 0), (Iv (s.2 + 1)), (Iv (s.1 : Int)), (Iv (s.1 : Int)), (Pt g_b g_o), (Pt g_b g_o), (Pt g_b (g_o + 7)), (.slice p11 A_g.vals.length q12), (Iv (A_g.vals.length : Int)), (Bo (icmp .lss (s.1 : Int) (A_g.vals.length : Int))), (Iv (s.1 : Int)), (u18 13), (Pt g_b g_o), (Pt g_b g_o), (Pt g_b (g_o + 7)), (.slice p11 A_g.vals.length q12), (Iv (s.1 : Int)), (Pt b28 o29), (Fl r32), (Bo (fcmp .lss (ford .f32 (cf .f32 r32) (cf .f32 0)))), (Iv s.2), (Iv (s.2 + 1)), Ud]) rfl rfl (does_move (u := (Iv (s.1 : Int))) (ev rfl)) rfl ?_
        refine q_is (l' := [(Pt g_b g_o), Ud, (Iv 0), (Iv (s.2 + 1)), (Iv (s.1 : Int)), (Iv (s.1 : Int)), (Pt g_b g_o), (Pt g_b g_o), (Pt g_b (g_o + 7)), (.slice p11 A_g.vals.length q12), (Iv (A_g.vals.length : Int)), (Bo (icmp .lss (s.1 : Int) (A_g.vals.length : Int))), (Iv (s.1 : Int)), (Iv ((s.1 : Int) + 1)), (Pt g_b g_o), (Pt g_b g_o), (Pt g_b (g_o + 7)), (.slice p11 A_g.vals.length q12), (Iv (s.1 : Int)), (Pt b28 o29), (Fl r32), (Bo (fcmp .lss (ford .f32 (cf .f32 r32) (cf .f32 0)))), (Iv s.2), (Iv (s.2 + 1)), Ud]) rfl rfl (does_iarith (p := (s.1 : Int)) (q := 1) (r := (s.1 : Int) + 1) (ev rfl) (ev rfl) (.inl ⟨rfl, (in_i64 (by omega) (by omega)).symm⟩)) rfl ?_
        refine q_is (l' := [(Pt g_b g_o), Ud, (Iv 0), (Iv (s.2 + 1)), (Iv ((s.1 : Int) + 1)), (Iv (s.1 : Int)), (Pt g_b g_o), (Pt g_b g_o), (Pt g_b (g_o + 7)), (.slice p11 A_g.vals.length q12), (Iv (A_g.vals.length : Int)), (Bo (icmp .lss (s.1 : Int) (A_g.vals.length : Int))), (Iv (s.1 : Int)), (Iv ((s.1 : Int) + 1)), (Pt g_b g_o), (Pt g_b g_o), (Pt g_b (g_o + 7)), (.slice p11 A_g.vals.length q12), (Iv (s.1 : Int)), (Pt b28 o29), (Fl r32), (Bo (fcmp .lss (ford .f32 (cf .f32 r32) (cf .f32 0)))), (Iv s.2), (Iv (s.2 + 1)), Ud]) rfl rfl (does_assign (u := (Iv ((s.1 : Int) + 1))) (ev rfl)) rfl ?_
        refine wpList_nil ?_
        refine ⟨(s.1 + 1, s.2 + 1), ⟨fun t => (([(Pt g_b g_o), Ud, (Iv 0), (Iv (s.2 + 1)), (Iv ((s.1 : Int) + 1)), (Iv (s.1 : Int)), (Pt g_b g_o), (Pt g_b g_o), (Pt g_b (g_o + 7)), (.slice p11 A_g.vals.length q12), (Iv (A_g.vals.length : Int)), (Bo (icmp .lss (s.1 : Int) (A_g.vals.length : Int))), (Iv (s.1 : Int)), (Iv ((s.1 : Int) + 1)), (Pt g_b g_o), (Pt g_b g_o), (Pt g_b (g_o + 7)), (.slice p11 A_g.vals.length q12), (Iv (s.1 : Int)), (Pt b28 o29), (Fl r32), (Bo (fcmp .lss (ford .f32 (cf .f32 r32) (cf .f32 0)))), (Iv s.2), (Iv (s.2 + 1)), Ud] : List Value)[t]?).getD undef, ?_, E20, ?_⟩, ?_⟩
        · first | rfl | (simp only [Nat.cast_add, Nat.cast_one, Int.natCast_add, Int.natCast_one]; rfl)
        · (try dsimp only); first | exact ⟨by omega, cntNeg_more hn (by assumption) (by simp_all [negF])⟩ | exact ⟨by omega, cntNeg_same hn (by assumption) (by simp_all [negF])⟩
        · (try dsimp only); omega
      have c34' := c34
      refine wp_skip (hK26 _ _ ?_)
      refine wp_region_lit ?_
      refine q_is (l' := [(Pt g_b g_o), Ud, (Iv 0), (Iv s.2), (Iv (s.1 : Int)), (Iv (s.1 : Int)), (Pt g_b g_o), (Pt g_b g_o), (Pt g_b (g_o + 7)), (.slice p11 A_g.vals.length q12), (Iv (A_g.vals.length : Int)), (Bo (icmp .lss (s.1 : Int) (A_g.vals.length : Int))), (Iv (s.1 : Int)), (u18 13), (Pt g_b g_o), (Pt g_b g_o), (Pt g_b (g_o + 7)), (.slice p11 A_g.vals.length q12), (Iv (s.1 : Int)), (Pt b28 o29), (Fl r32), (Bo (fcmp .lss (ford .f32 (cf .f32 r32) (cf .f32 0)))), (u18 22), (u18 23), Ud]) rfl rfl (does_move (u := (Iv (s.1 : Int))) (ev rfl)) rfl ?_
      refine q_is (l' := [(Pt g_b g_o), Ud, (Iv 0), (Iv s.2), (Iv (s.1 : Int)), (Iv (s.1 : Int)), (Pt g_b g_o), (Pt g_b g_o), (Pt g_b (g_o + 7)), (.slice p11 A_g.vals.length q12), (Iv (A_g.vals.length : Int)), (Bo (icmp .lss (s.1 : Int) (A_g.vals.length : Int))), (Iv (s.1 : Int)), (Iv ((s.1 : Int) + 1)), (Pt g_b g_o), (Pt g_b g_o), (Pt g_b (g_o + 7)), (.slice p11 A_g.vals.length q12), (Iv (s.1 : Int)), (Pt b28 o29), (Fl r32), (Bo (fcmp .lss (ford .f32 (cf .f32 r32) (cf .f32 0)))), (u18 22), (u18 23), Ud]) rfl rfl (does_iarith (p := (s.1 : Int)) (q := 1) (r := (s.1 : Int) + 1) (ev rfl) (ev rfl) (.inl ⟨rfl, (in_i64 (by omega) (by omega)).symm⟩)) rfl ?_
      refine q_is (l' := [(Pt g_b g_o), Ud, (Iv 0), (Iv s.2), (Iv ((s.1 : Int) + 1)), (Iv (s.1 : Int)), (Pt g_b g_o), (Pt g_b g_o), (Pt g_b (g_o + 7)), (.slice p11 A_g.vals.length q12), (Iv (A_g.vals.length : Int)), (Bo (icmp .lss (s.1 : Int) (A_g.vals.length : Int))), (Iv (s.1 : Int)), (Iv ((s.1 : Int) + 1)), (Pt g_b g_o), (Pt g_b g_o), (Pt g_b (g_o + 7)), (.slice p11 A_g.vals.length q12), (Iv (s.1 : Int)), (Pt b28 o29), (Fl r32), (Bo (fcmp .lss (ford .f32 (cf .f32 r32) (cf .f32 0)))), (u18 22), (u18 23), Ud]) rfl rfl (does_assign (u := (Iv ((s.1 : Int) + 1))) (ev rfl)) rfl ?_
      refine wpList_nil ?_
      refine ⟨(s.1 + 1, s.2), ⟨fun t => (([(Pt g_b g_o), Ud, (Iv 0), (Iv s.2), (Iv ((s.1 : Int) + 1)), (Iv (s.1 : Int)), (Pt g_b g_o), (Pt g_b g_o), (Pt g_b (g_o + 7)), (.slice p11 A_g.vals.length q12), (Iv (A_g.vals.length : Int)), (Bo (icmp .lss (s.1 : Int) (A_g.vals.length : Int))), (Iv (s.1 : Int)), (Iv ((s.1 : Int) + 1)), (Pt g_b g_o), (Pt g_b g_o), (Pt g_b (g_o + 7)), (.slice p11 A_g.vals.length q12), (Iv (s.1 : Int)), (Pt b28 o29), (Fl r32), (Bo (fcmp .lss (ford .f32 (cf .f32 r32) (cf .f32 0)))), (u18 22), (u18 23), Ud] : List Value)[t]?).getD undef, ?_, E20, ?_⟩, ?_⟩
      · first | rfl | (simp only [Nat.cast_add, Nat.cast_one, Int.natCast_add, Int.natCast_one]; rfl)
      · (try dsimp only); first | exact ⟨by omega, cntNeg_more hn (by assumption) (by simp_all [negF])⟩ | exact ⟨by omega, cntNeg_same hn (by assumption) (by simp_all [negF])⟩
      · (try dsimp only); omega
    have c25' := c25
    (try simp only [icmp, Bool.and_eq_true, Bool.or_eq_true, Bool.and_eq_false_iff, Bool.or_eq_false_iff, Bool.not_eq_true', Bool.not_eq_false', decide_eq_true_eq, decide_eq_false_iff_not, beq_iff_eq, bne_iff_ne, beq_eq_false_iff_ne, bne_eq_false_iff_eq] at c25')
    refine wp_exit ?_
    refine hK16 _ _ ?_
    refine wp_seq_k fun K35 hK35 => ?_
    refine wp_region_lit ?_
    refine q_is (l' := [(Pt g_b g_o), Ud, (Iv 0), (Iv s.2), (Iv (s.1 : Int)), (Iv (s.1 : Int)), (Pt g_b g_o), (Pt g_b g_o), (Pt g_b (g_o + 7)), (.slice p11 A_g.vals.length q12), (Iv (A_g.vals.length : Int)), (Bo (icmp .lss (s.1 : Int) (A_g.vals.length : Int))), (u18 12), (u18 13), (u18 14), (u18 15), (u18 16), (u18 17), (u18 18), (u18 19), (u18 20), (u18 21), (u18 22), (u18 23), (Iv s.2)]) rfl rfl (does_move (u := (Iv s.2)) (ev rfl)) rfl ?_
    refine q_is (l' := [(Pt g_b g_o), Ud, (Iv s.2), (Iv s.2), (Iv (s.1 : Int)), (Iv (s.1 : Int)), (Pt g_b g_o), (Pt g_b g_o), (Pt g_b (g_o + 7)), (.slice p11 A_g.vals.length q12), (Iv (A_g.vals.length : Int)), (Bo (icmp .lss (s.1 : Int) (A_g.vals.length : Int))), (u18 12), (u18 13), (u18 14), (u18 15), (u18 16), (u18 17), (u18 18), (u18 19), (u18 20), (u18 21), (u18 22), (u18 23), (Iv s.2)]) rfl rfl (does_assign (u := (Iv s.2)) (ev rfl)) rfl ?_
    refine wpList_nil (hK35 _ _ ?_)
    refine wp_ret ?_
    refine ret_val (v := (Iv s.2)) (res_T rfl (slot rfl)) X22 ?_
    try simp only [h2, h4, h6, h8] at c25
    have x36 : (insG A_g : Int) = s.2 := by first | rfl | assumption | exact insG_at hn hk (by omega) | (rw [‹isGrid A_g = false›]; rfl) | (rw [‹isGrid A_g = true›]; exact insG_at hn hk (by omega))
    exact (by first | rfl | rw [x36])

/- spec.CountInside -/
theorem c_spec_CountInside (g : List Value) (A_g : GridT) (w : World) (hv_g : RGridT w A_g g) : Gives Try.prog 25 #[(.agg g.toArray)] w (fun v w' => v = (.tuple #[(Iv (gvI (isGrid A_g) (insG A_g))), (Bo (isGrid A_g))])) := by
  obtain ⟨r1, r3, r5, r7, y9, rfl, h2, h4, h6, h8, h10⟩ := hv_g
  have hs13 := h10; have hs13l := Sl.len h10; obtain ⟨p11, q12, rfl⟩ := Sl.shape h10
  refine enter [(.agg #[(Fl r1), (Fl r3), (Fl r5), (Fl r7), (Iv A_g.x), (Iv A_g.y), (Iv A_g.z), (.slice p11 A_g.vals.length q12)]), Ud, Ud, Ud, Ud, Ud, Ud] Try.func25 rfl Try.ntmps25 rfl ?_
  refine wp_seq_k fun K14 hK14 => ?_
  refine wp_region_lit ?_
  refine seqd rfl rfl (does_box (u := (.agg #[(Fl r1), (Fl r3), (Fl r5), (Fl r7), (Iv A_g.x), (Iv A_g.y), (Iv A_g.z), (.slice p11 A_g.vals.length q12)])) (ev rfl)) ?_; rintro _ w19 ⟨b15, rfl, hb16, hB17, E18⟩
  have g20 : w.heap.size ≤ b15 := Nat.le_trans (Below.size (Ext.refl w)) hb16
  change Blk _ _ [(Fl r1), (Fl r3), (Fl r5), (Fl r7), (Iv A_g.x), (Iv A_g.y), (Iv A_g.z), (.slice p11 A_g.vals.length q12)] at hB17
  have X21 := Ext.gr (Ext.refl w) E18
  show wpList _ _ _ _ (fr [(.agg #[(Fl r1), (Fl r3), (Fl r5), (Fl r7), (Iv A_g.x), (Iv A_g.y), (Iv A_g.z), (.slice p11 A_g.vals.length q12)]), (Pt b15 0), Ud, Ud, Ud, Ud, Ud]) _
  refine q_is (l' := [(.agg #[(Fl r1), (Fl r3), (Fl r5), (Fl r7), (Iv A_g.x), (Iv A_g.y), (Iv A_g.z), (.slice p11 A_g.vals.length q12)]), (Pt b15 0), (Iv 0), Ud, Ud, Ud, Ud]) rfl rfl (does_assign (u := (Iv 0)) (ev rfl)) rfl ?_
  refine q_is (l' := [(.agg #[(Fl r1), (Fl r3), (Fl r5), (Fl r7), (Iv A_g.x), (Iv A_g.y), (Iv A_g.z), (.slice p11 A_g.vals.length q12)]), (Pt b15 0), (Iv 0), (Bo false), Ud, Ud, Ud]) rfl rfl (does_assign (u := (Bo false)) (ev rfl)) rfl ?_
  refine wpList_nil (hK14 _ _ ?_)
  refine wp_seq_k fun K22 hK22 => ?_
  refine wp_seq_k fun K23 hK23 => ?_
  refine wp_region_lit ?_
  refine seqd rfl rfl (does_call (args := #[(Pt b15 0)]) cal61 (evs rfl) (c_spec_l06Is b15 0 [(Fl r1), (Fl r3), (Fl r5), (Fl r7), (Iv A_g.x), (Iv A_g.y), (Iv A_g.z), (.slice p11 A_g.vals.length q12)] A_g _ (Blk.cells hB17) ⟨r1, r3, r5, r7, (.slice p11 A_g.vals.length q12), rfl, h2, h4, h6, h8, (Sl.ext hs13 RF.mono X21)⟩)) ?_; rintro _ w25 ⟨E24, rfl⟩
  have X26 := Ext.gr X21 E24
  show wpList _ _ _ _ (fr [(.agg #[(Fl r1), (Fl r3), (Fl r5), (Fl r7), (Iv A_g.x), (Iv A_g.y), (Iv A_g.z), (.slice p11 A_g.vals.length q12)]), (Pt b15 0), (Iv 0), (Bo false), (Bo (isGrid A_g)), Ud, Ud]) _
  refine q_is (l' := [(.agg #[(Fl r1), (Fl r3), (Fl r5), (Fl r7), (Iv A_g.x), (Iv A_g.y), (Iv A_g.z), (.slice p11 A_g.vals.length q12)]), (Pt b15 0), (Iv 0), (Bo false), (Bo (isGrid A_g)), (Bo (!(isGrid A_g))), Ud]) rfl rfl (does_not (ev rfl)) rfl ?_
  refine wpList_nil (hK23 _ _ ?_)
  refine wp_cond_split (t := !(isGrid A_g)) (ev rfl) (fun c27 => ?_) (fun c27 => ?_)
  · rw [Bool.not_eq_true'] at c27
    have c27' := c27
    refine wp_seq_k fun K28 hK28 => ?_
    refine wp_region_lit ?_
    refine q_is (l' := [(.agg #[(Fl r1), (Fl r3), (Fl r5), (Fl r7), (Iv A_g.x), (Iv A_g.y), (Iv A_g.z), (.slice p11 A_g.vals.length q12)]), (Pt b15 0), (Iv 0), (Bo false), (Bo (isGrid A_g)), (Bo (!(isGrid A_g))), Ud]) rfl rfl (does_assign (u := (Iv 0)) (ev rfl)) rfl ?_
    refine q_is (l' := [(.agg #[(Fl r1), (Fl r3), (Fl r5), (Fl r7), (Iv A_g.x), (Iv A_g.y), (Iv A_g.z), (.slice p11 A_g.vals.length q12)]), (Pt b15 0), (Iv 0), (Bo false), (Bo (isGrid A_g)), (Bo (!(isGrid A_g))), Ud]) rfl rfl (does_assign (u := (Bo false)) (ev rfl)) rfl ?_
    refine wpList_nil (hK28 _ _ ?_)
    refine wp_ret ?_
    dsimp only [Exit.then, Exit.inBlock]
    refine ret_val (v := (.tuple #[(Iv 0), (Bo false)])) (res_TT rfl (slot rfl) (slot rfl)) X26 ?_
    try simp only [h2, h4, h6, h8] at c27
    have x29 : (gvI (isGrid A_g) (insG A_g) : Int) = 0 := by first | rfl | (simp only [gvI_t, gvI_f, h2, h4, h6, h8, c27]; done) | (simp [gvI_t, gvI_f, h2, h4, h6, h8, c27]; done) | (revert c27; simp +contextual [gvI_t, gvI_f, h2, h4, h6, h8]; done) | (rcases c27' with hh | hh <;> simp only [hh, gvI_t, gvI_f, h2, h4, h6, h8, c27]; done) | (rcases c27' with hh | hh <;> simp_all [gvI_t, gvI_f]; done) | (rcases c27' with hh | hh | hh <;> simp_all [gvI_t, gvI_f]; done) | (rcases c27' with hh | hh | hh | hh <;> simp_all [gvI_t, gvI_f]; done) | (simp_all [gvI_t, gvI_f]; done)
    have x30 : (isGrid A_g) = false := by first | rfl | (simp only [gvI_t, gvI_f, h2, h4, h6, h8, c27]; done) | (simp [gvI_t, gvI_f, h2, h4, h6, h8, c27]; done) | (revert c27; simp +contextual [gvI_t, gvI_f, h2, h4, h6, h8]; done) | (rcases c27' with hh | hh <;> simp only [hh, gvI_t, gvI_f, h2, h4, h6, h8, c27]; done) | (rcases c27' with hh | hh <;> simp_all [gvI_t, gvI_f]; done) | (rcases c27' with hh | hh | hh <;> simp_all [gvI_t, gvI_f]; done) | (rcases c27' with hh | hh | hh | hh <;> simp_all [gvI_t, gvI_f]; done) | (simp_all [gvI_t, gvI_f]; done)
    exact (by first | rfl | rw [x29, x30])
  rw [Bool.not_eq_false'] at c27
  have c27' := c27
  refine wp_skip (hK22 _ _ ?_)
  refine wp_seq_k fun K31 hK31 => ?_
  refine wp_region_lit ?_
  refine seqd rfl rfl (does_call (args := #[(Pt b15 0)]) cal72 (evs rfl) (c_spec_l06Inside b15 0 [(Fl r1), (Fl r3), (Fl r5), (Fl r7), (Iv A_g.x), (Iv A_g.y), (Iv A_g.z), (.slice p11 A_g.vals.length q12)] A_g _ (Blk.cells (hB17.ext E24)) ⟨r1, r3, r5, r7, (.slice p11 A_g.vals.length q12), rfl, h2, h4, h6, h8, (Sl.ext hs13 RF.mono X26)⟩)) ?_; rintro _ w33 ⟨E32, rfl⟩
  have X34 := Ext.gr X26 E32
  show wpList _ _ _ _ (fr [(.agg #[(Fl r1), (Fl r3), (Fl r5), (Fl r7), (Iv A_g.x), (Iv A_g.y), (Iv A_g.z), (.slice p11 A_g.vals.length q12)]), (Pt b15 0), (Iv 0), (Bo false), (Bo (isGrid A_g)), (Bo (!(isGrid A_g))), (Iv (insG A_g))]) _
  refine q_is (l' := [(.agg #[(Fl r1), (Fl r3), (Fl r5), (Fl r7), (Iv A_g.x), (Iv A_g.y), (Iv A_g.z), (.slice p11 A_g.vals.length q12)]), (Pt b15 0), (Iv (insG A_g)), (Bo false), (Bo (isGrid A_g)), (Bo (!(isGrid A_g))), (Iv (insG A_g))]) rfl rfl (does_assign (u := (Iv (insG A_g))) (ev rfl)) rfl ?_
  refine q_is (l' := [(.agg #[(Fl r1), (Fl r3), (Fl r5), (Fl r7), (Iv A_g.x), (Iv A_g.y), (Iv A_g.z), (.slice p11 A_g.vals.length q12)]), (Pt b15 0), (Iv (insG A_g)), (Bo true), (Bo (isGrid A_g)), (Bo (!(isGrid A_g))), (Iv (insG A_g))]) rfl rfl (does_assign (u := (Bo true)) (ev rfl)) rfl ?_
  refine wpList_nil (hK31 _ _ ?_)
  refine wp_ret ?_
  refine ret_val (v := (.tuple #[(Iv (insG A_g)), (Bo true)])) (res_TT rfl (slot rfl) (slot rfl)) X34 ?_
  try simp only [h2, h4, h6, h8] at c27
  have x35 : (gvI (isGrid A_g) (insG A_g) : Int) = (insG A_g) := by first | rfl | (simp only [gvI_t, gvI_f, h2, h4, h6, h8, c27]; done) | (simp [gvI_t, gvI_f, h2, h4, h6, h8, c27]; done) | (revert c27; simp +contextual [gvI_t, gvI_f, h2, h4, h6, h8]; done) | (rcases c27' with hh | hh <;> simp only [hh, gvI_t, gvI_f, h2, h4, h6, h8, c27]; done) | (rcases c27' with hh | hh <;> simp_all [gvI_t, gvI_f]; done) | (rcases c27' with hh | hh | hh <;> simp_all [gvI_t, gvI_f]; done) | (rcases c27' with hh | hh | hh | hh <;> simp_all [gvI_t, gvI_f]; done) | (simp_all [gvI_t, gvI_f]; done)
  have x36 : (isGrid A_g) = true := by first | rfl | (simp only [gvI_t, gvI_f, h2, h4, h6, h8, c27]; done) | (simp [gvI_t, gvI_f, h2, h4, h6, h8, c27]; done) | (revert c27; simp +contextual [gvI_t, gvI_f, h2, h4, h6, h8]; done) | (rcases c27' with hh | hh <;> simp only [hh, gvI_t, gvI_f, h2, h4, h6, h8, c27]; done) | (rcases c27' with hh | hh <;> simp_all [gvI_t, gvI_f]; done) | (rcases c27' with hh | hh | hh <;> simp_all [gvI_t, gvI_f]; done) | (rcases c27' with hh | hh | hh | hh <;> simp_all [gvI_t, gvI_f]; done) | (simp_all [gvI_t, gvI_f]; done)
  exact (by first | rfl | rw [x35, x36])

/- impl.CountInside -/
theorem c_impl_CountInside (g : List Value) (A_g : GridT) (w : World) (hv_g : RGridT w A_g g) : Gives Try.prog 26 #[(.agg g.toArray)] w (fun v w' => v = (.tuple #[(Iv (gvI (isGrid A_g) (insG A_g))), (Bo (isGrid A_g))])) := by
  obtain ⟨r1, r3, r5, r7, y9, rfl, h2, h4, h6, h8, h10⟩ := hv_g
  have hs13 := h10; have hs13l := Sl.len h10; obtain ⟨p11, q12, rfl⟩ := Sl.shape h10
  refine enter [(.agg #[(Fl r1), (Fl r3), (Fl r5), (Fl r7), (Iv A_g.x), (Iv A_g.y), (Iv A_g.z), (.slice p11 A_g.vals.length q12)]), Ud, Ud, Ud, Ud, Ud, Ud, Ud, Ud, Ud, Ud, Ud, Ud, Ud, Ud, Ud, Ud, Ud, Ud, Ud, Ud, Ud, Ud] Try.func26 rfl Try.ntmps26 rfl ?_
  refine wp_seq_k fun K14 hK14 => ?_
  refine wp_region_lit ?_
  refine seqd rfl rfl (does_box (u := (.agg #[(Fl r1), (Fl r3), (Fl r5), (Fl r7), (Iv A_g.x), (Iv A_g.y), (Iv A_g.z), (.slice p11 A_g.vals.length q12)])) (ev rfl)) ?_; rintro _ w19 ⟨b15, rfl, hb16, hB17, E18⟩
  have g20 : w.heap.size ≤ b15 := Nat.le_trans (Below.size (Ext.refl w)) hb16
  change Blk _ _ [(Fl r1), (Fl r3), (Fl r5), (Fl r7), (Iv A_g.x), (Iv A_g.y), (Iv A_g.z), (.slice p11 A_g.vals.length q12)] at hB17
  have X21 := Ext.gr (Ext.refl w) E18
  show wpList _ _ _ _ (fr [(.agg #[(Fl r1), (Fl r3), (Fl r5), (Fl r7), (Iv A_g.x), (Iv A_g.y), (Iv A_g.z), (.slice p11 A_g.vals.length q12)]), (Pt b15 0), Ud, Ud, Ud, Ud, Ud, Ud, Ud, Ud, Ud, Ud, Ud, Ud, Ud, Ud, Ud, Ud, Ud, Ud, Ud, Ud, Ud]) _
  refine q_is (l' := [(.agg #[(Fl r1), (Fl r3), (Fl r5), (Fl r7), (Iv A_g.x), (Iv A_g.y), (Iv A_g.z), (.slice p11 A_g.vals.length q12)]), (Pt b15 0), (Iv 0), Ud, Ud, Ud, Ud, Ud, Ud, Ud, Ud, Ud, Ud, Ud, Ud, Ud, Ud, Ud, Ud, Ud, Ud, Ud, Ud]) rfl rfl (does_assign (u := (Iv 0)) (ev rfl)) rfl ?_
  refine q_is (l' := [(.agg #[(Fl r1), (Fl r3), (Fl r5), (Fl r7), (Iv A_g.x), (Iv A_g.y), (Iv A_g.z), (.slice p11 A_g.vals.length q12)]), (Pt b15 0), (Iv 0), (Bo false), Ud, Ud, Ud, Ud, Ud, Ud, Ud, Ud, Ud, Ud, Ud, Ud, Ud, Ud, Ud, Ud, Ud, Ud, Ud]) rfl rfl (does_assign (u := (Bo false)) (ev rfl)) rfl ?_
  refine wpList_nil (hK14 _ _ ?_)
  refine wp_seq_k fun K22 hK22 => ?_
  refine wp_seq_k fun K23 hK23 => ?_
  refine wp_region_lit ?_
  refine q_is (l' := [(.agg #[(Fl r1), (Fl r3), (Fl r5), (Fl r7), (Iv A_g.x), (Iv A_g.y), (Iv A_g.z), (.slice p11 A_g.vals.length q12)]), (Pt b15 0), (Iv 0), (Bo false), Ud, Ud, Ud, (.agg #[(Fl r1), (Fl r3), (Fl r5), (Fl r7), (Iv A_g.x), (Iv A_g.y), (Iv A_g.z), (.slice p11 A_g.vals.length q12)]), Ud, Ud, Ud, Ud, Ud, Ud, Ud, Ud, Ud, Ud, Ud, Ud, Ud, Ud, Ud]) rfl rfl (does_loadAgg (cs := [(Fl r1), (Fl r3), (Fl r5), (Fl r7), (Iv A_g.x), (Iv A_g.y), (Iv A_g.z), (.slice p11 A_g.vals.length q12)]) (ev rfl) Try.isAgg32 Try.sizeOf32 (Blk.cells hB17) rfl) rfl ?_
  refine seqd rfl rfl (does_call (args := #[(.agg #[(Fl r1), (Fl r3), (Fl r5), (Fl r7), (Iv A_g.x), (Iv A_g.y), (Iv A_g.z), (.slice p11 A_g.vals.length q12)])]) cal20 (evs rfl) (c_impl_ValidGrid [(Fl r1), (Fl r3), (Fl r5), (Fl r7), (Iv A_g.x), (Iv A_g.y), (Iv A_g.z), (.slice p11 A_g.vals.length q12)] A_g _ ⟨r1, r3, r5, r7, (.slice p11 A_g.vals.length q12), rfl, h2, h4, h6, h8, (Sl.ext hs13 RF.mono X21)⟩)) ?_; rintro _ w25 ⟨E24, rfl⟩
  have X26 := Ext.gr X21 E24
  show wpList _ _ _ _ (fr [(.agg #[(Fl r1), (Fl r3), (Fl r5), (Fl r7), (Iv A_g.x), (Iv A_g.y), (Iv A_g.z), (.slice p11 A_g.vals.length q12)]), (Pt b15 0), (Iv 0), (Bo false), Ud, Ud, Ud, (.agg #[(Fl r1), (Fl r3), (Fl r5), (Fl r7), (Iv A_g.x), (Iv A_g.y), (Iv A_g.z), (.slice p11 A_g.vals.length q12)]), (Bo (isGrid A_g)), Ud, Ud, Ud, Ud, Ud, Ud, Ud, Ud, Ud, Ud, Ud, Ud, Ud, Ud]) _
  refine q_is (l' := [(.agg #[(Fl r1), (Fl r3), (Fl r5), (Fl r7), (Iv A_g.x), (Iv A_g.y), (Iv A_g.z), (.slice p11 A_g.vals.length q12)]), (Pt b15 0), (Iv 0), (Bo false), Ud, Ud, Ud, (.agg #[(Fl r1), (Fl r3), (Fl r5), (Fl r7), (Iv A_g.x), (Iv A_g.y), (Iv A_g.z), (.slice p11 A_g.vals.length q12)]), (Bo (isGrid A_g)), (Bo (!(isGrid A_g))), Ud, Ud, Ud, Ud, Ud, Ud, Ud, Ud, Ud, Ud, Ud, Ud, Ud]) rfl rfl (does_not (ev rfl)) rfl ?_
  refine wpList_nil (hK23 _ _ ?_)
  refine wp_cond_split (t := !(isGrid A_g)) (ev rfl) (fun c27 => ?_) (fun c27 => ?_)
  · rw [Bool.not_eq_true'] at c27
    have c27' := c27
    refine wp_seq_k fun K28 hK28 => ?_
    refine wp_region_lit ?_
    refine q_is (l' := [(.agg #[(Fl r1), (Fl r3), (Fl r5), (Fl r7), (Iv A_g.x), (Iv A_g.y), (Iv A_g.z), (.slice p11 A_g.vals.length q12)]), (Pt b15 0), (Iv 0), (Bo false), Ud, Ud, Ud, (.agg #[(Fl r1), (Fl r3), (Fl r5), (Fl r7), (Iv A_g.x), (Iv A_g.y), (Iv A_g.z), (.slice p11 A_g.vals.length q12)]), (Bo (isGrid A_g)), (Bo (!(isGrid A_g))), Ud, Ud, Ud, Ud, Ud, Ud, Ud, Ud, Ud, Ud, Ud, Ud, Ud]) rfl rfl (does_assign (u := (Iv 0)) (ev rfl)) rfl ?_
    refine q_is (l' := [(.agg #[(Fl r1), (Fl r3), (Fl r5), (Fl r7), (Iv A_g.x), (Iv A_g.y), (Iv A_g.z), (.slice p11 A_g.vals.length q12)]), (Pt b15 0), (Iv 0), (Bo false), Ud, Ud, Ud, (.agg #[(Fl r1), (Fl r3), (Fl r5), (Fl r7), (Iv A_g.x), (Iv A_g.y), (Iv A_g.z), (.slice p11 A_g.vals.length q12)]), (Bo (isGrid A_g)), (Bo (!(isGrid A_g))), Ud, Ud, Ud, Ud, Ud, Ud, Ud, Ud, Ud, Ud, Ud, Ud, Ud]) rfl rfl (does_assign (u := (Bo false)) (ev rfl)) rfl ?_
    refine wpList_nil (hK28 _ _ ?_)
    refine wp_ret ?_
    dsimp only [Exit.then, Exit.inBlock]
    refine ret_val (v := (.tuple #[(Iv 0), (Bo false)])) (res_TT rfl (slot rfl) (slot rfl)) X26 ?_
    try simp only [h2, h4, h6, h8] at c27
    have x29 : (gvI (isGrid A_g) (insG A_g) : Int) = 0 := by first | rfl | assumption | exact insG_at hn hk (by omega) | (rw [‹isGrid A_g = false›]; rfl) | (rw [‹isGrid A_g = true›]; exact insG_at hn hk (by omega))
    have x30 : (isGrid A_g) = false := by first | rfl | assumption | exact insG_at hn hk (by omega) | (rw [‹isGrid A_g = false›]; rfl) | (rw [‹isGrid A_g = true›]; exact insG_at hn hk (by omega))
    exact (by first | rfl | rw [x29, x30])
  rw [Bool.not_eq_false'] at c27
  have c27' := c27
  refine wp_skip (hK22 _ _ ?_)
  refine wp_seq_k fun K31 hK31 => ?_
  refine wp_region_lit ?_
  refine q_is (l' := [(.agg #[(Fl r1), (Fl r3), (Fl r5), (Fl r7), (Iv A_g.x), (Iv A_g.y), (Iv A_g.z), (.slice p11 A_g.vals.length q12)]), (Pt b15 0), (Iv 0), (Bo false), (Iv 0), Ud, Ud, (.agg #[(Fl r1), (Fl r3), (Fl r5), (Fl r7), (Iv A_g.x), (Iv A_g.y), (Iv A_g.z), (.slice p11 A_g.vals.length q12)]), (Bo (isGrid A_g)), (Bo (!(isGrid A_g))), Ud, Ud, Ud, Ud, Ud, Ud, Ud, Ud, Ud, Ud, Ud, Ud, Ud]) rfl rfl (does_assign (u := (Iv 0)) (ev rfl)) rfl ?_
  refine wpList_nil (hK31 _ _ ?_)
  refine wp_seq_k fun K32 hK32 => ?_
  refine wp_seq_k fun K33 hK33 => ?_
  refine wp_region_lit ?_
  refine q_is (l' := [(.agg #[(Fl r1), (Fl r3), (Fl r5), (Fl r7), (Iv A_g.x), (Iv A_g.y), (Iv A_g.z), (.slice p11 A_g.vals.length q12)]), (Pt b15 0), (Iv 0), (Bo false), (Iv 0), Ud, Ud, (.agg #[(Fl r1), (Fl r3), (Fl r5), (Fl r7), (Iv A_g.x), (Iv A_g.y), (Iv A_g.z), (.slice p11 A_g.vals.length q12)]), (Bo (isGrid A_g)), (Bo (!(isGrid A_g))), (Pt b15 7), Ud, Ud, Ud, Ud, Ud, Ud, Ud, Ud, Ud, Ud, Ud, Ud]) rfl rfl (does_fieldAddr (ev rfl) fa32_5) rfl ?_
  refine q_is (l' := [(.agg #[(Fl r1), (Fl r3), (Fl r5), (Fl r7), (Iv A_g.x), (Iv A_g.y), (Iv A_g.z), (.slice p11 A_g.vals.length q12)]), (Pt b15 0), (Iv 0), (Bo false), (Iv 0), Ud, Ud, (.agg #[(Fl r1), (Fl r3), (Fl r5), (Fl r7), (Iv A_g.x), (Iv A_g.y), (Iv A_g.z), (.slice p11 A_g.vals.length q12)]), (Bo (isGrid A_g)), (Bo (!(isGrid A_g))), (Pt b15 7), (.slice p11 A_g.vals.length q12), Ud, Ud, Ud, Ud, Ud, Ud, Ud, Ud, Ud, Ud, Ud]) rfl rfl (does_load (u := (.slice p11 A_g.vals.length q12)) (ev rfl) Try.isAgg25 (Cells.at (Blk.cells (hB17.ext E24)) 7 rfl)) rfl ?_
  refine q_is (l' := [(.agg #[(Fl r1), (Fl r3), (Fl r5), (Fl r7), (Iv A_g.x), (Iv A_g.y), (Iv A_g.z), (.slice p11 A_g.vals.length q12)]), (Pt b15 0), (Iv 0), (Bo false), (Iv 0), Ud, Ud, (.agg #[(Fl r1), (Fl r3), (Fl r5), (Fl r7), (Iv A_g.x), (Iv A_g.y), (Iv A_g.z), (.slice p11 A_g.vals.length q12)]), (Bo (isGrid A_g)), (Bo (!(isGrid A_g))), (Pt b15 7), (.slice p11 A_g.vals.length q12), (Iv (A_g.vals.length : Int)), Ud, Ud, Ud, Ud, Ud, Ud, Ud, Ud, Ud, Ud]) rfl rfl (does_len_slice Try.underlying25 (ev rfl)) rfl ?_
  refine q_is (l' := [(.agg #[(Fl r1), (Fl r3), (Fl r5), (Fl r7), (Iv A_g.x), (Iv A_g.y), (Iv A_g.z), (.slice p11 A_g.vals.length q12)]), (Pt b15 0), (Iv 0), (Bo false), (Iv 0), Ud, Ud, (.agg #[(Fl r1), (Fl r3), (Fl r5), (Fl r7), (Iv A_g.x), (Iv A_g.y), (Iv A_g.z), (.slice p11 A_g.vals.length q12)]), (Bo (isGrid A_g)), (Bo (!(isGrid A_g))), (Pt b15 7), (.slice p11 A_g.vals.length q12), (Iv (A_g.vals.length : Int)), (Iv 0), Ud, Ud, Ud, Ud, Ud, Ud, Ud, Ud, Ud]) rfl rfl (does_move (u := (Iv 0)) (ev rfl)) rfl ?_
  refine wpList_nil (hK33 _ _ ?_)
  refine wp_block ?_
  refine loop_ghost (σ := Nat × Int) (fun s a w' => ∃ u34 : Nat → Value, a = fr [(.agg #[(Fl r1), (Fl r3), (Fl r5), (Fl r7), (Iv A_g.x), (Iv A_g.y), (Iv A_g.z), (.slice p11 A_g.vals.length q12)]), (Pt b15 0), (Iv 0), (Bo false), (Iv s.2), Ud, (u34 6), (.agg #[(Fl r1), (Fl r3), (Fl r5), (Fl r7), (Iv A_g.x), (Iv A_g.y), (Iv A_g.z), (.slice p11 A_g.vals.length q12)]), (Bo (isGrid A_g)), (Bo (!(isGrid A_g))), (Pt b15 7), (.slice p11 A_g.vals.length q12), (Iv (A_g.vals.length : Int)), (Iv (s.1 : Int)), (u34 14), (u34 15), (u34 16), (u34 17), (u34 18), (u34 19), (u34 20), (u34 21), Ud] ∧ Ext w25 w' ∧ (s.1 ≤ A_g.vals.length ∧ s.2 = cntNeg A_g.vals s.1)) (fun s => A_g.vals.length - s.1) (0, 0) ?_ ?_
  · refine ⟨fun t => (([(.agg #[(Fl r1), (Fl r3), (Fl r5), (Fl r7), (Iv A_g.x), (Iv A_g.y), (Iv A_g.z), (.slice p11 A_g.vals.length q12)]), (Pt b15 0), (Iv 0), (Bo false), (Iv 0), Ud, Ud, (.agg #[(Fl r1), (Fl r3), (Fl r5), (Fl r7), (Iv A_g.x), (Iv A_g.y), (Iv A_g.z), (.slice p11 A_g.vals.length q12)]), (Bo (isGrid A_g)), (Bo (!(isGrid A_g))), (Pt b15 7), (.slice p11 A_g.vals.length q12), (Iv (A_g.vals.length : Int)), (Iv 0), Ud, Ud, Ud, Ud, Ud, Ud, Ud, Ud, Ud] : List Value)[t]?).getD undef, rfl, Ext.refl _, ?_⟩
    exact ⟨Nat.zero_le _, rfl⟩
  · rintro s a w35 ⟨u34, rfl, E36, ⟨hk, hn⟩⟩
    have X38 := Ext.gr X26 E36
    have hr := cntNeg_range A_g.vals s.1
    refine wp_seq_k fun K39 hK39 => ?_
    refine wp_region_lit ?_
    refine q_is (l' := [(.agg #[(Fl r1), (Fl r3), (Fl r5), (Fl r7), (Iv A_g.x), (Iv A_g.y), (Iv A_g.z), (.slice p11 A_g.vals.length q12)]), (Pt b15 0), (Iv 0), (Bo false), (Iv s.2), Ud, (u34 6), (.agg #[(Fl r1), (Fl r3), (Fl r5), (Fl r7), (Iv A_g.x), (Iv A_g.y), (Iv A_g.z), (.slice p11 A_g.vals.length q12)]), (Bo (isGrid A_g)), (Bo (!(isGrid A_g))), (Pt b15 7), (.slice p11 A_g.vals.length q12), (Iv (A_g.vals.length : Int)), (Iv (s.1 : Int)), (Bo (icmp .lss (s.1 : Int) (A_g.vals.length : Int))), (u34 15), (u34 16), (u34 17), (u34 18), (u34 19), (u34 20), (u34 21), Ud]) rfl rfl (does_icmp (p := (s.1 : Int)) (q := (A_g.vals.length : Int)) (.inr (.inr (.inl rfl))) (ev rfl) (ev rfl)) rfl ?_
    refine wpList_nil (hK39 _ _ ?_)
    refine wp_seq_k fun K40 hK40 => ?_
    refine wp_cond_split (t := icmp .lss (s.1 : Int) (A_g.vals.length : Int)) (ev rfl) (fun c41 => ?_) (fun c41 => ?_)
    · have c41' := c41
      (try simp only [icmp, Bool.and_eq_true, Bool.or_eq_true, Bool.and_eq_false_iff, Bool.or_eq_false_iff, Bool.not_eq_true', Bool.not_eq_false', decide_eq_true_eq, decide_eq_false_iff_not, beq_iff_eq, bne_iff_ne, beq_eq_false_iff_ne, bne_eq_false_iff_eq] at c41')
      refine wp_skip (hK40 _ _ ?_)
      refine wp_seq_k fun K42 hK42 => ?_
      refine wp_block ?_
      refine wp_seq_k fun K43 hK43 => ?_
      refine wp_region_lit ?_
      obtain ⟨el1, hel1⟩ : ∃ e, A_g.vals[s.1]? = some e := ⟨_, List.getElem?_eq_getElem (by omega)⟩
      refine seqd rfl rfl (does_indexSl (R := RF) (i := (s.1 : Int)) (xs := A_g.vals) (e := el1) Try.underlying25 Try.sizeOf22 (ev rfl) (ev rfl) (Sl.ext hs13 RF.mono X38) (by omega) hel1) ?_; rintro _ _ ⟨b44, o45, _, rfl, hc47, ⟨r48, rfl, h49⟩, rfl⟩
      show wpList _ _ _ _ (fr [(.agg #[(Fl r1), (Fl r3), (Fl r5), (Fl r7), (Iv A_g.x), (Iv A_g.y), (Iv A_g.z), (.slice p11 A_g.vals.length q12)]), (Pt b15 0), (Iv 0), (Bo false), (Iv s.2), Ud, (u34 6), (.agg #[(Fl r1), (Fl r3), (Fl r5), (Fl r7), (Iv A_g.x), (Iv A_g.y), (Iv A_g.z), (.slice p11 A_g.vals.length q12)]), (Bo (isGrid A_g)), (Bo (!(isGrid A_g))), (Pt b15 7), (.slice p11 A_g.vals.length q12), (Iv (A_g.vals.length : Int)), (Iv (s.1 : Int)), (Bo (icmp .lss (s.1 : Int) (A_g.vals.length : Int))), (Pt b44 o45), (u34 16), (u34 17), (u34 18), (u34 19), (u34 20), (u34 21), Ud]) _
      refine q_is (l' := [(.agg #[(Fl r1), (Fl r3), (Fl r5), (Fl r7), (Iv A_g.x), (Iv A_g.y), (Iv A_g.z), (.slice p11 A_g.vals.length q12)]), (Pt b15 0), (Iv 0), (Bo false), (Iv s.2), Ud, (u34 6), (.agg #[(Fl r1), (Fl r3), (Fl r5), (Fl r7), (Iv A_g.x), (Iv A_g.y), (Iv A_g.z), (.slice p11 A_g.vals.length q12)]), (Bo (isGrid A_g)), (Bo (!(isGrid A_g))), (Pt b15 7), (.slice p11 A_g.vals.length q12), (Iv (A_g.vals.length : Int)), (Iv (s.1 : Int)), (Bo (icmp .lss (s.1 : Int) (A_g.vals.length : Int))), (Pt b44 o45), (Fl r48), (u34 17), (u34 18), (u34 19), (u34 20), (u34 21), Ud]) rfl rfl (does_load (u := (Fl r48)) (ev rfl) Try.isAgg22 (Cells.at hc47 0 rfl)) rfl ?_
      refine q_is (l' := [(.agg #[(Fl r1), (Fl r3), (Fl r5), (Fl r7), (Iv A_g.x), (Iv A_g.y), (Iv A_g.z), (.slice p11 A_g.vals.length q12)]), (Pt b15 0), (Iv 0), (Bo false), (Iv s.2), Ud, (Fl r48), (.agg #[(Fl r1), (Fl r3), (Fl r5), (Fl r7), (Iv A_g.x), (Iv A_g.y), (Iv A_g.z), (.slice p11 A_g.vals.length q12)]), (Bo (isGrid A_g)), (Bo (!(isGrid A_g))), (Pt b15 7), (.slice p11 A_g.vals.length q12), (Iv (A_g.vals.length : Int)), (Iv (s.1 : Int)), (Bo (icmp .lss (s.1 : Int) (A_g.vals.length : Int))), (Pt b44 o45), (Fl r48), (u34 17), (u34 18), (u34 19), (u34 20), (u34 21), Ud]) rfl rfl (does_assign (u := (Fl r48)) (ev rfl)) rfl ?_
      refine wpList_nil (hK43 _ _ ?_)
      refine wp_seq_k fun K50 hK50 => ?_
      refine wp_region_lit ?_
      refine q_is (l' := [(.agg #[(Fl r1), (Fl r3), (Fl r5), (Fl r7), (Iv A_g.x), (Iv A_g.y), (Iv A_g.z), (.slice p11 A_g.vals.length q12)]), (Pt b15 0), (Iv 0), (Bo false), (Iv s.2), Ud, (Fl r48), (.agg #[(Fl r1), (Fl r3), (Fl r5), (Fl r7), (Iv A_g.x), (Iv A_g.y), (Iv A_g.z), (.slice p11 A_g.vals.length q12)]), (Bo (isGrid A_g)), (Bo (!(isGrid A_g))), (Pt b15 7), (.slice p11 A_g.vals.length q12), (Iv (A_g.vals.length : Int)), (Iv (s.1 : Int)), (Bo (icmp .lss (s.1 : Int) (A_g.vals.length : Int))), (Pt b44 o45), (Fl r48), (Fl r48), (u34 18), (u34 19), (u34 20), (u34 21), Ud]) rfl rfl (does_move (u := (Fl r48)) (ev rfl)) rfl ?_
      refine q_is (l' := [(.agg #[(Fl r1), (Fl r3), (Fl r5), (Fl r7), (Iv A_g.x), (Iv A_g.y), (Iv A_g.z), (.slice p11 A_g.vals.length q12)]), (Pt b15 0), (Iv 0), (Bo false), (Iv s.2), Ud, (Fl r48), (.agg #[(Fl r1), (Fl r3), (Fl r5), (Fl r7), (Iv A_g.x), (Iv A_g.y), (Iv A_g.z), (.slice p11 A_g.vals.length q12)]), (Bo (isGrid A_g)), (Bo (!(isGrid A_g))), (Pt b15 7), (.slice p11 A_g.vals.length q12), (Iv (A_g.vals.length : Int)), (Iv (s.1 : Int)), (Bo (icmp .lss (s.1 : Int) (A_g.vals.length : Int))), (Pt b44 o45), (Fl r48), (Fl r48), (Bo (fcmp .lss (ford .f32 (cf .f32 r48) (cf .f32 0)))), (u34 19), (u34 20), (u34 21), Ud]) rfl rfl (does_fcmp (.inr (.inr (.inl rfl))) (ev rfl) (ev rfl)) rfl ?_
      refine wpList_nil (hK50 _ _ ?_)
      refine wp_cond_split (t := fcmp .lss (ford .f32 (cf .f32 r48) (cf .f32 0))) (ev rfl) (fun c51 => ?_) (fun c51 => ?_)
      · have c51' := c51
        refine wp_region_lit ?_
        refine q_is (l' := [(.agg #[(Fl r1), (Fl r3), (Fl r5), (Fl r7), (Iv A_g.x), (Iv A_g.y), (Iv A_g.z), (.slice p11 A_g.vals.length q12)]), (Pt b15 0), (Iv 0), (Bo false), (Iv s.2), Ud, (Fl r48), (.agg #[(Fl r1), (Fl r3), (Fl r5), (Fl r7), (Iv A_g.x), (Iv A_g.y), (Iv A_g.z), (.slice p11 A_g.vals.length q12)]), (Bo (isGrid A_g)), (Bo (!(isGrid A_g))), (Pt b15 7), (.slice p11 A_g.vals.length q12), (Iv (A_g.vals.length : Int)), (Iv (s.1 : Int)), (Bo (icmp .lss (s.1 : Int) (A_g.vals.length : Int))), (Pt b44 o45), (Fl r48), (Fl r48), (Bo (fcmp .lss (ford .f32 (cf .f32 r48) (cf .f32 0)))), (Iv s.2), (u34 20), (u34 21), Ud]) rfl rfl (does_move (u := (Iv s.2)) (ev rfl)) rfl ?_
        refine q_is (l' := [(.agg #[(Fl r1), (Fl r3), (Fl r5), (Fl r7), (Iv A_g.x), (Iv A_g.y), (Iv A_g.z), (.slice p11 A_g.vals.length q12)]), (Pt b15 0), (Iv 0), (Bo false), (Iv s.2), Ud, (Fl r48), (.agg #[(Fl r1), (Fl r3), (Fl r5), (Fl r7), (Iv A_g.x), (Iv A_g.y), (Iv A_g.z), (.slice p11 A_g.vals.length q12)]), (Bo (isGrid A_g)), (Bo (!(isGrid A_g))), (Pt b15 7), (.slice p11 A_g.vals.length q12), (Iv (A_g.vals.length : Int)), (Iv (s.1 : Int)), (Bo (icmp .lss (s.1 : Int) (A_g.vals.length : Int))), (Pt b44 o45), (Fl r48), (Fl r48), (Bo (fcmp .lss (ford .f32 (cf .f32 r48) (cf .f32 0)))), (Iv s.2), (Iv (s.2 + 1)), (u34 21), Ud]) rfl rfl (does_iarith (p := s.2) (q := 1) (r := s.2 + 1) (ev rfl) (ev rfl) (.inl ⟨rfl, (in_i64 (by omega) (by omega)).symm⟩)) rfl ?_
        refine q_is (l' := [(.agg #[(Fl r1), (Fl r3), (Fl r5), (Fl r7), (Iv A_g.x), (Iv A_g.y), (Iv A_g.z), (.slice p11 A_g.vals.length q12)]), (Pt b15 0), (Iv 0), (Bo false), (Iv (s.2 + 1)), Ud, (Fl r48), (.agg #[(Fl r1), (Fl r3), (Fl r5), (Fl r7), (Iv A_g.x), (Iv A_g.y), (Iv A_g.z), (.slice p11 A_g.vals.length q12)]), (Bo (isGrid A_g)), (Bo (!(isGrid A_g))), (Pt b15 7), (.slice p11 A_g.vals.length q12), (Iv (A_g.vals.length : Int)), (Iv (s.1 : Int)), (Bo (icmp .lss (s.1 : Int) (A_g.vals.length : Int))), (Pt b44 o45), (Fl r48), (Fl r48), (Bo (fcmp .lss (ford .f32 (cf .f32 r48) (cf .f32 0)))), (Iv s.2), (Iv (s.2 + 1)), (u34 21), Ud]) rfl rfl (does_assign (u := (Iv (s.2 + 1))) (ev rfl)) rfl ?_
        refine wpList_nil (hK42 _ _ ?_)
        refine wp_region_lit ?_
        refine q_is (l' := [(.agg #[(Fl r1), (Fl r3), (Fl r5), (Fl r7), (Iv A_g.x), (Iv A_g.y), (Iv A_g.z), (.slice p11 A_g.vals.length q12)]), (Pt b15 0), (Iv 0), (Bo false), (Iv (s.2 + 1)), Ud, (Fl r48), (.agg #[(Fl r1), (Fl r3), (Fl r5), (Fl r7), (Iv A_g.x), (Iv A_g.y), (Iv A_g.z), (.slice p11 A_g.vals.length q12)]), (Bo (isGrid A_g)), (Bo (!(isGrid A_g))), (Pt b15 7), (.slice p11 A_g.vals.length q12), (Iv (A_g.vals.length : Int)), (Iv (s.1 : Int)), (Bo (icmp .lss (s.1 : Int) (A_g.vals.length : Int))), (Pt b44 o45), (Fl r48), (Fl r48), (Bo (fcmp .lss (ford .f32 (cf .f32 r48) (cf .f32 0)))), (Iv s.2), (Iv (s.2 + 1)), (Iv ((s.1 : Int) + 1)), Ud]) rfl rfl (does_iarith (p := (s.1 : Int)) (q := 1) (r := (s.1 : Int) + 1) (ev rfl) (ev rfl) (.inl ⟨rfl, (in_i64 (by omega) (by omega)).symm⟩)) rfl ?_
        refine q_is (l' := [(.agg #[(Fl r1), (Fl r3), (Fl r5), (Fl r7), (Iv A_g.x), (Iv A_g.y), (Iv A_g.z), (.slice p11 A_g.vals.length q12)]), (Pt b15 0), (Iv 0), (Bo false), (Iv (s.2 + 1)), Ud, (Fl r48), (.agg #[(Fl r1), (Fl r3), (Fl r5), (Fl r7), (Iv A_g.x), (Iv A_g.y), (Iv A_g.z), (.slice p11 A_g.vals.length q12)]), (Bo (isGrid A_g)), (Bo (!(isGrid A_g))), (Pt b15 7), (.slice p11 A_g.vals.length q12), (Iv (A_g.vals.length : Int)), (Iv ((s.1 : Int) + 1)), (Bo (icmp .lss (s.1 : Int) (A_g.vals.length : Int))), (Pt b44 o45), (Fl r48), (Fl r48), (Bo (fcmp .lss (ford .f32 (cf .f32 r48) (cf .f32 0)))), (Iv s.2), (Iv (s.2 + 1)), (Iv ((s.1 : Int) + 1)), Ud]) rfl rfl (does_move (u := (Iv ((s.1 : Int) + 1))) (ev rfl)) rfl ?_
        refine wpList_nil ?_
        refine ⟨(s.1 + 1, s.2 + 1), ⟨fun t => (([(.agg #[(Fl r1), (Fl r3), (Fl r5), (Fl r7), (Iv A_g.x), (Iv A_g.y), (Iv A_g.z), (.slice p11 A_g.vals.length q12)]), (Pt b15 0), (Iv 0), (Bo false), (Iv (s.2 + 1)), Ud, (Fl r48), (.agg #[(Fl r1), (Fl r3), (Fl r5), (Fl r7), (Iv A_g.x), (Iv A_g.y), (Iv A_g.z), (.slice p11 A_g.vals.length q12)]), (Bo (isGrid A_g)), (Bo (!(isGrid A_g))), (Pt b15 7), (.slice p11 A_g.vals.length q12), (Iv (A_g.vals.length : Int)), (Iv ((s.1 : Int) + 1)), (Bo (icmp .lss (s.1 : Int) (A_g.vals.length : Int))), (Pt b44 o45), (Fl r48), (Fl r48), (Bo (fcmp .lss (ford .f32 (cf .f32 r48) (cf .f32 0)))), (Iv s.2), (Iv (s.2 + 1)), (Iv ((s.1 : Int) + 1)), Ud] : List Value)[t]?).getD undef, ?_, E36, ?_⟩, ?_⟩
        · first | rfl | (simp only [Nat.cast_add, Nat.cast_one, Int.natCast_add, Int.natCast_one]; rfl)
        · (try dsimp only); first | exact ⟨by omega, cntNeg_more hn (by assumption) (by simp_all [negF])⟩ | exact ⟨by omega, cntNeg_same hn (by assumption) (by simp_all [negF])⟩
        · (try dsimp only); omega
      have c51' := c51
      refine wp_skip (hK42 _ _ ?_)
      refine wp_region_lit ?_
      refine q_is (l' := [(.agg #[(Fl r1), (Fl r3), (Fl r5), (Fl r7), (Iv A_g.x), (Iv A_g.y), (Iv A_g.z), (.slice p11 A_g.vals.length q12)]), (Pt b15 0), (Iv 0), (Bo false), (Iv s.2), Ud, (Fl r48), (.agg #[(Fl r1), (Fl r3), (Fl r5), (Fl r7), (Iv A_g.x), (Iv A_g.y), (Iv A_g.z), (.slice p11 A_g.vals.length q12)]), (Bo (isGrid A_g)), (Bo (!(isGrid A_g))), (Pt b15 7), (.slice p11 A_g.vals.length q12), (Iv (A_g.vals.length : Int)), (Iv (s.1 : Int)), (Bo (icmp .lss (s.1 : Int) (A_g.vals.length : Int))), (Pt b44 o45), (Fl r48), (Fl r48), (Bo (fcmp .lss (ford .f32 (cf .f32 r48) (cf .f32 0)))), (u34 19), (u34 20), (Iv ((s.1 : Int) + 1)), Ud]) rfl rfl (does_iarith (p := (s.1 : Int)) (q := 1) (r := (s.1 : Int) + 1) (ev rfl) (ev rfl) (.inl ⟨rfl, (in_i64 (by omega) (by omega)).symm⟩)) rfl ?_
      refine q_is (l' := [(.agg #[(Fl r1), (Fl r3), (Fl r5), (Fl r7), (Iv A_g.x), (Iv A_g.y), (Iv A_g.z), (.slice p11 A_g.vals.length q12)]), (Pt b15 0), (Iv 0), (Bo false), (Iv s.2), Ud, (Fl r48), (.agg #[(Fl r1), (Fl r3), (Fl r5), (Fl r7), (Iv A_g.x), (Iv A_g.y), (Iv A_g.z), (.slice p11 A_g.vals.length q12)]), (Bo (isGrid A_g)), (Bo (!(isGrid A_g))), (Pt b15 7), (.slice p11 A_g.vals.length q12), (Iv (A_g.vals.length : Int)), (Iv ((s.1 : Int) + 1)), (Bo (icmp .lss (s.1 : Int) (A_g.vals.length : Int))), (Pt b44 o45), (Fl r48), (Fl r48), (Bo (fcmp .lss (ford .f32 (cf .f32 r48) (cf .f32 0)))), (u34 19), (u34 20), (Iv ((s.1 : Int) + 1)), Ud]) rfl rfl (does_move (u := (Iv ((s.1 : Int) + 1))) (ev rfl)) rfl ?_
      refine wpList_nil ?_
      refine ⟨(s.1 + 1, s.2), ⟨fun t => (([(.agg #[(Fl r1), (Fl r3), (Fl r5), (Fl r7), (Iv A_g.x), (Iv A_g.y), (Iv A_g.z), (.slice p11 A_g.vals.length q12)]), (Pt b15 0), (Iv 0), (Bo false), (Iv s.2), Ud, (Fl r48), (.agg #[(Fl r1), (Fl r3), (Fl r5), (Fl r7), (Iv A_g.x), (Iv A_g.y), (Iv A_g.z), (.slice p11 A_g.vals.length q12)]), (Bo (isGrid A_g)), (Bo (!(isGrid A_g))), (Pt b15 7), (.slice p11 A_g.vals.length q12), (Iv (A_g.vals.length : Int)), (Iv ((s.1 : Int) + 1)), (Bo (icmp .lss (s.1 : Int) (A_g.vals.length : Int))), (Pt b44 o45), (Fl r48), (Fl r48), (Bo (fcmp .lss (ford .f32 (cf .f32 r48) (cf .f32 0)))), (u34 19), (u34 20), (Iv ((s.1 : Int) + 1)), Ud] : List Value)[t]?).getD undef, ?_, E36, ?_⟩, ?_⟩
      · first | rfl | (simp only [Nat.cast_add, Nat.cast_one, Int.natCast_add, Int.natCast_one]; rfl)
      · (try dsimp only); first | exact ⟨by omega, cntNeg_more hn (by assumption) (by simp_all [negF])⟩ | exact ⟨by omega, cntNeg_same hn (by assumption) (by simp_all [negF])⟩
      · (try dsimp only); omega
    have c41' := c41
    (try simp only [icmp, Bool.and_eq_true, Bool.or_eq_true, Bool.and_eq_false_iff, Bool.or_eq_false_iff, Bool.not_eq_true', Bool.not_eq_false', decide_eq_true_eq, decide_eq_false_iff_not, beq_iff_eq, bne_iff_ne, beq_eq_false_iff_ne, bne_eq_false_iff_eq] at c41')
    refine wp_exit ?_
    refine hK32 _ _ ?_
    refine wp_seq_k fun K52 hK52 => ?_
    refine wp_region_lit ?_
    refine q_is (l' := [(.agg #[(Fl r1), (Fl r3), (Fl r5), (Fl r7), (Iv A_g.x), (Iv A_g.y), (Iv A_g.z), (.slice p11 A_g.vals.length q12)]), (Pt b15 0), (Iv 0), (Bo false), (Iv s.2), Ud, (u34 6), (.agg #[(Fl r1), (Fl r3), (Fl r5), (Fl r7), (Iv A_g.x), (Iv A_g.y), (Iv A_g.z), (.slice p11 A_g.vals.length q12)]), (Bo (isGrid A_g)), (Bo (!(isGrid A_g))), (Pt b15 7), (.slice p11 A_g.vals.length q12), (Iv (A_g.vals.length : Int)), (Iv (s.1 : Int)), (Bo (icmp .lss (s.1 : Int) (A_g.vals.length : Int))), (u34 15), (u34 16), (u34 17), (u34 18), (u34 19), (u34 20), (u34 21), (Iv s.2)]) rfl rfl (does_move (u := (Iv s.2)) (ev rfl)) rfl ?_
    refine q_is (l' := [(.agg #[(Fl r1), (Fl r3), (Fl r5), (Fl r7), (Iv A_g.x), (Iv A_g.y), (Iv A_g.z), (.slice p11 A_g.vals.length q12)]), (Pt b15 0), (Iv s.2), (Bo false), (Iv s.2), Ud, (u34 6), (.agg #[(Fl r1), (Fl r3), (Fl r5), (Fl r7), (Iv A_g.x), (Iv A_g.y), (Iv A_g.z), (.slice p11 A_g.vals.length q12)]), (Bo (isGrid A_g)), (Bo (!(isGrid A_g))), (Pt b15 7), (.slice p11 A_g.vals.length q12), (Iv (A_g.vals.length : Int)), (Iv (s.1 : Int)), (Bo (icmp .lss (s.1 : Int) (A_g.vals.length : Int))), (u34 15), (u34 16), (u34 17), (u34 18), (u34 19), (u34 20), (u34 21), (Iv s.2)]) rfl rfl (does_assign (u := (Iv s.2)) (ev rfl)) rfl ?_
    refine q_is (l' := [(.agg #[(Fl r1), (Fl r3), (Fl r5), (Fl r7), (Iv A_g.x), (Iv A_g.y), (Iv A_g.z), (.slice p11 A_g.vals.length q12)]), (Pt b15 0), (Iv s.2), (Bo true), (Iv s.2), Ud, (u34 6), (.agg #[(Fl r1), (Fl r3), (Fl r5), (Fl r7), (Iv A_g.x), (Iv A_g.y), (Iv A_g.z), (.slice p11 A_g.vals.length q12)]), (Bo (isGrid A_g)), (Bo (!(isGrid A_g))), (Pt b15 7), (.slice p11 A_g.vals.length q12), (Iv (A_g.vals.length : Int)), (Iv (s.1 : Int)), (Bo (icmp .lss (s.1 : Int) (A_g.vals.length : Int))), (u34 15), (u34 16), (u34 17), (u34 18), (u34 19), (u34 20), (u34 21), (Iv s.2)]) rfl rfl (does_assign (u := (Bo true)) (ev rfl)) rfl ?_
    refine wpList_nil (hK52 _ _ ?_)
    refine wp_ret ?_
    refine ret_val (v := (.tuple #[(Iv s.2), (Bo true)])) (res_TT rfl (slot rfl) (slot rfl)) X38 ?_
    try simp only [h2, h4, h6, h8] at c27 c41
    have x53 : (gvI (isGrid A_g) (insG A_g) : Int) = s.2 := by first | rfl | assumption | exact insG_at hn hk (by omega) | (rw [‹isGrid A_g = false›]; rfl) | (rw [‹isGrid A_g = true›]; exact insG_at hn hk (by omega))
    have x54 : (isGrid A_g) = true := by first | rfl | assumption | exact insG_at hn hk (by omega) | (rw [‹isGrid A_g = false›]; rfl) | (rw [‹isGrid A_g = true›]; exact insG_at hn hk (by omega))
    exact (by first | rfl | rw [x53, x54])

end Go.Proofs.Ytibfpalicagadaa
