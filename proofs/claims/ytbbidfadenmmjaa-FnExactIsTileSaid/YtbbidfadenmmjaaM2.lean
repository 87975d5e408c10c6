/- contracts of functions, each walked once -/
import Derived.Test.YtbbidfadenmmjaaM
namespace Go.Proofs.Ytbbidfadenmmjaa
open Go Go.RowKit
set_option maxRecDepth 100000
set_option maxHeartbeats 3200000
set_option linter.unusedVariables false
set_option linter.unusedSimpArgs false

/- spec.l09Tile -/
theorem c_spec_l09Tile (c_b : Nat) (c_o : Nat) (c : List Value) (A_c : CamT) (t_b : Nat) (t_o : Nat) (t : List Value) (A_t : TileT) (w : World) (hc_c : Cells w c_b c_o c) (hv_c : RCamT w A_c c) (hc_t : Cells w t_b t_o t) (hv_t : RTileT w A_t t) : Gives Try.prog 68 #[(Pt c_b c_o), (Pt t_b t_o)] w (fun v w' => v = (Bo (tileIn A_c A_t))) := by
  obtain ⟨r1, r3, r5, r7, r9, r11, r13, rfl, h2, h4, h6, h8, h10, h12, h14⟩ := hv_c
  obtain rfl := hv_t
  refine enter [(Pt c_b c_o), (Pt t_b t_o), Ud, Ud, Ud, Ud, Ud, Ud, Ud, Ud, Ud, Ud, Ud, Ud, Ud, Ud, Ud, Ud, Ud, Ud, Ud, Ud, Ud, Ud, Ud, Ud, Ud, Ud, Ud, Ud, Ud, Ud, Ud, Ud, Ud, Ud, Ud, Ud, Ud, Ud, Ud, Ud, Ud, Ud, Ud, Ud, Ud] Try.func68 rfl Try.ntmps68 rfl ?_
  refine wp_seq_k fun K15 hK15 => ?_
  refine wp_region_lit ?_
  refine q_is (l' := [(Pt c_b c_o), (Pt t_b t_o), Ud, Ud, (Bo false), Ud, Ud, Ud, Ud, Ud, Ud, Ud, Ud, Ud, Ud, Ud, Ud, Ud, Ud, Ud, Ud, Ud, Ud, Ud, Ud, Ud, Ud, Ud, Ud, Ud, Ud, Ud, Ud, Ud, Ud, Ud, Ud, Ud, Ud, Ud, Ud, Ud, Ud, Ud, Ud, Ud, Ud]) rfl rfl (does_assign (u := (Bo false)) (ev rfl)) rfl ?_
  refine wpList_nil (hK15 _ _ ?_)
  refine wp_seq_k fun K16 hK16 => ?_
  obtain ⟨β1, hβ1⟩ : ∃ b : Bool, b = (inI A_t.width 1 (IntKind.i64.wrap (A_c.width - A_t.x))) := ⟨_, rfl⟩
  obtain ⟨β2, hβ2⟩ : ∃ b : Bool, b = ((hasPx A_c A_t.x A_t.y) && β1) := ⟨_, rfl⟩
  obtain ⟨β3, hβ3⟩ : ∃ b : Bool, b = (inI A_t.height 1 (IntKind.i64.wrap (A_c.height - A_t.y))) := ⟨_, rfl⟩
  refine region_draw (
    [Fact.pure [] (fun v => v = (Pt c_b c_o)),
    Fact.pure [] (fun v => v = (Pt t_b t_o)),
    Fact.pure [6] (fun v => v = (Pt t_b t_o)),
    Fact.pure [7] (fun v => v = (Pt t_b t_o)),
    Fact.pure [8] (fun v => v = (Iv A_t.x)),
    Fact.pure [] (fun v => v = (Pt t_b t_o)),
    Fact.pure [10] (fun v => v = (Pt t_b t_o)),
    Fact.pure [11] (fun v => v = (Pt t_b (t_o + 1))),
    Fact.pure [12] (fun v => v = (Iv A_t.y)),
    Fact.pure [5, 9, 13] (fun v => v = (Bo (hasPx A_c A_t.x A_t.y))),
    Fact.pure [14] (fun v => v = (Bo (hasPx A_c A_t.x A_t.y))),
    Fact.pure [15] (fun v => (hasPx A_c A_t.x A_t.y) = true → v = (Pt t_b t_o)),
    Fact.pure [16, 15] (fun v => (hasPx A_c A_t.x A_t.y) = true → v = (Pt t_b t_o)),
    Fact.pure [17, 15] (fun v => (hasPx A_c A_t.x A_t.y) = true → v = (Pt t_b (t_o + 2))),
    Fact.pure [18, 15] (fun v => (hasPx A_c A_t.x A_t.y) = true → v = (Iv A_t.width)),
    Fact.pure [15] (fun v => (hasPx A_c A_t.x A_t.y) = true → v = (Pt c_b c_o)),
    Fact.pure [20, 15] (fun v => (hasPx A_c A_t.x A_t.y) = true → v = (Pt c_b c_o)),
    Fact.pure [21, 15] (fun v => (hasPx A_c A_t.x A_t.y) = true → v = (Pt c_b (c_o + 7))),
    Fact.pure [22, 15] (fun v => (hasPx A_c A_t.x A_t.y) = true → v = (Iv A_c.width)),
    Fact.pure [15] (fun v => (hasPx A_c A_t.x A_t.y) = true → v = (Pt t_b t_o)),
    Fact.pure [24, 15] (fun v => (hasPx A_c A_t.x A_t.y) = true → v = (Pt t_b t_o)),
    Fact.pure [25, 15] (fun v => (hasPx A_c A_t.x A_t.y) = true → v = (Pt t_b t_o)),
    Fact.pure [26, 15] (fun v => (hasPx A_c A_t.x A_t.y) = true → v = (Iv A_t.x)),
    Fact.pure [23, 27, 15] (fun v => (hasPx A_c A_t.x A_t.y) = true → v = (Iv (IntKind.i64.wrap (A_c.width - A_t.x)))),
    Fact.pure [19, 28, 15] (fun v => (hasPx A_c A_t.x A_t.y) = true → v = (Bo β1)),
    Fact.pure [15, 29] (fun v => v = (Bo β2)),
    Fact.pure [30] (fun v => v = (Bo β2)),
    Fact.pure [31] (fun v => β2 = true → v = (Pt t_b t_o)),
    Fact.pure [32, 31] (fun v => β2 = true → v = (Pt t_b t_o)),
    Fact.pure [33, 31] (fun v => β2 = true → v = (Pt t_b (t_o + 3))),
    Fact.pure [34, 31] (fun v => β2 = true → v = (Iv A_t.height)),
    Fact.pure [31] (fun v => β2 = true → v = (Pt c_b c_o)),
    Fact.pure [36, 31] (fun v => β2 = true → v = (Pt c_b c_o)),
    Fact.pure [37, 31] (fun v => β2 = true → v = (Pt c_b (c_o + 8))),
    Fact.pure [38, 31] (fun v => β2 = true → v = (Iv A_c.height)),
    Fact.pure [31] (fun v => β2 = true → v = (Pt t_b t_o)),
    Fact.pure [40, 31] (fun v => β2 = true → v = (Pt t_b t_o)),
    Fact.pure [41, 31] (fun v => β2 = true → v = (Pt t_b (t_o + 1))),
    Fact.pure [42, 31] (fun v => β2 = true → v = (Iv A_t.y)),
    Fact.pure [39, 43, 31] (fun v => β2 = true → v = (Iv (IntKind.i64.wrap (A_c.height - A_t.y)))),
    Fact.pure [35, 44, 31] (fun v => β2 = true → v = (Bo β3)),
    Fact.pure [31, 45] (fun v => v = (Bo (β2 && β3)))]) mixed (by kernel_rfl) (by intro _ _ d _ _ h; cases d <;> exact h) ?_
  obtain ⟨w17, hw19⟩ : ∃ w', w' = World.drew w := ⟨_, rfl⟩; rw [← hw19]; have E18 : Ext w w17 := by rw [hw19]; exact Ext.draw _
  clear hw19
  have X20 := Ext.gr (Ext.refl w) E18
  refine RW_d (fun v21 => [(Pt c_b c_o), (Pt t_b t_o), Ud, Ud, (Bo false), v21, Ud, Ud, Ud, Ud, Ud, Ud, Ud, Ud, Ud, Ud, Ud, Ud, Ud, Ud, Ud, Ud, Ud, Ud, Ud, Ud, Ud, Ud, Ud, Ud, Ud, Ud, Ud, Ud, Ud, Ud, Ud, Ud, Ud, Ud, Ud, Ud, Ud, Ud, Ud, Ud, Ud]) rfl (fun _ => rfl) (fun u hu hF => ?_) (fun v21 => ?_)
  · clear hF
    refine doesG_un rfl ?_
    refine (does_move (u := (Pt c_b c_o)) (ev rfl)).mono ?_; rintro _ _ ⟨rfl, rfl⟩
    exact ⟨rfl, Ext.refl _⟩
  refine RW_d (fun v22 => [(Pt c_b c_o), (Pt t_b t_o), Ud, Ud, (Bo false), v21, v22, Ud, Ud, Ud, Ud, Ud, Ud, Ud, Ud, Ud, Ud, Ud, Ud, Ud, Ud, Ud, Ud, Ud, Ud, Ud, Ud, Ud, Ud, Ud, Ud, Ud, Ud, Ud, Ud, Ud, Ud, Ud, Ud, Ud, Ud, Ud, Ud, Ud, Ud, Ud, Ud]) rfl (fun _ => rfl) (fun u hu hF => ?_) (fun v22 => ?_)
  · clear hF
    refine doesG_un rfl ?_
    refine (does_move (u := (Pt t_b t_o)) (ev rfl)).mono ?_; rintro _ _ ⟨rfl, rfl⟩
    exact ⟨rfl, Ext.refl _⟩
  refine RW_d (fun v23 => [(Pt c_b c_o), (Pt t_b t_o), Ud, Ud, (Bo false), v21, v22, v23, Ud, Ud, Ud, Ud, Ud, Ud, Ud, Ud, Ud, Ud, Ud, Ud, Ud, Ud, Ud, Ud, Ud, Ud, Ud, Ud, Ud, Ud, Ud, Ud, Ud, Ud, Ud, Ud, Ud, Ud, Ud, Ud, Ud, Ud, Ud, Ud, Ud, Ud, Ud]) rfl (fun _ => rfl) (fun u hu hF => ?_) (fun v23 => ?_)
  · have h6_ : v22 = (Pt t_b t_o) := hF.1
    clear hF
    refine doesG_un rfl ?_
    obtain rfl := h6_
    refine (does_nilCheck (ev rfl)).mono ?_; rintro _ _ ⟨rfl, rfl⟩
    exact ⟨rfl, Ext.refl _⟩
  refine RW_d (fun v24 => [(Pt c_b c_o), (Pt t_b t_o), Ud, Ud, (Bo false), v21, v22, v23, v24, Ud, Ud, Ud, Ud, Ud, Ud, Ud, Ud, Ud, Ud, Ud, Ud, Ud, Ud, Ud, Ud, Ud, Ud, Ud, Ud, Ud, Ud, Ud, Ud, Ud, Ud, Ud, Ud, Ud, Ud, Ud, Ud, Ud, Ud, Ud, Ud, Ud, Ud]) rfl (fun _ => rfl) (fun u hu hF => ?_) (fun v24 => ?_)
  · have h7_ : v23 = (Pt t_b t_o) := hF.1
    clear hF
    refine doesG_un rfl ?_
    obtain rfl := h7_
    refine (does_fieldAddr (ev rfl) fa54_0).mono ?_; rintro _ _ ⟨rfl, rfl⟩
    exact ⟨rfl, Ext.refl _⟩
  refine RW_d (fun v25 => [(Pt c_b c_o), (Pt t_b t_o), Ud, Ud, (Bo false), v21, v22, v23, v24, v25, Ud, Ud, Ud, Ud, Ud, Ud, Ud, Ud, Ud, Ud, Ud, Ud, Ud, Ud, Ud, Ud, Ud, Ud, Ud, Ud, Ud, Ud, Ud, Ud, Ud, Ud, Ud, Ud, Ud, Ud, Ud, Ud, Ud, Ud, Ud, Ud, Ud]) rfl (fun _ => rfl) (fun u hu hF => ?_) (fun v25 => ?_)
  · have h8_ : v24 = (Pt t_b t_o) := hF.1
    clear hF
    refine doesG_un rfl ?_
    obtain rfl := h8_
    refine (does_load (u := (Iv A_t.x)) (ev rfl) Try.isAgg2 (Cells.at ((hc_t.ext (Ext.gr (Ext.refl w) E18)).ext hu) 0 rfl)).mono ?_; rintro _ _ ⟨rfl, rfl⟩
    exact ⟨rfl, Ext.refl _⟩
  refine RW_d (fun v26 => [(Pt c_b c_o), (Pt t_b t_o), Ud, Ud, (Bo false), v21, v22, v23, v24, v25, v26, Ud, Ud, Ud, Ud, Ud, Ud, Ud, Ud, Ud, Ud, Ud, Ud, Ud, Ud, Ud, Ud, Ud, Ud, Ud, Ud, Ud, Ud, Ud, Ud, Ud, Ud, Ud, Ud, Ud, Ud, Ud, Ud, Ud, Ud, Ud, Ud]) rfl (fun _ => rfl) (fun u hu hF => ?_) (fun v26 => ?_)
  · clear hF
    refine doesG_un rfl ?_
    refine (does_move (u := (Pt t_b t_o)) (ev rfl)).mono ?_; rintro _ _ ⟨rfl, rfl⟩
    exact ⟨rfl, Ext.refl _⟩
  refine RW_d (fun v27 => [(Pt c_b c_o), (Pt t_b t_o), Ud, Ud, (Bo false), v21, v22, v23, v24, v25, v26, v27, Ud, Ud, Ud, Ud, Ud, Ud, Ud, Ud, Ud, Ud, Ud, Ud, Ud, Ud, Ud, Ud, Ud, Ud, Ud, Ud, Ud, Ud, Ud, Ud, Ud, Ud, Ud, Ud, Ud, Ud, Ud, Ud, Ud, Ud, Ud]) rfl (fun _ => rfl) (fun u hu hF => ?_) (fun v27 => ?_)
  · have h10_ : v26 = (Pt t_b t_o) := hF.1
    clear hF
    refine doesG_un rfl ?_
    obtain rfl := h10_
    refine (does_nilCheck (ev rfl)).mono ?_; rintro _ _ ⟨rfl, rfl⟩
    exact ⟨rfl, Ext.refl _⟩
  refine RW_d (fun v28 => [(Pt c_b c_o), (Pt t_b t_o), Ud, Ud, (Bo false), v21, v22, v23, v24, v25, v26, v27, v28, Ud, Ud, Ud, Ud, Ud, Ud, Ud, Ud, Ud, Ud, Ud, Ud, Ud, Ud, Ud, Ud, Ud, Ud, Ud, Ud, Ud, Ud, Ud, Ud, Ud, Ud, Ud, Ud, Ud, Ud, Ud, Ud, Ud, Ud]) rfl (fun _ => rfl) (fun u hu hF => ?_) (fun v28 => ?_)
  · have h11_ : v27 = (Pt t_b t_o) := hF.1
    clear hF
    refine doesG_un rfl ?_
    obtain rfl := h11_
    refine (does_fieldAddr (ev rfl) fa54_1).mono ?_; rintro _ _ ⟨rfl, rfl⟩
    exact ⟨rfl, Ext.refl _⟩
  refine RW_d (fun v29 => [(Pt c_b c_o), (Pt t_b t_o), Ud, Ud, (Bo false), v21, v22, v23, v24, v25, v26, v27, v28, v29, Ud, Ud, Ud, Ud, Ud, Ud, Ud, Ud, Ud, Ud, Ud, Ud, Ud, Ud, Ud, Ud, Ud, Ud, Ud, Ud, Ud, Ud, Ud, Ud, Ud, Ud, Ud, Ud, Ud, Ud, Ud, Ud, Ud]) rfl (fun _ => rfl) (fun u hu hF => ?_) (fun v29 => ?_)
  · have h12_ : v28 = (Pt t_b (t_o + 1)) := hF.1
    clear hF
    refine doesG_un rfl ?_
    obtain rfl := h12_
    refine (does_load (u := (Iv A_t.y)) (ev rfl) Try.isAgg2 (Cells.at ((hc_t.ext (Ext.gr (Ext.refl w) E18)).ext hu) 1 rfl)).mono ?_; rintro _ _ ⟨rfl, rfl⟩
    exact ⟨rfl, Ext.refl _⟩
  refine RW_d (fun v30 => [(Pt c_b c_o), (Pt t_b t_o), Ud, Ud, (Bo false), v21, v22, v23, v24, v25, v26, v27, v28, v29, v30, Ud, Ud, Ud, Ud, Ud, Ud, Ud, Ud, Ud, Ud, Ud, Ud, Ud, Ud, Ud, Ud, Ud, Ud, Ud, Ud, Ud, Ud, Ud, Ud, Ud, Ud, Ud, Ud, Ud, Ud, Ud, Ud]) rfl (fun _ => rfl) (fun u hu hF => ?_) (fun v30 => ?_)
  · have h5_ : v21 = (Pt c_b c_o) := hF.1
    have h9_ : v25 = (Iv A_t.x) := hF.2.1
    have h13_ : v29 = (Iv A_t.y) := hF.2.2.1
    clear hF
    refine doesG_un rfl ?_
    obtain rfl := h5_
    obtain rfl := h9_
    obtain rfl := h13_
    refine (does_call (args := #[(Pt c_b c_o), (Iv A_t.x), (Iv A_t.y)]) cal70 (evs rfl) (c_spec_l09Pixel c_b c_o [(Fl r1), (Fl r3), (Fl r5), (Fl r7), (Fl r9), (Fl r11), (Fl r13), (Iv A_c.width), (Iv A_c.height)] A_c A_t.x A_t.y _ ((hc_c.ext (Ext.gr (Ext.refl w) E18)).ext hu) ⟨r1, r3, r5, r7, r9, r11, r13, rfl, h2, h4, h6, h8, h10, h12, h14⟩)).mono ?_; rintro v u' ⟨hx, hv⟩
    exact ⟨hv, hx⟩
  refine RW_d (fun v31 => [(Pt c_b c_o), (Pt t_b t_o), Ud, Ud, (Bo false), v21, v22, v23, v24, v25, v26, v27, v28, v29, v30, v31, Ud, Ud, Ud, Ud, Ud, Ud, Ud, Ud, Ud, Ud, Ud, Ud, Ud, Ud, Ud, Ud, Ud, Ud, Ud, Ud, Ud, Ud, Ud, Ud, Ud, Ud, Ud, Ud, Ud, Ud, Ud]) rfl (fun _ => rfl) (fun u hu hF => ?_) (fun v31 => ?_)
  · have h14_ : v30 = (Bo (hasPx A_c A_t.x A_t.y)) := hF.1
    clear hF
    refine doesG_un rfl ?_
    obtain rfl := h14_
    refine (does_move (u := (Bo (hasPx A_c A_t.x A_t.y))) (ev rfl)).mono ?_; rintro _ _ ⟨rfl, rfl⟩
    exact ⟨rfl, Ext.refl _⟩
  refine RW_d (fun v32 => [(Pt c_b c_o), (Pt t_b t_o), Ud, Ud, (Bo false), v21, v22, v23, v24, v25, v26, v27, v28, v29, v30, v31, v32, Ud, Ud, Ud, Ud, Ud, Ud, Ud, Ud, Ud, Ud, Ud, Ud, Ud, Ud, Ud, Ud, Ud, Ud, Ud, Ud, Ud, Ud, Ud, Ud, Ud, Ud, Ud, Ud, Ud, Ud]) rfl (fun _ => rfl) (fun u hu hF => ?_) (fun v32 => ?_)
  · have h15_ : v31 = (Bo (hasPx A_c A_t.x A_t.y)) := hF.1
    clear hF
    obtain rfl := h15_
    refine doesG_g (b := (hasPx A_c A_t.x A_t.y)) rfl (yld rfl rfl) (fun hg1 => ?_) (fun hc => ⟨fun hg1 => absurd hg1 hc, Ext.refl _⟩)
    refine (does_move (u := (Pt t_b t_o)) (ev rfl)).mono ?_; rintro _ _ ⟨rfl, rfl⟩
    exact ⟨fun _ => rfl, Ext.refl _⟩
  refine RW_d (fun v33 => [(Pt c_b c_o), (Pt t_b t_o), Ud, Ud, (Bo false), v21, v22, v23, v24, v25, v26, v27, v28, v29, v30, v31, v32, v33, Ud, Ud, Ud, Ud, Ud, Ud, Ud, Ud, Ud, Ud, Ud, Ud, Ud, Ud, Ud, Ud, Ud, Ud, Ud, Ud, Ud, Ud, Ud, Ud, Ud, Ud, Ud, Ud, Ud]) rfl (fun _ => rfl) (fun u hu hF => ?_) (fun v33 => ?_)
  · have h16_ : (hasPx A_c A_t.x A_t.y) = true → v32 = (Pt t_b t_o) := hF.1
    have h15_ : v31 = (Bo (hasPx A_c A_t.x A_t.y)) := hF.2.1
    clear hF
    obtain rfl := h15_
    refine doesG_g (b := (hasPx A_c A_t.x A_t.y)) rfl (yld rfl rfl) (fun hg1 => ?_) (fun hc => ⟨fun hg1 => absurd hg1 hc, Ext.refl _⟩)
    obtain rfl := h16_ hg1
    refine (does_nilCheck (ev rfl)).mono ?_; rintro _ _ ⟨rfl, rfl⟩
    exact ⟨fun _ => rfl, Ext.refl _⟩
  refine RW_d (fun v34 => [(Pt c_b c_o), (Pt t_b t_o), Ud, Ud, (Bo false), v21, v22, v23, v24, v25, v26, v27, v28, v29, v30, v31, v32, v33, v34, Ud, Ud, Ud, Ud, Ud, Ud, Ud, Ud, Ud, Ud, Ud, Ud, Ud, Ud, Ud, Ud, Ud, Ud, Ud, Ud, Ud, Ud, Ud, Ud, Ud, Ud, Ud, Ud]) rfl (fun _ => rfl) (fun u hu hF => ?_) (fun v34 => ?_)
  · have h17_ : (hasPx A_c A_t.x A_t.y) = true → v33 = (Pt t_b t_o) := hF.1
    have h15_ : v31 = (Bo (hasPx A_c A_t.x A_t.y)) := hF.2.1
    clear hF
    obtain rfl := h15_
    refine doesG_g (b := (hasPx A_c A_t.x A_t.y)) rfl (yld rfl rfl) (fun hg1 => ?_) (fun hc => ⟨fun hg1 => absurd hg1 hc, Ext.refl _⟩)
    obtain rfl := h17_ hg1
    refine (does_fieldAddr (ev rfl) fa54_2).mono ?_; rintro _ _ ⟨rfl, rfl⟩
    exact ⟨fun _ => rfl, Ext.refl _⟩
  refine RW_d (fun v35 => [(Pt c_b c_o), (Pt t_b t_o), Ud, Ud, (Bo false), v21, v22, v23, v24, v25, v26, v27, v28, v29, v30, v31, v32, v33, v34, v35, Ud, Ud, Ud, Ud, Ud, Ud, Ud, Ud, Ud, Ud, Ud, Ud, Ud, Ud, Ud, Ud, Ud, Ud, Ud, Ud, Ud, Ud, Ud, Ud, Ud, Ud, Ud]) rfl (fun _ => rfl) (fun u hu hF => ?_) (fun v35 => ?_)
  · have h18_ : (hasPx A_c A_t.x A_t.y) = true → v34 = (Pt t_b (t_o + 2)) := hF.1
    have h15_ : v31 = (Bo (hasPx A_c A_t.x A_t.y)) := hF.2.1
    clear hF
    obtain rfl := h15_
    refine doesG_g (b := (hasPx A_c A_t.x A_t.y)) rfl (yld rfl rfl) (fun hg1 => ?_) (fun hc => ⟨fun hg1 => absurd hg1 hc, Ext.refl _⟩)
    obtain rfl := h18_ hg1
    refine (does_load (u := (Iv A_t.width)) (ev rfl) Try.isAgg2 (Cells.at ((hc_t.ext (Ext.gr (Ext.refl w) E18)).ext hu) 2 rfl)).mono ?_; rintro _ _ ⟨rfl, rfl⟩
    exact ⟨fun _ => rfl, Ext.refl _⟩
  refine RW_d (fun v36 => [(Pt c_b c_o), (Pt t_b t_o), Ud, Ud, (Bo false), v21, v22, v23, v24, v25, v26, v27, v28, v29, v30, v31, v32, v33, v34, v35, v36, Ud, Ud, Ud, Ud, Ud, Ud, Ud, Ud, Ud, Ud, Ud, Ud, Ud, Ud, Ud, Ud, Ud, Ud, Ud, Ud, Ud, Ud, Ud, Ud, Ud, Ud]) rfl (fun _ => rfl) (fun u hu hF => ?_) (fun v36 => ?_)
  · have h15_ : v31 = (Bo (hasPx A_c A_t.x A_t.y)) := hF.1
    clear hF
    obtain rfl := h15_
    refine doesG_g (b := (hasPx A_c A_t.x A_t.y)) rfl (yld rfl rfl) (fun hg1 => ?_) (fun hc => ⟨fun hg1 => absurd hg1 hc, Ext.refl _⟩)
    refine (does_move (u := (Pt c_b c_o)) (ev rfl)).mono ?_; rintro _ _ ⟨rfl, rfl⟩
    exact ⟨fun _ => rfl, Ext.refl _⟩
  refine RW_d (fun v37 => [(Pt c_b c_o), (Pt t_b t_o), Ud, Ud, (Bo false), v21, v22, v23, v24, v25, v26, v27, v28, v29, v30, v31, v32, v33, v34, v35, v36, v37, Ud, Ud, Ud, Ud, Ud, Ud, Ud, Ud, Ud, Ud, Ud, Ud, Ud, Ud, Ud, Ud, Ud, Ud, Ud, Ud, Ud, Ud, Ud, Ud, Ud]) rfl (fun _ => rfl) (fun u hu hF => ?_) (fun v37 => ?_)
  · have h20_ : (hasPx A_c A_t.x A_t.y) = true → v36 = (Pt c_b c_o) := hF.1
    have h15_ : v31 = (Bo (hasPx A_c A_t.x A_t.y)) := hF.2.1
    clear hF
    obtain rfl := h15_
    refine doesG_g (b := (hasPx A_c A_t.x A_t.y)) rfl (yld rfl rfl) (fun hg1 => ?_) (fun hc => ⟨fun hg1 => absurd hg1 hc, Ext.refl _⟩)
    obtain rfl := h20_ hg1
    refine (does_nilCheck (ev rfl)).mono ?_; rintro _ _ ⟨rfl, rfl⟩
    exact ⟨fun _ => rfl, Ext.refl _⟩
  refine RW_d (fun v38 => [(Pt c_b c_o), (Pt t_b t_o), Ud, Ud, (Bo false), v21, v22, v23, v24, v25, v26, v27, v28, v29, v30, v31, v32, v33, v34, v35, v36, v37, v38, Ud, Ud, Ud, Ud, Ud, Ud, Ud, Ud, Ud, Ud, Ud, Ud, Ud, Ud, Ud, Ud, Ud, Ud, Ud, Ud, Ud, Ud, Ud, Ud]) rfl (fun _ => rfl) (fun u hu hF => ?_) (fun v38 => ?_)
  · have h21_ : (hasPx A_c A_t.x A_t.y) = true → v37 = (Pt c_b c_o) := hF.1
    have h15_ : v31 = (Bo (hasPx A_c A_t.x A_t.y)) := hF.2.1
    clear hF
    obtain rfl := h15_
    refine doesG_g (b := (hasPx A_c A_t.x A_t.y)) rfl (yld rfl rfl) (fun hg1 => ?_) (fun hc => ⟨fun hg1 => absurd hg1 hc, Ext.refl _⟩)
    obtain rfl := h21_ hg1
    refine (does_fieldAddr (ev rfl) fa48_3).mono ?_; rintro _ _ ⟨rfl, rfl⟩
    exact ⟨fun _ => rfl, Ext.refl _⟩
  refine RW_d (fun v39 => [(Pt c_b c_o), (Pt t_b t_o), Ud, Ud, (Bo false), v21, v22, v23, v24, v25, v26, v27, v28, v29, v30, v31, v32, v33, v34, v35, v36, v37, v38, v39, Ud, Ud, Ud, Ud, Ud, Ud, Ud, Ud, Ud, Ud, Ud, Ud, Ud, Ud, Ud, Ud, Ud, Ud, Ud, Ud, Ud, Ud, Ud]) rfl (fun _ => rfl) (fun u hu hF => ?_) (fun v39 => ?_)
  · have h22_ : (hasPx A_c A_t.x A_t.y) = true → v38 = (Pt c_b (c_o + 7)) := hF.1
    have h15_ : v31 = (Bo (hasPx A_c A_t.x A_t.y)) := hF.2.1
    clear hF
    obtain rfl := h15_
    refine doesG_g (b := (hasPx A_c A_t.x A_t.y)) rfl (yld rfl rfl) (fun hg1 => ?_) (fun hc => ⟨fun hg1 => absurd hg1 hc, Ext.refl _⟩)
    obtain rfl := h22_ hg1
    refine (does_load (u := (Iv A_c.width)) (ev rfl) Try.isAgg2 (Cells.at ((hc_c.ext (Ext.gr (Ext.refl w) E18)).ext hu) 7 rfl)).mono ?_; rintro _ _ ⟨rfl, rfl⟩
    exact ⟨fun _ => rfl, Ext.refl _⟩
  refine RW_d (fun v40 => [(Pt c_b c_o), (Pt t_b t_o), Ud, Ud, (Bo false), v21, v22, v23, v24, v25, v26, v27, v28, v29, v30, v31, v32, v33, v34, v35, v36, v37, v38, v39, v40, Ud, Ud, Ud, Ud, Ud, Ud, Ud, Ud, Ud, Ud, Ud, Ud, Ud, Ud, Ud, Ud, Ud, Ud, Ud, Ud, Ud, Ud]) rfl (fun _ => rfl) (fun u hu hF => ?_) (fun v40 => ?_)
  · have h15_ : v31 = (Bo (hasPx A_c A_t.x A_t.y)) := hF.1
    clear hF
    obtain rfl := h15_
    refine doesG_g (b := (hasPx A_c A_t.x A_t.y)) rfl (yld rfl rfl) (fun hg1 => ?_) (fun hc => ⟨fun hg1 => absurd hg1 hc, Ext.refl _⟩)
    refine (does_move (u := (Pt t_b t_o)) (ev rfl)).mono ?_; rintro _ _ ⟨rfl, rfl⟩
    exact ⟨fun _ => rfl, Ext.refl _⟩
  refine RW_d (fun v41 => [(Pt c_b c_o), (Pt t_b t_o), Ud, Ud, (Bo false), v21, v22, v23, v24, v25, v26, v27, v28, v29, v30, v31, v32, v33, v34, v35, v36, v37, v38, v39, v40, v41, Ud, Ud, Ud, Ud, Ud, Ud, Ud, Ud, Ud, Ud, Ud, Ud, Ud, Ud, Ud, Ud, Ud, Ud, Ud, Ud, Ud]) rfl (fun _ => rfl) (fun u hu hF => ?_) (fun v41 => ?_)
  · have h24_ : (hasPx A_c A_t.x A_t.y) = true → v40 = (Pt t_b t_o) := hF.1
    have h15_ : v31 = (Bo (hasPx A_c A_t.x A_t.y)) := hF.2.1
    clear hF
    obtain rfl := h15_
    refine doesG_g (b := (hasPx A_c A_t.x A_t.y)) rfl (yld rfl rfl) (fun hg1 => ?_) (fun hc => ⟨fun hg1 => absurd hg1 hc, Ext.refl _⟩)
    obtain rfl := h24_ hg1
    refine (does_nilCheck (ev rfl)).mono ?_; rintro _ _ ⟨rfl, rfl⟩
    exact ⟨fun _ => rfl, Ext.refl _⟩
  refine RW_d (fun v42 => [(Pt c_b c_o), (Pt t_b t_o), Ud, Ud, (Bo false), v21, v22, v23, v24, v25, v26, v27, v28, v29, v30, v31, v32, v33, v34, v35, v36, v37, v38, v39, v40, v41, v42, Ud, Ud, Ud, Ud, Ud, Ud, Ud, Ud, Ud, Ud, Ud, Ud, Ud, Ud, Ud, Ud, Ud, Ud, Ud, Ud]) rfl (fun _ => rfl) (fun u hu hF => ?_) (fun v42 => ?_)
  · have h25_ : (hasPx A_c A_t.x A_t.y) = true → v41 = (Pt t_b t_o) := hF.1
    have h15_ : v31 = (Bo (hasPx A_c A_t.x A_t.y)) := hF.2.1
    clear hF
    obtain rfl := h15_
    refine doesG_g (b := (hasPx A_c A_t.x A_t.y)) rfl (yld rfl rfl) (fun hg1 => ?_) (fun hc => ⟨fun hg1 => absurd hg1 hc, Ext.refl _⟩)
    obtain rfl := h25_ hg1
    refine (does_fieldAddr (ev rfl) fa54_0).mono ?_; rintro _ _ ⟨rfl, rfl⟩
    exact ⟨fun _ => rfl, Ext.refl _⟩
  refine RW_d (fun v43 => [(Pt c_b c_o), (Pt t_b t_o), Ud, Ud, (Bo false), v21, v22, v23, v24, v25, v26, v27, v28, v29, v30, v31, v32, v33, v34, v35, v36, v37, v38, v39, v40, v41, v42, v43, Ud, Ud, Ud, Ud, Ud, Ud, Ud, Ud, Ud, Ud, Ud, Ud, Ud, Ud, Ud, Ud, Ud, Ud, Ud]) rfl (fun _ => rfl) (fun u hu hF => ?_) (fun v43 => ?_)
  · have h26_ : (hasPx A_c A_t.x A_t.y) = true → v42 = (Pt t_b t_o) := hF.1
    have h15_ : v31 = (Bo (hasPx A_c A_t.x A_t.y)) := hF.2.1
    clear hF
    obtain rfl := h15_
    refine doesG_g (b := (hasPx A_c A_t.x A_t.y)) rfl (yld rfl rfl) (fun hg1 => ?_) (fun hc => ⟨fun hg1 => absurd hg1 hc, Ext.refl _⟩)
    obtain rfl := h26_ hg1
    refine (does_load (u := (Iv A_t.x)) (ev rfl) Try.isAgg2 (Cells.at ((hc_t.ext (Ext.gr (Ext.refl w) E18)).ext hu) 0 rfl)).mono ?_; rintro _ _ ⟨rfl, rfl⟩
    exact ⟨fun _ => rfl, Ext.refl _⟩
  refine RW_d (fun v44 => [(Pt c_b c_o), (Pt t_b t_o), Ud, Ud, (Bo false), v21, v22, v23, v24, v25, v26, v27, v28, v29, v30, v31, v32, v33, v34, v35, v36, v37, v38, v39, v40, v41, v42, v43, v44, Ud, Ud, Ud, Ud, Ud, Ud, Ud, Ud, Ud, Ud, Ud, Ud, Ud, Ud, Ud, Ud, Ud, Ud]) rfl (fun _ => rfl) (fun u hu hF => ?_) (fun v44 => ?_)
  · have h23_ : (hasPx A_c A_t.x A_t.y) = true → v39 = (Iv A_c.width) := hF.1
    have h27_ : (hasPx A_c A_t.x A_t.y) = true → v43 = (Iv A_t.x) := hF.2.1
    have h15_ : v31 = (Bo (hasPx A_c A_t.x A_t.y)) := hF.2.2.1
    clear hF
    obtain rfl := h15_
    refine doesG_g (b := (hasPx A_c A_t.x A_t.y)) rfl (yld rfl rfl) (fun hg1 => ?_) (fun hc => ⟨fun hg1 => absurd hg1 hc, Ext.refl _⟩)
    obtain rfl := h23_ hg1
    obtain rfl := h27_ hg1
    refine (does_iarith (p := A_c.width) (q := A_t.x) (r := IntKind.i64.wrap (A_c.width - A_t.x)) (ev rfl) (ev rfl) (.inr (.inl ⟨rfl, rfl⟩))).mono ?_; rintro _ _ ⟨rfl, rfl⟩
    exact ⟨fun _ => rfl, Ext.refl _⟩
  refine RW_d (fun v45 => [(Pt c_b c_o), (Pt t_b t_o), Ud, Ud, (Bo false), v21, v22, v23, v24, v25, v26, v27, v28, v29, v30, v31, v32, v33, v34, v35, v36, v37, v38, v39, v40, v41, v42, v43, v44, v45, Ud, Ud, Ud, Ud, Ud, Ud, Ud, Ud, Ud, Ud, Ud, Ud, Ud, Ud, Ud, Ud, Ud]) rfl (fun _ => rfl) (fun u hu hF => ?_) (fun v45 => ?_)
  · have h19_ : (hasPx A_c A_t.x A_t.y) = true → v35 = (Iv A_t.width) := hF.1
    have h28_ : (hasPx A_c A_t.x A_t.y) = true → v44 = (Iv (IntKind.i64.wrap (A_c.width - A_t.x))) := hF.2.1
    have h15_ : v31 = (Bo (hasPx A_c A_t.x A_t.y)) := hF.2.2.1
    clear hF
    obtain rfl := h15_
    refine doesG_g (b := (hasPx A_c A_t.x A_t.y)) rfl (yld rfl rfl) (fun hg1 => ?_) (fun hc => ⟨fun hg1 => absurd hg1 hc, Ext.refl _⟩)
    obtain rfl := h19_ hg1
    obtain rfl := h28_ hg1
    refine (does_call (args := #[(Iv A_t.width), (Iv 1), (Iv (IntKind.i64.wrap (A_c.width - A_t.x)))]) cal74 (evs rfl) (c_spec_l00In A_t.width 1 (IntKind.i64.wrap (A_c.width - A_t.x)) _)).mono ?_; rintro v u' ⟨hx, hv⟩
    exact ⟨fun _ => hv.trans (by simp only [hβ1]), hx⟩
  refine RW_d (fun v46 => [(Pt c_b c_o), (Pt t_b t_o), Ud, Ud, (Bo false), v21, v22, v23, v24, v25, v26, v27, v28, v29, v30, v31, v32, v33, v34, v35, v36, v37, v38, v39, v40, v41, v42, v43, v44, v45, v46, Ud, Ud, Ud, Ud, Ud, Ud, Ud, Ud, Ud, Ud, Ud, Ud, Ud, Ud, Ud, Ud]) rfl (fun _ => rfl) (fun u hu hF => ?_) (fun v46 => ?_)
  · have h15_ : v31 = (Bo (hasPx A_c A_t.x A_t.y)) := hF.1
    have h29_ : (hasPx A_c A_t.x A_t.y) = true → v45 = (Bo β1) := hF.2.1
    clear hF
    refine doesG_un rfl ?_
    skip
    obtain rfl := h15_
    refine (does_pick (b := (hasPx A_c A_t.x A_t.y)) (ev rfl) (ev rfl) (ev rfl)).mono ?_; rintro _ _ ⟨rfl, rfl⟩; refine ⟨?_, Ext.refl _⟩; rw [hβ2]; skip
    cases hbb : (hasPx A_c A_t.x A_t.y) <;> simp [hbb] at h29_ ⊢
    all_goals (first | rfl | (subst h29_; rfl) | simp_all)
  refine RW_d (fun v47 => [(Pt c_b c_o), (Pt t_b t_o), Ud, Ud, (Bo false), v21, v22, v23, v24, v25, v26, v27, v28, v29, v30, v31, v32, v33, v34, v35, v36, v37, v38, v39, v40, v41, v42, v43, v44, v45, v46, v47, Ud, Ud, Ud, Ud, Ud, Ud, Ud, Ud, Ud, Ud, Ud, Ud, Ud, Ud, Ud]) rfl (fun _ => rfl) (fun u hu hF => ?_) (fun v47 => ?_)
  · have h30_ : v46 = (Bo β2) := hF.1
    clear hF
    refine doesG_un rfl ?_
    obtain rfl := h30_
    refine (does_move (u := (Bo β2)) (ev rfl)).mono ?_; rintro _ _ ⟨rfl, rfl⟩
    exact ⟨rfl, Ext.refl _⟩
  refine RW_d (fun v48 => [(Pt c_b c_o), (Pt t_b t_o), Ud, Ud, (Bo false), v21, v22, v23, v24, v25, v26, v27, v28, v29, v30, v31, v32, v33, v34, v35, v36, v37, v38, v39, v40, v41, v42, v43, v44, v45, v46, v47, v48, Ud, Ud, Ud, Ud, Ud, Ud, Ud, Ud, Ud, Ud, Ud, Ud, Ud, Ud]) rfl (fun _ => rfl) (fun u hu hF => ?_) (fun v48 => ?_)
  · have h31_ : v47 = (Bo β2) := hF.1
    clear hF
    obtain rfl := h31_
    refine doesG_g (b := β2) rfl (yld rfl rfl) (fun hg1 => ?_) (fun hc => ⟨fun hg1 => absurd hg1 hc, Ext.refl _⟩)
    refine (does_move (u := (Pt t_b t_o)) (ev rfl)).mono ?_; rintro _ _ ⟨rfl, rfl⟩
    exact ⟨fun _ => rfl, Ext.refl _⟩
  refine RW_d (fun v49 => [(Pt c_b c_o), (Pt t_b t_o), Ud, Ud, (Bo false), v21, v22, v23, v24, v25, v26, v27, v28, v29, v30, v31, v32, v33, v34, v35, v36, v37, v38, v39, v40, v41, v42, v43, v44, v45, v46, v47, v48, v49, Ud, Ud, Ud, Ud, Ud, Ud, Ud, Ud, Ud, Ud, Ud, Ud, Ud]) rfl (fun _ => rfl) (fun u hu hF => ?_) (fun v49 => ?_)
  · have h32_ : β2 = true → v48 = (Pt t_b t_o) := hF.1
    have h31_ : v47 = (Bo β2) := hF.2.1
    clear hF
    obtain rfl := h31_
    refine doesG_g (b := β2) rfl (yld rfl rfl) (fun hg1 => ?_) (fun hc => ⟨fun hg1 => absurd hg1 hc, Ext.refl _⟩)
    obtain rfl := h32_ hg1
    refine (does_nilCheck (ev rfl)).mono ?_; rintro _ _ ⟨rfl, rfl⟩
    exact ⟨fun _ => rfl, Ext.refl _⟩
  refine RW_d (fun v50 => [(Pt c_b c_o), (Pt t_b t_o), Ud, Ud, (Bo false), v21, v22, v23, v24, v25, v26, v27, v28, v29, v30, v31, v32, v33, v34, v35, v36, v37, v38, v39, v40, v41, v42, v43, v44, v45, v46, v47, v48, v49, v50, Ud, Ud, Ud, Ud, Ud, Ud, Ud, Ud, Ud, Ud, Ud, Ud]) rfl (fun _ => rfl) (fun u hu hF => ?_) (fun v50 => ?_)
  · have h33_ : β2 = true → v49 = (Pt t_b t_o) := hF.1
    have h31_ : v47 = (Bo β2) := hF.2.1
    clear hF
    obtain rfl := h31_
    refine doesG_g (b := β2) rfl (yld rfl rfl) (fun hg1 => ?_) (fun hc => ⟨fun hg1 => absurd hg1 hc, Ext.refl _⟩)
    obtain rfl := h33_ hg1
    refine (does_fieldAddr (ev rfl) fa54_3).mono ?_; rintro _ _ ⟨rfl, rfl⟩
    exact ⟨fun _ => rfl, Ext.refl _⟩
  refine RW_d (fun v51 => [(Pt c_b c_o), (Pt t_b t_o), Ud, Ud, (Bo false), v21, v22, v23, v24, v25, v26, v27, v28, v29, v30, v31, v32, v33, v34, v35, v36, v37, v38, v39, v40, v41, v42, v43, v44, v45, v46, v47, v48, v49, v50, v51, Ud, Ud, Ud, Ud, Ud, Ud, Ud, Ud, Ud, Ud, Ud]) rfl (fun _ => rfl) (fun u hu hF => ?_) (fun v51 => ?_)
  · have h34_ : β2 = true → v50 = (Pt t_b (t_o + 3)) := hF.1
    have h31_ : v47 = (Bo β2) := hF.2.1
    clear hF
    obtain rfl := h31_
    refine doesG_g (b := β2) rfl (yld rfl rfl) (fun hg1 => ?_) (fun hc => ⟨fun hg1 => absurd hg1 hc, Ext.refl _⟩)
    obtain rfl := h34_ hg1
    refine (does_load (u := (Iv A_t.height)) (ev rfl) Try.isAgg2 (Cells.at ((hc_t.ext (Ext.gr (Ext.refl w) E18)).ext hu) 3 rfl)).mono ?_; rintro _ _ ⟨rfl, rfl⟩
    exact ⟨fun _ => rfl, Ext.refl _⟩
  refine RW_d (fun v52 => [(Pt c_b c_o), (Pt t_b t_o), Ud, Ud, (Bo false), v21, v22, v23, v24, v25, v26, v27, v28, v29, v30, v31, v32, v33, v34, v35, v36, v37, v38, v39, v40, v41, v42, v43, v44, v45, v46, v47, v48, v49, v50, v51, v52, Ud, Ud, Ud, Ud, Ud, Ud, Ud, Ud, Ud, Ud]) rfl (fun _ => rfl) (fun u hu hF => ?_) (fun v52 => ?_)
  · have h31_ : v47 = (Bo β2) := hF.1
    clear hF
    obtain rfl := h31_
    refine doesG_g (b := β2) rfl (yld rfl rfl) (fun hg1 => ?_) (fun hc => ⟨fun hg1 => absurd hg1 hc, Ext.refl _⟩)
    refine (does_move (u := (Pt c_b c_o)) (ev rfl)).mono ?_; rintro _ _ ⟨rfl, rfl⟩
    exact ⟨fun _ => rfl, Ext.refl _⟩
  refine RW_d (fun v53 => [(Pt c_b c_o), (Pt t_b t_o), Ud, Ud, (Bo false), v21, v22, v23, v24, v25, v26, v27, v28, v29, v30, v31, v32, v33, v34, v35, v36, v37, v38, v39, v40, v41, v42, v43, v44, v45, v46, v47, v48, v49, v50, v51, v52, v53, Ud, Ud, Ud, Ud, Ud, Ud, Ud, Ud, Ud]) rfl (fun _ => rfl) (fun u hu hF => ?_) (fun v53 => ?_)
  · have h36_ : β2 = true → v52 = (Pt c_b c_o) := hF.1
    have h31_ : v47 = (Bo β2) := hF.2.1
    clear hF
    obtain rfl := h31_
    refine doesG_g (b := β2) rfl (yld rfl rfl) (fun hg1 => ?_) (fun hc => ⟨fun hg1 => absurd hg1 hc, Ext.refl _⟩)
    obtain rfl := h36_ hg1
    refine (does_nilCheck (ev rfl)).mono ?_; rintro _ _ ⟨rfl, rfl⟩
    exact ⟨fun _ => rfl, Ext.refl _⟩
  refine RW_d (fun v54 => [(Pt c_b c_o), (Pt t_b t_o), Ud, Ud, (Bo false), v21, v22, v23, v24, v25, v26, v27, v28, v29, v30, v31, v32, v33, v34, v35, v36, v37, v38, v39, v40, v41, v42, v43, v44, v45, v46, v47, v48, v49, v50, v51, v52, v53, v54, Ud, Ud, Ud, Ud, Ud, Ud, Ud, Ud]) rfl (fun _ => rfl) (fun u hu hF => ?_) (fun v54 => ?_)
  · have h37_ : β2 = true → v53 = (Pt c_b c_o) := hF.1
    have h31_ : v47 = (Bo β2) := hF.2.1
    clear hF
    obtain rfl := h31_
    refine doesG_g (b := β2) rfl (yld rfl rfl) (fun hg1 => ?_) (fun hc => ⟨fun hg1 => absurd hg1 hc, Ext.refl _⟩)
    obtain rfl := h37_ hg1
    refine (does_fieldAddr (ev rfl) fa48_4).mono ?_; rintro _ _ ⟨rfl, rfl⟩
    exact ⟨fun _ => rfl, Ext.refl _⟩
  refine RW_d (fun v55 => [(Pt c_b c_o), (Pt t_b t_o), Ud, Ud, (Bo false), v21, v22, v23, v24, v25, v26, v27, v28, v29, v30, v31, v32, v33, v34, v35, v36, v37, v38, v39, v40, v41, v42, v43, v44, v45, v46, v47, v48, v49, v50, v51, v52, v53, v54, v55, Ud, Ud, Ud, Ud, Ud, Ud, Ud]) rfl (fun _ => rfl) (fun u hu hF => ?_) (fun v55 => ?_)
  · have h38_ : β2 = true → v54 = (Pt c_b (c_o + 8)) := hF.1
    have h31_ : v47 = (Bo β2) := hF.2.1
    clear hF
    obtain rfl := h31_
    refine doesG_g (b := β2) rfl (yld rfl rfl) (fun hg1 => ?_) (fun hc => ⟨fun hg1 => absurd hg1 hc, Ext.refl _⟩)
    obtain rfl := h38_ hg1
    refine (does_load (u := (Iv A_c.height)) (ev rfl) Try.isAgg2 (Cells.at ((hc_c.ext (Ext.gr (Ext.refl w) E18)).ext hu) 8 rfl)).mono ?_; rintro _ _ ⟨rfl, rfl⟩
    exact ⟨fun _ => rfl, Ext.refl _⟩
  refine RW_d (fun v56 => [(Pt c_b c_o), (Pt t_b t_o), Ud, Ud, (Bo false), v21, v22, v23, v24, v25, v26, v27, v28, v29, v30, v31, v32, v33, v34, v35, v36, v37, v38, v39, v40, v41, v42, v43, v44, v45, v46, v47, v48, v49, v50, v51, v52, v53, v54, v55, v56, Ud, Ud, Ud, Ud, Ud, Ud]) rfl (fun _ => rfl) (fun u hu hF => ?_) (fun v56 => ?_)
  · have h31_ : v47 = (Bo β2) := hF.1
    clear hF
    obtain rfl := h31_
    refine doesG_g (b := β2) rfl (yld rfl rfl) (fun hg1 => ?_) (fun hc => ⟨fun hg1 => absurd hg1 hc, Ext.refl _⟩)
    refine (does_move (u := (Pt t_b t_o)) (ev rfl)).mono ?_; rintro _ _ ⟨rfl, rfl⟩
    exact ⟨fun _ => rfl, Ext.refl _⟩
  refine RW_d (fun v57 => [(Pt c_b c_o), (Pt t_b t_o), Ud, Ud, (Bo false), v21, v22, v23, v24, v25, v26, v27, v28, v29, v30, v31, v32, v33, v34, v35, v36, v37, v38, v39, v40, v41, v42, v43, v44, v45, v46, v47, v48, v49, v50, v51, v52, v53, v54, v55, v56, v57, Ud, Ud, Ud, Ud, Ud]) rfl (fun _ => rfl) (fun u hu hF => ?_) (fun v57 => ?_)
  · have h40_ : β2 = true → v56 = (Pt t_b t_o) := hF.1
    have h31_ : v47 = (Bo β2) := hF.2.1
    clear hF
    obtain rfl := h31_
    refine doesG_g (b := β2) rfl (yld rfl rfl) (fun hg1 => ?_) (fun hc => ⟨fun hg1 => absurd hg1 hc, Ext.refl _⟩)
    obtain rfl := h40_ hg1
    refine (does_nilCheck (ev rfl)).mono ?_; rintro _ _ ⟨rfl, rfl⟩
    exact ⟨fun _ => rfl, Ext.refl _⟩
  refine RW_d (fun v58 => [(Pt c_b c_o), (Pt t_b t_o), Ud, Ud, (Bo false), v21, v22, v23, v24, v25, v26, v27, v28, v29, v30, v31, v32, v33, v34, v35, v36, v37, v38, v39, v40, v41, v42, v43, v44, v45, v46, v47, v48, v49, v50, v51, v52, v53, v54, v55, v56, v57, v58, Ud, Ud, Ud, Ud]) rfl (fun _ => rfl) (fun u hu hF => ?_) (fun v58 => ?_)
  · have h41_ : β2 = true → v57 = (Pt t_b t_o) := hF.1
    have h31_ : v47 = (Bo β2) := hF.2.1
    clear hF
    obtain rfl := h31_
    refine doesG_g (b := β2) rfl (yld rfl rfl) (fun hg1 => ?_) (fun hc => ⟨fun hg1 => absurd hg1 hc, Ext.refl _⟩)
    obtain rfl := h41_ hg1
    refine (does_fieldAddr (ev rfl) fa54_1).mono ?_; rintro _ _ ⟨rfl, rfl⟩
    exact ⟨fun _ => rfl, Ext.refl _⟩
  refine RW_d (fun v59 => [(Pt c_b c_o), (Pt t_b t_o), Ud, Ud, (Bo false), v21, v22, v23, v24, v25, v26, v27, v28, v29, v30, v31, v32, v33, v34, v35, v36, v37, v38, v39, v40, v41, v42, v43, v44, v45, v46, v47, v48, v49, v50, v51, v52, v53, v54, v55, v56, v57, v58, v59, Ud, Ud, Ud]) rfl (fun _ => rfl) (fun u hu hF => ?_) (fun v59 => ?_)
  · have h42_ : β2 = true → v58 = (Pt t_b (t_o + 1)) := hF.1
    have h31_ : v47 = (Bo β2) := hF.2.1
    clear hF
    obtain rfl := h31_
    refine doesG_g (b := β2) rfl (yld rfl rfl) (fun hg1 => ?_) (fun hc => ⟨fun hg1 => absurd hg1 hc, Ext.refl _⟩)
    obtain rfl := h42_ hg1
    refine (does_load (u := (Iv A_t.y)) (ev rfl) Try.isAgg2 (Cells.at ((hc_t.ext (Ext.gr (Ext.refl w) E18)).ext hu) 1 rfl)).mono ?_; rintro _ _ ⟨rfl, rfl⟩
    exact ⟨fun _ => rfl, Ext.refl _⟩
  refine RW_d (fun v60 => [(Pt c_b c_o), (Pt t_b t_o), Ud, Ud, (Bo false), v21, v22, v23, v24, v25, v26, v27, v28, v29, v30, v31, v32, v33, v34, v35, v36, v37, v38, v39, v40, v41, v42, v43, v44, v45, v46, v47, v48, v49, v50, v51, v52, v53, v54, v55, v56, v57, v58, v59, v60, Ud, Ud]) rfl (fun _ => rfl) (fun u hu hF => ?_) (fun v60 => ?_)
  · have h39_ : β2 = true → v55 = (Iv A_c.height) := hF.1
    have h43_ : β2 = true → v59 = (Iv A_t.y) := hF.2.1
    have h31_ : v47 = (Bo β2) := hF.2.2.1
    clear hF
    obtain rfl := h31_
    refine doesG_g (b := β2) rfl (yld rfl rfl) (fun hg1 => ?_) (fun hc => ⟨fun hg1 => absurd hg1 hc, Ext.refl _⟩)
    obtain rfl := h39_ hg1
    obtain rfl := h43_ hg1
    refine (does_iarith (p := A_c.height) (q := A_t.y) (r := IntKind.i64.wrap (A_c.height - A_t.y)) (ev rfl) (ev rfl) (.inr (.inl ⟨rfl, rfl⟩))).mono ?_; rintro _ _ ⟨rfl, rfl⟩
    exact ⟨fun _ => rfl, Ext.refl _⟩
  refine RW_d (fun v61 => [(Pt c_b c_o), (Pt t_b t_o), Ud, Ud, (Bo false), v21, v22, v23, v24, v25, v26, v27, v28, v29, v30, v31, v32, v33, v34, v35, v36, v37, v38, v39, v40, v41, v42, v43, v44, v45, v46, v47, v48, v49, v50, v51, v52, v53, v54, v55, v56, v57, v58, v59, v60, v61, Ud]) rfl (fun _ => rfl) (fun u hu hF => ?_) (fun v61 => ?_)
  · have h35_ : β2 = true → v51 = (Iv A_t.height) := hF.1
    have h44_ : β2 = true → v60 = (Iv (IntKind.i64.wrap (A_c.height - A_t.y))) := hF.2.1
    have h31_ : v47 = (Bo β2) := hF.2.2.1
    clear hF
    obtain rfl := h31_
    refine doesG_g (b := β2) rfl (yld rfl rfl) (fun hg1 => ?_) (fun hc => ⟨fun hg1 => absurd hg1 hc, Ext.refl _⟩)
    obtain rfl := h35_ hg1
    obtain rfl := h44_ hg1
    refine (does_call (args := #[(Iv A_t.height), (Iv 1), (Iv (IntKind.i64.wrap (A_c.height - A_t.y)))]) cal74 (evs rfl) (c_spec_l00In A_t.height 1 (IntKind.i64.wrap (A_c.height - A_t.y)) _)).mono ?_; rintro v u' ⟨hx, hv⟩
    exact ⟨fun _ => hv.trans (by simp only [hβ3]), hx⟩
  refine RW_d (fun v62 => [(Pt c_b c_o), (Pt t_b t_o), Ud, Ud, (Bo false), v21, v22, v23, v24, v25, v26, v27, v28, v29, v30, v31, v32, v33, v34, v35, v36, v37, v38, v39, v40, v41, v42, v43, v44, v45, v46, v47, v48, v49, v50, v51, v52, v53, v54, v55, v56, v57, v58, v59, v60, v61, v62]) rfl (fun _ => rfl) (fun u hu hF => ?_) (fun v62 => ?_)
  · have h31_ : v47 = (Bo β2) := hF.1
    have h45_ : β2 = true → v61 = (Bo β3) := hF.2.1
    clear hF
    refine doesG_un rfl ?_
    skip
    obtain rfl := h31_
    refine (does_pick (b := β2) (ev rfl) (ev rfl) (ev rfl)).mono ?_; rintro _ _ ⟨rfl, rfl⟩; refine ⟨?_, Ext.refl _⟩; skip
    cases hbb : β2 <;> simp [hbb] at h45_ ⊢
    all_goals (first | rfl | (subst h45_; rfl) | simp_all)
  refine RW_fin ?_; intro w63 E64 hP65
  obtain ⟨⟨⟨⟨⟨⟨⟨⟨⟨⟨⟨⟨⟨⟨⟨⟨⟨⟨⟨⟨⟨⟨⟨⟨⟨⟨⟨⟨⟨⟨⟨⟨⟨⟨⟨⟨⟨⟨⟨⟨⟨⟨-, -⟩, -⟩, -⟩, -⟩, -⟩, -⟩, -⟩, -⟩, -⟩, -⟩, -⟩, -⟩, -⟩, -⟩, -⟩, -⟩, -⟩, -⟩, -⟩, -⟩, -⟩, -⟩, -⟩, -⟩, -⟩, -⟩, -⟩, -⟩, -⟩, -⟩, -⟩, -⟩, -⟩, -⟩, -⟩, -⟩, -⟩, -⟩, -⟩, -⟩, -⟩, q66⟩ := hP65
  have X67 := Ext.gr X20 E64
  have q66 : v62 = (Bo (β2 && β3)) := q66
  obtain rfl := q66
  show wpList _ _ _ _ (fr [(Pt c_b c_o), (Pt t_b t_o), Ud, Ud, (Bo false), v21, v22, v23, v24, v25, v26, v27, v28, v29, v30, v31, v32, v33, v34, v35, v36, v37, v38, v39, v40, v41, v42, v43, v44, v45, v46, v47, v48, v49, v50, v51, v52, v53, v54, v55, v56, v57, v58, v59, v60, v61, (Bo (β2 && β3))]) _
  refine q_is (l' := [(Pt c_b c_o), (Pt t_b t_o), Ud, Ud, (Bo (β2 && β3)), v21, v22, v23, v24, v25, v26, v27, v28, v29, v30, v31, v32, v33, v34, v35, v36, v37, v38, v39, v40, v41, v42, v43, v44, v45, v46, v47, v48, v49, v50, v51, v52, v53, v54, v55, v56, v57, v58, v59, v60, v61, (Bo (β2 && β3))]) rfl rfl (does_assign (u := (Bo (β2 && β3))) (ev rfl)) rfl ?_
  refine wpList_nil (hK16 _ _ ?_)
  refine wp_ret ?_
  refine ret_val (v := (Bo (β2 && β3))) (res_T rfl (slot rfl)) X67 ?_
  have x68 : (tileIn A_c A_t) = (β2 && β3) := by first | with_reducible rfl | (simp only [tileIn, h2, h4, h6, h8, h10, h12, h14, hβ1, hβ2, hβ3]; done) | (simp [tileIn, h2, h4, h6, h8, h10, h12, h14, hβ1, hβ2, hβ3]; done) | rfl
  exact (by first | rfl | rw [x68])

/- spec.IsTile -/
theorem c_spec_IsTile (c : List Value) (A_c : CamT) (t : List Value) (A_t : TileT) (w : World) (hv_c : RCamT w A_c c) (hv_t : RTileT w A_t t) : Gives Try.prog 26 #[(.agg c.toArray), (.agg t.toArray)] w (fun v w' => v = (Bo (isCam A_c && tileIn A_c A_t))) := by
  obtain ⟨r1, r3, r5, r7, r9, r11, r13, rfl, h2, h4, h6, h8, h10, h12, h14⟩ := hv_c
  obtain rfl := hv_t
  refine enter [(.agg #[(Fl r1), (Fl r3), (Fl r5), (Fl r7), (Fl r9), (Fl r11), (Fl r13), (Iv A_c.width), (Iv A_c.height)]), (.agg #[(Iv A_t.x), (Iv A_t.y), (Iv A_t.width), (Iv A_t.height)]), Ud, Ud, Ud, Ud, Ud, Ud, Ud] Try.func26 rfl Try.ntmps26 rfl ?_
  refine wp_seq_k fun K15 hK15 => ?_
  refine wp_region_lit ?_
  refine seqd rfl rfl (does_box (u := (.agg #[(Fl r1), (Fl r3), (Fl r5), (Fl r7), (Fl r9), (Fl r11), (Fl r13), (Iv A_c.width), (Iv A_c.height)])) (ev rfl)) ?_; rintro _ w20 ⟨b16, rfl, hb17, hB18, E19⟩
  have g21 : w.heap.size ≤ b16 := Nat.le_trans (Below.size (Ext.refl w)) hb17
  change Blk _ _ [(Fl r1), (Fl r3), (Fl r5), (Fl r7), (Fl r9), (Fl r11), (Fl r13), (Iv A_c.width), (Iv A_c.height)] at hB18
  have X22 := Ext.gr (Ext.refl w) E19
  show wpList _ _ _ _ (fr [(.agg #[(Fl r1), (Fl r3), (Fl r5), (Fl r7), (Fl r9), (Fl r11), (Fl r13), (Iv A_c.width), (Iv A_c.height)]), (.agg #[(Iv A_t.x), (Iv A_t.y), (Iv A_t.width), (Iv A_t.height)]), (Pt b16 0), Ud, Ud, Ud, Ud, Ud, Ud]) _
  refine seqd rfl rfl (does_box (u := (.agg #[(Iv A_t.x), (Iv A_t.y), (Iv A_t.width), (Iv A_t.height)])) (ev rfl)) ?_; rintro _ w27 ⟨b23, rfl, hb24, hB25, E26⟩
  have n28 : b16 < b23 := Nat.lt_of_lt_of_le (Blk.lt hB18) hb24
  have g29 : w.heap.size ≤ b23 := Nat.le_trans (Below.size X22) hb24
  change Blk _ _ [(Iv A_t.x), (Iv A_t.y), (Iv A_t.width), (Iv A_t.height)] at hB25
  have X30 := Ext.gr X22 E26
  show wpList _ _ _ _ (fr [(.agg #[(Fl r1), (Fl r3), (Fl r5), (Fl r7), (Fl r9), (Fl r11), (Fl r13), (Iv A_c.width), (Iv A_c.height)]), (.agg #[(Iv A_t.x), (Iv A_t.y), (Iv A_t.width), (Iv A_t.height)]), (Pt b16 0), (Pt b23 0), Ud, Ud, Ud, Ud, Ud]) _
  refine q_is (l' := [(.agg #[(Fl r1), (Fl r3), (Fl r5), (Fl r7), (Fl r9), (Fl r11), (Fl r13), (Iv A_c.width), (Iv A_c.height)]), (.agg #[(Iv A_t.x), (Iv A_t.y), (Iv A_t.width), (Iv A_t.height)]), (Pt b16 0), (Pt b23 0), (Bo false), Ud, Ud, Ud, Ud]) rfl rfl (does_assign (u := (Bo false)) (ev rfl)) rfl ?_
  refine wpList_nil (hK15 _ _ ?_)
  refine wp_seq_k fun K31 hK31 => ?_
  obtain ⟨β1, hβ1⟩ : ∃ b : Bool, b = ((isCam A_c) && (tileIn A_c A_t)) := ⟨_, rfl⟩
  refine region_text (
    [Fact.pure [] (fun v => v = (Bo (isCam A_c))),
    Fact.pure [5] (fun v => v = (Bo (isCam A_c))),
    Fact.pure [6] (fun v => (isCam A_c) = true → v = (Bo (tileIn A_c A_t))),
    Fact.pure [6, 7] (fun v => v = (Bo β1))]) (by simp [Fact.pure, Fact.mem]) ?_
  refine RW_d (fun v32 => [(.agg #[(Fl r1), (Fl r3), (Fl r5), (Fl r7), (Fl r9), (Fl r11), (Fl r13), (Iv A_c.width), (Iv A_c.height)]), (.agg #[(Iv A_t.x), (Iv A_t.y), (Iv A_t.width), (Iv A_t.height)]), (Pt b16 0), (Pt b23 0), (Bo false), v32, Ud, Ud, Ud]) rfl (fun _ => rfl) (fun u hu hF => ?_) (fun v32 => ?_)
  · clear hF
    refine doesG_un rfl ?_
    refine (does_call (args := #[(Pt b16 0)]) cal64 (evs rfl) (c_spec_l09Is b16 0 [(Fl r1), (Fl r3), (Fl r5), (Fl r7), (Fl r9), (Fl r11), (Fl r13), (Iv A_c.width), (Iv A_c.height)] A_c _ (Blk.cells ((hB18.ext E26).ext hu)) ⟨r1, r3, r5, r7, r9, r11, r13, rfl, h2, h4, h6, h8, h10, h12, h14⟩)).mono ?_; rintro v u' ⟨hx, hv⟩
    exact ⟨hv, hx⟩
  refine RW_d (fun v33 => [(.agg #[(Fl r1), (Fl r3), (Fl r5), (Fl r7), (Fl r9), (Fl r11), (Fl r13), (Iv A_c.width), (Iv A_c.height)]), (.agg #[(Iv A_t.x), (Iv A_t.y), (Iv A_t.width), (Iv A_t.height)]), (Pt b16 0), (Pt b23 0), (Bo false), v32, v33, Ud, Ud]) rfl (fun _ => rfl) (fun u hu hF => ?_) (fun v33 => ?_)
  · have h5_ : v32 = (Bo (isCam A_c)) := hF.1
    clear hF
    refine doesG_un rfl ?_
    obtain rfl := h5_
    refine (does_move (u := (Bo (isCam A_c))) (ev rfl)).mono ?_; rintro _ _ ⟨rfl, rfl⟩
    exact ⟨rfl, Ext.refl _⟩
  refine RW_d (fun v34 => [(.agg #[(Fl r1), (Fl r3), (Fl r5), (Fl r7), (Fl r9), (Fl r11), (Fl r13), (Iv A_c.width), (Iv A_c.height)]), (.agg #[(Iv A_t.x), (Iv A_t.y), (Iv A_t.width), (Iv A_t.height)]), (Pt b16 0), (Pt b23 0), (Bo false), v32, v33, v34, Ud]) rfl (fun _ => rfl) (fun u hu hF => ?_) (fun v34 => ?_)
  · have h6_ : v33 = (Bo (isCam A_c)) := hF.1
    clear hF
    obtain rfl := h6_
    refine doesG_g (b := (isCam A_c)) rfl (yld rfl rfl) (fun hg1 => ?_) (fun hc => ⟨fun hg1 => absurd hg1 hc, Ext.refl _⟩)
    refine (does_call (args := #[(Pt b16 0), (Pt b23 0)]) cal68 (evs rfl) (c_spec_l09Tile b16 0 [(Fl r1), (Fl r3), (Fl r5), (Fl r7), (Fl r9), (Fl r11), (Fl r13), (Iv A_c.width), (Iv A_c.height)] A_c b23 0 [(Iv A_t.x), (Iv A_t.y), (Iv A_t.width), (Iv A_t.height)] A_t _ (Blk.cells ((hB18.ext E26).ext hu)) ⟨r1, r3, r5, r7, r9, r11, r13, rfl, h2, h4, h6, h8, h10, h12, h14⟩ (Blk.cells (hB25.ext hu)) rfl)).mono ?_; rintro v u' ⟨hx, hv⟩
    exact ⟨fun _ => hv, hx⟩
  refine RW_d (fun v35 => [(.agg #[(Fl r1), (Fl r3), (Fl r5), (Fl r7), (Fl r9), (Fl r11), (Fl r13), (Iv A_c.width), (Iv A_c.height)]), (.agg #[(Iv A_t.x), (Iv A_t.y), (Iv A_t.width), (Iv A_t.height)]), (Pt b16 0), (Pt b23 0), (Bo false), v32, v33, v34, v35]) rfl (fun _ => rfl) (fun u hu hF => ?_) (fun v35 => ?_)
  · have h6_ : v33 = (Bo (isCam A_c)) := hF.1
    have h7_ : (isCam A_c) = true → v34 = (Bo (tileIn A_c A_t)) := hF.2.1
    clear hF
    refine doesG_un rfl ?_
    skip
    obtain rfl := h6_
    refine (does_pick (b := (isCam A_c)) (ev rfl) (ev rfl) (ev rfl)).mono ?_; rintro _ _ ⟨rfl, rfl⟩; refine ⟨?_, Ext.refl _⟩; rw [hβ1]; skip
    cases hbb : (isCam A_c) <;> simp [hbb] at h7_ ⊢
    all_goals (first | rfl | (subst h7_; rfl) | simp_all)
  refine RW_fin ?_; intro w36 E37 hP38
  obtain ⟨⟨⟨⟨-, -⟩, -⟩, -⟩, q39⟩ := hP38
  have X40 := Ext.gr X30 E37
  have q39 : v35 = (Bo β1) := q39
  obtain rfl := q39
  show wpList _ _ _ _ (fr [(.agg #[(Fl r1), (Fl r3), (Fl r5), (Fl r7), (Fl r9), (Fl r11), (Fl r13), (Iv A_c.width), (Iv A_c.height)]), (.agg #[(Iv A_t.x), (Iv A_t.y), (Iv A_t.width), (Iv A_t.height)]), (Pt b16 0), (Pt b23 0), (Bo false), v32, v33, v34, (Bo β1)]) _
  refine q_is (l' := [(.agg #[(Fl r1), (Fl r3), (Fl r5), (Fl r7), (Fl r9), (Fl r11), (Fl r13), (Iv A_c.width), (Iv A_c.height)]), (.agg #[(Iv A_t.x), (Iv A_t.y), (Iv A_t.width), (Iv A_t.height)]), (Pt b16 0), (Pt b23 0), (Bo β1), v32, v33, v34, (Bo β1)]) rfl rfl (does_assign (u := (Bo β1)) (ev rfl)) rfl ?_
  refine wpList_nil (hK31 _ _ ?_)
  refine wp_ret ?_
  refine ret_val (v := (Bo β1)) (res_T rfl (slot rfl)) X40 ?_
  have x41 : (isCam A_c && tileIn A_c A_t) = β1 := by first | with_reducible rfl | (simp only [tileIn, hasPx, Bool.and_assoc, h2, h4, h6, h8, h10, h12, h14, hβ1]; done) | (simp [tileIn, hasPx, Bool.and_assoc, h2, h4, h6, h8, h10, h12, h14, hβ1]; done) | rfl
  exact (by first | rfl | rw [x41])

/- laws.toTile -/
theorem c_laws_toTile (a : List Value) (A_a : TileT) (w : World) (hv_a : RTileT w A_a a) : Gives Try.prog 27 #[(.agg a.toArray)] w (fun v w' => ∃ cs_1 : List Value, v = (.agg cs_1.toArray) ∧ RTileT w A_a cs_1) := by
  obtain rfl := hv_a
  refine enter [(.agg #[(Iv A_a.x), (Iv A_a.y), (Iv A_a.width), (Iv A_a.height)]), Ud, Ud, Ud, Ud, Ud, Ud, Ud, Ud, Ud, Ud, Ud, Ud, Ud, Ud, Ud, Ud] Try.func27 rfl Try.ntmps27 rfl ?_
  refine wp_seq_k fun K1 hK1 => ?_
  refine wp_region_lit ?_
  refine seqd rfl rfl (does_box (u := (.agg #[(Iv A_a.x), (Iv A_a.y), (Iv A_a.width), (Iv A_a.height)])) (ev rfl)) ?_; rintro _ w6 ⟨b2, rfl, hb3, hB4, E5⟩
  have g7 : w.heap.size ≤ b2 := Nat.le_trans (Below.size (Ext.refl w)) hb3
  change Blk _ _ [(Iv A_a.x), (Iv A_a.y), (Iv A_a.width), (Iv A_a.height)] at hB4
  have X8 := Ext.gr (Ext.refl w) E5
  show wpList _ _ _ _ (fr [(.agg #[(Iv A_a.x), (Iv A_a.y), (Iv A_a.width), (Iv A_a.height)]), (Pt b2 0), Ud, Ud, Ud, Ud, Ud, Ud, Ud, Ud, Ud, Ud, Ud, Ud, Ud, Ud, Ud]) _
  refine seqd rfl rfl (does_alloc z54) ?_; rintro _ w13 ⟨b9, rfl, hb10, hB11, E12⟩
  have n14 : b2 < b9 := Nat.lt_of_lt_of_le (Blk.lt hB4) hb10
  have g15 : w.heap.size ≤ b9 := Nat.le_trans (Below.size X8) hb10
  change Blk _ _ [(Iv 0), (Iv 0), (Iv 0), (Iv 0)] at hB11
  have X16 := Ext.gr X8 E12
  show wpList _ _ _ _ (fr [(.agg #[(Iv A_a.x), (Iv A_a.y), (Iv A_a.width), (Iv A_a.height)]), (Pt b2 0), (Pt b9 0), Ud, Ud, Ud, Ud, Ud, Ud, Ud, Ud, Ud, Ud, Ud, Ud, Ud, Ud]) _
  refine wpList_nil (hK1 _ _ ?_)
  refine wp_seq_k fun K17 hK17 => ?_
  refine wp_region_lit ?_
  refine seqd rfl rfl (does_alloc z54) ?_; rintro _ w22 ⟨b18, rfl, hb19, hB20, E21⟩
  have n23 : b2 < b18 := Nat.lt_of_lt_of_le (Blk.lt (hB4.ext E12)) hb19
  have n24 : b9 < b18 := Nat.lt_of_lt_of_le (Blk.lt hB11) hb19
  have g25 : w.heap.size ≤ b18 := Nat.le_trans (Below.size X16) hb19
  change Blk _ _ [(Iv 0), (Iv 0), (Iv 0), (Iv 0)] at hB20
  have X26 := Ext.gr X16 E21
  show wpList _ _ _ _ (fr [(.agg #[(Iv A_a.x), (Iv A_a.y), (Iv A_a.width), (Iv A_a.height)]), (Pt b2 0), (Pt b9 0), (Pt b18 0), Ud, Ud, Ud, Ud, Ud, Ud, Ud, Ud, Ud, Ud, Ud, Ud, Ud]) _
  refine wpList_nil (hK17 _ _ ?_)
  refine wp_seq_k fun K27 hK27 => ?_
  refine wp_region_lit ?_
  refine q_is (l' := [(.agg #[(Iv A_a.x), (Iv A_a.y), (Iv A_a.width), (Iv A_a.height)]), (Pt b2 0), (Pt b9 0), (Pt b18 0), (Pt b2 0), Ud, Ud, Ud, Ud, Ud, Ud, Ud, Ud, Ud, Ud, Ud, Ud]) rfl rfl (does_fieldAddr (ev rfl) fa52_0) rfl ?_
  refine q_is (l' := [(.agg #[(Iv A_a.x), (Iv A_a.y), (Iv A_a.width), (Iv A_a.height)]), (Pt b2 0), (Pt b9 0), (Pt b18 0), (Pt b2 0), (Iv A_a.x), Ud, Ud, Ud, Ud, Ud, Ud, Ud, Ud, Ud, Ud, Ud]) rfl rfl (does_load (u := (Iv A_a.x)) (ev rfl) Try.isAgg2 (Cells.at (Blk.cells ((hB4.ext E12).ext E21)) 0 rfl)) rfl ?_
  refine q_is (l' := [(.agg #[(Iv A_a.x), (Iv A_a.y), (Iv A_a.width), (Iv A_a.height)]), (Pt b2 0), (Pt b9 0), (Pt b18 0), (Pt b2 0), (Iv A_a.x), (Pt b18 0), Ud, Ud, Ud, Ud, Ud, Ud, Ud, Ud, Ud, Ud]) rfl rfl (does_fieldAddr (ev rfl) fa54_0) rfl ?_
  refine seqn rfl rfl (does_store (n := 1) (cs := [(Iv 0), (Iv 0), (Iv 0), (Iv 0)]) (u := (Iv A_a.x)) (ev rfl) (ev rfl) Try.sizeOf2 rfl hB20 (Nat.le_of_ble_eq_true rfl) rfl) ?_; rintro _ w30 ⟨rfl, W28, hB29⟩
  change Blk _ _ [(Iv A_a.x), (Iv 0), (Iv 0), (Iv 0)] at hB29
  have X31 := Below.wr X26 W28 g25
  refine wpList_nil (hK27 _ _ ?_)
  refine wp_seq_k fun K32 hK32 => ?_
  refine wp_region_lit ?_
  refine q_is (l' := [(.agg #[(Iv A_a.x), (Iv A_a.y), (Iv A_a.width), (Iv A_a.height)]), (Pt b2 0), (Pt b9 0), (Pt b18 0), (Pt b2 0), (Iv A_a.x), (Pt b18 0), (Pt b2 1), Ud, Ud, Ud, Ud, Ud, Ud, Ud, Ud, Ud]) rfl rfl (does_fieldAddr (ev rfl) fa52_1) rfl ?_
  refine q_is (l' := [(.agg #[(Iv A_a.x), (Iv A_a.y), (Iv A_a.width), (Iv A_a.height)]), (Pt b2 0), (Pt b9 0), (Pt b18 0), (Pt b2 0), (Iv A_a.x), (Pt b18 0), (Pt b2 1), (Iv A_a.y), Ud, Ud, Ud, Ud, Ud, Ud, Ud, Ud]) rfl rfl (does_load (u := (Iv A_a.y)) (ev rfl) Try.isAgg2 (Cells.at (Blk.cells (((hB4.ext E12).ext E21).wr W28 (Nat.ne_of_lt n23))) 1 rfl)) rfl ?_
  refine q_is (l' := [(.agg #[(Iv A_a.x), (Iv A_a.y), (Iv A_a.width), (Iv A_a.height)]), (Pt b2 0), (Pt b9 0), (Pt b18 0), (Pt b2 0), (Iv A_a.x), (Pt b18 0), (Pt b2 1), (Iv A_a.y), (Pt b18 1), Ud, Ud, Ud, Ud, Ud, Ud, Ud]) rfl rfl (does_fieldAddr (ev rfl) fa54_1) rfl ?_
  refine seqn rfl rfl (does_store (n := 1) (cs := [(Iv A_a.x), (Iv 0), (Iv 0), (Iv 0)]) (u := (Iv A_a.y)) (ev rfl) (ev rfl) Try.sizeOf2 rfl hB29 (Nat.le_of_ble_eq_true rfl) rfl) ?_; rintro _ w35 ⟨rfl, W33, hB34⟩
  change Blk _ _ [(Iv A_a.x), (Iv A_a.y), (Iv 0), (Iv 0)] at hB34
  have X36 := Below.wr X31 W33 g25
  refine wpList_nil (hK32 _ _ ?_)
  refine wp_seq_k fun K37 hK37 => ?_
  refine wp_region_lit ?_
  refine q_is (l' := [(.agg #[(Iv A_a.x), (Iv A_a.y), (Iv A_a.width), (Iv A_a.height)]), (Pt b2 0), (Pt b9 0), (Pt b18 0), (Pt b2 0), (Iv A_a.x), (Pt b18 0), (Pt b2 1), (Iv A_a.y), (Pt b18 1), (Pt b2 2), Ud, Ud, Ud, Ud, Ud, Ud]) rfl rfl (does_fieldAddr (ev rfl) fa52_2) rfl ?_
  refine q_is (l' := [(.agg #[(Iv A_a.x), (Iv A_a.y), (Iv A_a.width), (Iv A_a.height)]), (Pt b2 0), (Pt b9 0), (Pt b18 0), (Pt b2 0), (Iv A_a.x), (Pt b18 0), (Pt b2 1), (Iv A_a.y), (Pt b18 1), (Pt b2 2), (Iv A_a.width), Ud, Ud, Ud, Ud, Ud]) rfl rfl (does_load (u := (Iv A_a.width)) (ev rfl) Try.isAgg2 (Cells.at (Blk.cells ((((hB4.ext E12).ext E21).wr W28 (Nat.ne_of_lt n23)).wr W33 (Nat.ne_of_lt n23))) 2 rfl)) rfl ?_
  refine q_is (l' := [(.agg #[(Iv A_a.x), (Iv A_a.y), (Iv A_a.width), (Iv A_a.height)]), (Pt b2 0), (Pt b9 0), (Pt b18 0), (Pt b2 0), (Iv A_a.x), (Pt b18 0), (Pt b2 1), (Iv A_a.y), (Pt b18 1), (Pt b2 2), (Iv A_a.width), (Pt b18 2), Ud, Ud, Ud, Ud]) rfl rfl (does_fieldAddr (ev rfl) fa54_2) rfl ?_
  refine seqn rfl rfl (does_store (n := 1) (cs := [(Iv A_a.x), (Iv A_a.y), (Iv 0), (Iv 0)]) (u := (Iv A_a.width)) (ev rfl) (ev rfl) Try.sizeOf2 rfl hB34 (Nat.le_of_ble_eq_true rfl) rfl) ?_; rintro _ w40 ⟨rfl, W38, hB39⟩
  change Blk _ _ [(Iv A_a.x), (Iv A_a.y), (Iv A_a.width), (Iv 0)] at hB39
  have X41 := Below.wr X36 W38 g25
  refine wpList_nil (hK37 _ _ ?_)
  refine wp_seq_k fun K42 hK42 => ?_
  refine wp_region_lit ?_
  refine q_is (l' := [(.agg #[(Iv A_a.x), (Iv A_a.y), (Iv A_a.width), (Iv A_a.height)]), (Pt b2 0), (Pt b9 0), (Pt b18 0), (Pt b2 0), (Iv A_a.x), (Pt b18 0), (Pt b2 1), (Iv A_a.y), (Pt b18 1), (Pt b2 2), (Iv A_a.width), (Pt b18 2), (Pt b2 3), Ud, Ud, Ud]) rfl rfl (does_fieldAddr (ev rfl) fa52_3) rfl ?_
  refine q_is (l' := [(.agg #[(Iv A_a.x), (Iv A_a.y), (Iv A_a.width), (Iv A_a.height)]), (Pt b2 0), (Pt b9 0), (Pt b18 0), (Pt b2 0), (Iv A_a.x), (Pt b18 0), (Pt b2 1), (Iv A_a.y), (Pt b18 1), (Pt b2 2), (Iv A_a.width), (Pt b18 2), (Pt b2 3), (Iv A_a.height), Ud, Ud]) rfl rfl (does_load (u := (Iv A_a.height)) (ev rfl) Try.isAgg2 (Cells.at (Blk.cells (((((hB4.ext E12).ext E21).wr W28 (Nat.ne_of_lt n23)).wr W33 (Nat.ne_of_lt n23)).wr W38 (Nat.ne_of_lt n23))) 3 rfl)) rfl ?_
  refine q_is (l' := [(.agg #[(Iv A_a.x), (Iv A_a.y), (Iv A_a.width), (Iv A_a.height)]), (Pt b2 0), (Pt b9 0), (Pt b18 0), (Pt b2 0), (Iv A_a.x), (Pt b18 0), (Pt b2 1), (Iv A_a.y), (Pt b18 1), (Pt b2 2), (Iv A_a.width), (Pt b18 2), (Pt b2 3), (Iv A_a.height), (Pt b18 3), Ud]) rfl rfl (does_fieldAddr (ev rfl) fa54_3) rfl ?_
  refine seqn rfl rfl (does_store (n := 1) (cs := [(Iv A_a.x), (Iv A_a.y), (Iv A_a.width), (Iv 0)]) (u := (Iv A_a.height)) (ev rfl) (ev rfl) Try.sizeOf2 rfl hB39 (Nat.le_of_ble_eq_true rfl) rfl) ?_; rintro _ w45 ⟨rfl, W43, hB44⟩
  change Blk _ _ [(Iv A_a.x), (Iv A_a.y), (Iv A_a.width), (Iv A_a.height)] at hB44
  have X46 := Below.wr X41 W43 g25
  refine wpList_nil (hK42 _ _ ?_)
  refine wp_seq_k fun K47 hK47 => ?_
  refine wp_region_lit ?_
  refine q_is (l' := [(.agg #[(Iv A_a.x), (Iv A_a.y), (Iv A_a.width), (Iv A_a.height)]), (Pt b2 0), (Pt b9 0), (Pt b18 0), (Pt b2 0), (Iv A_a.x), (Pt b18 0), (Pt b2 1), (Iv A_a.y), (Pt b18 1), (Pt b2 2), (Iv A_a.width), (Pt b18 2), (Pt b2 3), (Iv A_a.height), (Pt b18 3), (.agg #[(Iv A_a.x), (Iv A_a.y), (Iv A_a.width), (Iv A_a.height)])]) rfl rfl (does_loadAgg (cs := [(Iv A_a.x), (Iv A_a.y), (Iv A_a.width), (Iv A_a.height)]) (ev rfl) Try.isAgg54 Try.sizeOf54 (Blk.cells hB44) rfl) rfl ?_
  refine seqn rfl rfl (does_store (n := 4) (cs := [(Iv 0), (Iv 0), (Iv 0), (Iv 0)]) (u := (.agg #[(Iv A_a.x), (Iv A_a.y), (Iv A_a.width), (Iv A_a.height)])) (ev rfl) (ev rfl) Try.sizeOf54 rfl (((((hB11.ext E21).wr W28 (Nat.ne_of_lt n24)).wr W33 (Nat.ne_of_lt n24)).wr W38 (Nat.ne_of_lt n24)).wr W43 (Nat.ne_of_lt n24)) (Nat.le_of_ble_eq_true rfl) rfl) ?_; rintro _ w50 ⟨rfl, W48, hB49⟩
  change Blk _ _ [(Iv A_a.x), (Iv A_a.y), (Iv A_a.width), (Iv A_a.height)] at hB49
  have X51 := Below.wr X46 W48 g15
  refine wpList_nil (hK47 _ _ ?_)
  refine wp_ret ?_
  refine ret_val (v := (.agg #[(Iv A_a.x), (Iv A_a.y), (Iv A_a.width), (Iv A_a.height)])) (res_C rfl (slot rfl) (run_loadAgg (cs := [(Iv A_a.x), (Iv A_a.y), (Iv A_a.width), (Iv A_a.height)]) Try.isAgg54 Try.sizeOf54 (Blk.cells hB49) rfl)) X51 ?_
  exact ⟨[(Iv A_a.x), (Iv A_a.y), (Iv A_a.width), (Iv A_a.height)], rfl, rfl⟩

/- impl.IsTile -/
theorem c_impl_IsTile (c : List Value) (A_c : CamT) (t : List Value) (A_t : TileT) (w : World) (hv_c : RCamT w A_c c) (hv_t : RTileT w A_t t) : Gives Try.prog 28 #[(.agg c.toArray), (.agg t.toArray)] w (fun v w' => v = (Bo (isCam A_c && tileIn A_c A_t))) := by
  obtain ⟨r1, r3, r5, r7, r9, r11, r13, rfl, h2, h4, h6, h8, h10, h12, h14⟩ := hv_c
  obtain rfl := hv_t
  refine enter [(.agg #[(Fl r1), (Fl r3), (Fl r5), (Fl r7), (Fl r9), (Fl r11), (Fl r13), (Iv A_c.width), (Iv A_c.height)]), (.agg #[(Iv A_t.x), (Iv A_t.y), (Iv A_t.width), (Iv A_t.height)]), Ud, Ud, Ud, Ud, Ud, Ud, Ud, Ud, Ud, Ud, Ud, Ud, Ud, Ud, Ud, Ud, Ud, Ud, Ud, Ud, Ud, Ud, Ud, Ud, Ud, Ud, Ud, Ud, Ud, Ud, Ud, Ud, Ud, Ud, Ud, Ud, Ud, Ud, Ud, Ud, Ud, Ud, Ud] Try.func28 rfl Try.ntmps28 rfl ?_
  refine wp_seq_k fun K15 hK15 => ?_
  refine wp_region_lit ?_
  refine seqd rfl rfl (does_box (u := (.agg #[(Fl r1), (Fl r3), (Fl r5), (Fl r7), (Fl r9), (Fl r11), (Fl r13), (Iv A_c.width), (Iv A_c.height)])) (ev rfl)) ?_; rintro _ w20 ⟨b16, rfl, hb17, hB18, E19⟩
  have g21 : w.heap.size ≤ b16 := Nat.le_trans (Below.size (Ext.refl w)) hb17
  change Blk _ _ [(Fl r1), (Fl r3), (Fl r5), (Fl r7), (Fl r9), (Fl r11), (Fl r13), (Iv A_c.width), (Iv A_c.height)] at hB18
  have X22 := Ext.gr (Ext.refl w) E19
  show wpList _ _ _ _ (fr [(.agg #[(Fl r1), (Fl r3), (Fl r5), (Fl r7), (Fl r9), (Fl r11), (Fl r13), (Iv A_c.width), (Iv A_c.height)]), (.agg #[(Iv A_t.x), (Iv A_t.y), (Iv A_t.width), (Iv A_t.height)]), (Pt b16 0), Ud, Ud, Ud, Ud, Ud, Ud, Ud, Ud, Ud, Ud, Ud, Ud, Ud, Ud, Ud, Ud, Ud, Ud, Ud, Ud, Ud, Ud, Ud, Ud, Ud, Ud, Ud, Ud, Ud, Ud, Ud, Ud, Ud, Ud, Ud, Ud, Ud, Ud, Ud, Ud, Ud, Ud]) _
  refine seqd rfl rfl (does_box (u := (.agg #[(Iv A_t.x), (Iv A_t.y), (Iv A_t.width), (Iv A_t.height)])) (ev rfl)) ?_; rintro _ w27 ⟨b23, rfl, hb24, hB25, E26⟩
  have n28 : b16 < b23 := Nat.lt_of_lt_of_le (Blk.lt hB18) hb24
  have g29 : w.heap.size ≤ b23 := Nat.le_trans (Below.size X22) hb24
  change Blk _ _ [(Iv A_t.x), (Iv A_t.y), (Iv A_t.width), (Iv A_t.height)] at hB25
  have X30 := Ext.gr X22 E26
  show wpList _ _ _ _ (fr [(.agg #[(Fl r1), (Fl r3), (Fl r5), (Fl r7), (Fl r9), (Fl r11), (Fl r13), (Iv A_c.width), (Iv A_c.height)]), (.agg #[(Iv A_t.x), (Iv A_t.y), (Iv A_t.width), (Iv A_t.height)]), (Pt b16 0), (Pt b23 0), Ud, Ud, Ud, Ud, Ud, Ud, Ud, Ud, Ud, Ud, Ud, Ud, Ud, Ud, Ud, Ud, Ud, Ud, Ud, Ud, Ud, Ud, Ud, Ud, Ud, Ud, Ud, Ud, Ud, Ud, Ud, Ud, Ud, Ud, Ud, Ud, Ud, Ud, Ud, Ud, Ud]) _
  refine q_is (l' := [(.agg #[(Fl r1), (Fl r3), (Fl r5), (Fl r7), (Fl r9), (Fl r11), (Fl r13), (Iv A_c.width), (Iv A_c.height)]), (.agg #[(Iv A_t.x), (Iv A_t.y), (Iv A_t.width), (Iv A_t.height)]), (Pt b16 0), (Pt b23 0), (Bo false), Ud, Ud, Ud, Ud, Ud, Ud, Ud, Ud, Ud, Ud, Ud, Ud, Ud, Ud, Ud, Ud, Ud, Ud, Ud, Ud, Ud, Ud, Ud, Ud, Ud, Ud, Ud, Ud, Ud, Ud, Ud, Ud, Ud, Ud, Ud, Ud, Ud, Ud, Ud, Ud]) rfl rfl (does_assign (u := (Bo false)) (ev rfl)) rfl ?_
  refine wpList_nil (hK15 _ _ ?_)
  refine wp_seq_k fun K31 hK31 => ?_
  obtain ⟨β1, hβ1⟩ : ∃ b : Bool, b = (inI A_t.x 0 (IntKind.i64.wrap (A_c.width - 1))) := ⟨_, rfl⟩
  obtain ⟨β2, hβ2⟩ : ∃ b : Bool, b = (inI A_t.y 0 (IntKind.i64.wrap (A_c.height - 1))) := ⟨_, rfl⟩
  obtain ⟨β3, hβ3⟩ : ∃ b : Bool, b = (inI A_t.width 1 (IntKind.i64.wrap (A_c.width - A_t.x))) := ⟨_, rfl⟩
  obtain ⟨β4, hβ4⟩ : ∃ b : Bool, b = (inI A_t.height 1 (IntKind.i64.wrap (A_c.height - A_t.y))) := ⟨_, rfl⟩
  refine region_text (
    [Fact.pure [] (fun v => v = (Pt b23 0)),
    Fact.pure [6] (fun v => v = (Iv A_t.x)),
    Fact.pure [] (fun v => v = (Pt b16 7)),
    Fact.pure [8] (fun v => v = (Iv A_c.width)),
    Fact.pure [9] (fun v => v = (Iv (IntKind.i64.wrap (A_c.width - 1)))),
    Fact.pure [7, 10] (fun v => v = (Bo β1)),
    Fact.pure [11] (fun v => v = (Bo β1)),
    Fact.pure [12] (fun v => β1 = true → v = (Pt b23 1)),
    Fact.pure [13, 12] (fun v => β1 = true → v = (Iv A_t.y)),
    Fact.pure [12] (fun v => β1 = true → v = (Pt b16 8)),
    Fact.pure [15, 12] (fun v => β1 = true → v = (Iv A_c.height)),
    Fact.pure [16, 12] (fun v => β1 = true → v = (Iv (IntKind.i64.wrap (A_c.height - 1)))),
    Fact.pure [14, 17, 12] (fun v => β1 = true → v = (Bo β2)),
    Fact.pure [12, 18] (fun v => v = (Bo (β1 && β2))),
    Fact.pure [19] (fun v => v = (Bo (β1 && β2))),
    Fact.pure [20] (fun v => (β1 && β2) = true → v = (Pt b23 2)),
    Fact.pure [21, 20] (fun v => (β1 && β2) = true → v = (Iv A_t.width)),
    Fact.pure [20] (fun v => (β1 && β2) = true → v = (Pt b16 7)),
    Fact.pure [23, 20] (fun v => (β1 && β2) = true → v = (Iv A_c.width)),
    Fact.pure [20] (fun v => (β1 && β2) = true → v = (Pt b23 0)),
    Fact.pure [25, 20] (fun v => (β1 && β2) = true → v = (Iv A_t.x)),
    Fact.pure [24, 26, 20] (fun v => (β1 && β2) = true → v = (Iv (IntKind.i64.wrap (A_c.width - A_t.x)))),
    Fact.pure [22, 27, 20] (fun v => (β1 && β2) = true → v = (Bo β3)),
    Fact.pure [20, 28] (fun v => v = (Bo ((β1 && β2) && β3))),
    Fact.pure [29] (fun v => v = (Bo ((β1 && β2) && β3))),
    Fact.pure [30] (fun v => ((β1 && β2) && β3) = true → v = (Pt b23 3)),
    Fact.pure [31, 30] (fun v => ((β1 && β2) && β3) = true → v = (Iv A_t.height)),
    Fact.pure [30] (fun v => ((β1 && β2) && β3) = true → v = (Pt b16 8)),
    Fact.pure [33, 30] (fun v => ((β1 && β2) && β3) = true → v = (Iv A_c.height)),
    Fact.pure [30] (fun v => ((β1 && β2) && β3) = true → v = (Pt b23 1)),
    Fact.pure [35, 30] (fun v => ((β1 && β2) && β3) = true → v = (Iv A_t.y)),
    Fact.pure [34, 36, 30] (fun v => ((β1 && β2) && β3) = true → v = (Iv (IntKind.i64.wrap (A_c.height - A_t.y)))),
    Fact.pure [32, 37, 30] (fun v => ((β1 && β2) && β3) = true → v = (Bo β4)),
    Fact.pure [30, 38] (fun v => v = (Bo (((β1 && β2) && β3) && β4)))]) (by simp [Fact.pure, Fact.mem]) ?_
  refine RW_d (fun v32 => [(.agg #[(Fl r1), (Fl r3), (Fl r5), (Fl r7), (Fl r9), (Fl r11), (Fl r13), (Iv A_c.width), (Iv A_c.height)]), (.agg #[(Iv A_t.x), (Iv A_t.y), (Iv A_t.width), (Iv A_t.height)]), (Pt b16 0), (Pt b23 0), (Bo false), Ud, v32, Ud, Ud, Ud, Ud, Ud, Ud, Ud, Ud, Ud, Ud, Ud, Ud, Ud, Ud, Ud, Ud, Ud, Ud, Ud, Ud, Ud, Ud, Ud, Ud, Ud, Ud, Ud, Ud, Ud, Ud, Ud, Ud, Ud, Ud, Ud, Ud, Ud, Ud]) rfl (fun _ => rfl) (fun u hu hF => ?_) (fun v32 => ?_)
  · clear hF
    refine doesG_un rfl ?_
    refine (does_fieldAddr (ev rfl) fa54_0).mono ?_; rintro _ _ ⟨rfl, rfl⟩
    exact ⟨rfl, Ext.refl _⟩
  refine RW_d (fun v33 => [(.agg #[(Fl r1), (Fl r3), (Fl r5), (Fl r7), (Fl r9), (Fl r11), (Fl r13), (Iv A_c.width), (Iv A_c.height)]), (.agg #[(Iv A_t.x), (Iv A_t.y), (Iv A_t.width), (Iv A_t.height)]), (Pt b16 0), (Pt b23 0), (Bo false), Ud, v32, v33, Ud, Ud, Ud, Ud, Ud, Ud, Ud, Ud, Ud, Ud, Ud, Ud, Ud, Ud, Ud, Ud, Ud, Ud, Ud, Ud, Ud, Ud, Ud, Ud, Ud, Ud, Ud, Ud, Ud, Ud, Ud, Ud, Ud, Ud, Ud, Ud, Ud]) rfl (fun _ => rfl) (fun u hu hF => ?_) (fun v33 => ?_)
  · have h6_ : v32 = (Pt b23 0) := hF.1
    clear hF
    refine doesG_un rfl ?_
    obtain rfl := h6_
    refine (does_load (u := (Iv A_t.x)) (ev rfl) Try.isAgg2 (Cells.at (Blk.cells (hB25.ext hu)) 0 rfl)).mono ?_; rintro _ _ ⟨rfl, rfl⟩
    exact ⟨rfl, Ext.refl _⟩
  refine RW_d (fun v34 => [(.agg #[(Fl r1), (Fl r3), (Fl r5), (Fl r7), (Fl r9), (Fl r11), (Fl r13), (Iv A_c.width), (Iv A_c.height)]), (.agg #[(Iv A_t.x), (Iv A_t.y), (Iv A_t.width), (Iv A_t.height)]), (Pt b16 0), (Pt b23 0), (Bo false), Ud, v32, v33, v34, Ud, Ud, Ud, Ud, Ud, Ud, Ud, Ud, Ud, Ud, Ud, Ud, Ud, Ud, Ud, Ud, Ud, Ud, Ud, Ud, Ud, Ud, Ud, Ud, Ud, Ud, Ud, Ud, Ud, Ud, Ud, Ud, Ud, Ud, Ud, Ud]) rfl (fun _ => rfl) (fun u hu hF => ?_) (fun v34 => ?_)
  · clear hF
    refine doesG_un rfl ?_
    refine (does_fieldAddr (ev rfl) fa48_3).mono ?_; rintro _ _ ⟨rfl, rfl⟩
    exact ⟨rfl, Ext.refl _⟩
  refine RW_d (fun v35 => [(.agg #[(Fl r1), (Fl r3), (Fl r5), (Fl r7), (Fl r9), (Fl r11), (Fl r13), (Iv A_c.width), (Iv A_c.height)]), (.agg #[(Iv A_t.x), (Iv A_t.y), (Iv A_t.width), (Iv A_t.height)]), (Pt b16 0), (Pt b23 0), (Bo false), Ud, v32, v33, v34, v35, Ud, Ud, Ud, Ud, Ud, Ud, Ud, Ud, Ud, Ud, Ud, Ud, Ud, Ud, Ud, Ud, Ud, Ud, Ud, Ud, Ud, Ud, Ud, Ud, Ud, Ud, Ud, Ud, Ud, Ud, Ud, Ud, Ud, Ud, Ud]) rfl (fun _ => rfl) (fun u hu hF => ?_) (fun v35 => ?_)
  · have h8_ : v34 = (Pt b16 7) := hF.1
    clear hF
    refine doesG_un rfl ?_
    obtain rfl := h8_
    refine (does_load (u := (Iv A_c.width)) (ev rfl) Try.isAgg2 (Cells.at (Blk.cells ((hB18.ext E26).ext hu)) 7 rfl)).mono ?_; rintro _ _ ⟨rfl, rfl⟩
    exact ⟨rfl, Ext.refl _⟩
  refine RW_d (fun v36 => [(.agg #[(Fl r1), (Fl r3), (Fl r5), (Fl r7), (Fl r9), (Fl r11), (Fl r13), (Iv A_c.width), (Iv A_c.height)]), (.agg #[(Iv A_t.x), (Iv A_t.y), (Iv A_t.width), (Iv A_t.height)]), (Pt b16 0), (Pt b23 0), (Bo false), Ud, v32, v33, v34, v35, v36, Ud, Ud, Ud, Ud, Ud, Ud, Ud, Ud, Ud, Ud, Ud, Ud, Ud, Ud, Ud, Ud, Ud, Ud, Ud, Ud, Ud, Ud, Ud, Ud, Ud, Ud, Ud, Ud, Ud, Ud, Ud, Ud, Ud, Ud]) rfl (fun _ => rfl) (fun u hu hF => ?_) (fun v36 => ?_)
  · have h9_ : v35 = (Iv A_c.width) := hF.1
    clear hF
    refine doesG_un rfl ?_
    obtain rfl := h9_
    refine (does_iarith (p := A_c.width) (q := 1) (r := IntKind.i64.wrap (A_c.width - 1)) (ev rfl) (ev rfl) (.inr (.inl ⟨rfl, rfl⟩))).mono ?_; rintro _ _ ⟨rfl, rfl⟩
    exact ⟨rfl, Ext.refl _⟩
  refine RW_d (fun v37 => [(.agg #[(Fl r1), (Fl r3), (Fl r5), (Fl r7), (Fl r9), (Fl r11), (Fl r13), (Iv A_c.width), (Iv A_c.height)]), (.agg #[(Iv A_t.x), (Iv A_t.y), (Iv A_t.width), (Iv A_t.height)]), (Pt b16 0), (Pt b23 0), (Bo false), Ud, v32, v33, v34, v35, v36, v37, Ud, Ud, Ud, Ud, Ud, Ud, Ud, Ud, Ud, Ud, Ud, Ud, Ud, Ud, Ud, Ud, Ud, Ud, Ud, Ud, Ud, Ud, Ud, Ud, Ud, Ud, Ud, Ud, Ud, Ud, Ud, Ud, Ud]) rfl (fun _ => rfl) (fun u hu hF => ?_) (fun v37 => ?_)
  · have h7_ : v33 = (Iv A_t.x) := hF.1
    have h10_ : v36 = (Iv (IntKind.i64.wrap (A_c.width - 1))) := hF.2.1
    clear hF
    refine doesG_un rfl ?_
    obtain rfl := h7_
    obtain rfl := h10_
    refine (does_call (args := #[(Iv A_t.x), (Iv 0), (Iv (IntKind.i64.wrap (A_c.width - 1)))]) cal56 (evs rfl) (c_impl_in A_t.x 0 (IntKind.i64.wrap (A_c.width - 1)) _)).mono ?_; rintro v u' ⟨hx, hv⟩
    exact ⟨hv.trans (by simp only [hβ1]), hx⟩
  refine RW_d (fun v38 => [(.agg #[(Fl r1), (Fl r3), (Fl r5), (Fl r7), (Fl r9), (Fl r11), (Fl r13), (Iv A_c.width), (Iv A_c.height)]), (.agg #[(Iv A_t.x), (Iv A_t.y), (Iv A_t.width), (Iv A_t.height)]), (Pt b16 0), (Pt b23 0), (Bo false), Ud, v32, v33, v34, v35, v36, v37, v38, Ud, Ud, Ud, Ud, Ud, Ud, Ud, Ud, Ud, Ud, Ud, Ud, Ud, Ud, Ud, Ud, Ud, Ud, Ud, Ud, Ud, Ud, Ud, Ud, Ud, Ud, Ud, Ud, Ud, Ud, Ud, Ud]) rfl (fun _ => rfl) (fun u hu hF => ?_) (fun v38 => ?_)
  · have h11_ : v37 = (Bo β1) := hF.1
    clear hF
    refine doesG_un rfl ?_
    obtain rfl := h11_
    refine (does_move (u := (Bo β1)) (ev rfl)).mono ?_; rintro _ _ ⟨rfl, rfl⟩
    exact ⟨rfl, Ext.refl _⟩
  refine RW_d (fun v39 => [(.agg #[(Fl r1), (Fl r3), (Fl r5), (Fl r7), (Fl r9), (Fl r11), (Fl r13), (Iv A_c.width), (Iv A_c.height)]), (.agg #[(Iv A_t.x), (Iv A_t.y), (Iv A_t.width), (Iv A_t.height)]), (Pt b16 0), (Pt b23 0), (Bo false), Ud, v32, v33, v34, v35, v36, v37, v38, v39, Ud, Ud, Ud, Ud, Ud, Ud, Ud, Ud, Ud, Ud, Ud, Ud, Ud, Ud, Ud, Ud, Ud, Ud, Ud, Ud, Ud, Ud, Ud, Ud, Ud, Ud, Ud, Ud, Ud, Ud, Ud]) rfl (fun _ => rfl) (fun u hu hF => ?_) (fun v39 => ?_)
  · have h12_ : v38 = (Bo β1) := hF.1
    clear hF
    obtain rfl := h12_
    refine doesG_g (b := β1) rfl (yld rfl rfl) (fun hg1 => ?_) (fun hc => ⟨fun hg1 => absurd hg1 hc, Ext.refl _⟩)
    refine (does_fieldAddr (ev rfl) fa54_1).mono ?_; rintro _ _ ⟨rfl, rfl⟩
    exact ⟨fun _ => rfl, Ext.refl _⟩
  refine RW_d (fun v40 => [(.agg #[(Fl r1), (Fl r3), (Fl r5), (Fl r7), (Fl r9), (Fl r11), (Fl r13), (Iv A_c.width), (Iv A_c.height)]), (.agg #[(Iv A_t.x), (Iv A_t.y), (Iv A_t.width), (Iv A_t.height)]), (Pt b16 0), (Pt b23 0), (Bo false), Ud, v32, v33, v34, v35, v36, v37, v38, v39, v40, Ud, Ud, Ud, Ud, Ud, Ud, Ud, Ud, Ud, Ud, Ud, Ud, Ud, Ud, Ud, Ud, Ud, Ud, Ud, Ud, Ud, Ud, Ud, Ud, Ud, Ud, Ud, Ud, Ud, Ud]) rfl (fun _ => rfl) (fun u hu hF => ?_) (fun v40 => ?_)
  · have h13_ : β1 = true → v39 = (Pt b23 1) := hF.1
    have h12_ : v38 = (Bo β1) := hF.2.1
    clear hF
    obtain rfl := h12_
    refine doesG_g (b := β1) rfl (yld rfl rfl) (fun hg1 => ?_) (fun hc => ⟨fun hg1 => absurd hg1 hc, Ext.refl _⟩)
    obtain rfl := h13_ hg1
    refine (does_load (u := (Iv A_t.y)) (ev rfl) Try.isAgg2 (Cells.at (Blk.cells (hB25.ext hu)) 1 rfl)).mono ?_; rintro _ _ ⟨rfl, rfl⟩
    exact ⟨fun _ => rfl, Ext.refl _⟩
  refine RW_d (fun v41 => [(.agg #[(Fl r1), (Fl r3), (Fl r5), (Fl r7), (Fl r9), (Fl r11), (Fl r13), (Iv A_c.width), (Iv A_c.height)]), (.agg #[(Iv A_t.x), (Iv A_t.y), (Iv A_t.width), (Iv A_t.height)]), (Pt b16 0), (Pt b23 0), (Bo false), Ud, v32, v33, v34, v35, v36, v37, v38, v39, v40, v41, Ud, Ud, Ud, Ud, Ud, Ud, Ud, Ud, Ud, Ud, Ud, Ud, Ud, Ud, Ud, Ud, Ud, Ud, Ud, Ud, Ud, Ud, Ud, Ud, Ud, Ud, Ud, Ud, Ud]) rfl (fun _ => rfl) (fun u hu hF => ?_) (fun v41 => ?_)
  · have h12_ : v38 = (Bo β1) := hF.1
    clear hF
    obtain rfl := h12_
    refine doesG_g (b := β1) rfl (yld rfl rfl) (fun hg1 => ?_) (fun hc => ⟨fun hg1 => absurd hg1 hc, Ext.refl _⟩)
    refine (does_fieldAddr (ev rfl) fa48_4).mono ?_; rintro _ _ ⟨rfl, rfl⟩
    exact ⟨fun _ => rfl, Ext.refl _⟩
  refine RW_d (fun v42 => [(.agg #[(Fl r1), (Fl r3), (Fl r5), (Fl r7), (Fl r9), (Fl r11), (Fl r13), (Iv A_c.width), (Iv A_c.height)]), (.agg #[(Iv A_t.x), (Iv A_t.y), (Iv A_t.width), (Iv A_t.height)]), (Pt b16 0), (Pt b23 0), (Bo false), Ud, v32, v33, v34, v35, v36, v37, v38, v39, v40, v41, v42, Ud, Ud, Ud, Ud, Ud, Ud, Ud, Ud, Ud, Ud, Ud, Ud, Ud, Ud, Ud, Ud, Ud, Ud, Ud, Ud, Ud, Ud, Ud, Ud, Ud, Ud, Ud, Ud]) rfl (fun _ => rfl) (fun u hu hF => ?_) (fun v42 => ?_)
  · have h15_ : β1 = true → v41 = (Pt b16 8) := hF.1
    have h12_ : v38 = (Bo β1) := hF.2.1
    clear hF
    obtain rfl := h12_
    refine doesG_g (b := β1) rfl (yld rfl rfl) (fun hg1 => ?_) (fun hc => ⟨fun hg1 => absurd hg1 hc, Ext.refl _⟩)
    obtain rfl := h15_ hg1
    refine (does_load (u := (Iv A_c.height)) (ev rfl) Try.isAgg2 (Cells.at (Blk.cells ((hB18.ext E26).ext hu)) 8 rfl)).mono ?_; rintro _ _ ⟨rfl, rfl⟩
    exact ⟨fun _ => rfl, Ext.refl _⟩
  refine RW_d (fun v43 => [(.agg #[(Fl r1), (Fl r3), (Fl r5), (Fl r7), (Fl r9), (Fl r11), (Fl r13), (Iv A_c.width), (Iv A_c.height)]), (.agg #[(Iv A_t.x), (Iv A_t.y), (Iv A_t.width), (Iv A_t.height)]), (Pt b16 0), (Pt b23 0), (Bo false), Ud, v32, v33, v34, v35, v36, v37, v38, v39, v40, v41, v42, v43, Ud, Ud, Ud, Ud, Ud, Ud, Ud, Ud, Ud, Ud, Ud, Ud, Ud, Ud, Ud, Ud, Ud, Ud, Ud, Ud, Ud, Ud, Ud, Ud, Ud, Ud, Ud]) rfl (fun _ => rfl) (fun u hu hF => ?_) (fun v43 => ?_)
  · have h16_ : β1 = true → v42 = (Iv A_c.height) := hF.1
    have h12_ : v38 = (Bo β1) := hF.2.1
    clear hF
    obtain rfl := h12_
    refine doesG_g (b := β1) rfl (yld rfl rfl) (fun hg1 => ?_) (fun hc => ⟨fun hg1 => absurd hg1 hc, Ext.refl _⟩)
    obtain rfl := h16_ hg1
    refine (does_iarith (p := A_c.height) (q := 1) (r := IntKind.i64.wrap (A_c.height - 1)) (ev rfl) (ev rfl) (.inr (.inl ⟨rfl, rfl⟩))).mono ?_; rintro _ _ ⟨rfl, rfl⟩
    exact ⟨fun _ => rfl, Ext.refl _⟩
  refine RW_d (fun v44 => [(.agg #[(Fl r1), (Fl r3), (Fl r5), (Fl r7), (Fl r9), (Fl r11), (Fl r13), (Iv A_c.width), (Iv A_c.height)]), (.agg #[(Iv A_t.x), (Iv A_t.y), (Iv A_t.width), (Iv A_t.height)]), (Pt b16 0), (Pt b23 0), (Bo false), Ud, v32, v33, v34, v35, v36, v37, v38, v39, v40, v41, v42, v43, v44, Ud, Ud, Ud, Ud, Ud, Ud, Ud, Ud, Ud, Ud, Ud, Ud, Ud, Ud, Ud, Ud, Ud, Ud, Ud, Ud, Ud, Ud, Ud, Ud, Ud, Ud]) rfl (fun _ => rfl) (fun u hu hF => ?_) (fun v44 => ?_)
  · have h14_ : β1 = true → v40 = (Iv A_t.y) := hF.1
    have h17_ : β1 = true → v43 = (Iv (IntKind.i64.wrap (A_c.height - 1))) := hF.2.1
    have h12_ : v38 = (Bo β1) := hF.2.2.1
    clear hF
    obtain rfl := h12_
    refine doesG_g (b := β1) rfl (yld rfl rfl) (fun hg1 => ?_) (fun hc => ⟨fun hg1 => absurd hg1 hc, Ext.refl _⟩)
    obtain rfl := h14_ hg1
    obtain rfl := h17_ hg1
    refine (does_call (args := #[(Iv A_t.y), (Iv 0), (Iv (IntKind.i64.wrap (A_c.height - 1)))]) cal56 (evs rfl) (c_impl_in A_t.y 0 (IntKind.i64.wrap (A_c.height - 1)) _)).mono ?_; rintro v u' ⟨hx, hv⟩
    exact ⟨fun _ => hv.trans (by simp only [hβ2]), hx⟩
  refine RW_d (fun v45 => [(.agg #[(Fl r1), (Fl r3), (Fl r5), (Fl r7), (Fl r9), (Fl r11), (Fl r13), (Iv A_c.width), (Iv A_c.height)]), (.agg #[(Iv A_t.x), (Iv A_t.y), (Iv A_t.width), (Iv A_t.height)]), (Pt b16 0), (Pt b23 0), (Bo false), Ud, v32, v33, v34, v35, v36, v37, v38, v39, v40, v41, v42, v43, v44, v45, Ud, Ud, Ud, Ud, Ud, Ud, Ud, Ud, Ud, Ud, Ud, Ud, Ud, Ud, Ud, Ud, Ud, Ud, Ud, Ud, Ud, Ud, Ud, Ud, Ud]) rfl (fun _ => rfl) (fun u hu hF => ?_) (fun v45 => ?_)
  · have h12_ : v38 = (Bo β1) := hF.1
    have h18_ : β1 = true → v44 = (Bo β2) := hF.2.1
    clear hF
    refine doesG_un rfl ?_
    skip
    obtain rfl := h12_
    refine (does_pick (b := β1) (ev rfl) (ev rfl) (ev rfl)).mono ?_; rintro _ _ ⟨rfl, rfl⟩; refine ⟨?_, Ext.refl _⟩; skip
    cases hbb : β1 <;> simp [hbb] at h18_ ⊢
    all_goals (first | rfl | (subst h18_; rfl) | simp_all)
  refine RW_d (fun v46 => [(.agg #[(Fl r1), (Fl r3), (Fl r5), (Fl r7), (Fl r9), (Fl r11), (Fl r13), (Iv A_c.width), (Iv A_c.height)]), (.agg #[(Iv A_t.x), (Iv A_t.y), (Iv A_t.width), (Iv A_t.height)]), (Pt b16 0), (Pt b23 0), (Bo false), Ud, v32, v33, v34, v35, v36, v37, v38, v39, v40, v41, v42, v43, v44, v45, v46, Ud, Ud, Ud, Ud, Ud, Ud, Ud, Ud, Ud, Ud, Ud, Ud, Ud, Ud, Ud, Ud, Ud, Ud, Ud, Ud, Ud, Ud, Ud, Ud]) rfl (fun _ => rfl) (fun u hu hF => ?_) (fun v46 => ?_)
  · have h19_ : v45 = (Bo (β1 && β2)) := hF.1
    clear hF
    refine doesG_un rfl ?_
    obtain rfl := h19_
    refine (does_move (u := (Bo (β1 && β2))) (ev rfl)).mono ?_; rintro _ _ ⟨rfl, rfl⟩
    exact ⟨rfl, Ext.refl _⟩
  refine RW_d (fun v47 => [(.agg #[(Fl r1), (Fl r3), (Fl r5), (Fl r7), (Fl r9), (Fl r11), (Fl r13), (Iv A_c.width), (Iv A_c.height)]), (.agg #[(Iv A_t.x), (Iv A_t.y), (Iv A_t.width), (Iv A_t.height)]), (Pt b16 0), (Pt b23 0), (Bo false), Ud, v32, v33, v34, v35, v36, v37, v38, v39, v40, v41, v42, v43, v44, v45, v46, v47, Ud, Ud, Ud, Ud, Ud, Ud, Ud, Ud, Ud, Ud, Ud, Ud, Ud, Ud, Ud, Ud, Ud, Ud, Ud, Ud, Ud, Ud, Ud]) rfl (fun _ => rfl) (fun u hu hF => ?_) (fun v47 => ?_)
  · have h20_ : v46 = (Bo (β1 && β2)) := hF.1
    clear hF
    obtain rfl := h20_
    refine doesG_g (b := (β1 && β2)) rfl (yld rfl rfl) (fun hg1 => ?_) (fun hc => ⟨fun hg1 => absurd hg1 hc, Ext.refl _⟩)
    refine (does_fieldAddr (ev rfl) fa54_2).mono ?_; rintro _ _ ⟨rfl, rfl⟩
    exact ⟨fun _ => rfl, Ext.refl _⟩
  refine RW_d (fun v48 => [(.agg #[(Fl r1), (Fl r3), (Fl r5), (Fl r7), (Fl r9), (Fl r11), (Fl r13), (Iv A_c.width), (Iv A_c.height)]), (.agg #[(Iv A_t.x), (Iv A_t.y), (Iv A_t.width), (Iv A_t.height)]), (Pt b16 0), (Pt b23 0), (Bo false), Ud, v32, v33, v34, v35, v36, v37, v38, v39, v40, v41, v42, v43, v44, v45, v46, v47, v48, Ud, Ud, Ud, Ud, Ud, Ud, Ud, Ud, Ud, Ud, Ud, Ud, Ud, Ud, Ud, Ud, Ud, Ud, Ud, Ud, Ud, Ud]) rfl (fun _ => rfl) (fun u hu hF => ?_) (fun v48 => ?_)
  · have h21_ : (β1 && β2) = true → v47 = (Pt b23 2) := hF.1
    have h20_ : v46 = (Bo (β1 && β2)) := hF.2.1
    clear hF
    obtain rfl := h20_
    refine doesG_g (b := (β1 && β2)) rfl (yld rfl rfl) (fun hg1 => ?_) (fun hc => ⟨fun hg1 => absurd hg1 hc, Ext.refl _⟩)
    obtain rfl := h21_ hg1
    refine (does_load (u := (Iv A_t.width)) (ev rfl) Try.isAgg2 (Cells.at (Blk.cells (hB25.ext hu)) 2 rfl)).mono ?_; rintro _ _ ⟨rfl, rfl⟩
    exact ⟨fun _ => rfl, Ext.refl _⟩
  refine RW_d (fun v49 => [(.agg #[(Fl r1), (Fl r3), (Fl r5), (Fl r7), (Fl r9), (Fl r11), (Fl r13), (Iv A_c.width), (Iv A_c.height)]), (.agg #[(Iv A_t.x), (Iv A_t.y), (Iv A_t.width), (Iv A_t.height)]), (Pt b16 0), (Pt b23 0), (Bo false), Ud, v32, v33, v34, v35, v36, v37, v38, v39, v40, v41, v42, v43, v44, v45, v46, v47, v48, v49, Ud, Ud, Ud, Ud, Ud, Ud, Ud, Ud, Ud, Ud, Ud, Ud, Ud, Ud, Ud, Ud, Ud, Ud, Ud, Ud, Ud]) rfl (fun _ => rfl) (fun u hu hF => ?_) (fun v49 => ?_)
  · have h20_ : v46 = (Bo (β1 && β2)) := hF.1
    clear hF
    obtain rfl := h20_
    refine doesG_g (b := (β1 && β2)) rfl (yld rfl rfl) (fun hg1 => ?_) (fun hc => ⟨fun hg1 => absurd hg1 hc, Ext.refl _⟩)
    refine (does_fieldAddr (ev rfl) fa48_3).mono ?_; rintro _ _ ⟨rfl, rfl⟩
    exact ⟨fun _ => rfl, Ext.refl _⟩
  refine RW_d (fun v50 => [(.agg #[(Fl r1), (Fl r3), (Fl r5), (Fl r7), (Fl r9), (Fl r11), (Fl r13), (Iv A_c.width), (Iv A_c.height)]), (.agg #[(Iv A_t.x), (Iv A_t.y), (Iv A_t.width), (Iv A_t.height)]), (Pt b16 0), (Pt b23 0), (Bo false), Ud, v32, v33, v34, v35, v36, v37, v38, v39, v40, v41, v42, v43, v44, v45, v46, v47, v48, v49, v50, Ud, Ud, Ud, Ud, Ud, Ud, Ud, Ud, Ud, Ud, Ud, Ud, Ud, Ud, Ud, Ud, Ud, Ud, Ud, Ud]) rfl (fun _ => rfl) (fun u hu hF => ?_) (fun v50 => ?_)
  · have h23_ : (β1 && β2) = true → v49 = (Pt b16 7) := hF.1
    have h20_ : v46 = (Bo (β1 && β2)) := hF.2.1
    clear hF
    obtain rfl := h20_
    refine doesG_g (b := (β1 && β2)) rfl (yld rfl rfl) (fun hg1 => ?_) (fun hc => ⟨fun hg1 => absurd hg1 hc, Ext.refl _⟩)
    obtain rfl := h23_ hg1
    refine (does_load (u := (Iv A_c.width)) (ev rfl) Try.isAgg2 (Cells.at (Blk.cells ((hB18.ext E26).ext hu)) 7 rfl)).mono ?_; rintro _ _ ⟨rfl, rfl⟩
    exact ⟨fun _ => rfl, Ext.refl _⟩
  refine RW_d (fun v51 => [(.agg #[(Fl r1), (Fl r3), (Fl r5), (Fl r7), (Fl r9), (Fl r11), (Fl r13), (Iv A_c.width), (Iv A_c.height)]), (.agg #[(Iv A_t.x), (Iv A_t.y), (Iv A_t.width), (Iv A_t.height)]), (Pt b16 0), (Pt b23 0), (Bo false), Ud, v32, v33, v34, v35, v36, v37, v38, v39, v40, v41, v42, v43, v44, v45, v46, v47, v48, v49, v50, v51, Ud, Ud, Ud, Ud, Ud, Ud, Ud, Ud, Ud, Ud, Ud, Ud, Ud, Ud, Ud, Ud, Ud, Ud, Ud]) rfl (fun _ => rfl) (fun u hu hF => ?_) (fun v51 => ?_)
  · have h20_ : v46 = (Bo (β1 && β2)) := hF.1
    clear hF
    obtain rfl := h20_
    refine doesG_g (b := (β1 && β2)) rfl (yld rfl rfl) (fun hg1 => ?_) (fun hc => ⟨fun hg1 => absurd hg1 hc, Ext.refl _⟩)
    refine (does_fieldAddr (ev rfl) fa54_0).mono ?_; rintro _ _ ⟨rfl, rfl⟩
    exact ⟨fun _ => rfl, Ext.refl _⟩
  refine RW_d (fun v52 => [(.agg #[(Fl r1), (Fl r3), (Fl r5), (Fl r7), (Fl r9), (Fl r11), (Fl r13), (Iv A_c.width), (Iv A_c.height)]), (.agg #[(Iv A_t.x), (Iv A_t.y), (Iv A_t.width), (Iv A_t.height)]), (Pt b16 0), (Pt b23 0), (Bo false), Ud, v32, v33, v34, v35, v36, v37, v38, v39, v40, v41, v42, v43, v44, v45, v46, v47, v48, v49, v50, v51, v52, Ud, Ud, Ud, Ud, Ud, Ud, Ud, Ud, Ud, Ud, Ud, Ud, Ud, Ud, Ud, Ud, Ud, Ud]) rfl (fun _ => rfl) (fun u hu hF => ?_) (fun v52 => ?_)
  · have h25_ : (β1 && β2) = true → v51 = (Pt b23 0) := hF.1
    have h20_ : v46 = (Bo (β1 && β2)) := hF.2.1
    clear hF
    obtain rfl := h20_
    refine doesG_g (b := (β1 && β2)) rfl (yld rfl rfl) (fun hg1 => ?_) (fun hc => ⟨fun hg1 => absurd hg1 hc, Ext.refl _⟩)
    obtain rfl := h25_ hg1
    refine (does_load (u := (Iv A_t.x)) (ev rfl) Try.isAgg2 (Cells.at (Blk.cells (hB25.ext hu)) 0 rfl)).mono ?_; rintro _ _ ⟨rfl, rfl⟩
    exact ⟨fun _ => rfl, Ext.refl _⟩
  refine RW_d (fun v53 => [(.agg #[(Fl r1), (Fl r3), (Fl r5), (Fl r7), (Fl r9), (Fl r11), (Fl r13), (Iv A_c.width), (Iv A_c.height)]), (.agg #[(Iv A_t.x), (Iv A_t.y), (Iv A_t.width), (Iv A_t.height)]), (Pt b16 0), (Pt b23 0), (Bo false), Ud, v32, v33, v34, v35, v36, v37, v38, v39, v40, v41, v42, v43, v44, v45, v46, v47, v48, v49, v50, v51, v52, v53, Ud, Ud, Ud, Ud, Ud, Ud, Ud, Ud, Ud, Ud, Ud, Ud, Ud, Ud, Ud, Ud, Ud]) rfl (fun _ => rfl) (fun u hu hF => ?_) (fun v53 => ?_)
  · have h24_ : (β1 && β2) = true → v50 = (Iv A_c.width) := hF.1
    have h26_ : (β1 && β2) = true → v52 = (Iv A_t.x) := hF.2.1
    have h20_ : v46 = (Bo (β1 && β2)) := hF.2.2.1
    clear hF
    obtain rfl := h20_
    refine doesG_g (b := (β1 && β2)) rfl (yld rfl rfl) (fun hg1 => ?_) (fun hc => ⟨fun hg1 => absurd hg1 hc, Ext.refl _⟩)
    obtain rfl := h24_ hg1
    obtain rfl := h26_ hg1
    refine (does_iarith (p := A_c.width) (q := A_t.x) (r := IntKind.i64.wrap (A_c.width - A_t.x)) (ev rfl) (ev rfl) (.inr (.inl ⟨rfl, rfl⟩))).mono ?_; rintro _ _ ⟨rfl, rfl⟩
    exact ⟨fun _ => rfl, Ext.refl _⟩
  refine RW_d (fun v54 => [(.agg #[(Fl r1), (Fl r3), (Fl r5), (Fl r7), (Fl r9), (Fl r11), (Fl r13), (Iv A_c.width), (Iv A_c.height)]), (.agg #[(Iv A_t.x), (Iv A_t.y), (Iv A_t.width), (Iv A_t.height)]), (Pt b16 0), (Pt b23 0), (Bo false), Ud, v32, v33, v34, v35, v36, v37, v38, v39, v40, v41, v42, v43, v44, v45, v46, v47, v48, v49, v50, v51, v52, v53, v54, Ud, Ud, Ud, Ud, Ud, Ud, Ud, Ud, Ud, Ud, Ud, Ud, Ud, Ud, Ud, Ud]) rfl (fun _ => rfl) (fun u hu hF => ?_) (fun v54 => ?_)
  · have h22_ : (β1 && β2) = true → v48 = (Iv A_t.width) := hF.1
    have h27_ : (β1 && β2) = true → v53 = (Iv (IntKind.i64.wrap (A_c.width - A_t.x))) := hF.2.1
    have h20_ : v46 = (Bo (β1 && β2)) := hF.2.2.1
    clear hF
    obtain rfl := h20_
    refine doesG_g (b := (β1 && β2)) rfl (yld rfl rfl) (fun hg1 => ?_) (fun hc => ⟨fun hg1 => absurd hg1 hc, Ext.refl _⟩)
    obtain rfl := h22_ hg1
    obtain rfl := h27_ hg1
    refine (does_call (args := #[(Iv A_t.width), (Iv 1), (Iv (IntKind.i64.wrap (A_c.width - A_t.x)))]) cal56 (evs rfl) (c_impl_in A_t.width 1 (IntKind.i64.wrap (A_c.width - A_t.x)) _)).mono ?_; rintro v u' ⟨hx, hv⟩
    exact ⟨fun _ => hv.trans (by simp only [hβ3]), hx⟩
  refine RW_d (fun v55 => [(.agg #[(Fl r1), (Fl r3), (Fl r5), (Fl r7), (Fl r9), (Fl r11), (Fl r13), (Iv A_c.width), (Iv A_c.height)]), (.agg #[(Iv A_t.x), (Iv A_t.y), (Iv A_t.width), (Iv A_t.height)]), (Pt b16 0), (Pt b23 0), (Bo false), Ud, v32, v33, v34, v35, v36, v37, v38, v39, v40, v41, v42, v43, v44, v45, v46, v47, v48, v49, v50, v51, v52, v53, v54, v55, Ud, Ud, Ud, Ud, Ud, Ud, Ud, Ud, Ud, Ud, Ud, Ud, Ud, Ud, Ud]) rfl (fun _ => rfl) (fun u hu hF => ?_) (fun v55 => ?_)
  · have h20_ : v46 = (Bo (β1 && β2)) := hF.1
    have h28_ : (β1 && β2) = true → v54 = (Bo β3) := hF.2.1
    clear hF
    refine doesG_un rfl ?_
    skip
    obtain rfl := h20_
    refine (does_pick (b := (β1 && β2)) (ev rfl) (ev rfl) (ev rfl)).mono ?_; rintro _ _ ⟨rfl, rfl⟩; refine ⟨?_, Ext.refl _⟩; skip
    cases hbb : (β1 && β2) <;> simp [hbb] at h28_ ⊢
    all_goals (first | rfl | (subst h28_; rfl) | simp_all)
  refine RW_d (fun v56 => [(.agg #[(Fl r1), (Fl r3), (Fl r5), (Fl r7), (Fl r9), (Fl r11), (Fl r13), (Iv A_c.width), (Iv A_c.height)]), (.agg #[(Iv A_t.x), (Iv A_t.y), (Iv A_t.width), (Iv A_t.height)]), (Pt b16 0), (Pt b23 0), (Bo false), Ud, v32, v33, v34, v35, v36, v37, v38, v39, v40, v41, v42, v43, v44, v45, v46, v47, v48, v49, v50, v51, v52, v53, v54, v55, v56, Ud, Ud, Ud, Ud, Ud, Ud, Ud, Ud, Ud, Ud, Ud, Ud, Ud, Ud]) rfl (fun _ => rfl) (fun u hu hF => ?_) (fun v56 => ?_)
  · have h29_ : v55 = (Bo ((β1 && β2) && β3)) := hF.1
    clear hF
    refine doesG_un rfl ?_
    obtain rfl := h29_
    refine (does_move (u := (Bo ((β1 && β2) && β3))) (ev rfl)).mono ?_; rintro _ _ ⟨rfl, rfl⟩
    exact ⟨rfl, Ext.refl _⟩
  refine RW_d (fun v57 => [(.agg #[(Fl r1), (Fl r3), (Fl r5), (Fl r7), (Fl r9), (Fl r11), (Fl r13), (Iv A_c.width), (Iv A_c.height)]), (.agg #[(Iv A_t.x), (Iv A_t.y), (Iv A_t.width), (Iv A_t.height)]), (Pt b16 0), (Pt b23 0), (Bo false), Ud, v32, v33, v34, v35, v36, v37, v38, v39, v40, v41, v42, v43, v44, v45, v46, v47, v48, v49, v50, v51, v52, v53, v54, v55, v56, v57, Ud, Ud, Ud, Ud, Ud, Ud, Ud, Ud, Ud, Ud, Ud, Ud, Ud]) rfl (fun _ => rfl) (fun u hu hF => ?_) (fun v57 => ?_)
  · have h30_ : v56 = (Bo ((β1 && β2) && β3)) := hF.1
    clear hF
    obtain rfl := h30_
    refine doesG_g (b := ((β1 && β2) && β3)) rfl (yld rfl rfl) (fun hg1 => ?_) (fun hc => ⟨fun hg1 => absurd hg1 hc, Ext.refl _⟩)
    refine (does_fieldAddr (ev rfl) fa54_3).mono ?_; rintro _ _ ⟨rfl, rfl⟩
    exact ⟨fun _ => rfl, Ext.refl _⟩
  refine RW_d (fun v58 => [(.agg #[(Fl r1), (Fl r3), (Fl r5), (Fl r7), (Fl r9), (Fl r11), (Fl r13), (Iv A_c.width), (Iv A_c.height)]), (.agg #[(Iv A_t.x), (Iv A_t.y), (Iv A_t.width), (Iv A_t.height)]), (Pt b16 0), (Pt b23 0), (Bo false), Ud, v32, v33, v34, v35, v36, v37, v38, v39, v40, v41, v42, v43, v44, v45, v46, v47, v48, v49, v50, v51, v52, v53, v54, v55, v56, v57, v58, Ud, Ud, Ud, Ud, Ud, Ud, Ud, Ud, Ud, Ud, Ud, Ud]) rfl (fun _ => rfl) (fun u hu hF => ?_) (fun v58 => ?_)
  · have h31_ : ((β1 && β2) && β3) = true → v57 = (Pt b23 3) := hF.1
    have h30_ : v56 = (Bo ((β1 && β2) && β3)) := hF.2.1
    clear hF
    obtain rfl := h30_
    refine doesG_g (b := ((β1 && β2) && β3)) rfl (yld rfl rfl) (fun hg1 => ?_) (fun hc => ⟨fun hg1 => absurd hg1 hc, Ext.refl _⟩)
    obtain rfl := h31_ hg1
    refine (does_load (u := (Iv A_t.height)) (ev rfl) Try.isAgg2 (Cells.at (Blk.cells (hB25.ext hu)) 3 rfl)).mono ?_; rintro _ _ ⟨rfl, rfl⟩
    exact ⟨fun _ => rfl, Ext.refl _⟩
  refine RW_d (fun v59 => [(.agg #[(Fl r1), (Fl r3), (Fl r5), (Fl r7), (Fl r9), (Fl r11), (Fl r13), (Iv A_c.width), (Iv A_c.height)]), (.agg #[(Iv A_t.x), (Iv A_t.y), (Iv A_t.width), (Iv A_t.height)]), (Pt b16 0), (Pt b23 0), (Bo false), Ud, v32, v33, v34, v35, v36, v37, v38, v39, v40, v41, v42, v43, v44, v45, v46, v47, v48, v49, v50, v51, v52, v53, v54, v55, v56, v57, v58, v59, Ud, Ud, Ud, Ud, Ud, Ud, Ud, Ud, Ud, Ud, Ud]) rfl (fun _ => rfl) (fun u hu hF => ?_) (fun v59 => ?_)
  · have h30_ : v56 = (Bo ((β1 && β2) && β3)) := hF.1
    clear hF
    obtain rfl := h30_
    refine doesG_g (b := ((β1 && β2) && β3)) rfl (yld rfl rfl) (fun hg1 => ?_) (fun hc => ⟨fun hg1 => absurd hg1 hc, Ext.refl _⟩)
    refine (does_fieldAddr (ev rfl) fa48_4).mono ?_; rintro _ _ ⟨rfl, rfl⟩
    exact ⟨fun _ => rfl, Ext.refl _⟩
  refine RW_d (fun v60 => [(.agg #[(Fl r1), (Fl r3), (Fl r5), (Fl r7), (Fl r9), (Fl r11), (Fl r13), (Iv A_c.width), (Iv A_c.height)]), (.agg #[(Iv A_t.x), (Iv A_t.y), (Iv A_t.width), (Iv A_t.height)]), (Pt b16 0), (Pt b23 0), (Bo false), Ud, v32, v33, v34, v35, v36, v37, v38, v39, v40, v41, v42, v43, v44, v45, v46, v47, v48, v49, v50, v51, v52, v53, v54, v55, v56, v57, v58, v59, v60, Ud, Ud, Ud, Ud, Ud, Ud, Ud, Ud, Ud, Ud]) rfl (fun _ => rfl) (fun u hu hF => ?_) (fun v60 => ?_)
  · have h33_ : ((β1 && β2) && β3) = true → v59 = (Pt b16 8) := hF.1
    have h30_ : v56 = (Bo ((β1 && β2) && β3)) := hF.2.1
    clear hF
    obtain rfl := h30_
    refine doesG_g (b := ((β1 && β2) && β3)) rfl (yld rfl rfl) (fun hg1 => ?_) (fun hc => ⟨fun hg1 => absurd hg1 hc, Ext.refl _⟩)
    obtain rfl := h33_ hg1
    refine (does_load (u := (Iv A_c.height)) (ev rfl) Try.isAgg2 (Cells.at (Blk.cells ((hB18.ext E26).ext hu)) 8 rfl)).mono ?_; rintro _ _ ⟨rfl, rfl⟩
    exact ⟨fun _ => rfl, Ext.refl _⟩
  refine RW_d (fun v61 => [(.agg #[(Fl r1), (Fl r3), (Fl r5), (Fl r7), (Fl r9), (Fl r11), (Fl r13), (Iv A_c.width), (Iv A_c.height)]), (.agg #[(Iv A_t.x), (Iv A_t.y), (Iv A_t.width), (Iv A_t.height)]), (Pt b16 0), (Pt b23 0), (Bo false), Ud, v32, v33, v34, v35, v36, v37, v38, v39, v40, v41, v42, v43, v44, v45, v46, v47, v48, v49, v50, v51, v52, v53, v54, v55, v56, v57, v58, v59, v60, v61, Ud, Ud, Ud, Ud, Ud, Ud, Ud, Ud, Ud]) rfl (fun _ => rfl) (fun u hu hF => ?_) (fun v61 => ?_)
  · have h30_ : v56 = (Bo ((β1 && β2) && β3)) := hF.1
    clear hF
    obtain rfl := h30_
    refine doesG_g (b := ((β1 && β2) && β3)) rfl (yld rfl rfl) (fun hg1 => ?_) (fun hc => ⟨fun hg1 => absurd hg1 hc, Ext.refl _⟩)
    refine (does_fieldAddr (ev rfl) fa54_1).mono ?_; rintro _ _ ⟨rfl, rfl⟩
    exact ⟨fun _ => rfl, Ext.refl _⟩
  refine RW_d (fun v62 => [(.agg #[(Fl r1), (Fl r3), (Fl r5), (Fl r7), (Fl r9), (Fl r11), (Fl r13), (Iv A_c.width), (Iv A_c.height)]), (.agg #[(Iv A_t.x), (Iv A_t.y), (Iv A_t.width), (Iv A_t.height)]), (Pt b16 0), (Pt b23 0), (Bo false), Ud, v32, v33, v34, v35, v36, v37, v38, v39, v40, v41, v42, v43, v44, v45, v46, v47, v48, v49, v50, v51, v52, v53, v54, v55, v56, v57, v58, v59, v60, v61, v62, Ud, Ud, Ud, Ud, Ud, Ud, Ud, Ud]) rfl (fun _ => rfl) (fun u hu hF => ?_) (fun v62 => ?_)
  · have h35_ : ((β1 && β2) && β3) = true → v61 = (Pt b23 1) := hF.1
    have h30_ : v56 = (Bo ((β1 && β2) && β3)) := hF.2.1
    clear hF
    obtain rfl := h30_
    refine doesG_g (b := ((β1 && β2) && β3)) rfl (yld rfl rfl) (fun hg1 => ?_) (fun hc => ⟨fun hg1 => absurd hg1 hc, Ext.refl _⟩)
    obtain rfl := h35_ hg1
    refine (does_load (u := (Iv A_t.y)) (ev rfl) Try.isAgg2 (Cells.at (Blk.cells (hB25.ext hu)) 1 rfl)).mono ?_; rintro _ _ ⟨rfl, rfl⟩
    exact ⟨fun _ => rfl, Ext.refl _⟩
  refine RW_d (fun v63 => [(.agg #[(Fl r1), (Fl r3), (Fl r5), (Fl r7), (Fl r9), (Fl r11), (Fl r13), (Iv A_c.width), (Iv A_c.height)]), (.agg #[(Iv A_t.x), (Iv A_t.y), (Iv A_t.width), (Iv A_t.height)]), (Pt b16 0), (Pt b23 0), (Bo false), Ud, v32, v33, v34, v35, v36, v37, v38, v39, v40, v41, v42, v43, v44, v45, v46, v47, v48, v49, v50, v51, v52, v53, v54, v55, v56, v57, v58, v59, v60, v61, v62, v63, Ud, Ud, Ud, Ud, Ud, Ud, Ud]) rfl (fun _ => rfl) (fun u hu hF => ?_) (fun v63 => ?_)
  · have h34_ : ((β1 && β2) && β3) = true → v60 = (Iv A_c.height) := hF.1
    have h36_ : ((β1 && β2) && β3) = true → v62 = (Iv A_t.y) := hF.2.1
    have h30_ : v56 = (Bo ((β1 && β2) && β3)) := hF.2.2.1
    clear hF
    obtain rfl := h30_
    refine doesG_g (b := ((β1 && β2) && β3)) rfl (yld rfl rfl) (fun hg1 => ?_) (fun hc => ⟨fun hg1 => absurd hg1 hc, Ext.refl _⟩)
    obtain rfl := h34_ hg1
    obtain rfl := h36_ hg1
    refine (does_iarith (p := A_c.height) (q := A_t.y) (r := IntKind.i64.wrap (A_c.height - A_t.y)) (ev rfl) (ev rfl) (.inr (.inl ⟨rfl, rfl⟩))).mono ?_; rintro _ _ ⟨rfl, rfl⟩
    exact ⟨fun _ => rfl, Ext.refl _⟩
  refine RW_d (fun v64 => [(.agg #[(Fl r1), (Fl r3), (Fl r5), (Fl r7), (Fl r9), (Fl r11), (Fl r13), (Iv A_c.width), (Iv A_c.height)]), (.agg #[(Iv A_t.x), (Iv A_t.y), (Iv A_t.width), (Iv A_t.height)]), (Pt b16 0), (Pt b23 0), (Bo false), Ud, v32, v33, v34, v35, v36, v37, v38, v39, v40, v41, v42, v43, v44, v45, v46, v47, v48, v49, v50, v51, v52, v53, v54, v55, v56, v57, v58, v59, v60, v61, v62, v63, v64, Ud, Ud, Ud, Ud, Ud, Ud]) rfl (fun _ => rfl) (fun u hu hF => ?_) (fun v64 => ?_)
  · have h32_ : ((β1 && β2) && β3) = true → v58 = (Iv A_t.height) := hF.1
    have h37_ : ((β1 && β2) && β3) = true → v63 = (Iv (IntKind.i64.wrap (A_c.height - A_t.y))) := hF.2.1
    have h30_ : v56 = (Bo ((β1 && β2) && β3)) := hF.2.2.1
    clear hF
    obtain rfl := h30_
    refine doesG_g (b := ((β1 && β2) && β3)) rfl (yld rfl rfl) (fun hg1 => ?_) (fun hc => ⟨fun hg1 => absurd hg1 hc, Ext.refl _⟩)
    obtain rfl := h32_ hg1
    obtain rfl := h37_ hg1
    refine (does_call (args := #[(Iv A_t.height), (Iv 1), (Iv (IntKind.i64.wrap (A_c.height - A_t.y)))]) cal56 (evs rfl) (c_impl_in A_t.height 1 (IntKind.i64.wrap (A_c.height - A_t.y)) _)).mono ?_; rintro v u' ⟨hx, hv⟩
    exact ⟨fun _ => hv.trans (by simp only [hβ4]), hx⟩
  refine RW_d (fun v65 => [(.agg #[(Fl r1), (Fl r3), (Fl r5), (Fl r7), (Fl r9), (Fl r11), (Fl r13), (Iv A_c.width), (Iv A_c.height)]), (.agg #[(Iv A_t.x), (Iv A_t.y), (Iv A_t.width), (Iv A_t.height)]), (Pt b16 0), (Pt b23 0), (Bo false), Ud, v32, v33, v34, v35, v36, v37, v38, v39, v40, v41, v42, v43, v44, v45, v46, v47, v48, v49, v50, v51, v52, v53, v54, v55, v56, v57, v58, v59, v60, v61, v62, v63, v64, v65, Ud, Ud, Ud, Ud, Ud]) rfl (fun _ => rfl) (fun u hu hF => ?_) (fun v65 => ?_)
  · have h30_ : v56 = (Bo ((β1 && β2) && β3)) := hF.1
    have h38_ : ((β1 && β2) && β3) = true → v64 = (Bo β4) := hF.2.1
    clear hF
    refine doesG_un rfl ?_
    skip
    obtain rfl := h30_
    refine (does_pick (b := ((β1 && β2) && β3)) (ev rfl) (ev rfl) (ev rfl)).mono ?_; rintro _ _ ⟨rfl, rfl⟩; refine ⟨?_, Ext.refl _⟩; skip
    cases hbb : ((β1 && β2) && β3) <;> simp [hbb] at h38_ ⊢
    all_goals (first | rfl | (subst h38_; rfl) | simp_all)
  refine RW_fin ?_; intro w66 E67 hP68
  obtain ⟨⟨⟨⟨⟨⟨⟨⟨⟨⟨⟨⟨⟨⟨⟨⟨⟨⟨⟨⟨⟨⟨⟨⟨⟨⟨⟨⟨⟨⟨⟨⟨⟨⟨-, -⟩, -⟩, -⟩, -⟩, -⟩, -⟩, -⟩, -⟩, -⟩, -⟩, -⟩, -⟩, -⟩, -⟩, -⟩, -⟩, -⟩, -⟩, -⟩, -⟩, -⟩, -⟩, -⟩, -⟩, -⟩, -⟩, -⟩, -⟩, -⟩, -⟩, -⟩, -⟩, -⟩, q69⟩ := hP68
  have X70 := Ext.gr X30 E67
  have q69 : v65 = (Bo (((β1 && β2) && β3) && β4)) := q69
  obtain rfl := q69
  show wpList _ _ _ _ (fr [(.agg #[(Fl r1), (Fl r3), (Fl r5), (Fl r7), (Fl r9), (Fl r11), (Fl r13), (Iv A_c.width), (Iv A_c.height)]), (.agg #[(Iv A_t.x), (Iv A_t.y), (Iv A_t.width), (Iv A_t.height)]), (Pt b16 0), (Pt b23 0), (Bo false), Ud, v32, v33, v34, v35, v36, v37, v38, v39, v40, v41, v42, v43, v44, v45, v46, v47, v48, v49, v50, v51, v52, v53, v54, v55, v56, v57, v58, v59, v60, v61, v62, v63, v64, (Bo (((β1 && β2) && β3) && β4)), Ud, Ud, Ud, Ud, Ud]) _
  refine q_is (l' := [(.agg #[(Fl r1), (Fl r3), (Fl r5), (Fl r7), (Fl r9), (Fl r11), (Fl r13), (Iv A_c.width), (Iv A_c.height)]), (.agg #[(Iv A_t.x), (Iv A_t.y), (Iv A_t.width), (Iv A_t.height)]), (Pt b16 0), (Pt b23 0), (Bo false), (Bo (((β1 && β2) && β3) && β4)), v32, v33, v34, v35, v36, v37, v38, v39, v40, v41, v42, v43, v44, v45, v46, v47, v48, v49, v50, v51, v52, v53, v54, v55, v56, v57, v58, v59, v60, v61, v62, v63, v64, (Bo (((β1 && β2) && β3) && β4)), Ud, Ud, Ud, Ud, Ud]) rfl rfl (does_assign (u := (Bo (((β1 && β2) && β3) && β4))) (ev rfl)) rfl ?_
  refine wpList_nil (hK31 _ _ ?_)
  refine wp_seq_k fun K71 hK71 => ?_
  obtain ⟨β5, hβ5⟩ : ∃ b : Bool, b = ((isCam A_c) && (((β1 && β2) && β3) && β4)) := ⟨_, rfl⟩
  refine region_text (
    [Fact.pure [] (fun v => v = (.agg #[(Fl r1), (Fl r3), (Fl r5), (Fl r7), (Fl r9), (Fl r11), (Fl r13), (Iv A_c.width), (Iv A_c.height)])),
    Fact.pure [40] (fun v => v = (Bo (isCam A_c))),
    Fact.pure [41] (fun v => v = (Bo (isCam A_c))),
    Fact.pure [42] (fun v => (isCam A_c) = true → v = (Bo (((β1 && β2) && β3) && β4))),
    Fact.pure [42, 43] (fun v => v = (Bo β5))]) (by simp [Fact.pure, Fact.mem]) ?_
  refine RW_d (fun v72 => [(.agg #[(Fl r1), (Fl r3), (Fl r5), (Fl r7), (Fl r9), (Fl r11), (Fl r13), (Iv A_c.width), (Iv A_c.height)]), (.agg #[(Iv A_t.x), (Iv A_t.y), (Iv A_t.width), (Iv A_t.height)]), (Pt b16 0), (Pt b23 0), (Bo false), (Bo (((β1 && β2) && β3) && β4)), v32, v33, v34, v35, v36, v37, v38, v39, v40, v41, v42, v43, v44, v45, v46, v47, v48, v49, v50, v51, v52, v53, v54, v55, v56, v57, v58, v59, v60, v61, v62, v63, v64, (Bo (((β1 && β2) && β3) && β4)), v72, Ud, Ud, Ud, Ud]) rfl (fun _ => rfl) (fun u hu hF => ?_) (fun v72 => ?_)
  · clear hF
    refine doesG_un rfl ?_
    refine (does_loadAgg (cs := [(Fl r1), (Fl r3), (Fl r5), (Fl r7), (Fl r9), (Fl r11), (Fl r13), (Iv A_c.width), (Iv A_c.height)]) (ev rfl) Try.isAgg48 Try.sizeOf48 (Blk.cells (((hB18.ext E26).ext E67).ext hu)) rfl).mono ?_; rintro _ _ ⟨rfl, rfl⟩
    exact ⟨rfl, Ext.refl _⟩
  refine RW_d (fun v73 => [(.agg #[(Fl r1), (Fl r3), (Fl r5), (Fl r7), (Fl r9), (Fl r11), (Fl r13), (Iv A_c.width), (Iv A_c.height)]), (.agg #[(Iv A_t.x), (Iv A_t.y), (Iv A_t.width), (Iv A_t.height)]), (Pt b16 0), (Pt b23 0), (Bo false), (Bo (((β1 && β2) && β3) && β4)), v32, v33, v34, v35, v36, v37, v38, v39, v40, v41, v42, v43, v44, v45, v46, v47, v48, v49, v50, v51, v52, v53, v54, v55, v56, v57, v58, v59, v60, v61, v62, v63, v64, (Bo (((β1 && β2) && β3) && β4)), v72, v73, Ud, Ud, Ud]) rfl (fun _ => rfl) (fun u hu hF => ?_) (fun v73 => ?_)
  · have h40_ : v72 = (.agg #[(Fl r1), (Fl r3), (Fl r5), (Fl r7), (Fl r9), (Fl r11), (Fl r13), (Iv A_c.width), (Iv A_c.height)]) := hF.1
    clear hF
    refine doesG_un rfl ?_
    obtain rfl := h40_
    refine (does_call (args := #[(.agg #[(Fl r1), (Fl r3), (Fl r5), (Fl r7), (Fl r9), (Fl r11), (Fl r13), (Iv A_c.width), (Iv A_c.height)])]) cal25 (evs rfl) (c_impl_ValidCamera [(Fl r1), (Fl r3), (Fl r5), (Fl r7), (Fl r9), (Fl r11), (Fl r13), (Iv A_c.width), (Iv A_c.height)] A_c _ ⟨r1, r3, r5, r7, r9, r11, r13, rfl, h2, h4, h6, h8, h10, h12, h14⟩)).mono ?_; rintro v u' ⟨hx, hv⟩
    exact ⟨hv, hx⟩
  refine RW_d (fun v74 => [(.agg #[(Fl r1), (Fl r3), (Fl r5), (Fl r7), (Fl r9), (Fl r11), (Fl r13), (Iv A_c.width), (Iv A_c.height)]), (.agg #[(Iv A_t.x), (Iv A_t.y), (Iv A_t.width), (Iv A_t.height)]), (Pt b16 0), (Pt b23 0), (Bo false), (Bo (((β1 && β2) && β3) && β4)), v32, v33, v34, v35, v36, v37, v38, v39, v40, v41, v42, v43, v44, v45, v46, v47, v48, v49, v50, v51, v52, v53, v54, v55, v56, v57, v58, v59, v60, v61, v62, v63, v64, (Bo (((β1 && β2) && β3) && β4)), v72, v73, v74, Ud, Ud]) rfl (fun _ => rfl) (fun u hu hF => ?_) (fun v74 => ?_)
  · have h41_ : v73 = (Bo (isCam A_c)) := hF.1
    clear hF
    refine doesG_un rfl ?_
    obtain rfl := h41_
    refine (does_move (u := (Bo (isCam A_c))) (ev rfl)).mono ?_; rintro _ _ ⟨rfl, rfl⟩
    exact ⟨rfl, Ext.refl _⟩
  refine RW_d (fun v75 => [(.agg #[(Fl r1), (Fl r3), (Fl r5), (Fl r7), (Fl r9), (Fl r11), (Fl r13), (Iv A_c.width), (Iv A_c.height)]), (.agg #[(Iv A_t.x), (Iv A_t.y), (Iv A_t.width), (Iv A_t.height)]), (Pt b16 0), (Pt b23 0), (Bo false), (Bo (((β1 && β2) && β3) && β4)), v32, v33, v34, v35, v36, v37, v38, v39, v40, v41, v42, v43, v44, v45, v46, v47, v48, v49, v50, v51, v52, v53, v54, v55, v56, v57, v58, v59, v60, v61, v62, v63, v64, (Bo (((β1 && β2) && β3) && β4)), v72, v73, v74, v75, Ud]) rfl (fun _ => rfl) (fun u hu hF => ?_) (fun v75 => ?_)
  · have h42_ : v74 = (Bo (isCam A_c)) := hF.1
    clear hF
    obtain rfl := h42_
    refine doesG_g (b := (isCam A_c)) rfl (yld rfl rfl) (fun hg1 => ?_) (fun hc => ⟨fun hg1 => absurd hg1 hc, Ext.refl _⟩)
    refine (does_move (u := (Bo (((β1 && β2) && β3) && β4))) (ev rfl)).mono ?_; rintro _ _ ⟨rfl, rfl⟩
    exact ⟨fun _ => rfl, Ext.refl _⟩
  refine RW_d (fun v76 => [(.agg #[(Fl r1), (Fl r3), (Fl r5), (Fl r7), (Fl r9), (Fl r11), (Fl r13), (Iv A_c.width), (Iv A_c.height)]), (.agg #[(Iv A_t.x), (Iv A_t.y), (Iv A_t.width), (Iv A_t.height)]), (Pt b16 0), (Pt b23 0), (Bo false), (Bo (((β1 && β2) && β3) && β4)), v32, v33, v34, v35, v36, v37, v38, v39, v40, v41, v42, v43, v44, v45, v46, v47, v48, v49, v50, v51, v52, v53, v54, v55, v56, v57, v58, v59, v60, v61, v62, v63, v64, (Bo (((β1 && β2) && β3) && β4)), v72, v73, v74, v75, v76]) rfl (fun _ => rfl) (fun u hu hF => ?_) (fun v76 => ?_)
  · have h42_ : v74 = (Bo (isCam A_c)) := hF.1
    have h43_ : (isCam A_c) = true → v75 = (Bo (((β1 && β2) && β3) && β4)) := hF.2.1
    clear hF
    refine doesG_un rfl ?_
    skip
    obtain rfl := h42_
    refine (does_pick (b := (isCam A_c)) (ev rfl) (ev rfl) (ev rfl)).mono ?_; rintro _ _ ⟨rfl, rfl⟩; refine ⟨?_, Ext.refl _⟩; rw [hβ5]; skip
    cases hbb : (isCam A_c) <;> simp [hbb] at h43_ ⊢
    all_goals (first | rfl | (subst h43_; rfl) | simp_all)
  refine RW_fin ?_; intro w77 E78 hP79
  obtain ⟨⟨⟨⟨⟨-, -⟩, -⟩, -⟩, -⟩, q80⟩ := hP79
  have X81 := Ext.gr X70 E78
  have q80 : v76 = (Bo β5) := q80
  obtain rfl := q80
  show wpList _ _ _ _ (fr [(.agg #[(Fl r1), (Fl r3), (Fl r5), (Fl r7), (Fl r9), (Fl r11), (Fl r13), (Iv A_c.width), (Iv A_c.height)]), (.agg #[(Iv A_t.x), (Iv A_t.y), (Iv A_t.width), (Iv A_t.height)]), (Pt b16 0), (Pt b23 0), (Bo false), (Bo (((β1 && β2) && β3) && β4)), v32, v33, v34, v35, v36, v37, v38, v39, v40, v41, v42, v43, v44, v45, v46, v47, v48, v49, v50, v51, v52, v53, v54, v55, v56, v57, v58, v59, v60, v61, v62, v63, v64, (Bo (((β1 && β2) && β3) && β4)), v72, v73, v74, v75, (Bo β5)]) _
  refine q_is (l' := [(.agg #[(Fl r1), (Fl r3), (Fl r5), (Fl r7), (Fl r9), (Fl r11), (Fl r13), (Iv A_c.width), (Iv A_c.height)]), (.agg #[(Iv A_t.x), (Iv A_t.y), (Iv A_t.width), (Iv A_t.height)]), (Pt b16 0), (Pt b23 0), (Bo β5), (Bo (((β1 && β2) && β3) && β4)), v32, v33, v34, v35, v36, v37, v38, v39, v40, v41, v42, v43, v44, v45, v46, v47, v48, v49, v50, v51, v52, v53, v54, v55, v56, v57, v58, v59, v60, v61, v62, v63, v64, (Bo (((β1 && β2) && β3) && β4)), v72, v73, v74, v75, (Bo β5)]) rfl rfl (does_assign (u := (Bo β5)) (ev rfl)) rfl ?_
  refine wpList_nil (hK71 _ _ ?_)
  refine wp_ret ?_
  refine ret_val (v := (Bo β5)) (res_T rfl (slot rfl)) X81 ?_
  have x82 : (isCam A_c && tileIn A_c A_t) = β5 := by first | with_reducible rfl | (simp only [tileIn, hasPx, Bool.and_assoc, h2, h4, h6, h8, h10, h12, h14, hβ1, hβ2, hβ3, hβ4, hβ5]; done) | (simp [tileIn, hasPx, Bool.and_assoc, h2, h4, h6, h8, h10, h12, h14, hβ1, hβ2, hβ3, hβ4, hβ5]; done) | rfl
  exact (by first | rfl | rw [x82])

/- laws.FnExactIsTile -/
theorem c_laws_FnExactIsTile (c : List Value) (A_c : CamT) (t : List Value) (A_t : TileT) (w : World) (hv_c : RCamT w A_c c) (hv_t : RTileT w A_t t) : Gives Try.prog 6 #[(.agg c.toArray), (.agg t.toArray)] w (fun v w' => v = (Bo true)) := by
  obtain ⟨r1, r3, r5, r7, r9, r11, r13, rfl, h2, h4, h6, h8, h10, h12, h14⟩ := hv_c
  obtain rfl := hv_t
  refine enter [(.agg #[(Fl r1), (Fl r3), (Fl r5), (Fl r7), (Fl r9), (Fl r11), (Fl r13), (Iv A_c.width), (Iv A_c.height)]), (.agg #[(Iv A_t.x), (Iv A_t.y), (Iv A_t.width), (Iv A_t.height)]), Ud, Ud, Ud, Ud, Ud, Ud, Ud, Ud, Ud, Ud, Ud, Ud, Ud, Ud, Ud, Ud, Ud, Ud] Try.func6 rfl Try.ntmps6 rfl ?_
  refine wp_seq_k fun K15 hK15 => ?_
  refine wp_region_lit ?_
  refine seqd rfl rfl (does_box (u := (.agg #[(Fl r1), (Fl r3), (Fl r5), (Fl r7), (Fl r9), (Fl r11), (Fl r13), (Iv A_c.width), (Iv A_c.height)])) (ev rfl)) ?_; rintro _ w20 ⟨b16, rfl, hb17, hB18, E19⟩
  have g21 : w.heap.size ≤ b16 := Nat.le_trans (Below.size (Ext.refl w)) hb17
  change Blk _ _ [(Fl r1), (Fl r3), (Fl r5), (Fl r7), (Fl r9), (Fl r11), (Fl r13), (Iv A_c.width), (Iv A_c.height)] at hB18
  have X22 := Ext.gr (Ext.refl w) E19
  show wpList _ _ _ _ (fr [(.agg #[(Fl r1), (Fl r3), (Fl r5), (Fl r7), (Fl r9), (Fl r11), (Fl r13), (Iv A_c.width), (Iv A_c.height)]), (.agg #[(Iv A_t.x), (Iv A_t.y), (Iv A_t.width), (Iv A_t.height)]), (Pt b16 0), Ud, Ud, Ud, Ud, Ud, Ud, Ud, Ud, Ud, Ud, Ud, Ud, Ud, Ud, Ud, Ud, Ud]) _
  refine seqd rfl rfl (does_box (u := (.agg #[(Iv A_t.x), (Iv A_t.y), (Iv A_t.width), (Iv A_t.height)])) (ev rfl)) ?_; rintro _ w27 ⟨b23, rfl, hb24, hB25, E26⟩
  have n28 : b16 < b23 := Nat.lt_of_lt_of_le (Blk.lt hB18) hb24
  have g29 : w.heap.size ≤ b23 := Nat.le_trans (Below.size X22) hb24
  change Blk _ _ [(Iv A_t.x), (Iv A_t.y), (Iv A_t.width), (Iv A_t.height)] at hB25
  have X30 := Ext.gr X22 E26
  show wpList _ _ _ _ (fr [(.agg #[(Fl r1), (Fl r3), (Fl r5), (Fl r7), (Fl r9), (Fl r11), (Fl r13), (Iv A_c.width), (Iv A_c.height)]), (.agg #[(Iv A_t.x), (Iv A_t.y), (Iv A_t.width), (Iv A_t.height)]), (Pt b16 0), (Pt b23 0), Ud, Ud, Ud, Ud, Ud, Ud, Ud, Ud, Ud, Ud, Ud, Ud, Ud, Ud, Ud, Ud]) _
  refine q_is (l' := [(.agg #[(Fl r1), (Fl r3), (Fl r5), (Fl r7), (Fl r9), (Fl r11), (Fl r13), (Iv A_c.width), (Iv A_c.height)]), (.agg #[(Iv A_t.x), (Iv A_t.y), (Iv A_t.width), (Iv A_t.height)]), (Pt b16 0), (Pt b23 0), (Bo false), Ud, Ud, Ud, Ud, Ud, Ud, Ud, Ud, Ud, Ud, Ud, Ud, Ud, Ud, Ud]) rfl rfl (does_assign (u := (Bo false)) (ev rfl)) rfl ?_
  refine wpList_nil (hK15 _ _ ?_)
  refine wp_seq_k fun K31 hK31 => ?_
  obtain ⟨β1, hβ1⟩ : ∃ b : Bool, b = (isCam A_c && tileIn A_c A_t) := ⟨_, rfl⟩
  refine region_draw (
    [Fact.pure [] (fun v => v = (.agg #[(Fl r1), (Fl r3), (Fl r5), (Fl r7), (Fl r9), (Fl r11), (Fl r13), (Iv A_c.width), (Iv A_c.height)])),
    Fact.pure [7] (fun v => ∃ cs_1 : List Value, v = (.agg cs_1.toArray) ∧ RCamT w A_c cs_1),
    Fact.pure [] (fun v => v = (.agg #[(Iv A_t.x), (Iv A_t.y), (Iv A_t.width), (Iv A_t.height)])),
    Fact.pure [9] (fun v => ∃ cs_1 : List Value, v = (.agg cs_1.toArray) ∧ RTileT w A_t cs_1),
    Fact.pure [8, 10] (fun v => v = (Bo β1))]) mixed (by kernel_rfl) (by intro _ _ d _ _ h; cases d <;> exact h) ?_
  obtain ⟨w32, hw34⟩ : ∃ w', w' = World.drew w27 := ⟨_, rfl⟩; rw [← hw34]; have E33 : Ext w27 w32 := by rw [hw34]; exact Ext.draw _
  clear hw34
  have X35 := Ext.gr X30 E33
  refine RW_d (fun v36 => [(.agg #[(Fl r1), (Fl r3), (Fl r5), (Fl r7), (Fl r9), (Fl r11), (Fl r13), (Iv A_c.width), (Iv A_c.height)]), (.agg #[(Iv A_t.x), (Iv A_t.y), (Iv A_t.width), (Iv A_t.height)]), (Pt b16 0), (Pt b23 0), (Bo false), Ud, Ud, v36, Ud, Ud, Ud, Ud, Ud, Ud, Ud, Ud, Ud, Ud, Ud, Ud]) rfl (fun _ => rfl) (fun u hu hF => ?_) (fun v36 => ?_)
  · clear hF
    refine doesG_un rfl ?_
    refine (does_loadAgg (cs := [(Fl r1), (Fl r3), (Fl r5), (Fl r7), (Fl r9), (Fl r11), (Fl r13), (Iv A_c.width), (Iv A_c.height)]) (ev rfl) Try.isAgg45 Try.sizeOf45 (Blk.cells (((hB18.ext E26).ext E33).ext hu)) rfl).mono ?_; rintro _ _ ⟨rfl, rfl⟩
    exact ⟨rfl, Ext.refl _⟩
  refine RW_d (fun v37 => [(.agg #[(Fl r1), (Fl r3), (Fl r5), (Fl r7), (Fl r9), (Fl r11), (Fl r13), (Iv A_c.width), (Iv A_c.height)]), (.agg #[(Iv A_t.x), (Iv A_t.y), (Iv A_t.width), (Iv A_t.height)]), (Pt b16 0), (Pt b23 0), (Bo false), Ud, Ud, v36, v37, Ud, Ud, Ud, Ud, Ud, Ud, Ud, Ud, Ud, Ud, Ud]) rfl (fun _ => rfl) (fun u hu hF => ?_) (fun v37 => ?_)
  · have h7_ : v36 = (.agg #[(Fl r1), (Fl r3), (Fl r5), (Fl r7), (Fl r9), (Fl r11), (Fl r13), (Iv A_c.width), (Iv A_c.height)]) := hF.1
    clear hF
    refine doesG_un rfl ?_
    obtain rfl := h7_
    refine (does_call (args := #[(.agg #[(Fl r1), (Fl r3), (Fl r5), (Fl r7), (Fl r9), (Fl r11), (Fl r13), (Iv A_c.width), (Iv A_c.height)])]) cal24 (evs rfl) (c_laws_toCamera [(Fl r1), (Fl r3), (Fl r5), (Fl r7), (Fl r9), (Fl r11), (Fl r13), (Iv A_c.width), (Iv A_c.height)] A_c _ ⟨r1, r3, r5, r7, r9, r11, r13, rfl, h2, h4, h6, h8, h10, h12, h14⟩)).mono ?_; rintro v u' ⟨hx, ⟨csn1, hv, k0⟩⟩
    exact ⟨⟨csn1, hv, k0⟩, hx⟩
  refine RW_d (fun v38 => [(.agg #[(Fl r1), (Fl r3), (Fl r5), (Fl r7), (Fl r9), (Fl r11), (Fl r13), (Iv A_c.width), (Iv A_c.height)]), (.agg #[(Iv A_t.x), (Iv A_t.y), (Iv A_t.width), (Iv A_t.height)]), (Pt b16 0), (Pt b23 0), (Bo false), Ud, Ud, v36, v37, v38, Ud, Ud, Ud, Ud, Ud, Ud, Ud, Ud, Ud, Ud]) rfl (fun _ => rfl) (fun u hu hF => ?_) (fun v38 => ?_)
  · clear hF
    refine doesG_un rfl ?_
    refine (does_loadAgg (cs := [(Iv A_t.x), (Iv A_t.y), (Iv A_t.width), (Iv A_t.height)]) (ev rfl) Try.isAgg52 Try.sizeOf52 (Blk.cells ((hB25.ext E33).ext hu)) rfl).mono ?_; rintro _ _ ⟨rfl, rfl⟩
    exact ⟨rfl, Ext.refl _⟩
  refine RW_d (fun v39 => [(.agg #[(Fl r1), (Fl r3), (Fl r5), (Fl r7), (Fl r9), (Fl r11), (Fl r13), (Iv A_c.width), (Iv A_c.height)]), (.agg #[(Iv A_t.x), (Iv A_t.y), (Iv A_t.width), (Iv A_t.height)]), (Pt b16 0), (Pt b23 0), (Bo false), Ud, Ud, v36, v37, v38, v39, Ud, Ud, Ud, Ud, Ud, Ud, Ud, Ud, Ud]) rfl (fun _ => rfl) (fun u hu hF => ?_) (fun v39 => ?_)
  · have h9_ : v38 = (.agg #[(Iv A_t.x), (Iv A_t.y), (Iv A_t.width), (Iv A_t.height)]) := hF.1
    clear hF
    refine doesG_un rfl ?_
    obtain rfl := h9_
    refine (does_call (args := #[(.agg #[(Iv A_t.x), (Iv A_t.y), (Iv A_t.width), (Iv A_t.height)])]) cal27 (evs rfl) (c_laws_toTile [(Iv A_t.x), (Iv A_t.y), (Iv A_t.width), (Iv A_t.height)] A_t _ rfl)).mono ?_; rintro v u' ⟨hx, ⟨csn1, hv, k0⟩⟩
    exact ⟨⟨csn1, hv, k0⟩, hx⟩
  refine RW_d (fun v40 => [(.agg #[(Fl r1), (Fl r3), (Fl r5), (Fl r7), (Fl r9), (Fl r11), (Fl r13), (Iv A_c.width), (Iv A_c.height)]), (.agg #[(Iv A_t.x), (Iv A_t.y), (Iv A_t.width), (Iv A_t.height)]), (Pt b16 0), (Pt b23 0), (Bo false), Ud, Ud, v36, v37, v38, v39, v40, Ud, Ud, Ud, Ud, Ud, Ud, Ud, Ud]) rfl (fun _ => rfl) (fun u hu hF => ?_) (fun v40 => ?_)
  · have h8_ : ∃ cs_1 : List Value, v37 = (.agg cs_1.toArray) ∧ RCamT w A_c cs_1 := hF.1
    have h10_ : ∃ cs_1 : List Value, v39 = (.agg cs_1.toArray) ∧ RTileT w A_t cs_1 := hF.2.1
    clear hF
    refine doesG_un rfl ?_
    obtain ⟨_, rfl, ⟨r8_1, r8_3, r8_5, r8_7, r8_9, r8_11, r8_13, rfl, h8_2, h8_4, h8_6, h8_8, h8_10, h8_12, h8_14⟩⟩ := h8_
    obtain ⟨_, rfl, rfl⟩ := h10_
    refine (does_call (args := #[(.agg #[(Fl r8_1), (Fl r8_3), (Fl r8_5), (Fl r8_7), (Fl r8_9), (Fl r8_11), (Fl r8_13), (Iv A_c.width), (Iv A_c.height)]), (.agg #[(Iv A_t.x), (Iv A_t.y), (Iv A_t.width), (Iv A_t.height)])]) cal26 (evs rfl) (c_spec_IsTile [(Fl r8_1), (Fl r8_3), (Fl r8_5), (Fl r8_7), (Fl r8_9), (Fl r8_11), (Fl r8_13), (Iv A_c.width), (Iv A_c.height)] A_c [(Iv A_t.x), (Iv A_t.y), (Iv A_t.width), (Iv A_t.height)] A_t _ ⟨r8_1, r8_3, r8_5, r8_7, r8_9, r8_11, r8_13, rfl, (by assumption), (by assumption), (by assumption), (by assumption), (by assumption), (by assumption), (by assumption)⟩ rfl)).mono ?_; rintro v u' ⟨hx, hv⟩
    exact ⟨hv.trans (by simp only [hβ1, h8_2, h8_4, h8_6, h8_8, h8_10, h8_12, h8_14]), hx⟩
  refine RW_fin ?_; intro w41 E42 hP43
  obtain ⟨⟨⟨⟨⟨-, -⟩, -⟩, -⟩, -⟩, q44⟩ := hP43
  have X45 := Ext.gr X35 E42
  have q44 : v40 = (Bo β1) := q44
  obtain rfl := q44
  show wpList _ _ _ _ (fr [(.agg #[(Fl r1), (Fl r3), (Fl r5), (Fl r7), (Fl r9), (Fl r11), (Fl r13), (Iv A_c.width), (Iv A_c.height)]), (.agg #[(Iv A_t.x), (Iv A_t.y), (Iv A_t.width), (Iv A_t.height)]), (Pt b16 0), (Pt b23 0), (Bo false), Ud, Ud, v36, v37, v38, v39, (Bo β1), Ud, Ud, Ud, Ud, Ud, Ud, Ud, Ud]) _
  refine q_is (l' := [(.agg #[(Fl r1), (Fl r3), (Fl r5), (Fl r7), (Fl r9), (Fl r11), (Fl r13), (Iv A_c.width), (Iv A_c.height)]), (.agg #[(Iv A_t.x), (Iv A_t.y), (Iv A_t.width), (Iv A_t.height)]), (Pt b16 0), (Pt b23 0), (Bo false), (Bo β1), Ud, v36, v37, v38, v39, (Bo β1), Ud, Ud, Ud, Ud, Ud, Ud, Ud, Ud]) rfl rfl (does_assign (u := (Bo β1)) (ev rfl)) rfl ?_
  refine wpList_nil (hK31 _ _ ?_)
  refine wp_seq_k fun K46 hK46 => ?_
  obtain ⟨β2, hβ2⟩ : ∃ b : Bool, b = (isCam A_c && tileIn A_c A_t) := ⟨_, rfl⟩
  refine region_draw (
    [Fact.pure [] (fun v => v = (.agg #[(Fl r1), (Fl r3), (Fl r5), (Fl r7), (Fl r9), (Fl r11), (Fl r13), (Iv A_c.width), (Iv A_c.height)])),
    Fact.pure [12] (fun v => ∃ cs_1 : List Value, v = (.agg cs_1.toArray) ∧ RCamT w A_c cs_1),
    Fact.pure [] (fun v => v = (.agg #[(Iv A_t.x), (Iv A_t.y), (Iv A_t.width), (Iv A_t.height)])),
    Fact.pure [14] (fun v => ∃ cs_1 : List Value, v = (.agg cs_1.toArray) ∧ RTileT w A_t cs_1),
    Fact.pure [13, 15] (fun v => v = (Bo β2))]) mixed (by kernel_rfl) (by intro _ _ d _ _ h; cases d <;> exact h) ?_
  obtain ⟨w47, hw49⟩ : ∃ w', w' = World.drew w41 := ⟨_, rfl⟩; rw [← hw49]; have E48 : Ext w41 w47 := by rw [hw49]; exact Ext.draw _
  clear hw49
  have X50 := Ext.gr X45 E48
  refine RW_d (fun v51 => [(.agg #[(Fl r1), (Fl r3), (Fl r5), (Fl r7), (Fl r9), (Fl r11), (Fl r13), (Iv A_c.width), (Iv A_c.height)]), (.agg #[(Iv A_t.x), (Iv A_t.y), (Iv A_t.width), (Iv A_t.height)]), (Pt b16 0), (Pt b23 0), (Bo false), (Bo β1), Ud, v36, v37, v38, v39, (Bo β1), v51, Ud, Ud, Ud, Ud, Ud, Ud, Ud]) rfl (fun _ => rfl) (fun u hu hF => ?_) (fun v51 => ?_)
  · clear hF
    refine doesG_un rfl ?_
    refine (does_loadAgg (cs := [(Fl r1), (Fl r3), (Fl r5), (Fl r7), (Fl r9), (Fl r11), (Fl r13), (Iv A_c.width), (Iv A_c.height)]) (ev rfl) Try.isAgg45 Try.sizeOf45 (Blk.cells (((((hB18.ext E26).ext E33).ext E42).ext E48).ext hu)) rfl).mono ?_; rintro _ _ ⟨rfl, rfl⟩
    exact ⟨rfl, Ext.refl _⟩
  refine RW_d (fun v52 => [(.agg #[(Fl r1), (Fl r3), (Fl r5), (Fl r7), (Fl r9), (Fl r11), (Fl r13), (Iv A_c.width), (Iv A_c.height)]), (.agg #[(Iv A_t.x), (Iv A_t.y), (Iv A_t.width), (Iv A_t.height)]), (Pt b16 0), (Pt b23 0), (Bo false), (Bo β1), Ud, v36, v37, v38, v39, (Bo β1), v51, v52, Ud, Ud, Ud, Ud, Ud, Ud]) rfl (fun _ => rfl) (fun u hu hF => ?_) (fun v52 => ?_)
  · have h12_ : v51 = (.agg #[(Fl r1), (Fl r3), (Fl r5), (Fl r7), (Fl r9), (Fl r11), (Fl r13), (Iv A_c.width), (Iv A_c.height)]) := hF.1
    clear hF
    refine doesG_un rfl ?_
    obtain rfl := h12_
    refine (does_call (args := #[(.agg #[(Fl r1), (Fl r3), (Fl r5), (Fl r7), (Fl r9), (Fl r11), (Fl r13), (Iv A_c.width), (Iv A_c.height)])]) cal24 (evs rfl) (c_laws_toCamera [(Fl r1), (Fl r3), (Fl r5), (Fl r7), (Fl r9), (Fl r11), (Fl r13), (Iv A_c.width), (Iv A_c.height)] A_c _ ⟨r1, r3, r5, r7, r9, r11, r13, rfl, h2, h4, h6, h8, h10, h12, h14⟩)).mono ?_; rintro v u' ⟨hx, ⟨csn1, hv, k0⟩⟩
    exact ⟨⟨csn1, hv, k0⟩, hx⟩
  refine RW_d (fun v53 => [(.agg #[(Fl r1), (Fl r3), (Fl r5), (Fl r7), (Fl r9), (Fl r11), (Fl r13), (Iv A_c.width), (Iv A_c.height)]), (.agg #[(Iv A_t.x), (Iv A_t.y), (Iv A_t.width), (Iv A_t.height)]), (Pt b16 0), (Pt b23 0), (Bo false), (Bo β1), Ud, v36, v37, v38, v39, (Bo β1), v51, v52, v53, Ud, Ud, Ud, Ud, Ud]) rfl (fun _ => rfl) (fun u hu hF => ?_) (fun v53 => ?_)
  · clear hF
    refine doesG_un rfl ?_
    refine (does_loadAgg (cs := [(Iv A_t.x), (Iv A_t.y), (Iv A_t.width), (Iv A_t.height)]) (ev rfl) Try.isAgg52 Try.sizeOf52 (Blk.cells ((((hB25.ext E33).ext E42).ext E48).ext hu)) rfl).mono ?_; rintro _ _ ⟨rfl, rfl⟩
    exact ⟨rfl, Ext.refl _⟩
  refine RW_d (fun v54 => [(.agg #[(Fl r1), (Fl r3), (Fl r5), (Fl r7), (Fl r9), (Fl r11), (Fl r13), (Iv A_c.width), (Iv A_c.height)]), (.agg #[(Iv A_t.x), (Iv A_t.y), (Iv A_t.width), (Iv A_t.height)]), (Pt b16 0), (Pt b23 0), (Bo false), (Bo β1), Ud, v36, v37, v38, v39, (Bo β1), v51, v52, v53, v54, Ud, Ud, Ud, Ud]) rfl (fun _ => rfl) (fun u hu hF => ?_) (fun v54 => ?_)
  · have h14_ : v53 = (.agg #[(Iv A_t.x), (Iv A_t.y), (Iv A_t.width), (Iv A_t.height)]) := hF.1
    clear hF
    refine doesG_un rfl ?_
    obtain rfl := h14_
    refine (does_call (args := #[(.agg #[(Iv A_t.x), (Iv A_t.y), (Iv A_t.width), (Iv A_t.height)])]) cal27 (evs rfl) (c_laws_toTile [(Iv A_t.x), (Iv A_t.y), (Iv A_t.width), (Iv A_t.height)] A_t _ rfl)).mono ?_; rintro v u' ⟨hx, ⟨csn1, hv, k0⟩⟩
    exact ⟨⟨csn1, hv, k0⟩, hx⟩
  refine RW_d (fun v55 => [(.agg #[(Fl r1), (Fl r3), (Fl r5), (Fl r7), (Fl r9), (Fl r11), (Fl r13), (Iv A_c.width), (Iv A_c.height)]), (.agg #[(Iv A_t.x), (Iv A_t.y), (Iv A_t.width), (Iv A_t.height)]), (Pt b16 0), (Pt b23 0), (Bo false), (Bo β1), Ud, v36, v37, v38, v39, (Bo β1), v51, v52, v53, v54, v55, Ud, Ud, Ud]) rfl (fun _ => rfl) (fun u hu hF => ?_) (fun v55 => ?_)
  · have h13_ : ∃ cs_1 : List Value, v52 = (.agg cs_1.toArray) ∧ RCamT w A_c cs_1 := hF.1
    have h15_ : ∃ cs_1 : List Value, v54 = (.agg cs_1.toArray) ∧ RTileT w A_t cs_1 := hF.2.1
    clear hF
    refine doesG_un rfl ?_
    obtain ⟨_, rfl, ⟨r13_1, r13_3, r13_5, r13_7, r13_9, r13_11, r13_13, rfl, h13_2, h13_4, h13_6, h13_8, h13_10, h13_12, h13_14⟩⟩ := h13_
    obtain ⟨_, rfl, rfl⟩ := h15_
    refine (does_call (args := #[(.agg #[(Fl r13_1), (Fl r13_3), (Fl r13_5), (Fl r13_7), (Fl r13_9), (Fl r13_11), (Fl r13_13), (Iv A_c.width), (Iv A_c.height)]), (.agg #[(Iv A_t.x), (Iv A_t.y), (Iv A_t.width), (Iv A_t.height)])]) cal28 (evs rfl) (c_impl_IsTile [(Fl r13_1), (Fl r13_3), (Fl r13_5), (Fl r13_7), (Fl r13_9), (Fl r13_11), (Fl r13_13), (Iv A_c.width), (Iv A_c.height)] A_c [(Iv A_t.x), (Iv A_t.y), (Iv A_t.width), (Iv A_t.height)] A_t _ ⟨r13_1, r13_3, r13_5, r13_7, r13_9, r13_11, r13_13, rfl, (by assumption), (by assumption), (by assumption), (by assumption), (by assumption), (by assumption), (by assumption)⟩ rfl)).mono ?_; rintro v u' ⟨hx, hv⟩
    exact ⟨hv.trans (by simp only [hβ2, h13_2, h13_4, h13_6, h13_8, h13_10, h13_12, h13_14]), hx⟩
  refine RW_fin ?_; intro w56 E57 hP58
  obtain ⟨⟨⟨⟨⟨-, -⟩, -⟩, -⟩, -⟩, q59⟩ := hP58
  have X60 := Ext.gr X50 E57
  have q59 : v55 = (Bo β2) := q59
  obtain rfl := q59
  show wpList _ _ _ _ (fr [(.agg #[(Fl r1), (Fl r3), (Fl r5), (Fl r7), (Fl r9), (Fl r11), (Fl r13), (Iv A_c.width), (Iv A_c.height)]), (.agg #[(Iv A_t.x), (Iv A_t.y), (Iv A_t.width), (Iv A_t.height)]), (Pt b16 0), (Pt b23 0), (Bo false), (Bo β1), Ud, v36, v37, v38, v39, (Bo β1), v51, v52, v53, v54, (Bo β2), Ud, Ud, Ud]) _
  refine q_is (l' := [(.agg #[(Fl r1), (Fl r3), (Fl r5), (Fl r7), (Fl r9), (Fl r11), (Fl r13), (Iv A_c.width), (Iv A_c.height)]), (.agg #[(Iv A_t.x), (Iv A_t.y), (Iv A_t.width), (Iv A_t.height)]), (Pt b16 0), (Pt b23 0), (Bo false), (Bo β1), (Bo β2), v36, v37, v38, v39, (Bo β1), v51, v52, v53, v54, (Bo β2), Ud, Ud, Ud]) rfl rfl (does_assign (u := (Bo β2)) (ev rfl)) rfl ?_
  refine wpList_nil (hK46 _ _ ?_)
  refine wp_seq_k fun K61 hK61 => ?_
  refine wp_seq_k fun K62 hK62 => ?_
  refine wp_region_lit ?_
  refine q_is (l' := [(.agg #[(Fl r1), (Fl r3), (Fl r5), (Fl r7), (Fl r9), (Fl r11), (Fl r13), (Iv A_c.width), (Iv A_c.height)]), (.agg #[(Iv A_t.x), (Iv A_t.y), (Iv A_t.width), (Iv A_t.height)]), (Pt b16 0), (Pt b23 0), (Bo false), (Bo β1), (Bo β2), v36, v37, v38, v39, (Bo β1), v51, v52, v53, v54, (Bo β2), (Bo β2), Ud, Ud]) rfl rfl (does_move (u := (Bo β2)) (ev rfl)) rfl ?_
  refine q_is (l' := [(.agg #[(Fl r1), (Fl r3), (Fl r5), (Fl r7), (Fl r9), (Fl r11), (Fl r13), (Iv A_c.width), (Iv A_c.height)]), (.agg #[(Iv A_t.x), (Iv A_t.y), (Iv A_t.width), (Iv A_t.height)]), (Pt b16 0), (Pt b23 0), (Bo false), (Bo β1), (Bo β2), v36, v37, v38, v39, (Bo β1), v51, v52, v53, v54, (Bo β2), (Bo β2), (Bo β1), Ud]) rfl rfl (does_move (u := (Bo β1)) (ev rfl)) rfl ?_
  refine q_is (l' := [(.agg #[(Fl r1), (Fl r3), (Fl r5), (Fl r7), (Fl r9), (Fl r11), (Fl r13), (Iv A_c.width), (Iv A_c.height)]), (.agg #[(Iv A_t.x), (Iv A_t.y), (Iv A_t.width), (Iv A_t.height)]), (Pt b16 0), (Pt b23 0), (Bo false), (Bo β1), (Bo β2), v36, v37, v38, v39, (Bo β1), v51, v52, v53, v54, (Bo β2), (Bo β2), (Bo β1), (Bo (β2 != β1))]) rfl rfl (does_bne (p := β2) (q := β1) Try.underlying4 (ev rfl) (ev rfl)) rfl ?_
  refine wpList_nil (hK62 _ _ ?_)
  refine wp_cond_split (t := β2 != β1) (ev rfl) (fun c63 => ?_) (fun c63 => ?_)
  · have c63' := c63
    (try simp only [hβ1, hβ2] at c63')
    (try simp only [icmp, Bool.and_eq_true, Bool.or_eq_true, Bool.and_eq_false_iff, Bool.or_eq_false_iff, Bool.not_eq_true', Bool.not_eq_false', decide_eq_true_eq, decide_eq_false_iff_not, beq_iff_eq, bne_iff_ne, beq_eq_false_iff_ne, bne_eq_false_iff_eq] at c63')
    refine wp_seq_k fun K64 hK64 => ?_
    refine wp_region_lit ?_
    refine q_is (l' := [(.agg #[(Fl r1), (Fl r3), (Fl r5), (Fl r7), (Fl r9), (Fl r11), (Fl r13), (Iv A_c.width), (Iv A_c.height)]), (.agg #[(Iv A_t.x), (Iv A_t.y), (Iv A_t.width), (Iv A_t.height)]), (Pt b16 0), (Pt b23 0), (Bo false), (Bo β1), (Bo β2), v36, v37, v38, v39, (Bo β1), v51, v52, v53, v54, (Bo β2), (Bo β2), (Bo β1), (Bo (β2 != β1))]) rfl rfl (does_assign (u := (Bo false)) (ev rfl)) rfl ?_
    refine wpList_nil (hK64 _ _ ?_)
    refine wp_ret ?_
    dsimp only [Exit.then, Exit.inBlock]
    refine ret_val (v := (Bo false)) (res_T rfl (slot rfl)) X60 ?_
    try simp only [h2, h4, h6, h8, h10, h12, h14, hβ1, hβ2] at c63
    have x65 : true = false := by first | with_reducible rfl | (simp only [sameV_self, sameRay_self, bne_self_eq_false, h2, h4, h6, h8, h10, h12, h14, hβ1, hβ2, c63]; done) | (simp [sameV_self, sameRay_self, bne_self_eq_false, h2, h4, h6, h8, h10, h12, h14, hβ1, hβ2, c63]; done) | (revert c63; simp +contextual [sameV_self, sameRay_self, bne_self_eq_false, h2, h4, h6, h8, h10, h12, h14, hβ1, hβ2]; done) | (rcases c63' with hh | hh <;> simp only [hh, sameV_self, sameRay_self, bne_self_eq_false, h2, h4, h6, h8, h10, h12, h14, hβ1, hβ2, c63]; done) | (rcases c63' with hh | hh <;> simp_all [sameV_self, sameRay_self, bne_self_eq_false]; done) | (rcases c63' with hh | hh | hh <;> simp_all [sameV_self, sameRay_self, bne_self_eq_false]; done) | (rcases c63' with hh | hh | hh | hh <;> simp_all [sameV_self, sameRay_self, bne_self_eq_false]; done) | (simp_all [sameV_self, sameRay_self, bne_self_eq_false]; done) | rfl
    exact (by first | rfl | rw [x65])
  have c63' := c63
  (try simp only [hβ1, hβ2] at c63')
  (try simp only [icmp, Bool.and_eq_true, Bool.or_eq_true, Bool.and_eq_false_iff, Bool.or_eq_false_iff, Bool.not_eq_true', Bool.not_eq_false', decide_eq_true_eq, decide_eq_false_iff_not, beq_iff_eq, bne_iff_ne, beq_eq_false_iff_ne, bne_eq_false_iff_eq] at c63')
  refine wp_skip (hK61 _ _ ?_)
  refine wp_seq_k fun K66 hK66 => ?_
  refine wp_region_lit ?_
  refine q_is (l' := [(.agg #[(Fl r1), (Fl r3), (Fl r5), (Fl r7), (Fl r9), (Fl r11), (Fl r13), (Iv A_c.width), (Iv A_c.height)]), (.agg #[(Iv A_t.x), (Iv A_t.y), (Iv A_t.width), (Iv A_t.height)]), (Pt b16 0), (Pt b23 0), (Bo true), (Bo β1), (Bo β2), v36, v37, v38, v39, (Bo β1), v51, v52, v53, v54, (Bo β2), (Bo β2), (Bo β1), (Bo (β2 != β1))]) rfl rfl (does_assign (u := (Bo true)) (ev rfl)) rfl ?_
  refine wpList_nil (hK66 _ _ ?_)
  refine wp_ret ?_
  refine ret_val (v := (Bo true)) (res_T rfl (slot rfl)) X60 ?_
  try simp only [h2, h4, h6, h8, h10, h12, h14, hβ1, hβ2] at c63
  exact rfl

/- spec.l01Add -/
theorem c_spec_l01Add (a : List Value) (A_a : V3) (b : List Value) (A_b : V3) (w : World) (hv_a : RV3 w A_a a) (hv_b : RV3 w A_b b) : Gives Try.prog 87 #[(.agg a.toArray), (.agg b.toArray)] w (fun v w' => ∃ cs_1 : List Value, v = (.agg cs_1.toArray) ∧ RV3 w (vadd A_a A_b) cs_1) := by
  obtain ⟨r1, r3, r5, rfl, h2, h4, h6⟩ := hv_a
  obtain ⟨r7, r9, r11, rfl, h8, h10, h12⟩ := hv_b
  refine enter [(.agg #[(Fl r1), (Fl r3), (Fl r5)]), (.agg #[(Fl r7), (Fl r9), (Fl r11)]), Ud, Ud, Ud, Ud, Ud, Ud, Ud, Ud, Ud, Ud, Ud, Ud, Ud, Ud, Ud, Ud, Ud, Ud, Ud] Try.func87 rfl Try.ntmps87 rfl ?_
  refine wp_seq_k fun K13 hK13 => ?_
  refine wp_region_lit ?_
  refine seqd rfl rfl (does_box (u := (.agg #[(Fl r1), (Fl r3), (Fl r5)])) (ev rfl)) ?_; rintro _ w18 ⟨b14, rfl, hb15, hB16, E17⟩
  have g19 : w.heap.size ≤ b14 := Nat.le_trans (Below.size (Ext.refl w)) hb15
  change Blk _ _ [(Fl r1), (Fl r3), (Fl r5)] at hB16
  have X20 := Ext.gr (Ext.refl w) E17
  show wpList _ _ _ _ (fr [(.agg #[(Fl r1), (Fl r3), (Fl r5)]), (.agg #[(Fl r7), (Fl r9), (Fl r11)]), (Pt b14 0), Ud, Ud, Ud, Ud, Ud, Ud, Ud, Ud, Ud, Ud, Ud, Ud, Ud, Ud, Ud, Ud, Ud, Ud]) _
  refine seqd rfl rfl (does_box (u := (.agg #[(Fl r7), (Fl r9), (Fl r11)])) (ev rfl)) ?_; rintro _ w25 ⟨b21, rfl, hb22, hB23, E24⟩
  have n26 : b14 < b21 := Nat.lt_of_lt_of_le (Blk.lt hB16) hb22
  have g27 : w.heap.size ≤ b21 := Nat.le_trans (Below.size X20) hb22
  change Blk _ _ [(Fl r7), (Fl r9), (Fl r11)] at hB23
  have X28 := Ext.gr X20 E24
  show wpList _ _ _ _ (fr [(.agg #[(Fl r1), (Fl r3), (Fl r5)]), (.agg #[(Fl r7), (Fl r9), (Fl r11)]), (Pt b14 0), (Pt b21 0), Ud, Ud, Ud, Ud, Ud, Ud, Ud, Ud, Ud, Ud, Ud, Ud, Ud, Ud, Ud, Ud, Ud]) _
  refine seqd rfl rfl (does_alloc z26) ?_; rintro _ w33 ⟨b29, rfl, hb30, hB31, E32⟩
  have n34 : b14 < b29 := Nat.lt_of_lt_of_le (Blk.lt (hB16.ext E24)) hb30
  have n35 : b21 < b29 := Nat.lt_of_lt_of_le (Blk.lt hB23) hb30
  have g36 : w.heap.size ≤ b29 := Nat.le_trans (Below.size X28) hb30
  change Blk _ _ [(Fl 0), (Fl 0), (Fl 0)] at hB31
  have X37 := Ext.gr X28 E32
  show wpList _ _ _ _ (fr [(.agg #[(Fl r1), (Fl r3), (Fl r5)]), (.agg #[(Fl r7), (Fl r9), (Fl r11)]), (Pt b14 0), (Pt b21 0), (Pt b29 0), Ud, Ud, Ud, Ud, Ud, Ud, Ud, Ud, Ud, Ud, Ud, Ud, Ud, Ud, Ud, Ud]) _
  refine wpList_nil (hK13 _ _ ?_)
  refine wp_seq_k fun K38 hK38 => ?_
  refine wp_region_lit ?_
  refine q_is (l' := [(.agg #[(Fl r1), (Fl r3), (Fl r5)]), (.agg #[(Fl r7), (Fl r9), (Fl r11)]), (Pt b14 0), (Pt b21 0), (Pt b29 0), (Pt b14 0), Ud, Ud, Ud, Ud, Ud, Ud, Ud, Ud, Ud, Ud, Ud, Ud, Ud, Ud, Ud]) rfl rfl (does_fieldAddr (ev rfl) fa26_0) rfl ?_
  refine q_is (l' := [(.agg #[(Fl r1), (Fl r3), (Fl r5)]), (.agg #[(Fl r7), (Fl r9), (Fl r11)]), (Pt b14 0), (Pt b21 0), (Pt b29 0), (Pt b14 0), (Fl r1), Ud, Ud, Ud, Ud, Ud, Ud, Ud, Ud, Ud, Ud, Ud, Ud, Ud, Ud]) rfl rfl (does_load (u := (Fl r1)) (ev rfl) Try.isAgg24 (Cells.at (Blk.cells ((hB16.ext E24).ext E32)) 0 rfl)) rfl ?_
  refine q_is (l' := [(.agg #[(Fl r1), (Fl r3), (Fl r5)]), (.agg #[(Fl r7), (Fl r9), (Fl r11)]), (Pt b14 0), (Pt b21 0), (Pt b29 0), (Pt b14 0), (Fl r1), (Pt b21 0), Ud, Ud, Ud, Ud, Ud, Ud, Ud, Ud, Ud, Ud, Ud, Ud, Ud]) rfl rfl (does_fieldAddr (ev rfl) fa26_0) rfl ?_
  refine q_is (l' := [(.agg #[(Fl r1), (Fl r3), (Fl r5)]), (.agg #[(Fl r7), (Fl r9), (Fl r11)]), (Pt b14 0), (Pt b21 0), (Pt b29 0), (Pt b14 0), (Fl r1), (Pt b21 0), (Fl r7), Ud, Ud, Ud, Ud, Ud, Ud, Ud, Ud, Ud, Ud, Ud, Ud]) rfl rfl (does_load (u := (Fl r7)) (ev rfl) Try.isAgg24 (Cells.at (Blk.cells (hB23.ext E32)) 0 rfl)) rfl ?_
  refine seqd rfl rfl (does_float (.inl rfl) (ev rfl) (ev rfl)) ?_; rintro _ w42 ⟨r39, rfl, h40, E41⟩
  have X43 := Ext.gr X37 E41
  show wpList _ _ _ _ (fr [(.agg #[(Fl r1), (Fl r3), (Fl r5)]), (.agg #[(Fl r7), (Fl r9), (Fl r11)]), (Pt b14 0), (Pt b21 0), (Pt b29 0), (Pt b14 0), (Fl r1), (Pt b21 0), (Fl r7), (Fl r39), Ud, Ud, Ud, Ud, Ud, Ud, Ud, Ud, Ud, Ud, Ud]) _
  refine q_is (l' := [(.agg #[(Fl r1), (Fl r3), (Fl r5)]), (.agg #[(Fl r7), (Fl r9), (Fl r11)]), (Pt b14 0), (Pt b21 0), (Pt b29 0), (Pt b14 0), (Fl r1), (Pt b21 0), (Fl r7), (Fl r39), (Pt b14 1), Ud, Ud, Ud, Ud, Ud, Ud, Ud, Ud, Ud, Ud]) rfl rfl (does_fieldAddr (ev rfl) fa26_1) rfl ?_
  refine q_is (l' := [(.agg #[(Fl r1), (Fl r3), (Fl r5)]), (.agg #[(Fl r7), (Fl r9), (Fl r11)]), (Pt b14 0), (Pt b21 0), (Pt b29 0), (Pt b14 0), (Fl r1), (Pt b21 0), (Fl r7), (Fl r39), (Pt b14 1), (Fl r3), Ud, Ud, Ud, Ud, Ud, Ud, Ud, Ud, Ud]) rfl rfl (does_load (u := (Fl r3)) (ev rfl) Try.isAgg24 (Cells.at (Blk.cells (((hB16.ext E24).ext E32).ext E41)) 1 rfl)) rfl ?_
  refine q_is (l' := [(.agg #[(Fl r1), (Fl r3), (Fl r5)]), (.agg #[(Fl r7), (Fl r9), (Fl r11)]), (Pt b14 0), (Pt b21 0), (Pt b29 0), (Pt b14 0), (Fl r1), (Pt b21 0), (Fl r7), (Fl r39), (Pt b14 1), (Fl r3), (Pt b21 1), Ud, Ud, Ud, Ud, Ud, Ud, Ud, Ud]) rfl rfl (does_fieldAddr (ev rfl) fa26_1) rfl ?_
  refine q_is (l' := [(.agg #[(Fl r1), (Fl r3), (Fl r5)]), (.agg #[(Fl r7), (Fl r9), (Fl r11)]), (Pt b14 0), (Pt b21 0), (Pt b29 0), (Pt b14 0), (Fl r1), (Pt b21 0), (Fl r7), (Fl r39), (Pt b14 1), (Fl r3), (Pt b21 1), (Fl r9), Ud, Ud, Ud, Ud, Ud, Ud, Ud]) rfl rfl (does_load (u := (Fl r9)) (ev rfl) Try.isAgg24 (Cells.at (Blk.cells ((hB23.ext E32).ext E41)) 1 rfl)) rfl ?_
  refine seqd rfl rfl (does_float (.inl rfl) (ev rfl) (ev rfl)) ?_; rintro _ w47 ⟨r44, rfl, h45, E46⟩
  have X48 := Ext.gr X43 E46
  show wpList _ _ _ _ (fr [(.agg #[(Fl r1), (Fl r3), (Fl r5)]), (.agg #[(Fl r7), (Fl r9), (Fl r11)]), (Pt b14 0), (Pt b21 0), (Pt b29 0), (Pt b14 0), (Fl r1), (Pt b21 0), (Fl r7), (Fl r39), (Pt b14 1), (Fl r3), (Pt b21 1), (Fl r9), (Fl r44), Ud, Ud, Ud, Ud, Ud, Ud]) _
  refine q_is (l' := [(.agg #[(Fl r1), (Fl r3), (Fl r5)]), (.agg #[(Fl r7), (Fl r9), (Fl r11)]), (Pt b14 0), (Pt b21 0), (Pt b29 0), (Pt b14 0), (Fl r1), (Pt b21 0), (Fl r7), (Fl r39), (Pt b14 1), (Fl r3), (Pt b21 1), (Fl r9), (Fl r44), (Pt b14 2), Ud, Ud, Ud, Ud, Ud]) rfl rfl (does_fieldAddr (ev rfl) fa26_2) rfl ?_
  refine q_is (l' := [(.agg #[(Fl r1), (Fl r3), (Fl r5)]), (.agg #[(Fl r7), (Fl r9), (Fl r11)]), (Pt b14 0), (Pt b21 0), (Pt b29 0), (Pt b14 0), (Fl r1), (Pt b21 0), (Fl r7), (Fl r39), (Pt b14 1), (Fl r3), (Pt b21 1), (Fl r9), (Fl r44), (Pt b14 2), (Fl r5), Ud, Ud, Ud, Ud]) rfl rfl (does_load (u := (Fl r5)) (ev rfl) Try.isAgg24 (Cells.at (Blk.cells ((((hB16.ext E24).ext E32).ext E41).ext E46)) 2 rfl)) rfl ?_
  refine q_is (l' := [(.agg #[(Fl r1), (Fl r3), (Fl r5)]), (.agg #[(Fl r7), (Fl r9), (Fl r11)]), (Pt b14 0), (Pt b21 0), (Pt b29 0), (Pt b14 0), (Fl r1), (Pt b21 0), (Fl r7), (Fl r39), (Pt b14 1), (Fl r3), (Pt b21 1), (Fl r9), (Fl r44), (Pt b14 2), (Fl r5), (Pt b21 2), Ud, Ud, Ud]) rfl rfl (does_fieldAddr (ev rfl) fa26_2) rfl ?_
  refine q_is (l' := [(.agg #[(Fl r1), (Fl r3), (Fl r5)]), (.agg #[(Fl r7), (Fl r9), (Fl r11)]), (Pt b14 0), (Pt b21 0), (Pt b29 0), (Pt b14 0), (Fl r1), (Pt b21 0), (Fl r7), (Fl r39), (Pt b14 1), (Fl r3), (Pt b21 1), (Fl r9), (Fl r44), (Pt b14 2), (Fl r5), (Pt b21 2), (Fl r11), Ud, Ud]) rfl rfl (does_load (u := (Fl r11)) (ev rfl) Try.isAgg24 (Cells.at (Blk.cells (((hB23.ext E32).ext E41).ext E46)) 2 rfl)) rfl ?_
  refine seqd rfl rfl (does_float (.inl rfl) (ev rfl) (ev rfl)) ?_; rintro _ w52 ⟨r49, rfl, h50, E51⟩
  have X53 := Ext.gr X48 E51
  show wpList _ _ _ _ (fr [(.agg #[(Fl r1), (Fl r3), (Fl r5)]), (.agg #[(Fl r7), (Fl r9), (Fl r11)]), (Pt b14 0), (Pt b21 0), (Pt b29 0), (Pt b14 0), (Fl r1), (Pt b21 0), (Fl r7), (Fl r39), (Pt b14 1), (Fl r3), (Pt b21 1), (Fl r9), (Fl r44), (Pt b14 2), (Fl r5), (Pt b21 2), (Fl r11), (Fl r49), Ud]) _
  refine q_is (l' := [(.agg #[(Fl r1), (Fl r3), (Fl r5)]), (.agg #[(Fl r7), (Fl r9), (Fl r11)]), (Pt b14 0), (Pt b21 0), (Pt b29 0), (Pt b14 0), (Fl r1), (Pt b21 0), (Fl r7), (Fl r39), (Pt b14 1), (Fl r3), (Pt b21 1), (Fl r9), (Fl r44), (Pt b14 2), (Fl r5), (Pt b21 2), (Fl r11), (Fl r49), (.agg #[(Fl r39), (Fl r44), (Fl r49)])]) rfl rfl (does_build (parts' := [(0, (Fl r39)), (1, (Fl r44)), (2, (Fl r49))]) (cells := #[(Fl r39), (Fl r44), (Fl r49)]) (evp rfl) (by kernel_rfl)) rfl ?_
  refine seqn rfl rfl (does_store (n := 3) (cs := [(Fl 0), (Fl 0), (Fl 0)]) (u := (.agg #[(Fl r39), (Fl r44), (Fl r49)])) (ev rfl) (ev rfl) Try.sizeOf26 rfl (((hB31.ext E41).ext E46).ext E51) (Nat.le_of_ble_eq_true rfl) rfl) ?_; rintro _ w56 ⟨rfl, W54, hB55⟩
  change Blk _ _ [(Fl r39), (Fl r44), (Fl r49)] at hB55
  have X57 := Below.wr X53 W54 g36
  refine wpList_nil (hK38 _ _ ?_)
  refine wp_ret ?_
  refine ret_val (v := (.agg #[(Fl r39), (Fl r44), (Fl r49)])) (res_C rfl (slot rfl) (run_loadAgg (cs := [(Fl r39), (Fl r44), (Fl r49)]) Try.isAgg26 Try.sizeOf26 (Blk.cells hB55) rfl)) X57 ?_
  have x58 : cf .f32 r39 = (vadd A_a A_b).x := by first | with_reducible rfl | (simp only [vadd, h2, h4, h6, h8, h10, h12, h40, h45, h50]; done) | (simp [vadd, h2, h4, h6, h8, h10, h12, h40, h45, h50]; done) | rfl
  have x59 : cf .f32 r44 = (vadd A_a A_b).y := by first | with_reducible rfl | (simp only [vadd, h2, h4, h6, h8, h10, h12, h40, h45, h50]; done) | (simp [vadd, h2, h4, h6, h8, h10, h12, h40, h45, h50]; done) | rfl
  have x60 : cf .f32 r49 = (vadd A_a A_b).z := by first | with_reducible rfl | (simp only [vadd, h2, h4, h6, h8, h10, h12, h40, h45, h50]; done) | (simp [vadd, h2, h4, h6, h8, h10, h12, h40, h45, h50]; done) | rfl
  exact ⟨[(Fl r39), (Fl r44), (Fl r49)], rfl, ⟨r39, r44, r49, rfl, x58, x59, x60⟩⟩

/- spec.l09Ray -/
theorem c_spec_l09Ray (c_b : Nat) (c_o : Nat) (c : List Value) (A_c : CamT) (x : Int) (y : Int) (w : World) (hc_c : Cells w c_b c_o c) (hv_c : RCamT w A_c c) : Gives Try.prog 71 #[(Pt c_b c_o), (Iv x), (Iv y)] w (fun v w' => ∃ cs_1 : List Value, v = (.agg cs_1.toArray) ∧ RRayT w (rayC A_c x y) cs_1) := by
  obtain ⟨r1, r3, r5, r7, r9, r11, r13, rfl, h2, h4, h6, h8, h10, h12, h14⟩ := hv_c
  refine enter [(Pt c_b c_o), (Iv x), (Iv y), Ud, Ud, Ud, Ud, Ud, Ud, Ud, Ud, Ud, Ud, Ud, Ud, Ud, Ud, Ud, Ud, Ud, Ud, Ud, Ud, Ud, Ud, Ud, Ud, Ud, Ud, Ud, Ud, Ud, Ud, Ud, Ud, Ud, Ud, Ud, Ud, Ud, Ud, Ud, Ud, Ud, Ud, Ud, Ud, Ud, Ud, Ud, Ud, Ud, Ud, Ud, Ud, Ud, Ud, Ud, Ud, Ud, Ud, Ud, Ud, Ud, Ud, Ud, Ud, Ud, Ud, Ud, Ud, Ud, Ud, Ud, Ud, Ud] Try.func71 rfl Try.ntmps71 rfl ?_
  refine wp_seq_k fun K15 hK15 => ?_
  refine wp_region_lit ?_
  refine seqd rfl rfl (does_alloc z64) ?_; rintro _ w20 ⟨b16, rfl, hb17, hB18, E19⟩
  have n21 : c_b < b16 := Nat.lt_of_lt_of_le (cell_lt (Cells.at hc_c 0 rfl)) hb17
  have g22 : w.heap.size ≤ b16 := Nat.le_trans (Below.size (Ext.refl w)) hb17
  change Blk _ _ [(Fl 0), (Fl 0), (Fl 0), (Fl 0), (Fl 0), (Fl 0)] at hB18
  have X23 := Ext.gr (Ext.refl w) E19
  show wpList _ _ _ _ (fr [(Pt c_b c_o), (Iv x), (Iv y), Ud, Ud, Ud, (Pt b16 0), Ud, Ud, Ud, Ud, Ud, Ud, Ud, Ud, Ud, Ud, Ud, Ud, Ud, Ud, Ud, Ud, Ud, Ud, Ud, Ud, Ud, Ud, Ud, Ud, Ud, Ud, Ud, Ud, Ud, Ud, Ud, Ud, Ud, Ud, Ud, Ud, Ud, Ud, Ud, Ud, Ud, Ud, Ud, Ud, Ud, Ud, Ud, Ud, Ud, Ud, Ud, Ud, Ud, Ud, Ud, Ud, Ud, Ud, Ud, Ud, Ud, Ud, Ud, Ud, Ud, Ud, Ud, Ud, Ud]) _
  refine wpList_nil (hK15 _ _ ?_)
  refine wp_seq_k fun K24 hK24 => ?_
  refine wp_region_lit ?_
  refine q_is (l' := [(Pt c_b c_o), (Iv x), (Iv y), Ud, Ud, Ud, (Pt b16 0), Ud, Ud, Ud, Ud, Ud, Ud, Ud, Ud, Ud, (Pt c_b c_o), Ud, Ud, Ud, Ud, Ud, Ud, Ud, Ud, Ud, Ud, Ud, Ud, Ud, Ud, Ud, Ud, Ud, Ud, Ud, Ud, Ud, Ud, Ud, Ud, Ud, Ud, Ud, Ud, Ud, Ud, Ud, Ud, Ud, Ud, Ud, Ud, Ud, Ud, Ud, Ud, Ud, Ud, Ud, Ud, Ud, Ud, Ud, Ud, Ud, Ud, Ud, Ud, Ud, Ud, Ud, Ud, Ud, Ud, Ud]) rfl rfl (does_move (u := (Pt c_b c_o)) (ev rfl)) rfl ?_
  refine seqd rfl rfl (does_call (args := #[(Pt c_b c_o)]) cal69 (evs rfl) (c_spec_l09Axes c_b c_o [(Fl r1), (Fl r3), (Fl r5), (Fl r7), (Fl r9), (Fl r11), (Fl r13), (Iv A_c.width), (Iv A_c.height)] A_c _ (hc_c.ext X23) ⟨r1, r3, r5, r7, r9, r11, r13, rfl, h2, h4, h6, h8, h10, h12, h14⟩)) ?_; rintro _ w26 ⟨E25, ⟨_, _, _, rfl, ⟨r27, r29, r31, rfl, h28, h30, h32⟩, ⟨r33, r35, r37, rfl, h34, h36, h38⟩, ⟨r39, r41, r43, rfl, h40, h42, h44⟩⟩⟩
  have X45 := Ext.gr X23 E25
  show wpList _ _ _ _ (fr [(Pt c_b c_o), (Iv x), (Iv y), Ud, Ud, Ud, (Pt b16 0), Ud, Ud, Ud, Ud, Ud, Ud, Ud, Ud, Ud, (Pt c_b c_o), (.tuple #[(.agg #[(Fl r27), (Fl r29), (Fl r31)]), (.agg #[(Fl r33), (Fl r35), (Fl r37)]), (.agg #[(Fl r39), (Fl r41), (Fl r43)])]), Ud, Ud, Ud, Ud, Ud, Ud, Ud, Ud, Ud, Ud, Ud, Ud, Ud, Ud, Ud, Ud, Ud, Ud, Ud, Ud, Ud, Ud, Ud, Ud, Ud, Ud, Ud, Ud, Ud, Ud, Ud, Ud, Ud, Ud, Ud, Ud, Ud, Ud, Ud, Ud, Ud, Ud, Ud, Ud, Ud, Ud, Ud, Ud, Ud, Ud, Ud, Ud, Ud, Ud, Ud, Ud, Ud, Ud]) _
  refine q_is (l' := [(Pt c_b c_o), (Iv x), (Iv y), Ud, Ud, Ud, (Pt b16 0), Ud, Ud, Ud, Ud, Ud, Ud, Ud, Ud, (.tuple #[(.agg #[(Fl r27), (Fl r29), (Fl r31)]), (.agg #[(Fl r33), (Fl r35), (Fl r37)]), (.agg #[(Fl r39), (Fl r41), (Fl r43)])]), (Pt c_b c_o), (.tuple #[(.agg #[(Fl r27), (Fl r29), (Fl r31)]), (.agg #[(Fl r33), (Fl r35), (Fl r37)]), (.agg #[(Fl r39), (Fl r41), (Fl r43)])]), Ud, Ud, Ud, Ud, Ud, Ud, Ud, Ud, Ud, Ud, Ud, Ud, Ud, Ud, Ud, Ud, Ud, Ud, Ud, Ud, Ud, Ud, Ud, Ud, Ud, Ud, Ud, Ud, Ud, Ud, Ud, Ud, Ud, Ud, Ud, Ud, Ud, Ud, Ud, Ud, Ud, Ud, Ud, Ud, Ud, Ud, Ud, Ud, Ud, Ud, Ud, Ud, Ud, Ud, Ud, Ud, Ud, Ud]) rfl rfl (does_move (u := (.tuple #[(.agg #[(Fl r27), (Fl r29), (Fl r31)]), (.agg #[(Fl r33), (Fl r35), (Fl r37)]), (.agg #[(Fl r39), (Fl r41), (Fl r43)])])) (ev rfl)) rfl ?_
  refine q_is (l' := [(Pt c_b c_o), (Iv x), (Iv y), Ud, Ud, Ud, (Pt b16 0), Ud, Ud, Ud, Ud, Ud, Ud, Ud, Ud, (.tuple #[(.agg #[(Fl r27), (Fl r29), (Fl r31)]), (.agg #[(Fl r33), (Fl r35), (Fl r37)]), (.agg #[(Fl r39), (Fl r41), (Fl r43)])]), (Pt c_b c_o), (.tuple #[(.agg #[(Fl r27), (Fl r29), (Fl r31)]), (.agg #[(Fl r33), (Fl r35), (Fl r37)]), (.agg #[(Fl r39), (Fl r41), (Fl r43)])]), (.agg #[(Fl r27), (Fl r29), (Fl r31)]), Ud, Ud, Ud, Ud, Ud, Ud, Ud, Ud, Ud, Ud, Ud, Ud, Ud, Ud, Ud, Ud, Ud, Ud, Ud, Ud, Ud, Ud, Ud, Ud, Ud, Ud, Ud, Ud, Ud, Ud, Ud, Ud, Ud, Ud, Ud, Ud, Ud, Ud, Ud, Ud, Ud, Ud, Ud, Ud, Ud, Ud, Ud, Ud, Ud, Ud, Ud, Ud, Ud, Ud, Ud, Ud, Ud]) rfl rfl (does_extract (vs := #[(.agg #[(Fl r27), (Fl r29), (Fl r31)]), (.agg #[(Fl r33), (Fl r35), (Fl r37)]), (.agg #[(Fl r39), (Fl r41), (Fl r43)])]) (u := (.agg #[(Fl r27), (Fl r29), (Fl r31)])) (ev rfl) rfl) rfl ?_
  refine q_is (l' := [(Pt c_b c_o), (Iv x), (Iv y), Ud, Ud, Ud, (Pt b16 0), Ud, Ud, Ud, Ud, Ud, Ud, Ud, Ud, (.tuple #[(.agg #[(Fl r27), (Fl r29), (Fl r31)]), (.agg #[(Fl r33), (Fl r35), (Fl r37)]), (.agg #[(Fl r39), (Fl r41), (Fl r43)])]), (Pt c_b c_o), (.tuple #[(.agg #[(Fl r27), (Fl r29), (Fl r31)]), (.agg #[(Fl r33), (Fl r35), (Fl r37)]), (.agg #[(Fl r39), (Fl r41), (Fl r43)])]), (.agg #[(Fl r27), (Fl r29), (Fl r31)]), (.agg #[(Fl r33), (Fl r35), (Fl r37)]), Ud, Ud, Ud, Ud, Ud, Ud, Ud, Ud, Ud, Ud, Ud, Ud, Ud, Ud, Ud, Ud, Ud, Ud, Ud, Ud, Ud, Ud, Ud, Ud, Ud, Ud, Ud, Ud, Ud, Ud, Ud, Ud, Ud, Ud, Ud, Ud, Ud, Ud, Ud, Ud, Ud, Ud, Ud, Ud, Ud, Ud, Ud, Ud, Ud, Ud, Ud, Ud, Ud, Ud, Ud, Ud]) rfl rfl (does_extract (vs := #[(.agg #[(Fl r27), (Fl r29), (Fl r31)]), (.agg #[(Fl r33), (Fl r35), (Fl r37)]), (.agg #[(Fl r39), (Fl r41), (Fl r43)])]) (u := (.agg #[(Fl r33), (Fl r35), (Fl r37)])) (ev rfl) rfl) rfl ?_
  refine q_is (l' := [(Pt c_b c_o), (Iv x), (Iv y), Ud, Ud, Ud, (Pt b16 0), Ud, Ud, Ud, Ud, Ud, Ud, Ud, Ud, (.tuple #[(.agg #[(Fl r27), (Fl r29), (Fl r31)]), (.agg #[(Fl r33), (Fl r35), (Fl r37)]), (.agg #[(Fl r39), (Fl r41), (Fl r43)])]), (Pt c_b c_o), (.tuple #[(.agg #[(Fl r27), (Fl r29), (Fl r31)]), (.agg #[(Fl r33), (Fl r35), (Fl r37)]), (.agg #[(Fl r39), (Fl r41), (Fl r43)])]), (.agg #[(Fl r27), (Fl r29), (Fl r31)]), (.agg #[(Fl r33), (Fl r35), (Fl r37)]), (.agg #[(Fl r39), (Fl r41), (Fl r43)]), Ud, Ud, Ud, Ud, Ud, Ud, Ud, Ud, Ud, Ud, Ud, Ud, Ud, Ud, Ud, Ud, Ud, Ud, Ud, Ud, Ud, Ud, Ud, Ud, Ud, Ud, Ud, Ud, Ud, Ud, Ud, Ud, Ud, Ud, Ud, Ud, Ud, Ud, Ud, Ud, Ud, Ud, Ud, Ud, Ud, Ud, Ud, Ud, Ud, Ud, Ud, Ud, Ud, Ud, Ud]) rfl rfl (does_extract (vs := #[(.agg #[(Fl r27), (Fl r29), (Fl r31)]), (.agg #[(Fl r33), (Fl r35), (Fl r37)]), (.agg #[(Fl r39), (Fl r41), (Fl r43)])]) (u := (.agg #[(Fl r39), (Fl r41), (Fl r43)])) (ev rfl) rfl) rfl ?_
  refine seqd rfl rfl (does_alloc z26) ?_; rintro _ w50 ⟨b46, rfl, hb47, hB48, E49⟩
  have n51 : c_b < b46 := Nat.lt_of_lt_of_le (cell_lt (Cells.at (hc_c.ext X45) 0 rfl)) hb47
  have n52 : b16 < b46 := Nat.lt_of_lt_of_le (Blk.lt (hB18.ext E25)) hb47
  have g53 : w.heap.size ≤ b46 := Nat.le_trans (Below.size X45) hb47
  change Blk _ _ [(Fl 0), (Fl 0), (Fl 0)] at hB48
  have X54 := Ext.gr X45 E49
  show wpList _ _ _ _ (fr [(Pt c_b c_o), (Iv x), (Iv y), Ud, Ud, Ud, (Pt b16 0), (Pt b46 0), Ud, Ud, Ud, Ud, Ud, Ud, Ud, (.tuple #[(.agg #[(Fl r27), (Fl r29), (Fl r31)]), (.agg #[(Fl r33), (Fl r35), (Fl r37)]), (.agg #[(Fl r39), (Fl r41), (Fl r43)])]), (Pt c_b c_o), (.tuple #[(.agg #[(Fl r27), (Fl r29), (Fl r31)]), (.agg #[(Fl r33), (Fl r35), (Fl r37)]), (.agg #[(Fl r39), (Fl r41), (Fl r43)])]), (.agg #[(Fl r27), (Fl r29), (Fl r31)]), (.agg #[(Fl r33), (Fl r35), (Fl r37)]), (.agg #[(Fl r39), (Fl r41), (Fl r43)]), Ud, Ud, Ud, Ud, Ud, Ud, Ud, Ud, Ud, Ud, Ud, Ud, Ud, Ud, Ud, Ud, Ud, Ud, Ud, Ud, Ud, Ud, Ud, Ud, Ud, Ud, Ud, Ud, Ud, Ud, Ud, Ud, Ud, Ud, Ud, Ud, Ud, Ud, Ud, Ud, Ud, Ud, Ud, Ud, Ud, Ud, Ud, Ud, Ud, Ud, Ud, Ud, Ud, Ud, Ud]) _
  refine seqd rfl rfl (does_alloc z26) ?_; rintro _ w59 ⟨b55, rfl, hb56, hB57, E58⟩
  have n60 : c_b < b55 := Nat.lt_of_lt_of_le (cell_lt (Cells.at (hc_c.ext X54) 0 rfl)) hb56
  have n61 : b16 < b55 := Nat.lt_of_lt_of_le (Blk.lt ((hB18.ext E25).ext E49)) hb56
  have n62 : b46 < b55 := Nat.lt_of_lt_of_le (Blk.lt hB48) hb56
  have g63 : w.heap.size ≤ b55 := Nat.le_trans (Below.size X54) hb56
  change Blk _ _ [(Fl 0), (Fl 0), (Fl 0)] at hB57
  have X64 := Ext.gr X54 E58
  show wpList _ _ _ _ (fr [(Pt c_b c_o), (Iv x), (Iv y), Ud, Ud, Ud, (Pt b16 0), (Pt b46 0), (Pt b55 0), Ud, Ud, Ud, Ud, Ud, Ud, (.tuple #[(.agg #[(Fl r27), (Fl r29), (Fl r31)]), (.agg #[(Fl r33), (Fl r35), (Fl r37)]), (.agg #[(Fl r39), (Fl r41), (Fl r43)])]), (Pt c_b c_o), (.tuple #[(.agg #[(Fl r27), (Fl r29), (Fl r31)]), (.agg #[(Fl r33), (Fl r35), (Fl r37)]), (.agg #[(Fl r39), (Fl r41), (Fl r43)])]), (.agg #[(Fl r27), (Fl r29), (Fl r31)]), (.agg #[(Fl r33), (Fl r35), (Fl r37)]), (.agg #[(Fl r39), (Fl r41), (Fl r43)]), Ud, Ud, Ud, Ud, Ud, Ud, Ud, Ud, Ud, Ud, Ud, Ud, Ud, Ud, Ud, Ud, Ud, Ud, Ud, Ud, Ud, Ud, Ud, Ud, Ud, Ud, Ud, Ud, Ud, Ud, Ud, Ud, Ud, Ud, Ud, Ud, Ud, Ud, Ud, Ud, Ud, Ud, Ud, Ud, Ud, Ud, Ud, Ud, Ud, Ud, Ud, Ud, Ud, Ud, Ud]) _
  refine seqd rfl rfl (does_alloc z26) ?_; rintro _ w69 ⟨b65, rfl, hb66, hB67, E68⟩
  have n70 : c_b < b65 := Nat.lt_of_lt_of_le (cell_lt (Cells.at (hc_c.ext X64) 0 rfl)) hb66
  have n71 : b16 < b65 := Nat.lt_of_lt_of_le (Blk.lt (((hB18.ext E25).ext E49).ext E58)) hb66
  have n72 : b46 < b65 := Nat.lt_of_lt_of_le (Blk.lt (hB48.ext E58)) hb66
  have n73 : b55 < b65 := Nat.lt_of_lt_of_le (Blk.lt hB57) hb66
  have g74 : w.heap.size ≤ b65 := Nat.le_trans (Below.size X64) hb66
  change Blk _ _ [(Fl 0), (Fl 0), (Fl 0)] at hB67
  have X75 := Ext.gr X64 E68
  show wpList _ _ _ _ (fr [(Pt c_b c_o), (Iv x), (Iv y), Ud, Ud, Ud, (Pt b16 0), (Pt b46 0), (Pt b55 0), (Pt b65 0), Ud, Ud, Ud, Ud, Ud, (.tuple #[(.agg #[(Fl r27), (Fl r29), (Fl r31)]), (.agg #[(Fl r33), (Fl r35), (Fl r37)]), (.agg #[(Fl r39), (Fl r41), (Fl r43)])]), (Pt c_b c_o), (.tuple #[(.agg #[(Fl r27), (Fl r29), (Fl r31)]), (.agg #[(Fl r33), (Fl r35), (Fl r37)]), (.agg #[(Fl r39), (Fl r41), (Fl r43)])]), (.agg #[(Fl r27), (Fl r29), (Fl r31)]), (.agg #[(Fl r33), (Fl r35), (Fl r37)]), (.agg #[(Fl r39), (Fl r41), (Fl r43)]), Ud, Ud, Ud, Ud, Ud, Ud, Ud, Ud, Ud, Ud, Ud, Ud, Ud, Ud, Ud, Ud, Ud, Ud, Ud, Ud, Ud, Ud, Ud, Ud, Ud, Ud, Ud, Ud, Ud, Ud, Ud, Ud, Ud, Ud, Ud, Ud, Ud, Ud, Ud, Ud, Ud, Ud, Ud, Ud, Ud, Ud, Ud, Ud, Ud, Ud, Ud, Ud, Ud, Ud, Ud]) _
  refine seqn rfl rfl (does_store (n := 3) (cs := [(Fl 0), (Fl 0), (Fl 0)]) (u := (.agg #[(Fl r27), (Fl r29), (Fl r31)])) (ev rfl) (ev rfl) Try.sizeOf26 rfl ((hB48.ext E58).ext E68) (Nat.le_of_ble_eq_true rfl) rfl) ?_; rintro _ w78 ⟨rfl, W76, hB77⟩
  change Blk _ _ [(Fl r27), (Fl r29), (Fl r31)] at hB77
  have X79 := Below.wr X75 W76 g53
  refine seqn rfl rfl (does_store (n := 3) (cs := [(Fl 0), (Fl 0), (Fl 0)]) (u := (.agg #[(Fl r33), (Fl r35), (Fl r37)])) (ev rfl) (ev rfl) Try.sizeOf26 rfl ((hB57.ext E68).wr W76 (Nat.ne_of_gt n62)) (Nat.le_of_ble_eq_true rfl) rfl) ?_; rintro _ w82 ⟨rfl, W80, hB81⟩
  change Blk _ _ [(Fl r33), (Fl r35), (Fl r37)] at hB81
  have X83 := Below.wr X79 W80 g63
  refine seqn rfl rfl (does_store (n := 3) (cs := [(Fl 0), (Fl 0), (Fl 0)]) (u := (.agg #[(Fl r39), (Fl r41), (Fl r43)])) (ev rfl) (ev rfl) Try.sizeOf26 rfl ((hB67.wr W76 (Nat.ne_of_gt n72)).wr W80 (Nat.ne_of_gt n73)) (Nat.le_of_ble_eq_true rfl) rfl) ?_; rintro _ w86 ⟨rfl, W84, hB85⟩
  change Blk _ _ [(Fl r39), (Fl r41), (Fl r43)] at hB85
  have X87 := Below.wr X83 W84 g74
  refine wpList_nil (hK24 _ _ ?_)
  refine wp_seq_k fun K88 hK88 => ?_
  refine wp_region_lit ?_
  refine q_is (l' := [(Pt c_b c_o), (Iv x), (Iv y), Ud, Ud, Ud, (Pt b16 0), (Pt b46 0), (Pt b55 0), (Pt b65 0), Ud, Ud, Ud, Ud, Ud, (.tuple #[(.agg #[(Fl r27), (Fl r29), (Fl r31)]), (.agg #[(Fl r33), (Fl r35), (Fl r37)]), (.agg #[(Fl r39), (Fl r41), (Fl r43)])]), (Pt c_b c_o), (.tuple #[(.agg #[(Fl r27), (Fl r29), (Fl r31)]), (.agg #[(Fl r33), (Fl r35), (Fl r37)]), (.agg #[(Fl r39), (Fl r41), (Fl r43)])]), (.agg #[(Fl r27), (Fl r29), (Fl r31)]), (.agg #[(Fl r33), (Fl r35), (Fl r37)]), (.agg #[(Fl r39), (Fl r41), (Fl r43)]), (Pt c_b c_o), Ud, Ud, Ud, Ud, Ud, Ud, Ud, Ud, Ud, Ud, Ud, Ud, Ud, Ud, Ud, Ud, Ud, Ud, Ud, Ud, Ud, Ud, Ud, Ud, Ud, Ud, Ud, Ud, Ud, Ud, Ud, Ud, Ud, Ud, Ud, Ud, Ud, Ud, Ud, Ud, Ud, Ud, Ud, Ud, Ud, Ud, Ud, Ud, Ud, Ud, Ud, Ud, Ud, Ud]) rfl rfl (does_move (u := (Pt c_b c_o)) (ev rfl)) rfl ?_
  refine q_is (l' := [(Pt c_b c_o), (Iv x), (Iv y), Ud, Ud, Ud, (Pt b16 0), (Pt b46 0), (Pt b55 0), (Pt b65 0), Ud, Ud, Ud, Ud, Ud, (.tuple #[(.agg #[(Fl r27), (Fl r29), (Fl r31)]), (.agg #[(Fl r33), (Fl r35), (Fl r37)]), (.agg #[(Fl r39), (Fl r41), (Fl r43)])]), (Pt c_b c_o), (.tuple #[(.agg #[(Fl r27), (Fl r29), (Fl r31)]), (.agg #[(Fl r33), (Fl r35), (Fl r37)]), (.agg #[(Fl r39), (Fl r41), (Fl r43)])]), (.agg #[(Fl r27), (Fl r29), (Fl r31)]), (.agg #[(Fl r33), (Fl r35), (Fl r37)]), (.agg #[(Fl r39), (Fl r41), (Fl r43)]), (Pt c_b c_o), (Pt c_b c_o), Ud, Ud, Ud, Ud, Ud, Ud, Ud, Ud, Ud, Ud, Ud, Ud, Ud, Ud, Ud, Ud, Ud, Ud, Ud, Ud, Ud, Ud, Ud, Ud, Ud, Ud, Ud, Ud, Ud, Ud, Ud, Ud, Ud, Ud, Ud, Ud, Ud, Ud, Ud, Ud, Ud, Ud, Ud, Ud, Ud, Ud, Ud, Ud, Ud, Ud, Ud, Ud, Ud]) rfl rfl (does_nilCheck (ev rfl)) rfl ?_
  refine q_is (l' := [(Pt c_b c_o), (Iv x), (Iv y), Ud, Ud, Ud, (Pt b16 0), (Pt b46 0), (Pt b55 0), (Pt b65 0), Ud, Ud, Ud, Ud, Ud, (.tuple #[(.agg #[(Fl r27), (Fl r29), (Fl r31)]), (.agg #[(Fl r33), (Fl r35), (Fl r37)]), (.agg #[(Fl r39), (Fl r41), (Fl r43)])]), (Pt c_b c_o), (.tuple #[(.agg #[(Fl r27), (Fl r29), (Fl r31)]), (.agg #[(Fl r33), (Fl r35), (Fl r37)]), (.agg #[(Fl r39), (Fl r41), (Fl r43)])]), (.agg #[(Fl r27), (Fl r29), (Fl r31)]), (.agg #[(Fl r33), (Fl r35), (Fl r37)]), (.agg #[(Fl r39), (Fl r41), (Fl r43)]), (Pt c_b c_o), (Pt c_b c_o), (Pt c_b (c_o + 7)), Ud, Ud, Ud, Ud, Ud, Ud, Ud, Ud, Ud, Ud, Ud, Ud, Ud, Ud, Ud, Ud, Ud, Ud, Ud, Ud, Ud, Ud, Ud, Ud, Ud, Ud, Ud, Ud, Ud, Ud, Ud, Ud, Ud, Ud, Ud, Ud, Ud, Ud, Ud, Ud, Ud, Ud, Ud, Ud, Ud, Ud, Ud, Ud, Ud, Ud, Ud, Ud]) rfl rfl (does_fieldAddr (ev rfl) fa48_3) rfl ?_
  refine q_is (l' := [(Pt c_b c_o), (Iv x), (Iv y), Ud, Ud, Ud, (Pt b16 0), (Pt b46 0), (Pt b55 0), (Pt b65 0), Ud, Ud, Ud, Ud, Ud, (.tuple #[(.agg #[(Fl r27), (Fl r29), (Fl r31)]), (.agg #[(Fl r33), (Fl r35), (Fl r37)]), (.agg #[(Fl r39), (Fl r41), (Fl r43)])]), (Pt c_b c_o), (.tuple #[(.agg #[(Fl r27), (Fl r29), (Fl r31)]), (.agg #[(Fl r33), (Fl r35), (Fl r37)]), (.agg #[(Fl r39), (Fl r41), (Fl r43)])]), (.agg #[(Fl r27), (Fl r29), (Fl r31)]), (.agg #[(Fl r33), (Fl r35), (Fl r37)]), (.agg #[(Fl r39), (Fl r41), (Fl r43)]), (Pt c_b c_o), (Pt c_b c_o), (Pt c_b (c_o + 7)), (Iv A_c.width), Ud, Ud, Ud, Ud, Ud, Ud, Ud, Ud, Ud, Ud, Ud, Ud, Ud, Ud, Ud, Ud, Ud, Ud, Ud, Ud, Ud, Ud, Ud, Ud, Ud, Ud, Ud, Ud, Ud, Ud, Ud, Ud, Ud, Ud, Ud, Ud, Ud, Ud, Ud, Ud, Ud, Ud, Ud, Ud, Ud, Ud, Ud, Ud, Ud, Ud, Ud]) rfl rfl (does_load (u := (Iv A_c.width)) (ev rfl) Try.isAgg2 (Cells.at (hc_c.ext X87) 7 rfl)) rfl ?_
  refine q_is (l' := [(Pt c_b c_o), (Iv x), (Iv y), Ud, Ud, Ud, (Pt b16 0), (Pt b46 0), (Pt b55 0), (Pt b65 0), Ud, Ud, Ud, Ud, Ud, (.tuple #[(.agg #[(Fl r27), (Fl r29), (Fl r31)]), (.agg #[(Fl r33), (Fl r35), (Fl r37)]), (.agg #[(Fl r39), (Fl r41), (Fl r43)])]), (Pt c_b c_o), (.tuple #[(.agg #[(Fl r27), (Fl r29), (Fl r31)]), (.agg #[(Fl r33), (Fl r35), (Fl r37)]), (.agg #[(Fl r39), (Fl r41), (Fl r43)])]), (.agg #[(Fl r27), (Fl r29), (Fl r31)]), (.agg #[(Fl r33), (Fl r35), (Fl r37)]), (.agg #[(Fl r39), (Fl r41), (Fl r43)]), (Pt c_b c_o), (Pt c_b c_o), (Pt c_b (c_o + 7)), (Iv A_c.width), (Fl (FloatKind.f32.nearest A_c.width)), Ud, Ud, Ud, Ud, Ud, Ud, Ud, Ud, Ud, Ud, Ud, Ud, Ud, Ud, Ud, Ud, Ud, Ud, Ud, Ud, Ud, Ud, Ud, Ud, Ud, Ud, Ud, Ud, Ud, Ud, Ud, Ud, Ud, Ud, Ud, Ud, Ud, Ud, Ud, Ud, Ud, Ud, Ud, Ud, Ud, Ud, Ud, Ud, Ud, Ud]) rfl rfl (does_conv_if (k := .f32) Try.underlying2 Try.underlying24 (ev rfl)) rfl ?_
  refine q_is (l' := [(Pt c_b c_o), (Iv x), (Iv y), Ud, Ud, Ud, (Pt b16 0), (Pt b46 0), (Pt b55 0), (Pt b65 0), (Fl (FloatKind.f32.nearest A_c.width)), Ud, Ud, Ud, Ud, (.tuple #[(.agg #[(Fl r27), (Fl r29), (Fl r31)]), (.agg #[(Fl r33), (Fl r35), (Fl r37)]), (.agg #[(Fl r39), (Fl r41), (Fl r43)])]), (Pt c_b c_o), (.tuple #[(.agg #[(Fl r27), (Fl r29), (Fl r31)]), (.agg #[(Fl r33), (Fl r35), (Fl r37)]), (.agg #[(Fl r39), (Fl r41), (Fl r43)])]), (.agg #[(Fl r27), (Fl r29), (Fl r31)]), (.agg #[(Fl r33), (Fl r35), (Fl r37)]), (.agg #[(Fl r39), (Fl r41), (Fl r43)]), (Pt c_b c_o), (Pt c_b c_o), (Pt c_b (c_o + 7)), (Iv A_c.width), (Fl (FloatKind.f32.nearest A_c.width)), Ud, Ud, Ud, Ud, Ud, Ud, Ud, Ud, Ud, Ud, Ud, Ud, Ud, Ud, Ud, Ud, Ud, Ud, Ud, Ud, Ud, Ud, Ud, Ud, Ud, Ud, Ud, Ud, Ud, Ud, Ud, Ud, Ud, Ud, Ud, Ud, Ud, Ud, Ud, Ud, Ud, Ud, Ud, Ud, Ud, Ud, Ud, Ud, Ud, Ud]) rfl rfl (does_assign (u := (Fl (FloatKind.f32.nearest A_c.width))) (ev rfl)) rfl ?_
  refine wpList_nil (hK88 _ _ ?_)
  refine wp_seq_k fun K89 hK89 => ?_
  refine wp_region_lit ?_
  refine q_is (l' := [(Pt c_b c_o), (Iv x), (Iv y), Ud, Ud, Ud, (Pt b16 0), (Pt b46 0), (Pt b55 0), (Pt b65 0), (Fl (FloatKind.f32.nearest A_c.width)), Ud, Ud, Ud, Ud, (.tuple #[(.agg #[(Fl r27), (Fl r29), (Fl r31)]), (.agg #[(Fl r33), (Fl r35), (Fl r37)]), (.agg #[(Fl r39), (Fl r41), (Fl r43)])]), (Pt c_b c_o), (.tuple #[(.agg #[(Fl r27), (Fl r29), (Fl r31)]), (.agg #[(Fl r33), (Fl r35), (Fl r37)]), (.agg #[(Fl r39), (Fl r41), (Fl r43)])]), (.agg #[(Fl r27), (Fl r29), (Fl r31)]), (.agg #[(Fl r33), (Fl r35), (Fl r37)]), (.agg #[(Fl r39), (Fl r41), (Fl r43)]), (Pt c_b c_o), (Pt c_b c_o), (Pt c_b (c_o + 7)), (Iv A_c.width), (Fl (FloatKind.f32.nearest A_c.width)), (Pt c_b c_o), Ud, Ud, Ud, Ud, Ud, Ud, Ud, Ud, Ud, Ud, Ud, Ud, Ud, Ud, Ud, Ud, Ud, Ud, Ud, Ud, Ud, Ud, Ud, Ud, Ud, Ud, Ud, Ud, Ud, Ud, Ud, Ud, Ud, Ud, Ud, Ud, Ud, Ud, Ud, Ud, Ud, Ud, Ud, Ud, Ud, Ud, Ud, Ud, Ud]) rfl rfl (does_move (u := (Pt c_b c_o)) (ev rfl)) rfl ?_
  refine q_is (l' := [(Pt c_b c_o), (Iv x), (Iv y), Ud, Ud, Ud, (Pt b16 0), (Pt b46 0), (Pt b55 0), (Pt b65 0), (Fl (FloatKind.f32.nearest A_c.width)), Ud, Ud, Ud, Ud, (.tuple #[(.agg #[(Fl r27), (Fl r29), (Fl r31)]), (.agg #[(Fl r33), (Fl r35), (Fl r37)]), (.agg #[(Fl r39), (Fl r41), (Fl r43)])]), (Pt c_b c_o), (.tuple #[(.agg #[(Fl r27), (Fl r29), (Fl r31)]), (.agg #[(Fl r33), (Fl r35), (Fl r37)]), (.agg #[(Fl r39), (Fl r41), (Fl r43)])]), (.agg #[(Fl r27), (Fl r29), (Fl r31)]), (.agg #[(Fl r33), (Fl r35), (Fl r37)]), (.agg #[(Fl r39), (Fl r41), (Fl r43)]), (Pt c_b c_o), (Pt c_b c_o), (Pt c_b (c_o + 7)), (Iv A_c.width), (Fl (FloatKind.f32.nearest A_c.width)), (Pt c_b c_o), (Pt c_b c_o), Ud, Ud, Ud, Ud, Ud, Ud, Ud, Ud, Ud, Ud, Ud, Ud, Ud, Ud, Ud, Ud, Ud, Ud, Ud, Ud, Ud, Ud, Ud, Ud, Ud, Ud, Ud, Ud, Ud, Ud, Ud, Ud, Ud, Ud, Ud, Ud, Ud, Ud, Ud, Ud, Ud, Ud, Ud, Ud, Ud, Ud, Ud, Ud]) rfl rfl (does_nilCheck (ev rfl)) rfl ?_
  refine q_is (l' := [(Pt c_b c_o), (Iv x), (Iv y), Ud, Ud, Ud, (Pt b16 0), (Pt b46 0), (Pt b55 0), (Pt b65 0), (Fl (FloatKind.f32.nearest A_c.width)), Ud, Ud, Ud, Ud, (.tuple #[(.agg #[(Fl r27), (Fl r29), (Fl r31)]), (.agg #[(Fl r33), (Fl r35), (Fl r37)]), (.agg #[(Fl r39), (Fl r41), (Fl r43)])]), (Pt c_b c_o), (.tuple #[(.agg #[(Fl r27), (Fl r29), (Fl r31)]), (.agg #[(Fl r33), (Fl r35), (Fl r37)]), (.agg #[(Fl r39), (Fl r41), (Fl r43)])]), (.agg #[(Fl r27), (Fl r29), (Fl r31)]), (.agg #[(Fl r33), (Fl r35), (Fl r37)]), (.agg #[(Fl r39), (Fl r41), (Fl r43)]), (Pt c_b c_o), (Pt c_b c_o), (Pt c_b (c_o + 7)), (Iv A_c.width), (Fl (FloatKind.f32.nearest A_c.width)), (Pt c_b c_o), (Pt c_b c_o), (Pt c_b (c_o + 8)), Ud, Ud, Ud, Ud, Ud, Ud, Ud, Ud, Ud, Ud, Ud, Ud, Ud, Ud, Ud, Ud, Ud, Ud, Ud, Ud, Ud, Ud, Ud, Ud, Ud, Ud, Ud, Ud, Ud, Ud, Ud, Ud, Ud, Ud, Ud, Ud, Ud, Ud, Ud, Ud, Ud, Ud, Ud, Ud, Ud, Ud, Ud]) rfl rfl (does_fieldAddr (ev rfl) fa48_4) rfl ?_
  refine q_is (l' := [(Pt c_b c_o), (Iv x), (Iv y), Ud, Ud, Ud, (Pt b16 0), (Pt b46 0), (Pt b55 0), (Pt b65 0), (Fl (FloatKind.f32.nearest A_c.width)), Ud, Ud, Ud, Ud, (.tuple #[(.agg #[(Fl r27), (Fl r29), (Fl r31)]), (.agg #[(Fl r33), (Fl r35), (Fl r37)]), (.agg #[(Fl r39), (Fl r41), (Fl r43)])]), (Pt c_b c_o), (.tuple #[(.agg #[(Fl r27), (Fl r29), (Fl r31)]), (.agg #[(Fl r33), (Fl r35), (Fl r37)]), (.agg #[(Fl r39), (Fl r41), (Fl r43)])]), (.agg #[(Fl r27), (Fl r29), (Fl r31)]), (.agg #[(Fl r33), (Fl r35), (Fl r37)]), (.agg #[(Fl r39), (Fl r41), (Fl r43)]), (Pt c_b c_o), (Pt c_b c_o), (Pt c_b (c_o + 7)), (Iv A_c.width), (Fl (FloatKind.f32.nearest A_c.width)), (Pt c_b c_o), (Pt c_b c_o), (Pt c_b (c_o + 8)), (Iv A_c.height), Ud, Ud, Ud, Ud, Ud, Ud, Ud, Ud, Ud, Ud, Ud, Ud, Ud, Ud, Ud, Ud, Ud, Ud, Ud, Ud, Ud, Ud, Ud, Ud, Ud, Ud, Ud, Ud, Ud, Ud, Ud, Ud, Ud, Ud, Ud, Ud, Ud, Ud, Ud, Ud, Ud, Ud, Ud, Ud, Ud, Ud]) rfl rfl (does_load (u := (Iv A_c.height)) (ev rfl) Try.isAgg2 (Cells.at (hc_c.ext X87) 8 rfl)) rfl ?_
  refine q_is (l' := [(Pt c_b c_o), (Iv x), (Iv y), Ud, Ud, Ud, (Pt b16 0), (Pt b46 0), (Pt b55 0), (Pt b65 0), (Fl (FloatKind.f32.nearest A_c.width)), Ud, Ud, Ud, Ud, (.tuple #[(.agg #[(Fl r27), (Fl r29), (Fl r31)]), (.agg #[(Fl r33), (Fl r35), (Fl r37)]), (.agg #[(Fl r39), (Fl r41), (Fl r43)])]), (Pt c_b c_o), (.tuple #[(.agg #[(Fl r27), (Fl r29), (Fl r31)]), (.agg #[(Fl r33), (Fl r35), (Fl r37)]), (.agg #[(Fl r39), (Fl r41), (Fl r43)])]), (.agg #[(Fl r27), (Fl r29), (Fl r31)]), (.agg #[(Fl r33), (Fl r35), (Fl r37)]), (.agg #[(Fl r39), (Fl r41), (Fl r43)]), (Pt c_b c_o), (Pt c_b c_o), (Pt c_b (c_o + 7)), (Iv A_c.width), (Fl (FloatKind.f32.nearest A_c.width)), (Pt c_b c_o), (Pt c_b c_o), (Pt c_b (c_o + 8)), (Iv A_c.height), (Fl (FloatKind.f32.nearest A_c.height)), Ud, Ud, Ud, Ud, Ud, Ud, Ud, Ud, Ud, Ud, Ud, Ud, Ud, Ud, Ud, Ud, Ud, Ud, Ud, Ud, Ud, Ud, Ud, Ud, Ud, Ud, Ud, Ud, Ud, Ud, Ud, Ud, Ud, Ud, Ud, Ud, Ud, Ud, Ud, Ud, Ud, Ud, Ud, Ud, Ud]) rfl rfl (does_conv_if (k := .f32) Try.underlying2 Try.underlying24 (ev rfl)) rfl ?_
  refine q_is (l' := [(Pt c_b c_o), (Iv x), (Iv y), Ud, Ud, Ud, (Pt b16 0), (Pt b46 0), (Pt b55 0), (Pt b65 0), (Fl (FloatKind.f32.nearest A_c.width)), (Fl (FloatKind.f32.nearest A_c.height)), Ud, Ud, Ud, (.tuple #[(.agg #[(Fl r27), (Fl r29), (Fl r31)]), (.agg #[(Fl r33), (Fl r35), (Fl r37)]), (.agg #[(Fl r39), (Fl r41), (Fl r43)])]), (Pt c_b c_o), (.tuple #[(.agg #[(Fl r27), (Fl r29), (Fl r31)]), (.agg #[(Fl r33), (Fl r35), (Fl r37)]), (.agg #[(Fl r39), (Fl r41), (Fl r43)])]), (.agg #[(Fl r27), (Fl r29), (Fl r31)]), (.agg #[(Fl r33), (Fl r35), (Fl r37)]), (.agg #[(Fl r39), (Fl r41), (Fl r43)]), (Pt c_b c_o), (Pt c_b c_o), (Pt c_b (c_o + 7)), (Iv A_c.width), (Fl (FloatKind.f32.nearest A_c.width)), (Pt c_b c_o), (Pt c_b c_o), (Pt c_b (c_o + 8)), (Iv A_c.height), (Fl (FloatKind.f32.nearest A_c.height)), Ud, Ud, Ud, Ud, Ud, Ud, Ud, Ud, Ud, Ud, Ud, Ud, Ud, Ud, Ud, Ud, Ud, Ud, Ud, Ud, Ud, Ud, Ud, Ud, Ud, Ud, Ud, Ud, Ud, Ud, Ud, Ud, Ud, Ud, Ud, Ud, Ud, Ud, Ud, Ud, Ud, Ud, Ud, Ud, Ud]) rfl rfl (does_assign (u := (Fl (FloatKind.f32.nearest A_c.height))) (ev rfl)) rfl ?_
  refine wpList_nil (hK89 _ _ ?_)
  refine wp_seq_k fun K90 hK90 => ?_
  refine wp_region_lit ?_
  refine q_is (l' := [(Pt c_b c_o), (Iv x), (Iv y), Ud, Ud, Ud, (Pt b16 0), (Pt b46 0), (Pt b55 0), (Pt b65 0), (Fl (FloatKind.f32.nearest A_c.width)), (Fl (FloatKind.f32.nearest A_c.height)), Ud, Ud, Ud, (.tuple #[(.agg #[(Fl r27), (Fl r29), (Fl r31)]), (.agg #[(Fl r33), (Fl r35), (Fl r37)]), (.agg #[(Fl r39), (Fl r41), (Fl r43)])]), (Pt c_b c_o), (.tuple #[(.agg #[(Fl r27), (Fl r29), (Fl r31)]), (.agg #[(Fl r33), (Fl r35), (Fl r37)]), (.agg #[(Fl r39), (Fl r41), (Fl r43)])]), (.agg #[(Fl r27), (Fl r29), (Fl r31)]), (.agg #[(Fl r33), (Fl r35), (Fl r37)]), (.agg #[(Fl r39), (Fl r41), (Fl r43)]), (Pt c_b c_o), (Pt c_b c_o), (Pt c_b (c_o + 7)), (Iv A_c.width), (Fl (FloatKind.f32.nearest A_c.width)), (Pt c_b c_o), (Pt c_b c_o), (Pt c_b (c_o + 8)), (Iv A_c.height), (Fl (FloatKind.f32.nearest A_c.height)), (Iv x), Ud, Ud, Ud, Ud, Ud, Ud, Ud, Ud, Ud, Ud, Ud, Ud, Ud, Ud, Ud, Ud, Ud, Ud, Ud, Ud, Ud, Ud, Ud, Ud, Ud, Ud, Ud, Ud, Ud, Ud, Ud, Ud, Ud, Ud, Ud, Ud, Ud, Ud, Ud, Ud, Ud, Ud, Ud, Ud]) rfl rfl (does_move (u := (Iv x)) (ev rfl)) rfl ?_
  refine q_is (l' := [(Pt c_b c_o), (Iv x), (Iv y), Ud, Ud, Ud, (Pt b16 0), (Pt b46 0), (Pt b55 0), (Pt b65 0), (Fl (FloatKind.f32.nearest A_c.width)), (Fl (FloatKind.f32.nearest A_c.height)), Ud, Ud, Ud, (.tuple #[(.agg #[(Fl r27), (Fl r29), (Fl r31)]), (.agg #[(Fl r33), (Fl r35), (Fl r37)]), (.agg #[(Fl r39), (Fl r41), (Fl r43)])]), (Pt c_b c_o), (.tuple #[(.agg #[(Fl r27), (Fl r29), (Fl r31)]), (.agg #[(Fl r33), (Fl r35), (Fl r37)]), (.agg #[(Fl r39), (Fl r41), (Fl r43)])]), (.agg #[(Fl r27), (Fl r29), (Fl r31)]), (.agg #[(Fl r33), (Fl r35), (Fl r37)]), (.agg #[(Fl r39), (Fl r41), (Fl r43)]), (Pt c_b c_o), (Pt c_b c_o), (Pt c_b (c_o + 7)), (Iv A_c.width), (Fl (FloatKind.f32.nearest A_c.width)), (Pt c_b c_o), (Pt c_b c_o), (Pt c_b (c_o + 8)), (Iv A_c.height), (Fl (FloatKind.f32.nearest A_c.height)), (Iv x), (Fl (FloatKind.f32.nearest x)), Ud, Ud, Ud, Ud, Ud, Ud, Ud, Ud, Ud, Ud, Ud, Ud, Ud, Ud, Ud, Ud, Ud, Ud, Ud, Ud, Ud, Ud, Ud, Ud, Ud, Ud, Ud, Ud, Ud, Ud, Ud, Ud, Ud, Ud, Ud, Ud, Ud, Ud, Ud, Ud, Ud, Ud, Ud]) rfl rfl (does_conv_if (k := .f32) Try.underlying2 Try.underlying24 (ev rfl)) rfl ?_
  refine seqd rfl rfl (does_float (.inl rfl) (ev rfl) (ev rfl)) ?_; rintro _ w94 ⟨r91, rfl, h92, E93⟩
  have X95 := Ext.gr X87 E93
  show wpList _ _ _ _ (fr [(Pt c_b c_o), (Iv x), (Iv y), Ud, Ud, Ud, (Pt b16 0), (Pt b46 0), (Pt b55 0), (Pt b65 0), (Fl (FloatKind.f32.nearest A_c.width)), (Fl (FloatKind.f32.nearest A_c.height)), Ud, Ud, Ud, (.tuple #[(.agg #[(Fl r27), (Fl r29), (Fl r31)]), (.agg #[(Fl r33), (Fl r35), (Fl r37)]), (.agg #[(Fl r39), (Fl r41), (Fl r43)])]), (Pt c_b c_o), (.tuple #[(.agg #[(Fl r27), (Fl r29), (Fl r31)]), (.agg #[(Fl r33), (Fl r35), (Fl r37)]), (.agg #[(Fl r39), (Fl r41), (Fl r43)])]), (.agg #[(Fl r27), (Fl r29), (Fl r31)]), (.agg #[(Fl r33), (Fl r35), (Fl r37)]), (.agg #[(Fl r39), (Fl r41), (Fl r43)]), (Pt c_b c_o), (Pt c_b c_o), (Pt c_b (c_o + 7)), (Iv A_c.width), (Fl (FloatKind.f32.nearest A_c.width)), (Pt c_b c_o), (Pt c_b c_o), (Pt c_b (c_o + 8)), (Iv A_c.height), (Fl (FloatKind.f32.nearest A_c.height)), (Iv x), (Fl (FloatKind.f32.nearest x)), (Fl r91), Ud, Ud, Ud, Ud, Ud, Ud, Ud, Ud, Ud, Ud, Ud, Ud, Ud, Ud, Ud, Ud, Ud, Ud, Ud, Ud, Ud, Ud, Ud, Ud, Ud, Ud, Ud, Ud, Ud, Ud, Ud, Ud, Ud, Ud, Ud, Ud, Ud, Ud, Ud, Ud, Ud, Ud]) _
  refine q_is (l' := [(Pt c_b c_o), (Iv x), (Iv y), Ud, Ud, Ud, (Pt b16 0), (Pt b46 0), (Pt b55 0), (Pt b65 0), (Fl (FloatKind.f32.nearest A_c.width)), (Fl (FloatKind.f32.nearest A_c.height)), Ud, Ud, Ud, (.tuple #[(.agg #[(Fl r27), (Fl r29), (Fl r31)]), (.agg #[(Fl r33), (Fl r35), (Fl r37)]), (.agg #[(Fl r39), (Fl r41), (Fl r43)])]), (Pt c_b c_o), (.tuple #[(.agg #[(Fl r27), (Fl r29), (Fl r31)]), (.agg #[(Fl r33), (Fl r35), (Fl r37)]), (.agg #[(Fl r39), (Fl r41), (Fl r43)])]), (.agg #[(Fl r27), (Fl r29), (Fl r31)]), (.agg #[(Fl r33), (Fl r35), (Fl r37)]), (.agg #[(Fl r39), (Fl r41), (Fl r43)]), (Pt c_b c_o), (Pt c_b c_o), (Pt c_b (c_o + 7)), (Iv A_c.width), (Fl (FloatKind.f32.nearest A_c.width)), (Pt c_b c_o), (Pt c_b c_o), (Pt c_b (c_o + 8)), (Iv A_c.height), (Fl (FloatKind.f32.nearest A_c.height)), (Iv x), (Fl (FloatKind.f32.nearest x)), (Fl r91), (Fl (FloatKind.f32.nearest A_c.width)), Ud, Ud, Ud, Ud, Ud, Ud, Ud, Ud, Ud, Ud, Ud, Ud, Ud, Ud, Ud, Ud, Ud, Ud, Ud, Ud, Ud, Ud, Ud, Ud, Ud, Ud, Ud, Ud, Ud, Ud, Ud, Ud, Ud, Ud, Ud, Ud, Ud, Ud, Ud, Ud, Ud]) rfl rfl (does_move (u := (Fl (FloatKind.f32.nearest A_c.width))) (ev rfl)) rfl ?_
  refine seqd rfl rfl (does_float (.inr (.inr (.inr rfl))) (ev rfl) (ev rfl)) ?_; rintro _ w99 ⟨r96, rfl, h97, E98⟩
  have X100 := Ext.gr X95 E98
  show wpList _ _ _ _ (fr [(Pt c_b c_o), (Iv x), (Iv y), Ud, Ud, Ud, (Pt b16 0), (Pt b46 0), (Pt b55 0), (Pt b65 0), (Fl (FloatKind.f32.nearest A_c.width)), (Fl (FloatKind.f32.nearest A_c.height)), Ud, Ud, Ud, (.tuple #[(.agg #[(Fl r27), (Fl r29), (Fl r31)]), (.agg #[(Fl r33), (Fl r35), (Fl r37)]), (.agg #[(Fl r39), (Fl r41), (Fl r43)])]), (Pt c_b c_o), (.tuple #[(.agg #[(Fl r27), (Fl r29), (Fl r31)]), (.agg #[(Fl r33), (Fl r35), (Fl r37)]), (.agg #[(Fl r39), (Fl r41), (Fl r43)])]), (.agg #[(Fl r27), (Fl r29), (Fl r31)]), (.agg #[(Fl r33), (Fl r35), (Fl r37)]), (.agg #[(Fl r39), (Fl r41), (Fl r43)]), (Pt c_b c_o), (Pt c_b c_o), (Pt c_b (c_o + 7)), (Iv A_c.width), (Fl (FloatKind.f32.nearest A_c.width)), (Pt c_b c_o), (Pt c_b c_o), (Pt c_b (c_o + 8)), (Iv A_c.height), (Fl (FloatKind.f32.nearest A_c.height)), (Iv x), (Fl (FloatKind.f32.nearest x)), (Fl r91), (Fl (FloatKind.f32.nearest A_c.width)), (Fl r96), Ud, Ud, Ud, Ud, Ud, Ud, Ud, Ud, Ud, Ud, Ud, Ud, Ud, Ud, Ud, Ud, Ud, Ud, Ud, Ud, Ud, Ud, Ud, Ud, Ud, Ud, Ud, Ud, Ud, Ud, Ud, Ud, Ud, Ud, Ud, Ud, Ud, Ud, Ud, Ud]) _
  refine seqd rfl rfl (does_float (.inr (.inr (.inl rfl))) (ev rfl) (ev rfl)) ?_; rintro _ w104 ⟨r101, rfl, h102, E103⟩
  have X105 := Ext.gr X100 E103
  show wpList _ _ _ _ (fr [(Pt c_b c_o), (Iv x), (Iv y), Ud, Ud, Ud, (Pt b16 0), (Pt b46 0), (Pt b55 0), (Pt b65 0), (Fl (FloatKind.f32.nearest A_c.width)), (Fl (FloatKind.f32.nearest A_c.height)), Ud, Ud, Ud, (.tuple #[(.agg #[(Fl r27), (Fl r29), (Fl r31)]), (.agg #[(Fl r33), (Fl r35), (Fl r37)]), (.agg #[(Fl r39), (Fl r41), (Fl r43)])]), (Pt c_b c_o), (.tuple #[(.agg #[(Fl r27), (Fl r29), (Fl r31)]), (.agg #[(Fl r33), (Fl r35), (Fl r37)]), (.agg #[(Fl r39), (Fl r41), (Fl r43)])]), (.agg #[(Fl r27), (Fl r29), (Fl r31)]), (.agg #[(Fl r33), (Fl r35), (Fl r37)]), (.agg #[(Fl r39), (Fl r41), (Fl r43)]), (Pt c_b c_o), (Pt c_b c_o), (Pt c_b (c_o + 7)), (Iv A_c.width), (Fl (FloatKind.f32.nearest A_c.width)), (Pt c_b c_o), (Pt c_b c_o), (Pt c_b (c_o + 8)), (Iv A_c.height), (Fl (FloatKind.f32.nearest A_c.height)), (Iv x), (Fl (FloatKind.f32.nearest x)), (Fl r91), (Fl (FloatKind.f32.nearest A_c.width)), (Fl r96), (Fl r101), Ud, Ud, Ud, Ud, Ud, Ud, Ud, Ud, Ud, Ud, Ud, Ud, Ud, Ud, Ud, Ud, Ud, Ud, Ud, Ud, Ud, Ud, Ud, Ud, Ud, Ud, Ud, Ud, Ud, Ud, Ud, Ud, Ud, Ud, Ud, Ud, Ud, Ud, Ud]) _
  refine seqd rfl rfl (does_float (.inr (.inl rfl)) (ev rfl) (ev rfl)) ?_; rintro _ w109 ⟨r106, rfl, h107, E108⟩
  have X110 := Ext.gr X105 E108
  show wpList _ _ _ _ (fr [(Pt c_b c_o), (Iv x), (Iv y), Ud, Ud, Ud, (Pt b16 0), (Pt b46 0), (Pt b55 0), (Pt b65 0), (Fl (FloatKind.f32.nearest A_c.width)), (Fl (FloatKind.f32.nearest A_c.height)), Ud, Ud, Ud, (.tuple #[(.agg #[(Fl r27), (Fl r29), (Fl r31)]), (.agg #[(Fl r33), (Fl r35), (Fl r37)]), (.agg #[(Fl r39), (Fl r41), (Fl r43)])]), (Pt c_b c_o), (.tuple #[(.agg #[(Fl r27), (Fl r29), (Fl r31)]), (.agg #[(Fl r33), (Fl r35), (Fl r37)]), (.agg #[(Fl r39), (Fl r41), (Fl r43)])]), (.agg #[(Fl r27), (Fl r29), (Fl r31)]), (.agg #[(Fl r33), (Fl r35), (Fl r37)]), (.agg #[(Fl r39), (Fl r41), (Fl r43)]), (Pt c_b c_o), (Pt c_b c_o), (Pt c_b (c_o + 7)), (Iv A_c.width), (Fl (FloatKind.f32.nearest A_c.width)), (Pt c_b c_o), (Pt c_b c_o), (Pt c_b (c_o + 8)), (Iv A_c.height), (Fl (FloatKind.f32.nearest A_c.height)), (Iv x), (Fl (FloatKind.f32.nearest x)), (Fl r91), (Fl (FloatKind.f32.nearest A_c.width)), (Fl r96), (Fl r101), (Fl r106), Ud, Ud, Ud, Ud, Ud, Ud, Ud, Ud, Ud, Ud, Ud, Ud, Ud, Ud, Ud, Ud, Ud, Ud, Ud, Ud, Ud, Ud, Ud, Ud, Ud, Ud, Ud, Ud, Ud, Ud, Ud, Ud, Ud, Ud, Ud, Ud, Ud, Ud]) _
  refine q_is (l' := [(Pt c_b c_o), (Iv x), (Iv y), Ud, Ud, Ud, (Pt b16 0), (Pt b46 0), (Pt b55 0), (Pt b65 0), (Fl (FloatKind.f32.nearest A_c.width)), (Fl (FloatKind.f32.nearest A_c.height)), (Fl r106), Ud, Ud, (.tuple #[(.agg #[(Fl r27), (Fl r29), (Fl r31)]), (.agg #[(Fl r33), (Fl r35), (Fl r37)]), (.agg #[(Fl r39), (Fl r41), (Fl r43)])]), (Pt c_b c_o), (.tuple #[(.agg #[(Fl r27), (Fl r29), (Fl r31)]), (.agg #[(Fl r33), (Fl r35), (Fl r37)]), (.agg #[(Fl r39), (Fl r41), (Fl r43)])]), (.agg #[(Fl r27), (Fl r29), (Fl r31)]), (.agg #[(Fl r33), (Fl r35), (Fl r37)]), (.agg #[(Fl r39), (Fl r41), (Fl r43)]), (Pt c_b c_o), (Pt c_b c_o), (Pt c_b (c_o + 7)), (Iv A_c.width), (Fl (FloatKind.f32.nearest A_c.width)), (Pt c_b c_o), (Pt c_b c_o), (Pt c_b (c_o + 8)), (Iv A_c.height), (Fl (FloatKind.f32.nearest A_c.height)), (Iv x), (Fl (FloatKind.f32.nearest x)), (Fl r91), (Fl (FloatKind.f32.nearest A_c.width)), (Fl r96), (Fl r101), (Fl r106), Ud, Ud, Ud, Ud, Ud, Ud, Ud, Ud, Ud, Ud, Ud, Ud, Ud, Ud, Ud, Ud, Ud, Ud, Ud, Ud, Ud, Ud, Ud, Ud, Ud, Ud, Ud, Ud, Ud, Ud, Ud, Ud, Ud, Ud, Ud, Ud, Ud, Ud]) rfl rfl (does_assign (u := (Fl r106)) (ev rfl)) rfl ?_
  refine wpList_nil (hK90 _ _ ?_)
  refine wp_seq_k fun K111 hK111 => ?_
  refine wp_region_lit ?_
  refine q_is (l' := [(Pt c_b c_o), (Iv x), (Iv y), Ud, Ud, Ud, (Pt b16 0), (Pt b46 0), (Pt b55 0), (Pt b65 0), (Fl (FloatKind.f32.nearest A_c.width)), (Fl (FloatKind.f32.nearest A_c.height)), (Fl r106), Ud, Ud, (.tuple #[(.agg #[(Fl r27), (Fl r29), (Fl r31)]), (.agg #[(Fl r33), (Fl r35), (Fl r37)]), (.agg #[(Fl r39), (Fl r41), (Fl r43)])]), (Pt c_b c_o), (.tuple #[(.agg #[(Fl r27), (Fl r29), (Fl r31)]), (.agg #[(Fl r33), (Fl r35), (Fl r37)]), (.agg #[(Fl r39), (Fl r41), (Fl r43)])]), (.agg #[(Fl r27), (Fl r29), (Fl r31)]), (.agg #[(Fl r33), (Fl r35), (Fl r37)]), (.agg #[(Fl r39), (Fl r41), (Fl r43)]), (Pt c_b c_o), (Pt c_b c_o), (Pt c_b (c_o + 7)), (Iv A_c.width), (Fl (FloatKind.f32.nearest A_c.width)), (Pt c_b c_o), (Pt c_b c_o), (Pt c_b (c_o + 8)), (Iv A_c.height), (Fl (FloatKind.f32.nearest A_c.height)), (Iv x), (Fl (FloatKind.f32.nearest x)), (Fl r91), (Fl (FloatKind.f32.nearest A_c.width)), (Fl r96), (Fl r101), (Fl r106), (Fl r106), Ud, Ud, Ud, Ud, Ud, Ud, Ud, Ud, Ud, Ud, Ud, Ud, Ud, Ud, Ud, Ud, Ud, Ud, Ud, Ud, Ud, Ud, Ud, Ud, Ud, Ud, Ud, Ud, Ud, Ud, Ud, Ud, Ud, Ud, Ud, Ud, Ud]) rfl rfl (does_move (u := (Fl r106)) (ev rfl)) rfl ?_
  refine q_is (l' := [(Pt c_b c_o), (Iv x), (Iv y), Ud, Ud, Ud, (Pt b16 0), (Pt b46 0), (Pt b55 0), (Pt b65 0), (Fl (FloatKind.f32.nearest A_c.width)), (Fl (FloatKind.f32.nearest A_c.height)), (Fl r106), Ud, Ud, (.tuple #[(.agg #[(Fl r27), (Fl r29), (Fl r31)]), (.agg #[(Fl r33), (Fl r35), (Fl r37)]), (.agg #[(Fl r39), (Fl r41), (Fl r43)])]), (Pt c_b c_o), (.tuple #[(.agg #[(Fl r27), (Fl r29), (Fl r31)]), (.agg #[(Fl r33), (Fl r35), (Fl r37)]), (.agg #[(Fl r39), (Fl r41), (Fl r43)])]), (.agg #[(Fl r27), (Fl r29), (Fl r31)]), (.agg #[(Fl r33), (Fl r35), (Fl r37)]), (.agg #[(Fl r39), (Fl r41), (Fl r43)]), (Pt c_b c_o), (Pt c_b c_o), (Pt c_b (c_o + 7)), (Iv A_c.width), (Fl (FloatKind.f32.nearest A_c.width)), (Pt c_b c_o), (Pt c_b c_o), (Pt c_b (c_o + 8)), (Iv A_c.height), (Fl (FloatKind.f32.nearest A_c.height)), (Iv x), (Fl (FloatKind.f32.nearest x)), (Fl r91), (Fl (FloatKind.f32.nearest A_c.width)), (Fl r96), (Fl r101), (Fl r106), (Fl r106), (Pt c_b c_o), Ud, Ud, Ud, Ud, Ud, Ud, Ud, Ud, Ud, Ud, Ud, Ud, Ud, Ud, Ud, Ud, Ud, Ud, Ud, Ud, Ud, Ud, Ud, Ud, Ud, Ud, Ud, Ud, Ud, Ud, Ud, Ud, Ud, Ud, Ud, Ud]) rfl rfl (does_move (u := (Pt c_b c_o)) (ev rfl)) rfl ?_
  refine q_is (l' := [(Pt c_b c_o), (Iv x), (Iv y), Ud, Ud, Ud, (Pt b16 0), (Pt b46 0), (Pt b55 0), (Pt b65 0), (Fl (FloatKind.f32.nearest A_c.width)), (Fl (FloatKind.f32.nearest A_c.height)), (Fl r106), Ud, Ud, (.tuple #[(.agg #[(Fl r27), (Fl r29), (Fl r31)]), (.agg #[(Fl r33), (Fl r35), (Fl r37)]), (.agg #[(Fl r39), (Fl r41), (Fl r43)])]), (Pt c_b c_o), (.tuple #[(.agg #[(Fl r27), (Fl r29), (Fl r31)]), (.agg #[(Fl r33), (Fl r35), (Fl r37)]), (.agg #[(Fl r39), (Fl r41), (Fl r43)])]), (.agg #[(Fl r27), (Fl r29), (Fl r31)]), (.agg #[(Fl r33), (Fl r35), (Fl r37)]), (.agg #[(Fl r39), (Fl r41), (Fl r43)]), (Pt c_b c_o), (Pt c_b c_o), (Pt c_b (c_o + 7)), (Iv A_c.width), (Fl (FloatKind.f32.nearest A_c.width)), (Pt c_b c_o), (Pt c_b c_o), (Pt c_b (c_o + 8)), (Iv A_c.height), (Fl (FloatKind.f32.nearest A_c.height)), (Iv x), (Fl (FloatKind.f32.nearest x)), (Fl r91), (Fl (FloatKind.f32.nearest A_c.width)), (Fl r96), (Fl r101), (Fl r106), (Fl r106), (Pt c_b c_o), (Pt c_b c_o), Ud, Ud, Ud, Ud, Ud, Ud, Ud, Ud, Ud, Ud, Ud, Ud, Ud, Ud, Ud, Ud, Ud, Ud, Ud, Ud, Ud, Ud, Ud, Ud, Ud, Ud, Ud, Ud, Ud, Ud, Ud, Ud, Ud, Ud, Ud]) rfl rfl (does_nilCheck (ev rfl)) rfl ?_
  refine q_is (l' := [(Pt c_b c_o), (Iv x), (Iv y), Ud, Ud, Ud, (Pt b16 0), (Pt b46 0), (Pt b55 0), (Pt b65 0), (Fl (FloatKind.f32.nearest A_c.width)), (Fl (FloatKind.f32.nearest A_c.height)), (Fl r106), Ud, Ud, (.tuple #[(.agg #[(Fl r27), (Fl r29), (Fl r31)]), (.agg #[(Fl r33), (Fl r35), (Fl r37)]), (.agg #[(Fl r39), (Fl r41), (Fl r43)])]), (Pt c_b c_o), (.tuple #[(.agg #[(Fl r27), (Fl r29), (Fl r31)]), (.agg #[(Fl r33), (Fl r35), (Fl r37)]), (.agg #[(Fl r39), (Fl r41), (Fl r43)])]), (.agg #[(Fl r27), (Fl r29), (Fl r31)]), (.agg #[(Fl r33), (Fl r35), (Fl r37)]), (.agg #[(Fl r39), (Fl r41), (Fl r43)]), (Pt c_b c_o), (Pt c_b c_o), (Pt c_b (c_o + 7)), (Iv A_c.width), (Fl (FloatKind.f32.nearest A_c.width)), (Pt c_b c_o), (Pt c_b c_o), (Pt c_b (c_o + 8)), (Iv A_c.height), (Fl (FloatKind.f32.nearest A_c.height)), (Iv x), (Fl (FloatKind.f32.nearest x)), (Fl r91), (Fl (FloatKind.f32.nearest A_c.width)), (Fl r96), (Fl r101), (Fl r106), (Fl r106), (Pt c_b c_o), (Pt c_b c_o), (Pt c_b (c_o + 6)), Ud, Ud, Ud, Ud, Ud, Ud, Ud, Ud, Ud, Ud, Ud, Ud, Ud, Ud, Ud, Ud, Ud, Ud, Ud, Ud, Ud, Ud, Ud, Ud, Ud, Ud, Ud, Ud, Ud, Ud, Ud, Ud, Ud, Ud]) rfl rfl (does_fieldAddr (ev rfl) fa48_2) rfl ?_
  refine q_is (l' := [(Pt c_b c_o), (Iv x), (Iv y), Ud, Ud, Ud, (Pt b16 0), (Pt b46 0), (Pt b55 0), (Pt b65 0), (Fl (FloatKind.f32.nearest A_c.width)), (Fl (FloatKind.f32.nearest A_c.height)), (Fl r106), Ud, Ud, (.tuple #[(.agg #[(Fl r27), (Fl r29), (Fl r31)]), (.agg #[(Fl r33), (Fl r35), (Fl r37)]), (.agg #[(Fl r39), (Fl r41), (Fl r43)])]), (Pt c_b c_o), (.tuple #[(.agg #[(Fl r27), (Fl r29), (Fl r31)]), (.agg #[(Fl r33), (Fl r35), (Fl r37)]), (.agg #[(Fl r39), (Fl r41), (Fl r43)])]), (.agg #[(Fl r27), (Fl r29), (Fl r31)]), (.agg #[(Fl r33), (Fl r35), (Fl r37)]), (.agg #[(Fl r39), (Fl r41), (Fl r43)]), (Pt c_b c_o), (Pt c_b c_o), (Pt c_b (c_o + 7)), (Iv A_c.width), (Fl (FloatKind.f32.nearest A_c.width)), (Pt c_b c_o), (Pt c_b c_o), (Pt c_b (c_o + 8)), (Iv A_c.height), (Fl (FloatKind.f32.nearest A_c.height)), (Iv x), (Fl (FloatKind.f32.nearest x)), (Fl r91), (Fl (FloatKind.f32.nearest A_c.width)), (Fl r96), (Fl r101), (Fl r106), (Fl r106), (Pt c_b c_o), (Pt c_b c_o), (Pt c_b (c_o + 6)), (Fl r13), Ud, Ud, Ud, Ud, Ud, Ud, Ud, Ud, Ud, Ud, Ud, Ud, Ud, Ud, Ud, Ud, Ud, Ud, Ud, Ud, Ud, Ud, Ud, Ud, Ud, Ud, Ud, Ud, Ud, Ud, Ud, Ud, Ud]) rfl rfl (does_load (u := (Fl r13)) (ev rfl) Try.isAgg24 (Cells.at (hc_c.ext X110) 6 rfl)) rfl ?_
  refine seqd rfl rfl (does_float (.inr (.inr (.inl rfl))) (ev rfl) (ev rfl)) ?_; rintro _ w115 ⟨r112, rfl, h113, E114⟩
  have X116 := Ext.gr X110 E114
  show wpList _ _ _ _ (fr [(Pt c_b c_o), (Iv x), (Iv y), Ud, Ud, Ud, (Pt b16 0), (Pt b46 0), (Pt b55 0), (Pt b65 0), (Fl (FloatKind.f32.nearest A_c.width)), (Fl (FloatKind.f32.nearest A_c.height)), (Fl r106), Ud, Ud, (.tuple #[(.agg #[(Fl r27), (Fl r29), (Fl r31)]), (.agg #[(Fl r33), (Fl r35), (Fl r37)]), (.agg #[(Fl r39), (Fl r41), (Fl r43)])]), (Pt c_b c_o), (.tuple #[(.agg #[(Fl r27), (Fl r29), (Fl r31)]), (.agg #[(Fl r33), (Fl r35), (Fl r37)]), (.agg #[(Fl r39), (Fl r41), (Fl r43)])]), (.agg #[(Fl r27), (Fl r29), (Fl r31)]), (.agg #[(Fl r33), (Fl r35), (Fl r37)]), (.agg #[(Fl r39), (Fl r41), (Fl r43)]), (Pt c_b c_o), (Pt c_b c_o), (Pt c_b (c_o + 7)), (Iv A_c.width), (Fl (FloatKind.f32.nearest A_c.width)), (Pt c_b c_o), (Pt c_b c_o), (Pt c_b (c_o + 8)), (Iv A_c.height), (Fl (FloatKind.f32.nearest A_c.height)), (Iv x), (Fl (FloatKind.f32.nearest x)), (Fl r91), (Fl (FloatKind.f32.nearest A_c.width)), (Fl r96), (Fl r101), (Fl r106), (Fl r106), (Pt c_b c_o), (Pt c_b c_o), (Pt c_b (c_o + 6)), (Fl r13), (Fl r112), Ud, Ud, Ud, Ud, Ud, Ud, Ud, Ud, Ud, Ud, Ud, Ud, Ud, Ud, Ud, Ud, Ud, Ud, Ud, Ud, Ud, Ud, Ud, Ud, Ud, Ud, Ud, Ud, Ud, Ud, Ud, Ud]) _
  refine q_is (l' := [(Pt c_b c_o), (Iv x), (Iv y), Ud, Ud, Ud, (Pt b16 0), (Pt b46 0), (Pt b55 0), (Pt b65 0), (Fl (FloatKind.f32.nearest A_c.width)), (Fl (FloatKind.f32.nearest A_c.height)), (Fl r106), Ud, Ud, (.tuple #[(.agg #[(Fl r27), (Fl r29), (Fl r31)]), (.agg #[(Fl r33), (Fl r35), (Fl r37)]), (.agg #[(Fl r39), (Fl r41), (Fl r43)])]), (Pt c_b c_o), (.tuple #[(.agg #[(Fl r27), (Fl r29), (Fl r31)]), (.agg #[(Fl r33), (Fl r35), (Fl r37)]), (.agg #[(Fl r39), (Fl r41), (Fl r43)])]), (.agg #[(Fl r27), (Fl r29), (Fl r31)]), (.agg #[(Fl r33), (Fl r35), (Fl r37)]), (.agg #[(Fl r39), (Fl r41), (Fl r43)]), (Pt c_b c_o), (Pt c_b c_o), (Pt c_b (c_o + 7)), (Iv A_c.width), (Fl (FloatKind.f32.nearest A_c.width)), (Pt c_b c_o), (Pt c_b c_o), (Pt c_b (c_o + 8)), (Iv A_c.height), (Fl (FloatKind.f32.nearest A_c.height)), (Iv x), (Fl (FloatKind.f32.nearest x)), (Fl r91), (Fl (FloatKind.f32.nearest A_c.width)), (Fl r96), (Fl r101), (Fl r106), (Fl r106), (Pt c_b c_o), (Pt c_b c_o), (Pt c_b (c_o + 6)), (Fl r13), (Fl r112), (Fl (FloatKind.f32.nearest A_c.width)), Ud, Ud, Ud, Ud, Ud, Ud, Ud, Ud, Ud, Ud, Ud, Ud, Ud, Ud, Ud, Ud, Ud, Ud, Ud, Ud, Ud, Ud, Ud, Ud, Ud, Ud, Ud, Ud, Ud, Ud, Ud]) rfl rfl (does_move (u := (Fl (FloatKind.f32.nearest A_c.width))) (ev rfl)) rfl ?_
  refine q_is (l' := [(Pt c_b c_o), (Iv x), (Iv y), Ud, Ud, Ud, (Pt b16 0), (Pt b46 0), (Pt b55 0), (Pt b65 0), (Fl (FloatKind.f32.nearest A_c.width)), (Fl (FloatKind.f32.nearest A_c.height)), (Fl r106), Ud, Ud, (.tuple #[(.agg #[(Fl r27), (Fl r29), (Fl r31)]), (.agg #[(Fl r33), (Fl r35), (Fl r37)]), (.agg #[(Fl r39), (Fl r41), (Fl r43)])]), (Pt c_b c_o), (.tuple #[(.agg #[(Fl r27), (Fl r29), (Fl r31)]), (.agg #[(Fl r33), (Fl r35), (Fl r37)]), (.agg #[(Fl r39), (Fl r41), (Fl r43)])]), (.agg #[(Fl r27), (Fl r29), (Fl r31)]), (.agg #[(Fl r33), (Fl r35), (Fl r37)]), (.agg #[(Fl r39), (Fl r41), (Fl r43)]), (Pt c_b c_o), (Pt c_b c_o), (Pt c_b (c_o + 7)), (Iv A_c.width), (Fl (FloatKind.f32.nearest A_c.width)), (Pt c_b c_o), (Pt c_b c_o), (Pt c_b (c_o + 8)), (Iv A_c.height), (Fl (FloatKind.f32.nearest A_c.height)), (Iv x), (Fl (FloatKind.f32.nearest x)), (Fl r91), (Fl (FloatKind.f32.nearest A_c.width)), (Fl r96), (Fl r101), (Fl r106), (Fl r106), (Pt c_b c_o), (Pt c_b c_o), (Pt c_b (c_o + 6)), (Fl r13), (Fl r112), (Fl (FloatKind.f32.nearest A_c.width)), (Fl (FloatKind.f32.nearest A_c.height)), Ud, Ud, Ud, Ud, Ud, Ud, Ud, Ud, Ud, Ud, Ud, Ud, Ud, Ud, Ud, Ud, Ud, Ud, Ud, Ud, Ud, Ud, Ud, Ud, Ud, Ud, Ud, Ud, Ud, Ud]) rfl rfl (does_move (u := (Fl (FloatKind.f32.nearest A_c.height))) (ev rfl)) rfl ?_
  refine seqd rfl rfl (does_float (.inr (.inr (.inr rfl))) (ev rfl) (ev rfl)) ?_; rintro _ w120 ⟨r117, rfl, h118, E119⟩
  have X121 := Ext.gr X116 E119
  show wpList _ _ _ _ (fr [(Pt c_b c_o), (Iv x), (Iv y), Ud, Ud, Ud, (Pt b16 0), (Pt b46 0), (Pt b55 0), (Pt b65 0), (Fl (FloatKind.f32.nearest A_c.width)), (Fl (FloatKind.f32.nearest A_c.height)), (Fl r106), Ud, Ud, (.tuple #[(.agg #[(Fl r27), (Fl r29), (Fl r31)]), (.agg #[(Fl r33), (Fl r35), (Fl r37)]), (.agg #[(Fl r39), (Fl r41), (Fl r43)])]), (Pt c_b c_o), (.tuple #[(.agg #[(Fl r27), (Fl r29), (Fl r31)]), (.agg #[(Fl r33), (Fl r35), (Fl r37)]), (.agg #[(Fl r39), (Fl r41), (Fl r43)])]), (.agg #[(Fl r27), (Fl r29), (Fl r31)]), (.agg #[(Fl r33), (Fl r35), (Fl r37)]), (.agg #[(Fl r39), (Fl r41), (Fl r43)]), (Pt c_b c_o), (Pt c_b c_o), (Pt c_b (c_o + 7)), (Iv A_c.width), (Fl (FloatKind.f32.nearest A_c.width)), (Pt c_b c_o), (Pt c_b c_o), (Pt c_b (c_o + 8)), (Iv A_c.height), (Fl (FloatKind.f32.nearest A_c.height)), (Iv x), (Fl (FloatKind.f32.nearest x)), (Fl r91), (Fl (FloatKind.f32.nearest A_c.width)), (Fl r96), (Fl r101), (Fl r106), (Fl r106), (Pt c_b c_o), (Pt c_b c_o), (Pt c_b (c_o + 6)), (Fl r13), (Fl r112), (Fl (FloatKind.f32.nearest A_c.width)), (Fl (FloatKind.f32.nearest A_c.height)), (Fl r117), Ud, Ud, Ud, Ud, Ud, Ud, Ud, Ud, Ud, Ud, Ud, Ud, Ud, Ud, Ud, Ud, Ud, Ud, Ud, Ud, Ud, Ud, Ud, Ud, Ud, Ud, Ud, Ud, Ud]) _
  refine seqd rfl rfl (does_float (.inr (.inr (.inl rfl))) (ev rfl) (ev rfl)) ?_; rintro _ w125 ⟨r122, rfl, h123, E124⟩
  have X126 := Ext.gr X121 E124
  show wpList _ _ _ _ (fr [(Pt c_b c_o), (Iv x), (Iv y), Ud, Ud, Ud, (Pt b16 0), (Pt b46 0), (Pt b55 0), (Pt b65 0), (Fl (FloatKind.f32.nearest A_c.width)), (Fl (FloatKind.f32.nearest A_c.height)), (Fl r106), Ud, Ud, (.tuple #[(.agg #[(Fl r27), (Fl r29), (Fl r31)]), (.agg #[(Fl r33), (Fl r35), (Fl r37)]), (.agg #[(Fl r39), (Fl r41), (Fl r43)])]), (Pt c_b c_o), (.tuple #[(.agg #[(Fl r27), (Fl r29), (Fl r31)]), (.agg #[(Fl r33), (Fl r35), (Fl r37)]), (.agg #[(Fl r39), (Fl r41), (Fl r43)])]), (.agg #[(Fl r27), (Fl r29), (Fl r31)]), (.agg #[(Fl r33), (Fl r35), (Fl r37)]), (.agg #[(Fl r39), (Fl r41), (Fl r43)]), (Pt c_b c_o), (Pt c_b c_o), (Pt c_b (c_o + 7)), (Iv A_c.width), (Fl (FloatKind.f32.nearest A_c.width)), (Pt c_b c_o), (Pt c_b c_o), (Pt c_b (c_o + 8)), (Iv A_c.height), (Fl (FloatKind.f32.nearest A_c.height)), (Iv x), (Fl (FloatKind.f32.nearest x)), (Fl r91), (Fl (FloatKind.f32.nearest A_c.width)), (Fl r96), (Fl r101), (Fl r106), (Fl r106), (Pt c_b c_o), (Pt c_b c_o), (Pt c_b (c_o + 6)), (Fl r13), (Fl r112), (Fl (FloatKind.f32.nearest A_c.width)), (Fl (FloatKind.f32.nearest A_c.height)), (Fl r117), (Fl r122), Ud, Ud, Ud, Ud, Ud, Ud, Ud, Ud, Ud, Ud, Ud, Ud, Ud, Ud, Ud, Ud, Ud, Ud, Ud, Ud, Ud, Ud, Ud, Ud, Ud, Ud, Ud, Ud]) _
  refine q_is (l' := [(Pt c_b c_o), (Iv x), (Iv y), Ud, Ud, Ud, (Pt b16 0), (Pt b46 0), (Pt b55 0), (Pt b65 0), (Fl (FloatKind.f32.nearest A_c.width)), (Fl (FloatKind.f32.nearest A_c.height)), (Fl r122), Ud, Ud, (.tuple #[(.agg #[(Fl r27), (Fl r29), (Fl r31)]), (.agg #[(Fl r33), (Fl r35), (Fl r37)]), (.agg #[(Fl r39), (Fl r41), (Fl r43)])]), (Pt c_b c_o), (.tuple #[(.agg #[(Fl r27), (Fl r29), (Fl r31)]), (.agg #[(Fl r33), (Fl r35), (Fl r37)]), (.agg #[(Fl r39), (Fl r41), (Fl r43)])]), (.agg #[(Fl r27), (Fl r29), (Fl r31)]), (.agg #[(Fl r33), (Fl r35), (Fl r37)]), (.agg #[(Fl r39), (Fl r41), (Fl r43)]), (Pt c_b c_o), (Pt c_b c_o), (Pt c_b (c_o + 7)), (Iv A_c.width), (Fl (FloatKind.f32.nearest A_c.width)), (Pt c_b c_o), (Pt c_b c_o), (Pt c_b (c_o + 8)), (Iv A_c.height), (Fl (FloatKind.f32.nearest A_c.height)), (Iv x), (Fl (FloatKind.f32.nearest x)), (Fl r91), (Fl (FloatKind.f32.nearest A_c.width)), (Fl r96), (Fl r101), (Fl r106), (Fl r106), (Pt c_b c_o), (Pt c_b c_o), (Pt c_b (c_o + 6)), (Fl r13), (Fl r112), (Fl (FloatKind.f32.nearest A_c.width)), (Fl (FloatKind.f32.nearest A_c.height)), (Fl r117), (Fl r122), Ud, Ud, Ud, Ud, Ud, Ud, Ud, Ud, Ud, Ud, Ud, Ud, Ud, Ud, Ud, Ud, Ud, Ud, Ud, Ud, Ud, Ud, Ud, Ud, Ud, Ud, Ud, Ud]) rfl rfl (does_assign (u := (Fl r122)) (ev rfl)) rfl ?_
  refine wpList_nil (hK111 _ _ ?_)
  refine wp_seq_k fun K127 hK127 => ?_
  refine wp_region_lit ?_
  refine q_is (l' := [(Pt c_b c_o), (Iv x), (Iv y), Ud, Ud, Ud, (Pt b16 0), (Pt b46 0), (Pt b55 0), (Pt b65 0), (Fl (FloatKind.f32.nearest A_c.width)), (Fl (FloatKind.f32.nearest A_c.height)), (Fl r122), Ud, Ud, (.tuple #[(.agg #[(Fl r27), (Fl r29), (Fl r31)]), (.agg #[(Fl r33), (Fl r35), (Fl r37)]), (.agg #[(Fl r39), (Fl r41), (Fl r43)])]), (Pt c_b c_o), (.tuple #[(.agg #[(Fl r27), (Fl r29), (Fl r31)]), (.agg #[(Fl r33), (Fl r35), (Fl r37)]), (.agg #[(Fl r39), (Fl r41), (Fl r43)])]), (.agg #[(Fl r27), (Fl r29), (Fl r31)]), (.agg #[(Fl r33), (Fl r35), (Fl r37)]), (.agg #[(Fl r39), (Fl r41), (Fl r43)]), (Pt c_b c_o), (Pt c_b c_o), (Pt c_b (c_o + 7)), (Iv A_c.width), (Fl (FloatKind.f32.nearest A_c.width)), (Pt c_b c_o), (Pt c_b c_o), (Pt c_b (c_o + 8)), (Iv A_c.height), (Fl (FloatKind.f32.nearest A_c.height)), (Iv x), (Fl (FloatKind.f32.nearest x)), (Fl r91), (Fl (FloatKind.f32.nearest A_c.width)), (Fl r96), (Fl r101), (Fl r106), (Fl r106), (Pt c_b c_o), (Pt c_b c_o), (Pt c_b (c_o + 6)), (Fl r13), (Fl r112), (Fl (FloatKind.f32.nearest A_c.width)), (Fl (FloatKind.f32.nearest A_c.height)), (Fl r117), (Fl r122), (Iv y), Ud, Ud, Ud, Ud, Ud, Ud, Ud, Ud, Ud, Ud, Ud, Ud, Ud, Ud, Ud, Ud, Ud, Ud, Ud, Ud, Ud, Ud, Ud, Ud, Ud, Ud, Ud]) rfl rfl (does_move (u := (Iv y)) (ev rfl)) rfl ?_
  refine q_is (l' := [(Pt c_b c_o), (Iv x), (Iv y), Ud, Ud, Ud, (Pt b16 0), (Pt b46 0), (Pt b55 0), (Pt b65 0), (Fl (FloatKind.f32.nearest A_c.width)), (Fl (FloatKind.f32.nearest A_c.height)), (Fl r122), Ud, Ud, (.tuple #[(.agg #[(Fl r27), (Fl r29), (Fl r31)]), (.agg #[(Fl r33), (Fl r35), (Fl r37)]), (.agg #[(Fl r39), (Fl r41), (Fl r43)])]), (Pt c_b c_o), (.tuple #[(.agg #[(Fl r27), (Fl r29), (Fl r31)]), (.agg #[(Fl r33), (Fl r35), (Fl r37)]), (.agg #[(Fl r39), (Fl r41), (Fl r43)])]), (.agg #[(Fl r27), (Fl r29), (Fl r31)]), (.agg #[(Fl r33), (Fl r35), (Fl r37)]), (.agg #[(Fl r39), (Fl r41), (Fl r43)]), (Pt c_b c_o), (Pt c_b c_o), (Pt c_b (c_o + 7)), (Iv A_c.width), (Fl (FloatKind.f32.nearest A_c.width)), (Pt c_b c_o), (Pt c_b c_o), (Pt c_b (c_o + 8)), (Iv A_c.height), (Fl (FloatKind.f32.nearest A_c.height)), (Iv x), (Fl (FloatKind.f32.nearest x)), (Fl r91), (Fl (FloatKind.f32.nearest A_c.width)), (Fl r96), (Fl r101), (Fl r106), (Fl r106), (Pt c_b c_o), (Pt c_b c_o), (Pt c_b (c_o + 6)), (Fl r13), (Fl r112), (Fl (FloatKind.f32.nearest A_c.width)), (Fl (FloatKind.f32.nearest A_c.height)), (Fl r117), (Fl r122), (Iv y), (Fl (FloatKind.f32.nearest y)), Ud, Ud, Ud, Ud, Ud, Ud, Ud, Ud, Ud, Ud, Ud, Ud, Ud, Ud, Ud, Ud, Ud, Ud, Ud, Ud, Ud, Ud, Ud, Ud, Ud, Ud]) rfl rfl (does_conv_if (k := .f32) Try.underlying2 Try.underlying24 (ev rfl)) rfl ?_
  refine seqd rfl rfl (does_float (.inl rfl) (ev rfl) (ev rfl)) ?_; rintro _ w131 ⟨r128, rfl, h129, E130⟩
  have X132 := Ext.gr X126 E130
  show wpList _ _ _ _ (fr [(Pt c_b c_o), (Iv x), (Iv y), Ud, Ud, Ud, (Pt b16 0), (Pt b46 0), (Pt b55 0), (Pt b65 0), (Fl (FloatKind.f32.nearest A_c.width)), (Fl (FloatKind.f32.nearest A_c.height)), (Fl r122), Ud, Ud, (.tuple #[(.agg #[(Fl r27), (Fl r29), (Fl r31)]), (.agg #[(Fl r33), (Fl r35), (Fl r37)]), (.agg #[(Fl r39), (Fl r41), (Fl r43)])]), (Pt c_b c_o), (.tuple #[(.agg #[(Fl r27), (Fl r29), (Fl r31)]), (.agg #[(Fl r33), (Fl r35), (Fl r37)]), (.agg #[(Fl r39), (Fl r41), (Fl r43)])]), (.agg #[(Fl r27), (Fl r29), (Fl r31)]), (.agg #[(Fl r33), (Fl r35), (Fl r37)]), (.agg #[(Fl r39), (Fl r41), (Fl r43)]), (Pt c_b c_o), (Pt c_b c_o), (Pt c_b (c_o + 7)), (Iv A_c.width), (Fl (FloatKind.f32.nearest A_c.width)), (Pt c_b c_o), (Pt c_b c_o), (Pt c_b (c_o + 8)), (Iv A_c.height), (Fl (FloatKind.f32.nearest A_c.height)), (Iv x), (Fl (FloatKind.f32.nearest x)), (Fl r91), (Fl (FloatKind.f32.nearest A_c.width)), (Fl r96), (Fl r101), (Fl r106), (Fl r106), (Pt c_b c_o), (Pt c_b c_o), (Pt c_b (c_o + 6)), (Fl r13), (Fl r112), (Fl (FloatKind.f32.nearest A_c.width)), (Fl (FloatKind.f32.nearest A_c.height)), (Fl r117), (Fl r122), (Iv y), (Fl (FloatKind.f32.nearest y)), (Fl r128), Ud, Ud, Ud, Ud, Ud, Ud, Ud, Ud, Ud, Ud, Ud, Ud, Ud, Ud, Ud, Ud, Ud, Ud, Ud, Ud, Ud, Ud, Ud, Ud, Ud]) _
  refine q_is (l' := [(Pt c_b c_o), (Iv x), (Iv y), Ud, Ud, Ud, (Pt b16 0), (Pt b46 0), (Pt b55 0), (Pt b65 0), (Fl (FloatKind.f32.nearest A_c.width)), (Fl (FloatKind.f32.nearest A_c.height)), (Fl r122), Ud, Ud, (.tuple #[(.agg #[(Fl r27), (Fl r29), (Fl r31)]), (.agg #[(Fl r33), (Fl r35), (Fl r37)]), (.agg #[(Fl r39), (Fl r41), (Fl r43)])]), (Pt c_b c_o), (.tuple #[(.agg #[(Fl r27), (Fl r29), (Fl r31)]), (.agg #[(Fl r33), (Fl r35), (Fl r37)]), (.agg #[(Fl r39), (Fl r41), (Fl r43)])]), (.agg #[(Fl r27), (Fl r29), (Fl r31)]), (.agg #[(Fl r33), (Fl r35), (Fl r37)]), (.agg #[(Fl r39), (Fl r41), (Fl r43)]), (Pt c_b c_o), (Pt c_b c_o), (Pt c_b (c_o + 7)), (Iv A_c.width), (Fl (FloatKind.f32.nearest A_c.width)), (Pt c_b c_o), (Pt c_b c_o), (Pt c_b (c_o + 8)), (Iv A_c.height), (Fl (FloatKind.f32.nearest A_c.height)), (Iv x), (Fl (FloatKind.f32.nearest x)), (Fl r91), (Fl (FloatKind.f32.nearest A_c.width)), (Fl r96), (Fl r101), (Fl r106), (Fl r106), (Pt c_b c_o), (Pt c_b c_o), (Pt c_b (c_o + 6)), (Fl r13), (Fl r112), (Fl (FloatKind.f32.nearest A_c.width)), (Fl (FloatKind.f32.nearest A_c.height)), (Fl r117), (Fl r122), (Iv y), (Fl (FloatKind.f32.nearest y)), (Fl r128), (Fl (FloatKind.f32.nearest A_c.height)), Ud, Ud, Ud, Ud, Ud, Ud, Ud, Ud, Ud, Ud, Ud, Ud, Ud, Ud, Ud, Ud, Ud, Ud, Ud, Ud, Ud, Ud, Ud, Ud]) rfl rfl (does_move (u := (Fl (FloatKind.f32.nearest A_c.height))) (ev rfl)) rfl ?_
  refine seqd rfl rfl (does_float (.inr (.inr (.inr rfl))) (ev rfl) (ev rfl)) ?_; rintro _ w136 ⟨r133, rfl, h134, E135⟩
  have X137 := Ext.gr X132 E135
  show wpList _ _ _ _ (fr [(Pt c_b c_o), (Iv x), (Iv y), Ud, Ud, Ud, (Pt b16 0), (Pt b46 0), (Pt b55 0), (Pt b65 0), (Fl (FloatKind.f32.nearest A_c.width)), (Fl (FloatKind.f32.nearest A_c.height)), (Fl r122), Ud, Ud, (.tuple #[(.agg #[(Fl r27), (Fl r29), (Fl r31)]), (.agg #[(Fl r33), (Fl r35), (Fl r37)]), (.agg #[(Fl r39), (Fl r41), (Fl r43)])]), (Pt c_b c_o), (.tuple #[(.agg #[(Fl r27), (Fl r29), (Fl r31)]), (.agg #[(Fl r33), (Fl r35), (Fl r37)]), (.agg #[(Fl r39), (Fl r41), (Fl r43)])]), (.agg #[(Fl r27), (Fl r29), (Fl r31)]), (.agg #[(Fl r33), (Fl r35), (Fl r37)]), (.agg #[(Fl r39), (Fl r41), (Fl r43)]), (Pt c_b c_o), (Pt c_b c_o), (Pt c_b (c_o + 7)), (Iv A_c.width), (Fl (FloatKind.f32.nearest A_c.width)), (Pt c_b c_o), (Pt c_b c_o), (Pt c_b (c_o + 8)), (Iv A_c.height), (Fl (FloatKind.f32.nearest A_c.height)), (Iv x), (Fl (FloatKind.f32.nearest x)), (Fl r91), (Fl (FloatKind.f32.nearest A_c.width)), (Fl r96), (Fl r101), (Fl r106), (Fl r106), (Pt c_b c_o), (Pt c_b c_o), (Pt c_b (c_o + 6)), (Fl r13), (Fl r112), (Fl (FloatKind.f32.nearest A_c.width)), (Fl (FloatKind.f32.nearest A_c.height)), (Fl r117), (Fl r122), (Iv y), (Fl (FloatKind.f32.nearest y)), (Fl r128), (Fl (FloatKind.f32.nearest A_c.height)), (Fl r133), Ud, Ud, Ud, Ud, Ud, Ud, Ud, Ud, Ud, Ud, Ud, Ud, Ud, Ud, Ud, Ud, Ud, Ud, Ud, Ud, Ud, Ud, Ud]) _
  refine seqd rfl rfl (does_float (.inr (.inr (.inl rfl))) (ev rfl) (ev rfl)) ?_; rintro _ w141 ⟨r138, rfl, h139, E140⟩
  have X142 := Ext.gr X137 E140
  show wpList _ _ _ _ (fr [(Pt c_b c_o), (Iv x), (Iv y), Ud, Ud, Ud, (Pt b16 0), (Pt b46 0), (Pt b55 0), (Pt b65 0), (Fl (FloatKind.f32.nearest A_c.width)), (Fl (FloatKind.f32.nearest A_c.height)), (Fl r122), Ud, Ud, (.tuple #[(.agg #[(Fl r27), (Fl r29), (Fl r31)]), (.agg #[(Fl r33), (Fl r35), (Fl r37)]), (.agg #[(Fl r39), (Fl r41), (Fl r43)])]), (Pt c_b c_o), (.tuple #[(.agg #[(Fl r27), (Fl r29), (Fl r31)]), (.agg #[(Fl r33), (Fl r35), (Fl r37)]), (.agg #[(Fl r39), (Fl r41), (Fl r43)])]), (.agg #[(Fl r27), (Fl r29), (Fl r31)]), (.agg #[(Fl r33), (Fl r35), (Fl r37)]), (.agg #[(Fl r39), (Fl r41), (Fl r43)]), (Pt c_b c_o), (Pt c_b c_o), (Pt c_b (c_o + 7)), (Iv A_c.width), (Fl (FloatKind.f32.nearest A_c.width)), (Pt c_b c_o), (Pt c_b c_o), (Pt c_b (c_o + 8)), (Iv A_c.height), (Fl (FloatKind.f32.nearest A_c.height)), (Iv x), (Fl (FloatKind.f32.nearest x)), (Fl r91), (Fl (FloatKind.f32.nearest A_c.width)), (Fl r96), (Fl r101), (Fl r106), (Fl r106), (Pt c_b c_o), (Pt c_b c_o), (Pt c_b (c_o + 6)), (Fl r13), (Fl r112), (Fl (FloatKind.f32.nearest A_c.width)), (Fl (FloatKind.f32.nearest A_c.height)), (Fl r117), (Fl r122), (Iv y), (Fl (FloatKind.f32.nearest y)), (Fl r128), (Fl (FloatKind.f32.nearest A_c.height)), (Fl r133), (Fl r138), Ud, Ud, Ud, Ud, Ud, Ud, Ud, Ud, Ud, Ud, Ud, Ud, Ud, Ud, Ud, Ud, Ud, Ud, Ud, Ud, Ud, Ud]) _
  refine seqd rfl rfl (does_float (.inr (.inl rfl)) (ev rfl) (ev rfl)) ?_; rintro _ w146 ⟨r143, rfl, h144, E145⟩
  have X147 := Ext.gr X142 E145
  show wpList _ _ _ _ (fr [(Pt c_b c_o), (Iv x), (Iv y), Ud, Ud, Ud, (Pt b16 0), (Pt b46 0), (Pt b55 0), (Pt b65 0), (Fl (FloatKind.f32.nearest A_c.width)), (Fl (FloatKind.f32.nearest A_c.height)), (Fl r122), Ud, Ud, (.tuple #[(.agg #[(Fl r27), (Fl r29), (Fl r31)]), (.agg #[(Fl r33), (Fl r35), (Fl r37)]), (.agg #[(Fl r39), (Fl r41), (Fl r43)])]), (Pt c_b c_o), (.tuple #[(.agg #[(Fl r27), (Fl r29), (Fl r31)]), (.agg #[(Fl r33), (Fl r35), (Fl r37)]), (.agg #[(Fl r39), (Fl r41), (Fl r43)])]), (.agg #[(Fl r27), (Fl r29), (Fl r31)]), (.agg #[(Fl r33), (Fl r35), (Fl r37)]), (.agg #[(Fl r39), (Fl r41), (Fl r43)]), (Pt c_b c_o), (Pt c_b c_o), (Pt c_b (c_o + 7)), (Iv A_c.width), (Fl (FloatKind.f32.nearest A_c.width)), (Pt c_b c_o), (Pt c_b c_o), (Pt c_b (c_o + 8)), (Iv A_c.height), (Fl (FloatKind.f32.nearest A_c.height)), (Iv x), (Fl (FloatKind.f32.nearest x)), (Fl r91), (Fl (FloatKind.f32.nearest A_c.width)), (Fl r96), (Fl r101), (Fl r106), (Fl r106), (Pt c_b c_o), (Pt c_b c_o), (Pt c_b (c_o + 6)), (Fl r13), (Fl r112), (Fl (FloatKind.f32.nearest A_c.width)), (Fl (FloatKind.f32.nearest A_c.height)), (Fl r117), (Fl r122), (Iv y), (Fl (FloatKind.f32.nearest y)), (Fl r128), (Fl (FloatKind.f32.nearest A_c.height)), (Fl r133), (Fl r138), (Fl r143), Ud, Ud, Ud, Ud, Ud, Ud, Ud, Ud, Ud, Ud, Ud, Ud, Ud, Ud, Ud, Ud, Ud, Ud, Ud, Ud, Ud]) _
  refine q_is (l' := [(Pt c_b c_o), (Iv x), (Iv y), Ud, Ud, Ud, (Pt b16 0), (Pt b46 0), (Pt b55 0), (Pt b65 0), (Fl (FloatKind.f32.nearest A_c.width)), (Fl (FloatKind.f32.nearest A_c.height)), (Fl r122), (Fl r143), Ud, (.tuple #[(.agg #[(Fl r27), (Fl r29), (Fl r31)]), (.agg #[(Fl r33), (Fl r35), (Fl r37)]), (.agg #[(Fl r39), (Fl r41), (Fl r43)])]), (Pt c_b c_o), (.tuple #[(.agg #[(Fl r27), (Fl r29), (Fl r31)]), (.agg #[(Fl r33), (Fl r35), (Fl r37)]), (.agg #[(Fl r39), (Fl r41), (Fl r43)])]), (.agg #[(Fl r27), (Fl r29), (Fl r31)]), (.agg #[(Fl r33), (Fl r35), (Fl r37)]), (.agg #[(Fl r39), (Fl r41), (Fl r43)]), (Pt c_b c_o), (Pt c_b c_o), (Pt c_b (c_o + 7)), (Iv A_c.width), (Fl (FloatKind.f32.nearest A_c.width)), (Pt c_b c_o), (Pt c_b c_o), (Pt c_b (c_o + 8)), (Iv A_c.height), (Fl (FloatKind.f32.nearest A_c.height)), (Iv x), (Fl (FloatKind.f32.nearest x)), (Fl r91), (Fl (FloatKind.f32.nearest A_c.width)), (Fl r96), (Fl r101), (Fl r106), (Fl r106), (Pt c_b c_o), (Pt c_b c_o), (Pt c_b (c_o + 6)), (Fl r13), (Fl r112), (Fl (FloatKind.f32.nearest A_c.width)), (Fl (FloatKind.f32.nearest A_c.height)), (Fl r117), (Fl r122), (Iv y), (Fl (FloatKind.f32.nearest y)), (Fl r128), (Fl (FloatKind.f32.nearest A_c.height)), (Fl r133), (Fl r138), (Fl r143), Ud, Ud, Ud, Ud, Ud, Ud, Ud, Ud, Ud, Ud, Ud, Ud, Ud, Ud, Ud, Ud, Ud, Ud, Ud, Ud, Ud]) rfl rfl (does_assign (u := (Fl r143)) (ev rfl)) rfl ?_
  refine wpList_nil (hK127 _ _ ?_)
  refine wp_seq_k fun K148 hK148 => ?_
  refine wp_region_lit ?_
  refine q_is (l' := [(Pt c_b c_o), (Iv x), (Iv y), Ud, Ud, Ud, (Pt b16 0), (Pt b46 0), (Pt b55 0), (Pt b65 0), (Fl (FloatKind.f32.nearest A_c.width)), (Fl (FloatKind.f32.nearest A_c.height)), (Fl r122), (Fl r143), Ud, (.tuple #[(.agg #[(Fl r27), (Fl r29), (Fl r31)]), (.agg #[(Fl r33), (Fl r35), (Fl r37)]), (.agg #[(Fl r39), (Fl r41), (Fl r43)])]), (Pt c_b c_o), (.tuple #[(.agg #[(Fl r27), (Fl r29), (Fl r31)]), (.agg #[(Fl r33), (Fl r35), (Fl r37)]), (.agg #[(Fl r39), (Fl r41), (Fl r43)])]), (.agg #[(Fl r27), (Fl r29), (Fl r31)]), (.agg #[(Fl r33), (Fl r35), (Fl r37)]), (.agg #[(Fl r39), (Fl r41), (Fl r43)]), (Pt c_b c_o), (Pt c_b c_o), (Pt c_b (c_o + 7)), (Iv A_c.width), (Fl (FloatKind.f32.nearest A_c.width)), (Pt c_b c_o), (Pt c_b c_o), (Pt c_b (c_o + 8)), (Iv A_c.height), (Fl (FloatKind.f32.nearest A_c.height)), (Iv x), (Fl (FloatKind.f32.nearest x)), (Fl r91), (Fl (FloatKind.f32.nearest A_c.width)), (Fl r96), (Fl r101), (Fl r106), (Fl r106), (Pt c_b c_o), (Pt c_b c_o), (Pt c_b (c_o + 6)), (Fl r13), (Fl r112), (Fl (FloatKind.f32.nearest A_c.width)), (Fl (FloatKind.f32.nearest A_c.height)), (Fl r117), (Fl r122), (Iv y), (Fl (FloatKind.f32.nearest y)), (Fl r128), (Fl (FloatKind.f32.nearest A_c.height)), (Fl r133), (Fl r138), (Fl r143), (Fl r143), Ud, Ud, Ud, Ud, Ud, Ud, Ud, Ud, Ud, Ud, Ud, Ud, Ud, Ud, Ud, Ud, Ud, Ud, Ud, Ud]) rfl rfl (does_move (u := (Fl r143)) (ev rfl)) rfl ?_
  refine q_is (l' := [(Pt c_b c_o), (Iv x), (Iv y), Ud, Ud, Ud, (Pt b16 0), (Pt b46 0), (Pt b55 0), (Pt b65 0), (Fl (FloatKind.f32.nearest A_c.width)), (Fl (FloatKind.f32.nearest A_c.height)), (Fl r122), (Fl r143), Ud, (.tuple #[(.agg #[(Fl r27), (Fl r29), (Fl r31)]), (.agg #[(Fl r33), (Fl r35), (Fl r37)]), (.agg #[(Fl r39), (Fl r41), (Fl r43)])]), (Pt c_b c_o), (.tuple #[(.agg #[(Fl r27), (Fl r29), (Fl r31)]), (.agg #[(Fl r33), (Fl r35), (Fl r37)]), (.agg #[(Fl r39), (Fl r41), (Fl r43)])]), (.agg #[(Fl r27), (Fl r29), (Fl r31)]), (.agg #[(Fl r33), (Fl r35), (Fl r37)]), (.agg #[(Fl r39), (Fl r41), (Fl r43)]), (Pt c_b c_o), (Pt c_b c_o), (Pt c_b (c_o + 7)), (Iv A_c.width), (Fl (FloatKind.f32.nearest A_c.width)), (Pt c_b c_o), (Pt c_b c_o), (Pt c_b (c_o + 8)), (Iv A_c.height), (Fl (FloatKind.f32.nearest A_c.height)), (Iv x), (Fl (FloatKind.f32.nearest x)), (Fl r91), (Fl (FloatKind.f32.nearest A_c.width)), (Fl r96), (Fl r101), (Fl r106), (Fl r106), (Pt c_b c_o), (Pt c_b c_o), (Pt c_b (c_o + 6)), (Fl r13), (Fl r112), (Fl (FloatKind.f32.nearest A_c.width)), (Fl (FloatKind.f32.nearest A_c.height)), (Fl r117), (Fl r122), (Iv y), (Fl (FloatKind.f32.nearest y)), (Fl r128), (Fl (FloatKind.f32.nearest A_c.height)), (Fl r133), (Fl r138), (Fl r143), (Fl r143), (Pt c_b c_o), Ud, Ud, Ud, Ud, Ud, Ud, Ud, Ud, Ud, Ud, Ud, Ud, Ud, Ud, Ud, Ud, Ud, Ud, Ud]) rfl rfl (does_move (u := (Pt c_b c_o)) (ev rfl)) rfl ?_
  refine q_is (l' := [(Pt c_b c_o), (Iv x), (Iv y), Ud, Ud, Ud, (Pt b16 0), (Pt b46 0), (Pt b55 0), (Pt b65 0), (Fl (FloatKind.f32.nearest A_c.width)), (Fl (FloatKind.f32.nearest A_c.height)), (Fl r122), (Fl r143), Ud, (.tuple #[(.agg #[(Fl r27), (Fl r29), (Fl r31)]), (.agg #[(Fl r33), (Fl r35), (Fl r37)]), (.agg #[(Fl r39), (Fl r41), (Fl r43)])]), (Pt c_b c_o), (.tuple #[(.agg #[(Fl r27), (Fl r29), (Fl r31)]), (.agg #[(Fl r33), (Fl r35), (Fl r37)]), (.agg #[(Fl r39), (Fl r41), (Fl r43)])]), (.agg #[(Fl r27), (Fl r29), (Fl r31)]), (.agg #[(Fl r33), (Fl r35), (Fl r37)]), (.agg #[(Fl r39), (Fl r41), (Fl r43)]), (Pt c_b c_o), (Pt c_b c_o), (Pt c_b (c_o + 7)), (Iv A_c.width), (Fl (FloatKind.f32.nearest A_c.width)), (Pt c_b c_o), (Pt c_b c_o), (Pt c_b (c_o + 8)), (Iv A_c.height), (Fl (FloatKind.f32.nearest A_c.height)), (Iv x), (Fl (FloatKind.f32.nearest x)), (Fl r91), (Fl (FloatKind.f32.nearest A_c.width)), (Fl r96), (Fl r101), (Fl r106), (Fl r106), (Pt c_b c_o), (Pt c_b c_o), (Pt c_b (c_o + 6)), (Fl r13), (Fl r112), (Fl (FloatKind.f32.nearest A_c.width)), (Fl (FloatKind.f32.nearest A_c.height)), (Fl r117), (Fl r122), (Iv y), (Fl (FloatKind.f32.nearest y)), (Fl r128), (Fl (FloatKind.f32.nearest A_c.height)), (Fl r133), (Fl r138), (Fl r143), (Fl r143), (Pt c_b c_o), (Pt c_b c_o), Ud, Ud, Ud, Ud, Ud, Ud, Ud, Ud, Ud, Ud, Ud, Ud, Ud, Ud, Ud, Ud, Ud, Ud]) rfl rfl (does_nilCheck (ev rfl)) rfl ?_
  refine q_is (l' := [(Pt c_b c_o), (Iv x), (Iv y), Ud, Ud, Ud, (Pt b16 0), (Pt b46 0), (Pt b55 0), (Pt b65 0), (Fl (FloatKind.f32.nearest A_c.width)), (Fl (FloatKind.f32.nearest A_c.height)), (Fl r122), (Fl r143), Ud, (.tuple #[(.agg #[(Fl r27), (Fl r29), (Fl r31)]), (.agg #[(Fl r33), (Fl r35), (Fl r37)]), (.agg #[(Fl r39), (Fl r41), (Fl r43)])]), (Pt c_b c_o), (.tuple #[(.agg #[(Fl r27), (Fl r29), (Fl r31)]), (.agg #[(Fl r33), (Fl r35), (Fl r37)]), (.agg #[(Fl r39), (Fl r41), (Fl r43)])]), (.agg #[(Fl r27), (Fl r29), (Fl r31)]), (.agg #[(Fl r33), (Fl r35), (Fl r37)]), (.agg #[(Fl r39), (Fl r41), (Fl r43)]), (Pt c_b c_o), (Pt c_b c_o), (Pt c_b (c_o + 7)), (Iv A_c.width), (Fl (FloatKind.f32.nearest A_c.width)), (Pt c_b c_o), (Pt c_b c_o), (Pt c_b (c_o + 8)), (Iv A_c.height), (Fl (FloatKind.f32.nearest A_c.height)), (Iv x), (Fl (FloatKind.f32.nearest x)), (Fl r91), (Fl (FloatKind.f32.nearest A_c.width)), (Fl r96), (Fl r101), (Fl r106), (Fl r106), (Pt c_b c_o), (Pt c_b c_o), (Pt c_b (c_o + 6)), (Fl r13), (Fl r112), (Fl (FloatKind.f32.nearest A_c.width)), (Fl (FloatKind.f32.nearest A_c.height)), (Fl r117), (Fl r122), (Iv y), (Fl (FloatKind.f32.nearest y)), (Fl r128), (Fl (FloatKind.f32.nearest A_c.height)), (Fl r133), (Fl r138), (Fl r143), (Fl r143), (Pt c_b c_o), (Pt c_b c_o), (Pt c_b (c_o + 6)), Ud, Ud, Ud, Ud, Ud, Ud, Ud, Ud, Ud, Ud, Ud, Ud, Ud, Ud, Ud, Ud, Ud]) rfl rfl (does_fieldAddr (ev rfl) fa48_2) rfl ?_
  refine q_is (l' := [(Pt c_b c_o), (Iv x), (Iv y), Ud, Ud, Ud, (Pt b16 0), (Pt b46 0), (Pt b55 0), (Pt b65 0), (Fl (FloatKind.f32.nearest A_c.width)), (Fl (FloatKind.f32.nearest A_c.height)), (Fl r122), (Fl r143), Ud, (.tuple #[(.agg #[(Fl r27), (Fl r29), (Fl r31)]), (.agg #[(Fl r33), (Fl r35), (Fl r37)]), (.agg #[(Fl r39), (Fl r41), (Fl r43)])]), (Pt c_b c_o), (.tuple #[(.agg #[(Fl r27), (Fl r29), (Fl r31)]), (.agg #[(Fl r33), (Fl r35), (Fl r37)]), (.agg #[(Fl r39), (Fl r41), (Fl r43)])]), (.agg #[(Fl r27), (Fl r29), (Fl r31)]), (.agg #[(Fl r33), (Fl r35), (Fl r37)]), (.agg #[(Fl r39), (Fl r41), (Fl r43)]), (Pt c_b c_o), (Pt c_b c_o), (Pt c_b (c_o + 7)), (Iv A_c.width), (Fl (FloatKind.f32.nearest A_c.width)), (Pt c_b c_o), (Pt c_b c_o), (Pt c_b (c_o + 8)), (Iv A_c.height), (Fl (FloatKind.f32.nearest A_c.height)), (Iv x), (Fl (FloatKind.f32.nearest x)), (Fl r91), (Fl (FloatKind.f32.nearest A_c.width)), (Fl r96), (Fl r101), (Fl r106), (Fl r106), (Pt c_b c_o), (Pt c_b c_o), (Pt c_b (c_o + 6)), (Fl r13), (Fl r112), (Fl (FloatKind.f32.nearest A_c.width)), (Fl (FloatKind.f32.nearest A_c.height)), (Fl r117), (Fl r122), (Iv y), (Fl (FloatKind.f32.nearest y)), (Fl r128), (Fl (FloatKind.f32.nearest A_c.height)), (Fl r133), (Fl r138), (Fl r143), (Fl r143), (Pt c_b c_o), (Pt c_b c_o), (Pt c_b (c_o + 6)), (Fl r13), Ud, Ud, Ud, Ud, Ud, Ud, Ud, Ud, Ud, Ud, Ud, Ud, Ud, Ud, Ud, Ud]) rfl rfl (does_load (u := (Fl r13)) (ev rfl) Try.isAgg24 (Cells.at (hc_c.ext X147) 6 rfl)) rfl ?_
  refine seqd rfl rfl (does_float (.inr (.inr (.inl rfl))) (ev rfl) (ev rfl)) ?_; rintro _ w152 ⟨r149, rfl, h150, E151⟩
  have X153 := Ext.gr X147 E151
  show wpList _ _ _ _ (fr [(Pt c_b c_o), (Iv x), (Iv y), Ud, Ud, Ud, (Pt b16 0), (Pt b46 0), (Pt b55 0), (Pt b65 0), (Fl (FloatKind.f32.nearest A_c.width)), (Fl (FloatKind.f32.nearest A_c.height)), (Fl r122), (Fl r143), Ud, (.tuple #[(.agg #[(Fl r27), (Fl r29), (Fl r31)]), (.agg #[(Fl r33), (Fl r35), (Fl r37)]), (.agg #[(Fl r39), (Fl r41), (Fl r43)])]), (Pt c_b c_o), (.tuple #[(.agg #[(Fl r27), (Fl r29), (Fl r31)]), (.agg #[(Fl r33), (Fl r35), (Fl r37)]), (.agg #[(Fl r39), (Fl r41), (Fl r43)])]), (.agg #[(Fl r27), (Fl r29), (Fl r31)]), (.agg #[(Fl r33), (Fl r35), (Fl r37)]), (.agg #[(Fl r39), (Fl r41), (Fl r43)]), (Pt c_b c_o), (Pt c_b c_o), (Pt c_b (c_o + 7)), (Iv A_c.width), (Fl (FloatKind.f32.nearest A_c.width)), (Pt c_b c_o), (Pt c_b c_o), (Pt c_b (c_o + 8)), (Iv A_c.height), (Fl (FloatKind.f32.nearest A_c.height)), (Iv x), (Fl (FloatKind.f32.nearest x)), (Fl r91), (Fl (FloatKind.f32.nearest A_c.width)), (Fl r96), (Fl r101), (Fl r106), (Fl r106), (Pt c_b c_o), (Pt c_b c_o), (Pt c_b (c_o + 6)), (Fl r13), (Fl r112), (Fl (FloatKind.f32.nearest A_c.width)), (Fl (FloatKind.f32.nearest A_c.height)), (Fl r117), (Fl r122), (Iv y), (Fl (FloatKind.f32.nearest y)), (Fl r128), (Fl (FloatKind.f32.nearest A_c.height)), (Fl r133), (Fl r138), (Fl r143), (Fl r143), (Pt c_b c_o), (Pt c_b c_o), (Pt c_b (c_o + 6)), (Fl r13), (Fl r149), Ud, Ud, Ud, Ud, Ud, Ud, Ud, Ud, Ud, Ud, Ud, Ud, Ud, Ud, Ud]) _
  refine q_is (l' := [(Pt c_b c_o), (Iv x), (Iv y), Ud, Ud, Ud, (Pt b16 0), (Pt b46 0), (Pt b55 0), (Pt b65 0), (Fl (FloatKind.f32.nearest A_c.width)), (Fl (FloatKind.f32.nearest A_c.height)), (Fl r122), (Fl r149), Ud, (.tuple #[(.agg #[(Fl r27), (Fl r29), (Fl r31)]), (.agg #[(Fl r33), (Fl r35), (Fl r37)]), (.agg #[(Fl r39), (Fl r41), (Fl r43)])]), (Pt c_b c_o), (.tuple #[(.agg #[(Fl r27), (Fl r29), (Fl r31)]), (.agg #[(Fl r33), (Fl r35), (Fl r37)]), (.agg #[(Fl r39), (Fl r41), (Fl r43)])]), (.agg #[(Fl r27), (Fl r29), (Fl r31)]), (.agg #[(Fl r33), (Fl r35), (Fl r37)]), (.agg #[(Fl r39), (Fl r41), (Fl r43)]), (Pt c_b c_o), (Pt c_b c_o), (Pt c_b (c_o + 7)), (Iv A_c.width), (Fl (FloatKind.f32.nearest A_c.width)), (Pt c_b c_o), (Pt c_b c_o), (Pt c_b (c_o + 8)), (Iv A_c.height), (Fl (FloatKind.f32.nearest A_c.height)), (Iv x), (Fl (FloatKind.f32.nearest x)), (Fl r91), (Fl (FloatKind.f32.nearest A_c.width)), (Fl r96), (Fl r101), (Fl r106), (Fl r106), (Pt c_b c_o), (Pt c_b c_o), (Pt c_b (c_o + 6)), (Fl r13), (Fl r112), (Fl (FloatKind.f32.nearest A_c.width)), (Fl (FloatKind.f32.nearest A_c.height)), (Fl r117), (Fl r122), (Iv y), (Fl (FloatKind.f32.nearest y)), (Fl r128), (Fl (FloatKind.f32.nearest A_c.height)), (Fl r133), (Fl r138), (Fl r143), (Fl r143), (Pt c_b c_o), (Pt c_b c_o), (Pt c_b (c_o + 6)), (Fl r13), (Fl r149), Ud, Ud, Ud, Ud, Ud, Ud, Ud, Ud, Ud, Ud, Ud, Ud, Ud, Ud, Ud]) rfl rfl (does_assign (u := (Fl r149)) (ev rfl)) rfl ?_
  refine wpList_nil (hK148 _ _ ?_)
  refine wp_seq_k fun K154 hK154 => ?_
  refine region_draw (
    [Fact.pure [] (fun v => v = (.agg #[(Fl r39), (Fl r41), (Fl r43)])),
    Fact.pure [] (fun v => v = (.agg #[(Fl r27), (Fl r29), (Fl r31)])),
    Fact.pure [] (fun v => v = (Fl r122)),
    Fact.pure [62, 63] (fun v => ∃ cs_1 : List Value, v = (.agg cs_1.toArray) ∧ RV3 w (vscale (rgtC A_c) (cf .f32 r122)) cs_1),
    Fact.pure [61, 64] (fun v => ∃ cs_1 : List Value, v = (.agg cs_1.toArray) ∧ RV3 w (vadd (fwdC A_c) (vscale (rgtC A_c) (cf .f32 r122))) cs_1),
    Fact.pure [] (fun v => v = (.agg #[(Fl r33), (Fl r35), (Fl r37)])),
    Fact.pure [] (fun v => v = (Fl r149)),
    Fact.pure [66, 67] (fun v => ∃ cs_1 : List Value, v = (.agg cs_1.toArray) ∧ RV3 w (vscale (upC A_c) (cf .f32 r149)) cs_1),
    Fact.pure [65, 68] (fun v => ∃ cs_1 : List Value, v = (.agg cs_1.toArray) ∧ RV3 w (vadd (vadd (fwdC A_c) (vscale (rgtC A_c) (cf .f32 r122))) (vscale (upC A_c) (cf .f32 r149))) cs_1),
    Fact.mem [] (fun v w' => ∃ b : Nat, v = .pointer (some ⟨b, 0, none⟩) ∧ w152.heap.size ≤ b ∧ Blk w' b [(Fl 0), (Fl 0), (Fl 0)]) (by rintro v w1 w2 hx ⟨b, rfl, hb, hB⟩; exact ⟨b, rfl, hb, (hB.ext hx)⟩)]) mixed (by kernel_rfl) (by intro _ _ d _ _ h; cases d <;> exact h) ?_
  obtain ⟨w155, hw157⟩ : ∃ w', w' = World.drew w152 := ⟨_, rfl⟩; rw [← hw157]; have E156 : Ext w152 w155 := by rw [hw157]; exact Ext.draw _
  clear hw157
  have X158 := Ext.gr X153 E156
  refine RW_d (fun v159 => [(Pt c_b c_o), (Iv x), (Iv y), Ud, Ud, Ud, (Pt b16 0), (Pt b46 0), (Pt b55 0), (Pt b65 0), (Fl (FloatKind.f32.nearest A_c.width)), (Fl (FloatKind.f32.nearest A_c.height)), (Fl r122), (Fl r149), Ud, (.tuple #[(.agg #[(Fl r27), (Fl r29), (Fl r31)]), (.agg #[(Fl r33), (Fl r35), (Fl r37)]), (.agg #[(Fl r39), (Fl r41), (Fl r43)])]), (Pt c_b c_o), (.tuple #[(.agg #[(Fl r27), (Fl r29), (Fl r31)]), (.agg #[(Fl r33), (Fl r35), (Fl r37)]), (.agg #[(Fl r39), (Fl r41), (Fl r43)])]), (.agg #[(Fl r27), (Fl r29), (Fl r31)]), (.agg #[(Fl r33), (Fl r35), (Fl r37)]), (.agg #[(Fl r39), (Fl r41), (Fl r43)]), (Pt c_b c_o), (Pt c_b c_o), (Pt c_b (c_o + 7)), (Iv A_c.width), (Fl (FloatKind.f32.nearest A_c.width)), (Pt c_b c_o), (Pt c_b c_o), (Pt c_b (c_o + 8)), (Iv A_c.height), (Fl (FloatKind.f32.nearest A_c.height)), (Iv x), (Fl (FloatKind.f32.nearest x)), (Fl r91), (Fl (FloatKind.f32.nearest A_c.width)), (Fl r96), (Fl r101), (Fl r106), (Fl r106), (Pt c_b c_o), (Pt c_b c_o), (Pt c_b (c_o + 6)), (Fl r13), (Fl r112), (Fl (FloatKind.f32.nearest A_c.width)), (Fl (FloatKind.f32.nearest A_c.height)), (Fl r117), (Fl r122), (Iv y), (Fl (FloatKind.f32.nearest y)), (Fl r128), (Fl (FloatKind.f32.nearest A_c.height)), (Fl r133), (Fl r138), (Fl r143), (Fl r143), (Pt c_b c_o), (Pt c_b c_o), (Pt c_b (c_o + 6)), (Fl r13), (Fl r149), v159, Ud, Ud, Ud, Ud, Ud, Ud, Ud, Ud, Ud, Ud, Ud, Ud, Ud, Ud]) rfl (fun _ => rfl) (fun u hu hF => ?_) (fun v159 => ?_)
  · clear hF
    refine doesG_un rfl ?_
    refine (does_loadAgg (cs := [(Fl r39), (Fl r41), (Fl r43)]) (ev rfl) Try.isAgg26 Try.sizeOf26 (Blk.cells ((((((((((((((hB85.ext E93).ext E98).ext E103).ext E108).ext E114).ext E119).ext E124).ext E130).ext E135).ext E140).ext E145).ext E151).ext E156).ext hu)) rfl).mono ?_; rintro _ _ ⟨rfl, rfl⟩
    exact ⟨rfl, Ext.refl _⟩
  refine RW_d (fun v160 => [(Pt c_b c_o), (Iv x), (Iv y), Ud, Ud, Ud, (Pt b16 0), (Pt b46 0), (Pt b55 0), (Pt b65 0), (Fl (FloatKind.f32.nearest A_c.width)), (Fl (FloatKind.f32.nearest A_c.height)), (Fl r122), (Fl r149), Ud, (.tuple #[(.agg #[(Fl r27), (Fl r29), (Fl r31)]), (.agg #[(Fl r33), (Fl r35), (Fl r37)]), (.agg #[(Fl r39), (Fl r41), (Fl r43)])]), (Pt c_b c_o), (.tuple #[(.agg #[(Fl r27), (Fl r29), (Fl r31)]), (.agg #[(Fl r33), (Fl r35), (Fl r37)]), (.agg #[(Fl r39), (Fl r41), (Fl r43)])]), (.agg #[(Fl r27), (Fl r29), (Fl r31)]), (.agg #[(Fl r33), (Fl r35), (Fl r37)]), (.agg #[(Fl r39), (Fl r41), (Fl r43)]), (Pt c_b c_o), (Pt c_b c_o), (Pt c_b (c_o + 7)), (Iv A_c.width), (Fl (FloatKind.f32.nearest A_c.width)), (Pt c_b c_o), (Pt c_b c_o), (Pt c_b (c_o + 8)), (Iv A_c.height), (Fl (FloatKind.f32.nearest A_c.height)), (Iv x), (Fl (FloatKind.f32.nearest x)), (Fl r91), (Fl (FloatKind.f32.nearest A_c.width)), (Fl r96), (Fl r101), (Fl r106), (Fl r106), (Pt c_b c_o), (Pt c_b c_o), (Pt c_b (c_o + 6)), (Fl r13), (Fl r112), (Fl (FloatKind.f32.nearest A_c.width)), (Fl (FloatKind.f32.nearest A_c.height)), (Fl r117), (Fl r122), (Iv y), (Fl (FloatKind.f32.nearest y)), (Fl r128), (Fl (FloatKind.f32.nearest A_c.height)), (Fl r133), (Fl r138), (Fl r143), (Fl r143), (Pt c_b c_o), (Pt c_b c_o), (Pt c_b (c_o + 6)), (Fl r13), (Fl r149), v159, v160, Ud, Ud, Ud, Ud, Ud, Ud, Ud, Ud, Ud, Ud, Ud, Ud, Ud]) rfl (fun _ => rfl) (fun u hu hF => ?_) (fun v160 => ?_)
  · clear hF
    refine doesG_un rfl ?_
    refine (does_loadAgg (cs := [(Fl r27), (Fl r29), (Fl r31)]) (ev rfl) Try.isAgg26 Try.sizeOf26 (Blk.cells ((((((((((((((((hB77.wr W80 (Nat.ne_of_lt n62)).wr W84 (Nat.ne_of_lt n72)).ext E93).ext E98).ext E103).ext E108).ext E114).ext E119).ext E124).ext E130).ext E135).ext E140).ext E145).ext E151).ext E156).ext hu)) rfl).mono ?_; rintro _ _ ⟨rfl, rfl⟩
    exact ⟨rfl, Ext.refl _⟩
  refine RW_d (fun v161 => [(Pt c_b c_o), (Iv x), (Iv y), Ud, Ud, Ud, (Pt b16 0), (Pt b46 0), (Pt b55 0), (Pt b65 0), (Fl (FloatKind.f32.nearest A_c.width)), (Fl (FloatKind.f32.nearest A_c.height)), (Fl r122), (Fl r149), Ud, (.tuple #[(.agg #[(Fl r27), (Fl r29), (Fl r31)]), (.agg #[(Fl r33), (Fl r35), (Fl r37)]), (.agg #[(Fl r39), (Fl r41), (Fl r43)])]), (Pt c_b c_o), (.tuple #[(.agg #[(Fl r27), (Fl r29), (Fl r31)]), (.agg #[(Fl r33), (Fl r35), (Fl r37)]), (.agg #[(Fl r39), (Fl r41), (Fl r43)])]), (.agg #[(Fl r27), (Fl r29), (Fl r31)]), (.agg #[(Fl r33), (Fl r35), (Fl r37)]), (.agg #[(Fl r39), (Fl r41), (Fl r43)]), (Pt c_b c_o), (Pt c_b c_o), (Pt c_b (c_o + 7)), (Iv A_c.width), (Fl (FloatKind.f32.nearest A_c.width)), (Pt c_b c_o), (Pt c_b c_o), (Pt c_b (c_o + 8)), (Iv A_c.height), (Fl (FloatKind.f32.nearest A_c.height)), (Iv x), (Fl (FloatKind.f32.nearest x)), (Fl r91), (Fl (FloatKind.f32.nearest A_c.width)), (Fl r96), (Fl r101), (Fl r106), (Fl r106), (Pt c_b c_o), (Pt c_b c_o), (Pt c_b (c_o + 6)), (Fl r13), (Fl r112), (Fl (FloatKind.f32.nearest A_c.width)), (Fl (FloatKind.f32.nearest A_c.height)), (Fl r117), (Fl r122), (Iv y), (Fl (FloatKind.f32.nearest y)), (Fl r128), (Fl (FloatKind.f32.nearest A_c.height)), (Fl r133), (Fl r138), (Fl r143), (Fl r143), (Pt c_b c_o), (Pt c_b c_o), (Pt c_b (c_o + 6)), (Fl r13), (Fl r149), v159, v160, v161, Ud, Ud, Ud, Ud, Ud, Ud, Ud, Ud, Ud, Ud, Ud, Ud]) rfl (fun _ => rfl) (fun u hu hF => ?_) (fun v161 => ?_)
  · clear hF
    refine doesG_un rfl ?_
    refine (does_move (u := (Fl r122)) (ev rfl)).mono ?_; rintro _ _ ⟨rfl, rfl⟩
    exact ⟨rfl, Ext.refl _⟩
  refine RW_d (fun v162 => [(Pt c_b c_o), (Iv x), (Iv y), Ud, Ud, Ud, (Pt b16 0), (Pt b46 0), (Pt b55 0), (Pt b65 0), (Fl (FloatKind.f32.nearest A_c.width)), (Fl (FloatKind.f32.nearest A_c.height)), (Fl r122), (Fl r149), Ud, (.tuple #[(.agg #[(Fl r27), (Fl r29), (Fl r31)]), (.agg #[(Fl r33), (Fl r35), (Fl r37)]), (.agg #[(Fl r39), (Fl r41), (Fl r43)])]), (Pt c_b c_o), (.tuple #[(.agg #[(Fl r27), (Fl r29), (Fl r31)]), (.agg #[(Fl r33), (Fl r35), (Fl r37)]), (.agg #[(Fl r39), (Fl r41), (Fl r43)])]), (.agg #[(Fl r27), (Fl r29), (Fl r31)]), (.agg #[(Fl r33), (Fl r35), (Fl r37)]), (.agg #[(Fl r39), (Fl r41), (Fl r43)]), (Pt c_b c_o), (Pt c_b c_o), (Pt c_b (c_o + 7)), (Iv A_c.width), (Fl (FloatKind.f32.nearest A_c.width)), (Pt c_b c_o), (Pt c_b c_o), (Pt c_b (c_o + 8)), (Iv A_c.height), (Fl (FloatKind.f32.nearest A_c.height)), (Iv x), (Fl (FloatKind.f32.nearest x)), (Fl r91), (Fl (FloatKind.f32.nearest A_c.width)), (Fl r96), (Fl r101), (Fl r106), (Fl r106), (Pt c_b c_o), (Pt c_b c_o), (Pt c_b (c_o + 6)), (Fl r13), (Fl r112), (Fl (FloatKind.f32.nearest A_c.width)), (Fl (FloatKind.f32.nearest A_c.height)), (Fl r117), (Fl r122), (Iv y), (Fl (FloatKind.f32.nearest y)), (Fl r128), (Fl (FloatKind.f32.nearest A_c.height)), (Fl r133), (Fl r138), (Fl r143), (Fl r143), (Pt c_b c_o), (Pt c_b c_o), (Pt c_b (c_o + 6)), (Fl r13), (Fl r149), v159, v160, v161, v162, Ud, Ud, Ud, Ud, Ud, Ud, Ud, Ud, Ud, Ud, Ud]) rfl (fun _ => rfl) (fun u hu hF => ?_) (fun v162 => ?_)
  · have h62_ : v160 = (.agg #[(Fl r27), (Fl r29), (Fl r31)]) := hF.1
    have h63_ : v161 = (Fl r122) := hF.2.1
    clear hF
    refine doesG_un rfl ?_
    obtain rfl := h62_
    obtain rfl := h63_
    refine (does_call (args := #[(.agg #[(Fl r27), (Fl r29), (Fl r31)]), (Fl r122)]) cal86 (evs rfl) (c_spec_l01Scale [(Fl r27), (Fl r29), (Fl r31)] (rgtC A_c) r122 _ ⟨r27, r29, r31, rfl, h28, h30, h32⟩)).mono ?_; rintro v u' ⟨hx, ⟨csn1, hv, k0⟩⟩
    exact ⟨⟨csn1, hv, k0⟩, hx⟩
  refine RW_d (fun v163 => [(Pt c_b c_o), (Iv x), (Iv y), Ud, Ud, Ud, (Pt b16 0), (Pt b46 0), (Pt b55 0), (Pt b65 0), (Fl (FloatKind.f32.nearest A_c.width)), (Fl (FloatKind.f32.nearest A_c.height)), (Fl r122), (Fl r149), Ud, (.tuple #[(.agg #[(Fl r27), (Fl r29), (Fl r31)]), (.agg #[(Fl r33), (Fl r35), (Fl r37)]), (.agg #[(Fl r39), (Fl r41), (Fl r43)])]), (Pt c_b c_o), (.tuple #[(.agg #[(Fl r27), (Fl r29), (Fl r31)]), (.agg #[(Fl r33), (Fl r35), (Fl r37)]), (.agg #[(Fl r39), (Fl r41), (Fl r43)])]), (.agg #[(Fl r27), (Fl r29), (Fl r31)]), (.agg #[(Fl r33), (Fl r35), (Fl r37)]), (.agg #[(Fl r39), (Fl r41), (Fl r43)]), (Pt c_b c_o), (Pt c_b c_o), (Pt c_b (c_o + 7)), (Iv A_c.width), (Fl (FloatKind.f32.nearest A_c.width)), (Pt c_b c_o), (Pt c_b c_o), (Pt c_b (c_o + 8)), (Iv A_c.height), (Fl (FloatKind.f32.nearest A_c.height)), (Iv x), (Fl (FloatKind.f32.nearest x)), (Fl r91), (Fl (FloatKind.f32.nearest A_c.width)), (Fl r96), (Fl r101), (Fl r106), (Fl r106), (Pt c_b c_o), (Pt c_b c_o), (Pt c_b (c_o + 6)), (Fl r13), (Fl r112), (Fl (FloatKind.f32.nearest A_c.width)), (Fl (FloatKind.f32.nearest A_c.height)), (Fl r117), (Fl r122), (Iv y), (Fl (FloatKind.f32.nearest y)), (Fl r128), (Fl (FloatKind.f32.nearest A_c.height)), (Fl r133), (Fl r138), (Fl r143), (Fl r143), (Pt c_b c_o), (Pt c_b c_o), (Pt c_b (c_o + 6)), (Fl r13), (Fl r149), v159, v160, v161, v162, v163, Ud, Ud, Ud, Ud, Ud, Ud, Ud, Ud, Ud, Ud]) rfl (fun _ => rfl) (fun u hu hF => ?_) (fun v163 => ?_)
  · have h61_ : v159 = (.agg #[(Fl r39), (Fl r41), (Fl r43)]) := hF.1
    have h64_ : ∃ cs_1 : List Value, v162 = (.agg cs_1.toArray) ∧ RV3 w (vscale (rgtC A_c) (cf .f32 r122)) cs_1 := hF.2.1
    clear hF
    refine doesG_un rfl ?_
    obtain rfl := h61_
    obtain ⟨_, rfl, ⟨r64_1, r64_3, r64_5, rfl, h64_2, h64_4, h64_6⟩⟩ := h64_
    refine (does_call (args := #[(.agg #[(Fl r39), (Fl r41), (Fl r43)]), (.agg #[(Fl r64_1), (Fl r64_3), (Fl r64_5)])]) cal87 (evs rfl) (c_spec_l01Add [(Fl r39), (Fl r41), (Fl r43)] (fwdC A_c) [(Fl r64_1), (Fl r64_3), (Fl r64_5)] (vscale (rgtC A_c) (cf .f32 r122)) _ ⟨r39, r41, r43, rfl, h40, h42, h44⟩ ⟨r64_1, r64_3, r64_5, rfl, (by assumption), (by assumption), (by assumption)⟩)).mono ?_; rintro v u' ⟨hx, ⟨csn1, hv, k0⟩⟩
    exact ⟨⟨csn1, hv.trans (by simp only [h64_2, h64_4, h64_6]), (by first | exact k0 | simpa only [h64_2, h64_4, h64_6] using RV3.any (w := w) k0)⟩, hx⟩
  refine RW_d (fun v164 => [(Pt c_b c_o), (Iv x), (Iv y), Ud, Ud, Ud, (Pt b16 0), (Pt b46 0), (Pt b55 0), (Pt b65 0), (Fl (FloatKind.f32.nearest A_c.width)), (Fl (FloatKind.f32.nearest A_c.height)), (Fl r122), (Fl r149), Ud, (.tuple #[(.agg #[(Fl r27), (Fl r29), (Fl r31)]), (.agg #[(Fl r33), (Fl r35), (Fl r37)]), (.agg #[(Fl r39), (Fl r41), (Fl r43)])]), (Pt c_b c_o), (.tuple #[(.agg #[(Fl r27), (Fl r29), (Fl r31)]), (.agg #[(Fl r33), (Fl r35), (Fl r37)]), (.agg #[(Fl r39), (Fl r41), (Fl r43)])]), (.agg #[(Fl r27), (Fl r29), (Fl r31)]), (.agg #[(Fl r33), (Fl r35), (Fl r37)]), (.agg #[(Fl r39), (Fl r41), (Fl r43)]), (Pt c_b c_o), (Pt c_b c_o), (Pt c_b (c_o + 7)), (Iv A_c.width), (Fl (FloatKind.f32.nearest A_c.width)), (Pt c_b c_o), (Pt c_b c_o), (Pt c_b (c_o + 8)), (Iv A_c.height), (Fl (FloatKind.f32.nearest A_c.height)), (Iv x), (Fl (FloatKind.f32.nearest x)), (Fl r91), (Fl (FloatKind.f32.nearest A_c.width)), (Fl r96), (Fl r101), (Fl r106), (Fl r106), (Pt c_b c_o), (Pt c_b c_o), (Pt c_b (c_o + 6)), (Fl r13), (Fl r112), (Fl (FloatKind.f32.nearest A_c.width)), (Fl (FloatKind.f32.nearest A_c.height)), (Fl r117), (Fl r122), (Iv y), (Fl (FloatKind.f32.nearest y)), (Fl r128), (Fl (FloatKind.f32.nearest A_c.height)), (Fl r133), (Fl r138), (Fl r143), (Fl r143), (Pt c_b c_o), (Pt c_b c_o), (Pt c_b (c_o + 6)), (Fl r13), (Fl r149), v159, v160, v161, v162, v163, v164, Ud, Ud, Ud, Ud, Ud, Ud, Ud, Ud, Ud]) rfl (fun _ => rfl) (fun u hu hF => ?_) (fun v164 => ?_)
  · clear hF
    refine doesG_un rfl ?_
    refine (does_loadAgg (cs := [(Fl r33), (Fl r35), (Fl r37)]) (ev rfl) Try.isAgg26 Try.sizeOf26 (Blk.cells (((((((((((((((hB81.wr W84 (Nat.ne_of_lt n73)).ext E93).ext E98).ext E103).ext E108).ext E114).ext E119).ext E124).ext E130).ext E135).ext E140).ext E145).ext E151).ext E156).ext hu)) rfl).mono ?_; rintro _ _ ⟨rfl, rfl⟩
    exact ⟨rfl, Ext.refl _⟩
  refine RW_d (fun v165 => [(Pt c_b c_o), (Iv x), (Iv y), Ud, Ud, Ud, (Pt b16 0), (Pt b46 0), (Pt b55 0), (Pt b65 0), (Fl (FloatKind.f32.nearest A_c.width)), (Fl (FloatKind.f32.nearest A_c.height)), (Fl r122), (Fl r149), Ud, (.tuple #[(.agg #[(Fl r27), (Fl r29), (Fl r31)]), (.agg #[(Fl r33), (Fl r35), (Fl r37)]), (.agg #[(Fl r39), (Fl r41), (Fl r43)])]), (Pt c_b c_o), (.tuple #[(.agg #[(Fl r27), (Fl r29), (Fl r31)]), (.agg #[(Fl r33), (Fl r35), (Fl r37)]), (.agg #[(Fl r39), (Fl r41), (Fl r43)])]), (.agg #[(Fl r27), (Fl r29), (Fl r31)]), (.agg #[(Fl r33), (Fl r35), (Fl r37)]), (.agg #[(Fl r39), (Fl r41), (Fl r43)]), (Pt c_b c_o), (Pt c_b c_o), (Pt c_b (c_o + 7)), (Iv A_c.width), (Fl (FloatKind.f32.nearest A_c.width)), (Pt c_b c_o), (Pt c_b c_o), (Pt c_b (c_o + 8)), (Iv A_c.height), (Fl (FloatKind.f32.nearest A_c.height)), (Iv x), (Fl (FloatKind.f32.nearest x)), (Fl r91), (Fl (FloatKind.f32.nearest A_c.width)), (Fl r96), (Fl r101), (Fl r106), (Fl r106), (Pt c_b c_o), (Pt c_b c_o), (Pt c_b (c_o + 6)), (Fl r13), (Fl r112), (Fl (FloatKind.f32.nearest A_c.width)), (Fl (FloatKind.f32.nearest A_c.height)), (Fl r117), (Fl r122), (Iv y), (Fl (FloatKind.f32.nearest y)), (Fl r128), (Fl (FloatKind.f32.nearest A_c.height)), (Fl r133), (Fl r138), (Fl r143), (Fl r143), (Pt c_b c_o), (Pt c_b c_o), (Pt c_b (c_o + 6)), (Fl r13), (Fl r149), v159, v160, v161, v162, v163, v164, v165, Ud, Ud, Ud, Ud, Ud, Ud, Ud, Ud]) rfl (fun _ => rfl) (fun u hu hF => ?_) (fun v165 => ?_)
  · clear hF
    refine doesG_un rfl ?_
    refine (does_move (u := (Fl r149)) (ev rfl)).mono ?_; rintro _ _ ⟨rfl, rfl⟩
    exact ⟨rfl, Ext.refl _⟩
  refine RW_d (fun v166 => [(Pt c_b c_o), (Iv x), (Iv y), Ud, Ud, Ud, (Pt b16 0), (Pt b46 0), (Pt b55 0), (Pt b65 0), (Fl (FloatKind.f32.nearest A_c.width)), (Fl (FloatKind.f32.nearest A_c.height)), (Fl r122), (Fl r149), Ud, (.tuple #[(.agg #[(Fl r27), (Fl r29), (Fl r31)]), (.agg #[(Fl r33), (Fl r35), (Fl r37)]), (.agg #[(Fl r39), (Fl r41), (Fl r43)])]), (Pt c_b c_o), (.tuple #[(.agg #[(Fl r27), (Fl r29), (Fl r31)]), (.agg #[(Fl r33), (Fl r35), (Fl r37)]), (.agg #[(Fl r39), (Fl r41), (Fl r43)])]), (.agg #[(Fl r27), (Fl r29), (Fl r31)]), (.agg #[(Fl r33), (Fl r35), (Fl r37)]), (.agg #[(Fl r39), (Fl r41), (Fl r43)]), (Pt c_b c_o), (Pt c_b c_o), (Pt c_b (c_o + 7)), (Iv A_c.width), (Fl (FloatKind.f32.nearest A_c.width)), (Pt c_b c_o), (Pt c_b c_o), (Pt c_b (c_o + 8)), (Iv A_c.height), (Fl (FloatKind.f32.nearest A_c.height)), (Iv x), (Fl (FloatKind.f32.nearest x)), (Fl r91), (Fl (FloatKind.f32.nearest A_c.width)), (Fl r96), (Fl r101), (Fl r106), (Fl r106), (Pt c_b c_o), (Pt c_b c_o), (Pt c_b (c_o + 6)), (Fl r13), (Fl r112), (Fl (FloatKind.f32.nearest A_c.width)), (Fl (FloatKind.f32.nearest A_c.height)), (Fl r117), (Fl r122), (Iv y), (Fl (FloatKind.f32.nearest y)), (Fl r128), (Fl (FloatKind.f32.nearest A_c.height)), (Fl r133), (Fl r138), (Fl r143), (Fl r143), (Pt c_b c_o), (Pt c_b c_o), (Pt c_b (c_o + 6)), (Fl r13), (Fl r149), v159, v160, v161, v162, v163, v164, v165, v166, Ud, Ud, Ud, Ud, Ud, Ud, Ud]) rfl (fun _ => rfl) (fun u hu hF => ?_) (fun v166 => ?_)
  · have h66_ : v164 = (.agg #[(Fl r33), (Fl r35), (Fl r37)]) := hF.1
    have h67_ : v165 = (Fl r149) := hF.2.1
    clear hF
    refine doesG_un rfl ?_
    obtain rfl := h66_
    obtain rfl := h67_
    refine (does_call (args := #[(.agg #[(Fl r33), (Fl r35), (Fl r37)]), (Fl r149)]) cal86 (evs rfl) (c_spec_l01Scale [(Fl r33), (Fl r35), (Fl r37)] (upC A_c) r149 _ ⟨r33, r35, r37, rfl, h34, h36, h38⟩)).mono ?_; rintro v u' ⟨hx, ⟨csn1, hv, k0⟩⟩
    exact ⟨⟨csn1, hv, k0⟩, hx⟩
  refine RW_d (fun v167 => [(Pt c_b c_o), (Iv x), (Iv y), Ud, Ud, Ud, (Pt b16 0), (Pt b46 0), (Pt b55 0), (Pt b65 0), (Fl (FloatKind.f32.nearest A_c.width)), (Fl (FloatKind.f32.nearest A_c.height)), (Fl r122), (Fl r149), Ud, (.tuple #[(.agg #[(Fl r27), (Fl r29), (Fl r31)]), (.agg #[(Fl r33), (Fl r35), (Fl r37)]), (.agg #[(Fl r39), (Fl r41), (Fl r43)])]), (Pt c_b c_o), (.tuple #[(.agg #[(Fl r27), (Fl r29), (Fl r31)]), (.agg #[(Fl r33), (Fl r35), (Fl r37)]), (.agg #[(Fl r39), (Fl r41), (Fl r43)])]), (.agg #[(Fl r27), (Fl r29), (Fl r31)]), (.agg #[(Fl r33), (Fl r35), (Fl r37)]), (.agg #[(Fl r39), (Fl r41), (Fl r43)]), (Pt c_b c_o), (Pt c_b c_o), (Pt c_b (c_o + 7)), (Iv A_c.width), (Fl (FloatKind.f32.nearest A_c.width)), (Pt c_b c_o), (Pt c_b c_o), (Pt c_b (c_o + 8)), (Iv A_c.height), (Fl (FloatKind.f32.nearest A_c.height)), (Iv x), (Fl (FloatKind.f32.nearest x)), (Fl r91), (Fl (FloatKind.f32.nearest A_c.width)), (Fl r96), (Fl r101), (Fl r106), (Fl r106), (Pt c_b c_o), (Pt c_b c_o), (Pt c_b (c_o + 6)), (Fl r13), (Fl r112), (Fl (FloatKind.f32.nearest A_c.width)), (Fl (FloatKind.f32.nearest A_c.height)), (Fl r117), (Fl r122), (Iv y), (Fl (FloatKind.f32.nearest y)), (Fl r128), (Fl (FloatKind.f32.nearest A_c.height)), (Fl r133), (Fl r138), (Fl r143), (Fl r143), (Pt c_b c_o), (Pt c_b c_o), (Pt c_b (c_o + 6)), (Fl r13), (Fl r149), v159, v160, v161, v162, v163, v164, v165, v166, v167, Ud, Ud, Ud, Ud, Ud, Ud]) rfl (fun _ => rfl) (fun u hu hF => ?_) (fun v167 => ?_)
  · have h65_ : ∃ cs_1 : List Value, v163 = (.agg cs_1.toArray) ∧ RV3 w (vadd (fwdC A_c) (vscale (rgtC A_c) (cf .f32 r122))) cs_1 := hF.1
    have h68_ : ∃ cs_1 : List Value, v166 = (.agg cs_1.toArray) ∧ RV3 w (vscale (upC A_c) (cf .f32 r149)) cs_1 := hF.2.1
    clear hF
    refine doesG_un rfl ?_
    obtain ⟨_, rfl, ⟨r65_1, r65_3, r65_5, rfl, h65_2, h65_4, h65_6⟩⟩ := h65_
    obtain ⟨_, rfl, ⟨r68_1, r68_3, r68_5, rfl, h68_2, h68_4, h68_6⟩⟩ := h68_
    refine (does_call (args := #[(.agg #[(Fl r65_1), (Fl r65_3), (Fl r65_5)]), (.agg #[(Fl r68_1), (Fl r68_3), (Fl r68_5)])]) cal87 (evs rfl) (c_spec_l01Add [(Fl r65_1), (Fl r65_3), (Fl r65_5)] (vadd (fwdC A_c) (vscale (rgtC A_c) (cf .f32 r122))) [(Fl r68_1), (Fl r68_3), (Fl r68_5)] (vscale (upC A_c) (cf .f32 r149)) _ ⟨r65_1, r65_3, r65_5, rfl, (by assumption), (by assumption), (by assumption)⟩ ⟨r68_1, r68_3, r68_5, rfl, (by assumption), (by assumption), (by assumption)⟩)).mono ?_; rintro v u' ⟨hx, ⟨csn1, hv, k0⟩⟩
    exact ⟨⟨csn1, hv.trans (by simp only [h65_2, h65_4, h65_6, h68_2, h68_4, h68_6]), (by first | exact k0 | simpa only [h65_2, h65_4, h65_6, h68_2, h68_4, h68_6] using RV3.any (w := w) k0)⟩, hx⟩
  refine RW_d (fun v168 => [(Pt c_b c_o), (Iv x), (Iv y), Ud, Ud, Ud, (Pt b16 0), (Pt b46 0), (Pt b55 0), (Pt b65 0), (Fl (FloatKind.f32.nearest A_c.width)), (Fl (FloatKind.f32.nearest A_c.height)), (Fl r122), (Fl r149), v168, (.tuple #[(.agg #[(Fl r27), (Fl r29), (Fl r31)]), (.agg #[(Fl r33), (Fl r35), (Fl r37)]), (.agg #[(Fl r39), (Fl r41), (Fl r43)])]), (Pt c_b c_o), (.tuple #[(.agg #[(Fl r27), (Fl r29), (Fl r31)]), (.agg #[(Fl r33), (Fl r35), (Fl r37)]), (.agg #[(Fl r39), (Fl r41), (Fl r43)])]), (.agg #[(Fl r27), (Fl r29), (Fl r31)]), (.agg #[(Fl r33), (Fl r35), (Fl r37)]), (.agg #[(Fl r39), (Fl r41), (Fl r43)]), (Pt c_b c_o), (Pt c_b c_o), (Pt c_b (c_o + 7)), (Iv A_c.width), (Fl (FloatKind.f32.nearest A_c.width)), (Pt c_b c_o), (Pt c_b c_o), (Pt c_b (c_o + 8)), (Iv A_c.height), (Fl (FloatKind.f32.nearest A_c.height)), (Iv x), (Fl (FloatKind.f32.nearest x)), (Fl r91), (Fl (FloatKind.f32.nearest A_c.width)), (Fl r96), (Fl r101), (Fl r106), (Fl r106), (Pt c_b c_o), (Pt c_b c_o), (Pt c_b (c_o + 6)), (Fl r13), (Fl r112), (Fl (FloatKind.f32.nearest A_c.width)), (Fl (FloatKind.f32.nearest A_c.height)), (Fl r117), (Fl r122), (Iv y), (Fl (FloatKind.f32.nearest y)), (Fl r128), (Fl (FloatKind.f32.nearest A_c.height)), (Fl r133), (Fl r138), (Fl r143), (Fl r143), (Pt c_b c_o), (Pt c_b c_o), (Pt c_b (c_o + 6)), (Fl r13), (Fl r149), v159, v160, v161, v162, v163, v164, v165, v166, v167, Ud, Ud, Ud, Ud, Ud, Ud]) rfl (fun _ => rfl) (fun u hu hF => ?_) (fun v168 => ?_)
  · clear hF
    refine doesG_un rfl ?_
    refine (does_alloc z26).mono ?_; rintro _ _ ⟨b, rfl, hb, hB, hx⟩
    exact ⟨⟨b, rfl, Nat.le_trans (Nat.le_trans (Below.size E156) (Below.size hu)) hb, hB⟩, hx⟩
  refine RW_fin ?_; intro w169 E170 hP171
  obtain ⟨⟨⟨⟨⟨⟨⟨⟨⟨⟨-, -⟩, -⟩, -⟩, -⟩, -⟩, -⟩, -⟩, -⟩, q172⟩, q173⟩ := hP171
  have X174 := Ext.gr X158 E170
  have q172 : ∃ cs_1 : List Value, v167 = (.agg cs_1.toArray) ∧ RV3 w (vadd (vadd (fwdC A_c) (vscale (rgtC A_c) (cf .f32 r122))) (vscale (upC A_c) (cf .f32 r149))) cs_1 := q172
  obtain ⟨_, rfl, ⟨r175, r177, r179, rfl, h176, h178, h180⟩⟩ := q172
  have q173 : ∃ b : Nat, v168 = .pointer (some ⟨b, 0, none⟩) ∧ w152.heap.size ≤ b ∧ Blk w169 b [(Fl 0), (Fl 0), (Fl 0)] := q173
  obtain ⟨b181, rfl, hb182, hB183⟩ := q173
  have n184 : c_b < b181 := Nat.lt_of_lt_of_le (cell_lt (Cells.at (hc_c.ext X153) 0 rfl)) hb182
  have n185 : b16 < b181 := Nat.lt_of_lt_of_le (Blk.lt (((((((((((((((((((hB18.ext E25).ext E49).ext E58).ext E68).wr W76 (Nat.ne_of_lt n52)).wr W80 (Nat.ne_of_lt n61)).wr W84 (Nat.ne_of_lt n71)).ext E93).ext E98).ext E103).ext E108).ext E114).ext E119).ext E124).ext E130).ext E135).ext E140).ext E145).ext E151)) hb182
  have n186 : b46 < b181 := Nat.lt_of_lt_of_le (Blk.lt ((((((((((((((hB77.wr W80 (Nat.ne_of_lt n62)).wr W84 (Nat.ne_of_lt n72)).ext E93).ext E98).ext E103).ext E108).ext E114).ext E119).ext E124).ext E130).ext E135).ext E140).ext E145).ext E151)) hb182
  have n187 : b55 < b181 := Nat.lt_of_lt_of_le (Blk.lt (((((((((((((hB81.wr W84 (Nat.ne_of_lt n73)).ext E93).ext E98).ext E103).ext E108).ext E114).ext E119).ext E124).ext E130).ext E135).ext E140).ext E145).ext E151)) hb182
  have n188 : b65 < b181 := Nat.lt_of_lt_of_le (Blk.lt ((((((((((((hB85.ext E93).ext E98).ext E103).ext E108).ext E114).ext E119).ext E124).ext E130).ext E135).ext E140).ext E145).ext E151)) hb182
  have g189 : w.heap.size ≤ b181 := Nat.le_trans (Below.size X153) hb182
  show wpList _ _ _ _ (fr [(Pt c_b c_o), (Iv x), (Iv y), Ud, Ud, Ud, (Pt b16 0), (Pt b46 0), (Pt b55 0), (Pt b65 0), (Fl (FloatKind.f32.nearest A_c.width)), (Fl (FloatKind.f32.nearest A_c.height)), (Fl r122), (Fl r149), (Pt b181 0), (.tuple #[(.agg #[(Fl r27), (Fl r29), (Fl r31)]), (.agg #[(Fl r33), (Fl r35), (Fl r37)]), (.agg #[(Fl r39), (Fl r41), (Fl r43)])]), (Pt c_b c_o), (.tuple #[(.agg #[(Fl r27), (Fl r29), (Fl r31)]), (.agg #[(Fl r33), (Fl r35), (Fl r37)]), (.agg #[(Fl r39), (Fl r41), (Fl r43)])]), (.agg #[(Fl r27), (Fl r29), (Fl r31)]), (.agg #[(Fl r33), (Fl r35), (Fl r37)]), (.agg #[(Fl r39), (Fl r41), (Fl r43)]), (Pt c_b c_o), (Pt c_b c_o), (Pt c_b (c_o + 7)), (Iv A_c.width), (Fl (FloatKind.f32.nearest A_c.width)), (Pt c_b c_o), (Pt c_b c_o), (Pt c_b (c_o + 8)), (Iv A_c.height), (Fl (FloatKind.f32.nearest A_c.height)), (Iv x), (Fl (FloatKind.f32.nearest x)), (Fl r91), (Fl (FloatKind.f32.nearest A_c.width)), (Fl r96), (Fl r101), (Fl r106), (Fl r106), (Pt c_b c_o), (Pt c_b c_o), (Pt c_b (c_o + 6)), (Fl r13), (Fl r112), (Fl (FloatKind.f32.nearest A_c.width)), (Fl (FloatKind.f32.nearest A_c.height)), (Fl r117), (Fl r122), (Iv y), (Fl (FloatKind.f32.nearest y)), (Fl r128), (Fl (FloatKind.f32.nearest A_c.height)), (Fl r133), (Fl r138), (Fl r143), (Fl r143), (Pt c_b c_o), (Pt c_b c_o), (Pt c_b (c_o + 6)), (Fl r13), (Fl r149), v159, v160, v161, v162, v163, v164, v165, v166, (.agg #[(Fl r175), (Fl r177), (Fl r179)]), Ud, Ud, Ud, Ud, Ud, Ud]) _
  refine seqn rfl rfl (does_store (n := 3) (cs := [(Fl 0), (Fl 0), (Fl 0)]) (u := (.agg #[(Fl r175), (Fl r177), (Fl r179)])) (ev rfl) (ev rfl) Try.sizeOf26 rfl hB183 (Nat.le_of_ble_eq_true rfl) rfl) ?_; rintro _ w192 ⟨rfl, W190, hB191⟩
  change Blk _ _ [(Fl r175), (Fl r177), (Fl r179)] at hB191
  have X193 := Below.wr X174 W190 g189
  refine wpList_nil (hK154 _ _ ?_)
  refine wp_seq_k fun K194 hK194 => ?_
  refine region_draw (
    [Fact.pure [] (fun v => v = (Pt c_b c_o)),
    Fact.pure [70] (fun v => v = (Pt c_b c_o)),
    Fact.pure [71] (fun v => v = (Pt c_b c_o)),
    Fact.pure [72] (fun v => v = (.agg #[(Fl r1), (Fl r3), (Fl r5)])),
    Fact.pure [] (fun v => v = (.agg #[(Fl r175), (Fl r177), (Fl r179)])),
    Fact.pure [73, 74] (fun v => v = (.agg #[(Fl r1), (Fl r3), (Fl r5), (Fl r175), (Fl r177), (Fl r179)]))]) mixed (by kernel_rfl) (by intro _ _ d _ _ h; cases d <;> exact h) ?_
  obtain ⟨w195, hw197⟩ : ∃ w', w' = World.drew w192 := ⟨_, rfl⟩; rw [← hw197]; have E196 : Ext w192 w195 := by rw [hw197]; exact Ext.draw _
  clear hw197
  have X198 := Ext.gr X193 E196
  refine RW_d (fun v199 => [(Pt c_b c_o), (Iv x), (Iv y), Ud, Ud, Ud, (Pt b16 0), (Pt b46 0), (Pt b55 0), (Pt b65 0), (Fl (FloatKind.f32.nearest A_c.width)), (Fl (FloatKind.f32.nearest A_c.height)), (Fl r122), (Fl r149), (Pt b181 0), (.tuple #[(.agg #[(Fl r27), (Fl r29), (Fl r31)]), (.agg #[(Fl r33), (Fl r35), (Fl r37)]), (.agg #[(Fl r39), (Fl r41), (Fl r43)])]), (Pt c_b c_o), (.tuple #[(.agg #[(Fl r27), (Fl r29), (Fl r31)]), (.agg #[(Fl r33), (Fl r35), (Fl r37)]), (.agg #[(Fl r39), (Fl r41), (Fl r43)])]), (.agg #[(Fl r27), (Fl r29), (Fl r31)]), (.agg #[(Fl r33), (Fl r35), (Fl r37)]), (.agg #[(Fl r39), (Fl r41), (Fl r43)]), (Pt c_b c_o), (Pt c_b c_o), (Pt c_b (c_o + 7)), (Iv A_c.width), (Fl (FloatKind.f32.nearest A_c.width)), (Pt c_b c_o), (Pt c_b c_o), (Pt c_b (c_o + 8)), (Iv A_c.height), (Fl (FloatKind.f32.nearest A_c.height)), (Iv x), (Fl (FloatKind.f32.nearest x)), (Fl r91), (Fl (FloatKind.f32.nearest A_c.width)), (Fl r96), (Fl r101), (Fl r106), (Fl r106), (Pt c_b c_o), (Pt c_b c_o), (Pt c_b (c_o + 6)), (Fl r13), (Fl r112), (Fl (FloatKind.f32.nearest A_c.width)), (Fl (FloatKind.f32.nearest A_c.height)), (Fl r117), (Fl r122), (Iv y), (Fl (FloatKind.f32.nearest y)), (Fl r128), (Fl (FloatKind.f32.nearest A_c.height)), (Fl r133), (Fl r138), (Fl r143), (Fl r143), (Pt c_b c_o), (Pt c_b c_o), (Pt c_b (c_o + 6)), (Fl r13), (Fl r149), v159, v160, v161, v162, v163, v164, v165, v166, (.agg #[(Fl r175), (Fl r177), (Fl r179)]), v199, Ud, Ud, Ud, Ud, Ud]) rfl (fun _ => rfl) (fun u hu hF => ?_) (fun v199 => ?_)
  · clear hF
    refine doesG_un rfl ?_
    refine (does_move (u := (Pt c_b c_o)) (ev rfl)).mono ?_; rintro _ _ ⟨rfl, rfl⟩
    exact ⟨rfl, Ext.refl _⟩
  refine RW_d (fun v200 => [(Pt c_b c_o), (Iv x), (Iv y), Ud, Ud, Ud, (Pt b16 0), (Pt b46 0), (Pt b55 0), (Pt b65 0), (Fl (FloatKind.f32.nearest A_c.width)), (Fl (FloatKind.f32.nearest A_c.height)), (Fl r122), (Fl r149), (Pt b181 0), (.tuple #[(.agg #[(Fl r27), (Fl r29), (Fl r31)]), (.agg #[(Fl r33), (Fl r35), (Fl r37)]), (.agg #[(Fl r39), (Fl r41), (Fl r43)])]), (Pt c_b c_o), (.tuple #[(.agg #[(Fl r27), (Fl r29), (Fl r31)]), (.agg #[(Fl r33), (Fl r35), (Fl r37)]), (.agg #[(Fl r39), (Fl r41), (Fl r43)])]), (.agg #[(Fl r27), (Fl r29), (Fl r31)]), (.agg #[(Fl r33), (Fl r35), (Fl r37)]), (.agg #[(Fl r39), (Fl r41), (Fl r43)]), (Pt c_b c_o), (Pt c_b c_o), (Pt c_b (c_o + 7)), (Iv A_c.width), (Fl (FloatKind.f32.nearest A_c.width)), (Pt c_b c_o), (Pt c_b c_o), (Pt c_b (c_o + 8)), (Iv A_c.height), (Fl (FloatKind.f32.nearest A_c.height)), (Iv x), (Fl (FloatKind.f32.nearest x)), (Fl r91), (Fl (FloatKind.f32.nearest A_c.width)), (Fl r96), (Fl r101), (Fl r106), (Fl r106), (Pt c_b c_o), (Pt c_b c_o), (Pt c_b (c_o + 6)), (Fl r13), (Fl r112), (Fl (FloatKind.f32.nearest A_c.width)), (Fl (FloatKind.f32.nearest A_c.height)), (Fl r117), (Fl r122), (Iv y), (Fl (FloatKind.f32.nearest y)), (Fl r128), (Fl (FloatKind.f32.nearest A_c.height)), (Fl r133), (Fl r138), (Fl r143), (Fl r143), (Pt c_b c_o), (Pt c_b c_o), (Pt c_b (c_o + 6)), (Fl r13), (Fl r149), v159, v160, v161, v162, v163, v164, v165, v166, (.agg #[(Fl r175), (Fl r177), (Fl r179)]), v199, v200, Ud, Ud, Ud, Ud]) rfl (fun _ => rfl) (fun u hu hF => ?_) (fun v200 => ?_)
  · have h70_ : v199 = (Pt c_b c_o) := hF.1
    clear hF
    refine doesG_un rfl ?_
    obtain rfl := h70_
    refine (does_nilCheck (ev rfl)).mono ?_; rintro _ _ ⟨rfl, rfl⟩
    exact ⟨rfl, Ext.refl _⟩
  refine RW_d (fun v201 => [(Pt c_b c_o), (Iv x), (Iv y), Ud, Ud, Ud, (Pt b16 0), (Pt b46 0), (Pt b55 0), (Pt b65 0), (Fl (FloatKind.f32.nearest A_c.width)), (Fl (FloatKind.f32.nearest A_c.height)), (Fl r122), (Fl r149), (Pt b181 0), (.tuple #[(.agg #[(Fl r27), (Fl r29), (Fl r31)]), (.agg #[(Fl r33), (Fl r35), (Fl r37)]), (.agg #[(Fl r39), (Fl r41), (Fl r43)])]), (Pt c_b c_o), (.tuple #[(.agg #[(Fl r27), (Fl r29), (Fl r31)]), (.agg #[(Fl r33), (Fl r35), (Fl r37)]), (.agg #[(Fl r39), (Fl r41), (Fl r43)])]), (.agg #[(Fl r27), (Fl r29), (Fl r31)]), (.agg #[(Fl r33), (Fl r35), (Fl r37)]), (.agg #[(Fl r39), (Fl r41), (Fl r43)]), (Pt c_b c_o), (Pt c_b c_o), (Pt c_b (c_o + 7)), (Iv A_c.width), (Fl (FloatKind.f32.nearest A_c.width)), (Pt c_b c_o), (Pt c_b c_o), (Pt c_b (c_o + 8)), (Iv A_c.height), (Fl (FloatKind.f32.nearest A_c.height)), (Iv x), (Fl (FloatKind.f32.nearest x)), (Fl r91), (Fl (FloatKind.f32.nearest A_c.width)), (Fl r96), (Fl r101), (Fl r106), (Fl r106), (Pt c_b c_o), (Pt c_b c_o), (Pt c_b (c_o + 6)), (Fl r13), (Fl r112), (Fl (FloatKind.f32.nearest A_c.width)), (Fl (FloatKind.f32.nearest A_c.height)), (Fl r117), (Fl r122), (Iv y), (Fl (FloatKind.f32.nearest y)), (Fl r128), (Fl (FloatKind.f32.nearest A_c.height)), (Fl r133), (Fl r138), (Fl r143), (Fl r143), (Pt c_b c_o), (Pt c_b c_o), (Pt c_b (c_o + 6)), (Fl r13), (Fl r149), v159, v160, v161, v162, v163, v164, v165, v166, (.agg #[(Fl r175), (Fl r177), (Fl r179)]), v199, v200, v201, Ud, Ud, Ud]) rfl (fun _ => rfl) (fun u hu hF => ?_) (fun v201 => ?_)
  · have h71_ : v200 = (Pt c_b c_o) := hF.1
    clear hF
    refine doesG_un rfl ?_
    obtain rfl := h71_
    refine (does_fieldAddr (ev rfl) fa48_0).mono ?_; rintro _ _ ⟨rfl, rfl⟩
    exact ⟨rfl, Ext.refl _⟩
  refine RW_d (fun v202 => [(Pt c_b c_o), (Iv x), (Iv y), Ud, Ud, Ud, (Pt b16 0), (Pt b46 0), (Pt b55 0), (Pt b65 0), (Fl (FloatKind.f32.nearest A_c.width)), (Fl (FloatKind.f32.nearest A_c.height)), (Fl r122), (Fl r149), (Pt b181 0), (.tuple #[(.agg #[(Fl r27), (Fl r29), (Fl r31)]), (.agg #[(Fl r33), (Fl r35), (Fl r37)]), (.agg #[(Fl r39), (Fl r41), (Fl r43)])]), (Pt c_b c_o), (.tuple #[(.agg #[(Fl r27), (Fl r29), (Fl r31)]), (.agg #[(Fl r33), (Fl r35), (Fl r37)]), (.agg #[(Fl r39), (Fl r41), (Fl r43)])]), (.agg #[(Fl r27), (Fl r29), (Fl r31)]), (.agg #[(Fl r33), (Fl r35), (Fl r37)]), (.agg #[(Fl r39), (Fl r41), (Fl r43)]), (Pt c_b c_o), (Pt c_b c_o), (Pt c_b (c_o + 7)), (Iv A_c.width), (Fl (FloatKind.f32.nearest A_c.width)), (Pt c_b c_o), (Pt c_b c_o), (Pt c_b (c_o + 8)), (Iv A_c.height), (Fl (FloatKind.f32.nearest A_c.height)), (Iv x), (Fl (FloatKind.f32.nearest x)), (Fl r91), (Fl (FloatKind.f32.nearest A_c.width)), (Fl r96), (Fl r101), (Fl r106), (Fl r106), (Pt c_b c_o), (Pt c_b c_o), (Pt c_b (c_o + 6)), (Fl r13), (Fl r112), (Fl (FloatKind.f32.nearest A_c.width)), (Fl (FloatKind.f32.nearest A_c.height)), (Fl r117), (Fl r122), (Iv y), (Fl (FloatKind.f32.nearest y)), (Fl r128), (Fl (FloatKind.f32.nearest A_c.height)), (Fl r133), (Fl r138), (Fl r143), (Fl r143), (Pt c_b c_o), (Pt c_b c_o), (Pt c_b (c_o + 6)), (Fl r13), (Fl r149), v159, v160, v161, v162, v163, v164, v165, v166, (.agg #[(Fl r175), (Fl r177), (Fl r179)]), v199, v200, v201, v202, Ud, Ud]) rfl (fun _ => rfl) (fun u hu hF => ?_) (fun v202 => ?_)
  · have h72_ : v201 = (Pt c_b c_o) := hF.1
    clear hF
    refine doesG_un rfl ?_
    obtain rfl := h72_
    refine (does_loadAgg (cs := [(Fl r1), (Fl r3), (Fl r5)]) (ev rfl) Try.isAgg26 Try.sizeOf26 (Cells.sub ((hc_c.ext (Ext.gr X193 E196)).ext hu) 0 3) rfl).mono ?_; rintro _ _ ⟨rfl, rfl⟩
    exact ⟨rfl, Ext.refl _⟩
  refine RW_d (fun v203 => [(Pt c_b c_o), (Iv x), (Iv y), Ud, Ud, Ud, (Pt b16 0), (Pt b46 0), (Pt b55 0), (Pt b65 0), (Fl (FloatKind.f32.nearest A_c.width)), (Fl (FloatKind.f32.nearest A_c.height)), (Fl r122), (Fl r149), (Pt b181 0), (.tuple #[(.agg #[(Fl r27), (Fl r29), (Fl r31)]), (.agg #[(Fl r33), (Fl r35), (Fl r37)]), (.agg #[(Fl r39), (Fl r41), (Fl r43)])]), (Pt c_b c_o), (.tuple #[(.agg #[(Fl r27), (Fl r29), (Fl r31)]), (.agg #[(Fl r33), (Fl r35), (Fl r37)]), (.agg #[(Fl r39), (Fl r41), (Fl r43)])]), (.agg #[(Fl r27), (Fl r29), (Fl r31)]), (.agg #[(Fl r33), (Fl r35), (Fl r37)]), (.agg #[(Fl r39), (Fl r41), (Fl r43)]), (Pt c_b c_o), (Pt c_b c_o), (Pt c_b (c_o + 7)), (Iv A_c.width), (Fl (FloatKind.f32.nearest A_c.width)), (Pt c_b c_o), (Pt c_b c_o), (Pt c_b (c_o + 8)), (Iv A_c.height), (Fl (FloatKind.f32.nearest A_c.height)), (Iv x), (Fl (FloatKind.f32.nearest x)), (Fl r91), (Fl (FloatKind.f32.nearest A_c.width)), (Fl r96), (Fl r101), (Fl r106), (Fl r106), (Pt c_b c_o), (Pt c_b c_o), (Pt c_b (c_o + 6)), (Fl r13), (Fl r112), (Fl (FloatKind.f32.nearest A_c.width)), (Fl (FloatKind.f32.nearest A_c.height)), (Fl r117), (Fl r122), (Iv y), (Fl (FloatKind.f32.nearest y)), (Fl r128), (Fl (FloatKind.f32.nearest A_c.height)), (Fl r133), (Fl r138), (Fl r143), (Fl r143), (Pt c_b c_o), (Pt c_b c_o), (Pt c_b (c_o + 6)), (Fl r13), (Fl r149), v159, v160, v161, v162, v163, v164, v165, v166, (.agg #[(Fl r175), (Fl r177), (Fl r179)]), v199, v200, v201, v202, v203, Ud]) rfl (fun _ => rfl) (fun u hu hF => ?_) (fun v203 => ?_)
  · clear hF
    refine doesG_un rfl ?_
    refine (does_loadAgg (cs := [(Fl r175), (Fl r177), (Fl r179)]) (ev rfl) Try.isAgg26 Try.sizeOf26 (Blk.cells ((hB191.ext E196).ext hu)) rfl).mono ?_; rintro _ _ ⟨rfl, rfl⟩
    exact ⟨rfl, Ext.refl _⟩
  refine RW_d (fun v204 => [(Pt c_b c_o), (Iv x), (Iv y), Ud, Ud, Ud, (Pt b16 0), (Pt b46 0), (Pt b55 0), (Pt b65 0), (Fl (FloatKind.f32.nearest A_c.width)), (Fl (FloatKind.f32.nearest A_c.height)), (Fl r122), (Fl r149), (Pt b181 0), (.tuple #[(.agg #[(Fl r27), (Fl r29), (Fl r31)]), (.agg #[(Fl r33), (Fl r35), (Fl r37)]), (.agg #[(Fl r39), (Fl r41), (Fl r43)])]), (Pt c_b c_o), (.tuple #[(.agg #[(Fl r27), (Fl r29), (Fl r31)]), (.agg #[(Fl r33), (Fl r35), (Fl r37)]), (.agg #[(Fl r39), (Fl r41), (Fl r43)])]), (.agg #[(Fl r27), (Fl r29), (Fl r31)]), (.agg #[(Fl r33), (Fl r35), (Fl r37)]), (.agg #[(Fl r39), (Fl r41), (Fl r43)]), (Pt c_b c_o), (Pt c_b c_o), (Pt c_b (c_o + 7)), (Iv A_c.width), (Fl (FloatKind.f32.nearest A_c.width)), (Pt c_b c_o), (Pt c_b c_o), (Pt c_b (c_o + 8)), (Iv A_c.height), (Fl (FloatKind.f32.nearest A_c.height)), (Iv x), (Fl (FloatKind.f32.nearest x)), (Fl r91), (Fl (FloatKind.f32.nearest A_c.width)), (Fl r96), (Fl r101), (Fl r106), (Fl r106), (Pt c_b c_o), (Pt c_b c_o), (Pt c_b (c_o + 6)), (Fl r13), (Fl r112), (Fl (FloatKind.f32.nearest A_c.width)), (Fl (FloatKind.f32.nearest A_c.height)), (Fl r117), (Fl r122), (Iv y), (Fl (FloatKind.f32.nearest y)), (Fl r128), (Fl (FloatKind.f32.nearest A_c.height)), (Fl r133), (Fl r138), (Fl r143), (Fl r143), (Pt c_b c_o), (Pt c_b c_o), (Pt c_b (c_o + 6)), (Fl r13), (Fl r149), v159, v160, v161, v162, v163, v164, v165, v166, (.agg #[(Fl r175), (Fl r177), (Fl r179)]), v199, v200, v201, v202, v203, v204]) rfl (fun _ => rfl) (fun u hu hF => ?_) (fun v204 => ?_)
  · have h73_ : v202 = (.agg #[(Fl r1), (Fl r3), (Fl r5)]) := hF.1
    have h74_ : v203 = (.agg #[(Fl r175), (Fl r177), (Fl r179)]) := hF.2.1
    clear hF
    refine doesG_un rfl ?_
    obtain rfl := h73_
    obtain rfl := h74_
    refine (does_build (parts' := [(0, (.agg #[(Fl r1), (Fl r3), (Fl r5)])), (1, (.agg #[(Fl r175), (Fl r177), (Fl r179)]))]) (cells := #[(Fl r1), (Fl r3), (Fl r5), (Fl r175), (Fl r177), (Fl r179)]) (evp rfl) (by kernel_rfl)).mono ?_; rintro _ _ ⟨rfl, rfl⟩
    exact ⟨rfl, Ext.refl _⟩
  refine RW_fin ?_; intro w205 E206 hP207
  obtain ⟨⟨⟨⟨⟨⟨-, -⟩, -⟩, -⟩, -⟩, -⟩, q208⟩ := hP207
  have X209 := Ext.gr X198 E206
  have q208 : v204 = (.agg #[(Fl r1), (Fl r3), (Fl r5), (Fl r175), (Fl r177), (Fl r179)]) := q208
  obtain rfl := q208
  show wpList _ _ _ _ (fr [(Pt c_b c_o), (Iv x), (Iv y), Ud, Ud, Ud, (Pt b16 0), (Pt b46 0), (Pt b55 0), (Pt b65 0), (Fl (FloatKind.f32.nearest A_c.width)), (Fl (FloatKind.f32.nearest A_c.height)), (Fl r122), (Fl r149), (Pt b181 0), (.tuple #[(.agg #[(Fl r27), (Fl r29), (Fl r31)]), (.agg #[(Fl r33), (Fl r35), (Fl r37)]), (.agg #[(Fl r39), (Fl r41), (Fl r43)])]), (Pt c_b c_o), (.tuple #[(.agg #[(Fl r27), (Fl r29), (Fl r31)]), (.agg #[(Fl r33), (Fl r35), (Fl r37)]), (.agg #[(Fl r39), (Fl r41), (Fl r43)])]), (.agg #[(Fl r27), (Fl r29), (Fl r31)]), (.agg #[(Fl r33), (Fl r35), (Fl r37)]), (.agg #[(Fl r39), (Fl r41), (Fl r43)]), (Pt c_b c_o), (Pt c_b c_o), (Pt c_b (c_o + 7)), (Iv A_c.width), (Fl (FloatKind.f32.nearest A_c.width)), (Pt c_b c_o), (Pt c_b c_o), (Pt c_b (c_o + 8)), (Iv A_c.height), (Fl (FloatKind.f32.nearest A_c.height)), (Iv x), (Fl (FloatKind.f32.nearest x)), (Fl r91), (Fl (FloatKind.f32.nearest A_c.width)), (Fl r96), (Fl r101), (Fl r106), (Fl r106), (Pt c_b c_o), (Pt c_b c_o), (Pt c_b (c_o + 6)), (Fl r13), (Fl r112), (Fl (FloatKind.f32.nearest A_c.width)), (Fl (FloatKind.f32.nearest A_c.height)), (Fl r117), (Fl r122), (Iv y), (Fl (FloatKind.f32.nearest y)), (Fl r128), (Fl (FloatKind.f32.nearest A_c.height)), (Fl r133), (Fl r138), (Fl r143), (Fl r143), (Pt c_b c_o), (Pt c_b c_o), (Pt c_b (c_o + 6)), (Fl r13), (Fl r149), v159, v160, v161, v162, v163, v164, v165, v166, (.agg #[(Fl r175), (Fl r177), (Fl r179)]), v199, v200, v201, v202, v203, (.agg #[(Fl r1), (Fl r3), (Fl r5), (Fl r175), (Fl r177), (Fl r179)])]) _
  refine seqn rfl rfl (does_store (n := 6) (cs := [(Fl 0), (Fl 0), (Fl 0), (Fl 0), (Fl 0), (Fl 0)]) (u := (.agg #[(Fl r1), (Fl r3), (Fl r5), (Fl r175), (Fl r177), (Fl r179)])) (ev rfl) (ev rfl) Try.sizeOf64 rfl ((((((((((((((((((((((((hB18.ext E25).ext E49).ext E58).ext E68).wr W76 (Nat.ne_of_lt n52)).wr W80 (Nat.ne_of_lt n61)).wr W84 (Nat.ne_of_lt n71)).ext E93).ext E98).ext E103).ext E108).ext E114).ext E119).ext E124).ext E130).ext E135).ext E140).ext E145).ext E151).ext E156).ext E170).wr W190 (Nat.ne_of_lt n185)).ext E196).ext E206) (Nat.le_of_ble_eq_true rfl) rfl) ?_; rintro _ w212 ⟨rfl, W210, hB211⟩
  change Blk _ _ [(Fl r1), (Fl r3), (Fl r5), (Fl r175), (Fl r177), (Fl r179)] at hB211
  have X213 := Below.wr X209 W210 g22
  refine wpList_nil (hK194 _ _ ?_)
  refine wp_ret ?_
  refine ret_val (v := (.agg #[(Fl r1), (Fl r3), (Fl r5), (Fl r175), (Fl r177), (Fl r179)])) (res_C rfl (slot rfl) (run_loadAgg (cs := [(Fl r1), (Fl r3), (Fl r5), (Fl r175), (Fl r177), (Fl r179)]) Try.isAgg64 Try.sizeOf64 (Blk.cells hB211) rfl)) X213 ?_
  have x214 : cf .f32 r1 = (rayC A_c x y).frm.x := by first | with_reducible rfl | (simp only [rayC, uC, vC, shareF, nrF, h2, h4, h6, h8, h10, h12, h14, h28, h30, h32, h34, h36, h38, h40, h42, h44, h92, h97, h102, h107, h113, h118, h123, h129, h134, h139, h144, h150, h176, h178, h180]; done) | (simp [rayC, uC, vC, shareF, nrF, h2, h4, h6, h8, h10, h12, h14, h28, h30, h32, h34, h36, h38, h40, h42, h44, h92, h97, h102, h107, h113, h118, h123, h129, h134, h139, h144, h150, h176, h178, h180]; done) | rfl
  have x215 : cf .f32 r3 = (rayC A_c x y).frm.y := by first | with_reducible rfl | (simp only [rayC, uC, vC, shareF, nrF, h2, h4, h6, h8, h10, h12, h14, h28, h30, h32, h34, h36, h38, h40, h42, h44, h92, h97, h102, h107, h113, h118, h123, h129, h134, h139, h144, h150, h176, h178, h180]; done) | (simp [rayC, uC, vC, shareF, nrF, h2, h4, h6, h8, h10, h12, h14, h28, h30, h32, h34, h36, h38, h40, h42, h44, h92, h97, h102, h107, h113, h118, h123, h129, h134, h139, h144, h150, h176, h178, h180]; done) | rfl
  have x216 : cf .f32 r5 = (rayC A_c x y).frm.z := by first | with_reducible rfl | (simp only [rayC, uC, vC, shareF, nrF, h2, h4, h6, h8, h10, h12, h14, h28, h30, h32, h34, h36, h38, h40, h42, h44, h92, h97, h102, h107, h113, h118, h123, h129, h134, h139, h144, h150, h176, h178, h180]; done) | (simp [rayC, uC, vC, shareF, nrF, h2, h4, h6, h8, h10, h12, h14, h28, h30, h32, h34, h36, h38, h40, h42, h44, h92, h97, h102, h107, h113, h118, h123, h129, h134, h139, h144, h150, h176, h178, h180]; done) | rfl
  have x217 : cf .f32 r175 = (rayC A_c x y).way.x := by first | with_reducible rfl | (simp only [rayC, uC, vC, shareF, nrF, h2, h4, h6, h8, h10, h12, h14, h28, h30, h32, h34, h36, h38, h40, h42, h44, h92, h97, h102, h107, h113, h118, h123, h129, h134, h139, h144, h150, h176, h178, h180]; done) | (simp [rayC, uC, vC, shareF, nrF, h2, h4, h6, h8, h10, h12, h14, h28, h30, h32, h34, h36, h38, h40, h42, h44, h92, h97, h102, h107, h113, h118, h123, h129, h134, h139, h144, h150, h176, h178, h180]; done) | rfl
  have x218 : cf .f32 r177 = (rayC A_c x y).way.y := by first | with_reducible rfl | (simp only [rayC, uC, vC, shareF, nrF, h2, h4, h6, h8, h10, h12, h14, h28, h30, h32, h34, h36, h38, h40, h42, h44, h92, h97, h102, h107, h113, h118, h123, h129, h134, h139, h144, h150, h176, h178, h180]; done) | (simp [rayC, uC, vC, shareF, nrF, h2, h4, h6, h8, h10, h12, h14, h28, h30, h32, h34, h36, h38, h40, h42, h44, h92, h97, h102, h107, h113, h118, h123, h129, h134, h139, h144, h150, h176, h178, h180]; done) | rfl
  have x219 : cf .f32 r179 = (rayC A_c x y).way.z := by first | with_reducible rfl | (simp only [rayC, uC, vC, shareF, nrF, h2, h4, h6, h8, h10, h12, h14, h28, h30, h32, h34, h36, h38, h40, h42, h44, h92, h97, h102, h107, h113, h118, h123, h129, h134, h139, h144, h150, h176, h178, h180]; done) | (simp [rayC, uC, vC, shareF, nrF, h2, h4, h6, h8, h10, h12, h14, h28, h30, h32, h34, h36, h38, h40, h42, h44, h92, h97, h102, h107, h113, h118, h123, h129, h134, h139, h144, h150, h176, h178, h180]; done) | rfl
  exact ⟨[(Fl r1), (Fl r3), (Fl r5), (Fl r175), (Fl r177), (Fl r179)], rfl, ⟨r1, r3, r5, r175, r177, r179, rfl, x214, x215, x216, x217, x218, x219⟩⟩

/- spec.RayThrough -/
theorem c_spec_RayThrough (c : List Value) (A_c : CamT) (x : Int) (y : Int) (w : World) (hv_c : RCamT w A_c c) : Gives Try.prog 34 #[(.agg c.toArray), (Iv x), (Iv y)] w (fun v w' => ∃ cs_1 : List Value, v = (.tuple #[(.agg cs_1.toArray), (Bo (camPx A_c x y))]) ∧ RRayT w (gvA zRay (camPx A_c x y) (rayC A_c x y)) cs_1) := by
  obtain ⟨r1, r3, r5, r7, r9, r11, r13, rfl, h2, h4, h6, h8, h10, h12, h14⟩ := hv_c
  refine enter [(.agg #[(Fl r1), (Fl r3), (Fl r5), (Fl r7), (Fl r9), (Fl r11), (Fl r13), (Iv A_c.width), (Iv A_c.height)]), (Iv x), (Iv y), Ud, Ud, Ud, Ud, Ud, Ud, Ud, Ud, Ud, Ud, Ud, Ud, Ud, Ud, Ud, Ud, Ud] Try.func34 rfl Try.ntmps34 rfl ?_
  refine wp_seq_k fun K15 hK15 => ?_
  refine wp_region_lit ?_
  refine seqd rfl rfl (does_box (u := (.agg #[(Fl r1), (Fl r3), (Fl r5), (Fl r7), (Fl r9), (Fl r11), (Fl r13), (Iv A_c.width), (Iv A_c.height)])) (ev rfl)) ?_; rintro _ w20 ⟨b16, rfl, hb17, hB18, E19⟩
  have g21 : w.heap.size ≤ b16 := Nat.le_trans (Below.size (Ext.refl w)) hb17
  change Blk _ _ [(Fl r1), (Fl r3), (Fl r5), (Fl r7), (Fl r9), (Fl r11), (Fl r13), (Iv A_c.width), (Iv A_c.height)] at hB18
  have X22 := Ext.gr (Ext.refl w) E19
  show wpList _ _ _ _ (fr [(.agg #[(Fl r1), (Fl r3), (Fl r5), (Fl r7), (Fl r9), (Fl r11), (Fl r13), (Iv A_c.width), (Iv A_c.height)]), (Iv x), (Iv y), (Pt b16 0), Ud, Ud, Ud, Ud, Ud, Ud, Ud, Ud, Ud, Ud, Ud, Ud, Ud, Ud, Ud, Ud]) _
  refine seqd rfl rfl (does_alloc z64) ?_; rintro _ w27 ⟨b23, rfl, hb24, hB25, E26⟩
  have n28 : b16 < b23 := Nat.lt_of_lt_of_le (Blk.lt hB18) hb24
  have g29 : w.heap.size ≤ b23 := Nat.le_trans (Below.size X22) hb24
  change Blk _ _ [(Fl 0), (Fl 0), (Fl 0), (Fl 0), (Fl 0), (Fl 0)] at hB25
  have X30 := Ext.gr X22 E26
  show wpList _ _ _ _ (fr [(.agg #[(Fl r1), (Fl r3), (Fl r5), (Fl r7), (Fl r9), (Fl r11), (Fl r13), (Iv A_c.width), (Iv A_c.height)]), (Iv x), (Iv y), (Pt b16 0), Ud, Ud, (Pt b23 0), Ud, Ud, Ud, Ud, Ud, Ud, Ud, Ud, Ud, Ud, Ud, Ud, Ud]) _
  refine q_is (l' := [(.agg #[(Fl r1), (Fl r3), (Fl r5), (Fl r7), (Fl r9), (Fl r11), (Fl r13), (Iv A_c.width), (Iv A_c.height)]), (Iv x), (Iv y), (Pt b16 0), Ud, Ud, (Pt b23 0), (Bo false), Ud, Ud, Ud, Ud, Ud, Ud, Ud, Ud, Ud, Ud, Ud, Ud]) rfl rfl (does_assign (u := (Bo false)) (ev rfl)) rfl ?_
  refine wpList_nil (hK15 _ _ ?_)
  refine wp_seq_k fun K31 hK31 => ?_
  refine wp_seq_k fun K32 hK32 => ?_
  obtain ⟨β1, hβ1⟩ : ∃ b : Bool, b = ((!(isCam A_c)) || (!(hasPx A_c x y))) := ⟨_, rfl⟩
  refine region_text (
    [Fact.pure [] (fun v => v = (Bo (isCam A_c))),
    Fact.pure [8] (fun v => v = (Bo (!(isCam A_c)))),
    Fact.pure [9] (fun v => v = (Bo (!(isCam A_c)))),
    Fact.pure [10] (fun v => (!(isCam A_c)) = false → v = (Iv x)),
    Fact.pure [10] (fun v => (!(isCam A_c)) = false → v = (Iv y)),
    Fact.pure [11, 12, 10] (fun v => (!(isCam A_c)) = false → v = (Bo (hasPx A_c x y))),
    Fact.pure [13, 10] (fun v => (!(isCam A_c)) = false → v = (Bo (!(hasPx A_c x y)))),
    Fact.pure [10, 14] (fun v => v = (Bo β1))]) (by simp [Fact.pure, Fact.mem]) ?_
  refine RW_d (fun v33 => [(.agg #[(Fl r1), (Fl r3), (Fl r5), (Fl r7), (Fl r9), (Fl r11), (Fl r13), (Iv A_c.width), (Iv A_c.height)]), (Iv x), (Iv y), (Pt b16 0), Ud, Ud, (Pt b23 0), (Bo false), v33, Ud, Ud, Ud, Ud, Ud, Ud, Ud, Ud, Ud, Ud, Ud]) rfl (fun _ => rfl) (fun u hu hF => ?_) (fun v33 => ?_)
  · clear hF
    refine doesG_un rfl ?_
    refine (does_call (args := #[(Pt b16 0)]) cal64 (evs rfl) (c_spec_l09Is b16 0 [(Fl r1), (Fl r3), (Fl r5), (Fl r7), (Fl r9), (Fl r11), (Fl r13), (Iv A_c.width), (Iv A_c.height)] A_c _ (Blk.cells ((hB18.ext E26).ext hu)) ⟨r1, r3, r5, r7, r9, r11, r13, rfl, h2, h4, h6, h8, h10, h12, h14⟩)).mono ?_; rintro v u' ⟨hx, hv⟩
    exact ⟨hv, hx⟩
  refine RW_d (fun v34 => [(.agg #[(Fl r1), (Fl r3), (Fl r5), (Fl r7), (Fl r9), (Fl r11), (Fl r13), (Iv A_c.width), (Iv A_c.height)]), (Iv x), (Iv y), (Pt b16 0), Ud, Ud, (Pt b23 0), (Bo false), v33, v34, Ud, Ud, Ud, Ud, Ud, Ud, Ud, Ud, Ud, Ud]) rfl (fun _ => rfl) (fun u hu hF => ?_) (fun v34 => ?_)
  · have h8_ : v33 = (Bo (isCam A_c)) := hF.1
    clear hF
    refine doesG_un rfl ?_
    obtain rfl := h8_
    refine (does_not (ev rfl)).mono ?_; rintro _ _ ⟨rfl, rfl⟩
    exact ⟨rfl, Ext.refl _⟩
  refine RW_d (fun v35 => [(.agg #[(Fl r1), (Fl r3), (Fl r5), (Fl r7), (Fl r9), (Fl r11), (Fl r13), (Iv A_c.width), (Iv A_c.height)]), (Iv x), (Iv y), (Pt b16 0), Ud, Ud, (Pt b23 0), (Bo false), v33, v34, v35, Ud, Ud, Ud, Ud, Ud, Ud, Ud, Ud, Ud]) rfl (fun _ => rfl) (fun u hu hF => ?_) (fun v35 => ?_)
  · have h9_ : v34 = (Bo (!(isCam A_c))) := hF.1
    clear hF
    refine doesG_un rfl ?_
    obtain rfl := h9_
    refine (does_move (u := (Bo (!(isCam A_c)))) (ev rfl)).mono ?_; rintro _ _ ⟨rfl, rfl⟩
    exact ⟨rfl, Ext.refl _⟩
  refine RW_d (fun v36 => [(.agg #[(Fl r1), (Fl r3), (Fl r5), (Fl r7), (Fl r9), (Fl r11), (Fl r13), (Iv A_c.width), (Iv A_c.height)]), (Iv x), (Iv y), (Pt b16 0), Ud, Ud, (Pt b23 0), (Bo false), v33, v34, v35, v36, Ud, Ud, Ud, Ud, Ud, Ud, Ud, Ud]) rfl (fun _ => rfl) (fun u hu hF => ?_) (fun v36 => ?_)
  · have h10_ : v35 = (Bo (!(isCam A_c))) := hF.1
    clear hF
    obtain rfl := h10_
    refine doesG_g (b := (!(isCam A_c))) rfl (yld rfl rfl) (fun hg1 => ?_) (fun hc => ⟨fun hg1 => absurd hg1 hc, Ext.refl _⟩)
    refine (does_move (u := (Iv x)) (ev rfl)).mono ?_; rintro _ _ ⟨rfl, rfl⟩
    exact ⟨fun _ => rfl, Ext.refl _⟩
  refine RW_d (fun v37 => [(.agg #[(Fl r1), (Fl r3), (Fl r5), (Fl r7), (Fl r9), (Fl r11), (Fl r13), (Iv A_c.width), (Iv A_c.height)]), (Iv x), (Iv y), (Pt b16 0), Ud, Ud, (Pt b23 0), (Bo false), v33, v34, v35, v36, v37, Ud, Ud, Ud, Ud, Ud, Ud, Ud]) rfl (fun _ => rfl) (fun u hu hF => ?_) (fun v37 => ?_)
  · have h10_ : v35 = (Bo (!(isCam A_c))) := hF.1
    clear hF
    obtain rfl := h10_
    refine doesG_g (b := (!(isCam A_c))) rfl (yld rfl rfl) (fun hg1 => ?_) (fun hc => ⟨fun hg1 => absurd hg1 hc, Ext.refl _⟩)
    refine (does_move (u := (Iv y)) (ev rfl)).mono ?_; rintro _ _ ⟨rfl, rfl⟩
    exact ⟨fun _ => rfl, Ext.refl _⟩
  refine RW_d (fun v38 => [(.agg #[(Fl r1), (Fl r3), (Fl r5), (Fl r7), (Fl r9), (Fl r11), (Fl r13), (Iv A_c.width), (Iv A_c.height)]), (Iv x), (Iv y), (Pt b16 0), Ud, Ud, (Pt b23 0), (Bo false), v33, v34, v35, v36, v37, v38, Ud, Ud, Ud, Ud, Ud, Ud]) rfl (fun _ => rfl) (fun u hu hF => ?_) (fun v38 => ?_)
  · have h11_ : (!(isCam A_c)) = false → v36 = (Iv x) := hF.1
    have h12_ : (!(isCam A_c)) = false → v37 = (Iv y) := hF.2.1
    have h10_ : v35 = (Bo (!(isCam A_c))) := hF.2.2.1
    clear hF
    obtain rfl := h10_
    refine doesG_g (b := (!(isCam A_c))) rfl (yld rfl rfl) (fun hg1 => ?_) (fun hc => ⟨fun hg1 => absurd hg1 hc, Ext.refl _⟩)
    obtain rfl := h11_ hg1
    obtain rfl := h12_ hg1
    refine (does_call (args := #[(Pt b16 0), (Iv x), (Iv y)]) cal70 (evs rfl) (c_spec_l09Pixel b16 0 [(Fl r1), (Fl r3), (Fl r5), (Fl r7), (Fl r9), (Fl r11), (Fl r13), (Iv A_c.width), (Iv A_c.height)] A_c x y _ (Blk.cells ((hB18.ext E26).ext hu)) ⟨r1, r3, r5, r7, r9, r11, r13, rfl, h2, h4, h6, h8, h10, h12, h14⟩)).mono ?_; rintro v u' ⟨hx, hv⟩
    exact ⟨fun _ => hv, hx⟩
  refine RW_d (fun v39 => [(.agg #[(Fl r1), (Fl r3), (Fl r5), (Fl r7), (Fl r9), (Fl r11), (Fl r13), (Iv A_c.width), (Iv A_c.height)]), (Iv x), (Iv y), (Pt b16 0), Ud, Ud, (Pt b23 0), (Bo false), v33, v34, v35, v36, v37, v38, v39, Ud, Ud, Ud, Ud, Ud]) rfl (fun _ => rfl) (fun u hu hF => ?_) (fun v39 => ?_)
  · have h13_ : (!(isCam A_c)) = false → v38 = (Bo (hasPx A_c x y)) := hF.1
    have h10_ : v35 = (Bo (!(isCam A_c))) := hF.2.1
    clear hF
    obtain rfl := h10_
    refine doesG_g (b := (!(isCam A_c))) rfl (yld rfl rfl) (fun hg1 => ?_) (fun hc => ⟨fun hg1 => absurd hg1 hc, Ext.refl _⟩)
    obtain rfl := h13_ hg1
    refine (does_not (ev rfl)).mono ?_; rintro _ _ ⟨rfl, rfl⟩
    exact ⟨fun _ => rfl, Ext.refl _⟩
  refine RW_d (fun v40 => [(.agg #[(Fl r1), (Fl r3), (Fl r5), (Fl r7), (Fl r9), (Fl r11), (Fl r13), (Iv A_c.width), (Iv A_c.height)]), (Iv x), (Iv y), (Pt b16 0), Ud, Ud, (Pt b23 0), (Bo false), v33, v34, v35, v36, v37, v38, v39, v40, Ud, Ud, Ud, Ud]) rfl (fun _ => rfl) (fun u hu hF => ?_) (fun v40 => ?_)
  · have h10_ : v35 = (Bo (!(isCam A_c))) := hF.1
    have h14_ : (!(isCam A_c)) = false → v39 = (Bo (!(hasPx A_c x y))) := hF.2.1
    clear hF
    refine doesG_un rfl ?_
    skip
    obtain rfl := h10_
    refine (does_pick (b := (!(isCam A_c))) (ev rfl) (ev rfl) (ev rfl)).mono ?_; rintro _ _ ⟨rfl, rfl⟩; refine ⟨?_, Ext.refl _⟩; rw [hβ1]; skip
    cases hbb : (!(isCam A_c)) <;> simp [hbb] at h14_ ⊢
    all_goals (first | rfl | (subst h14_; rfl) | simp_all)
  refine RW_fin ?_; intro w41 E42 hP43
  obtain ⟨⟨⟨⟨⟨⟨⟨⟨-, -⟩, -⟩, -⟩, -⟩, -⟩, -⟩, -⟩, q44⟩ := hP43
  have X45 := Ext.gr X30 E42
  have q44 : v40 = (Bo β1) := q44
  obtain rfl := q44
  show wpList _ _ _ _ (fr [(.agg #[(Fl r1), (Fl r3), (Fl r5), (Fl r7), (Fl r9), (Fl r11), (Fl r13), (Iv A_c.width), (Iv A_c.height)]), (Iv x), (Iv y), (Pt b16 0), Ud, Ud, (Pt b23 0), (Bo false), v33, v34, v35, v36, v37, v38, v39, (Bo β1), Ud, Ud, Ud, Ud]) _
  refine wpList_nil (hK32 _ _ ?_)
  refine wp_cond_split (t := β1) (ev rfl) (fun c46 => ?_) (fun c46 => ?_)
  · have c46' := c46
    (try simp only [hβ1] at c46')
    (try simp only [icmp, Bool.and_eq_true, Bool.or_eq_true, Bool.and_eq_false_iff, Bool.or_eq_false_iff, Bool.not_eq_true', Bool.not_eq_false', decide_eq_true_eq, decide_eq_false_iff_not, beq_iff_eq, bne_iff_ne, beq_eq_false_iff_ne, bne_eq_false_iff_eq] at c46')
    refine wp_seq_k fun K47 hK47 => ?_
    refine wp_region_lit ?_
    refine q_is (l' := [(.agg #[(Fl r1), (Fl r3), (Fl r5), (Fl r7), (Fl r9), (Fl r11), (Fl r13), (Iv A_c.width), (Iv A_c.height)]), (Iv x), (Iv y), (Pt b16 0), Ud, Ud, (Pt b23 0), (Bo false), v33, v34, v35, v36, v37, v38, v39, (Bo β1), (.agg #[(Fl 0), (Fl 0), (Fl 0), (Fl 0), (Fl 0), (Fl 0)]), Ud, Ud, Ud]) rfl rfl (does_build (parts' := []) (cells := #[(Fl 0), (Fl 0), (Fl 0), (Fl 0), (Fl 0), (Fl 0)]) (evp rfl) (by kernel_rfl)) rfl ?_
    refine seqn rfl rfl (does_store (n := 6) (cs := [(Fl 0), (Fl 0), (Fl 0), (Fl 0), (Fl 0), (Fl 0)]) (u := (.agg #[(Fl 0), (Fl 0), (Fl 0), (Fl 0), (Fl 0), (Fl 0)])) (ev rfl) (ev rfl) Try.sizeOf64 rfl (hB25.ext E42) (Nat.le_of_ble_eq_true rfl) rfl) ?_; rintro _ w50 ⟨rfl, W48, hB49⟩
    change Blk _ _ [(Fl 0), (Fl 0), (Fl 0), (Fl 0), (Fl 0), (Fl 0)] at hB49
    have X51 := Below.wr X45 W48 g29
    refine q_is (l' := [(.agg #[(Fl r1), (Fl r3), (Fl r5), (Fl r7), (Fl r9), (Fl r11), (Fl r13), (Iv A_c.width), (Iv A_c.height)]), (Iv x), (Iv y), (Pt b16 0), Ud, Ud, (Pt b23 0), (Bo false), v33, v34, v35, v36, v37, v38, v39, (Bo β1), (.agg #[(Fl 0), (Fl 0), (Fl 0), (Fl 0), (Fl 0), (Fl 0)]), Ud, Ud, Ud]) rfl rfl (does_assign (u := (Bo false)) (ev rfl)) rfl ?_
    refine wpList_nil (hK47 _ _ ?_)
    refine wp_ret ?_
    dsimp only [Exit.then, Exit.inBlock]
    refine ret_val (v := (.tuple #[(.agg #[(Fl 0), (Fl 0), (Fl 0), (Fl 0), (Fl 0), (Fl 0)]), (Bo false)])) (res_CT rfl (slot rfl) (run_loadAgg (cs := [(Fl 0), (Fl 0), (Fl 0), (Fl 0), (Fl 0), (Fl 0)]) Try.isAgg64 Try.sizeOf64 (Blk.cells hB49) rfl) (slot rfl)) X51 ?_
    try simp only [h2, h4, h6, h8, h10, h12, h14, hβ1] at c46
    have x52 : (camPx A_c x y) = false := by first | (rw [camPx_f (by assumption)]; simp only [gvA_f, zRay, zV]; done) | (rw [camPx_t (by assumption)]; simp only [gvA_t, gvA_t, gvA_f, zV, zRay, zB, Bool.true_and, Bool.false_and, Bool.and_true, Bool.and_false, h2, h4, h6, h8, h10, h12, h14, hβ1, c46]; done) | exact camPx_f (by assumption) | exact camPx_t (by assumption) | (rw [camPx_f (by assumption)]; rfl) | assumption | (simp only [gvA_t, gvA_f, zV, zRay, zB, Bool.true_and, Bool.false_and, Bool.and_true, Bool.and_false, h2, h4, h6, h8, h10, h12, h14, hβ1, c46]; done)
    have x53 : cf .f32 0 = (gvA zRay (camPx A_c x y) (rayC A_c x y)).frm.x := by first | (rw [camPx_f (by assumption)]; simp only [gvA_f, zRay, zV]; done) | (rw [camPx_t (by assumption)]; simp only [gvA_t, gvA_t, gvA_f, zV, zRay, zB, Bool.true_and, Bool.false_and, Bool.and_true, Bool.and_false, h2, h4, h6, h8, h10, h12, h14, hβ1, c46]; done) | exact camPx_f (by assumption) | exact camPx_t (by assumption) | (rw [camPx_f (by assumption)]; rfl) | assumption | (simp only [gvA_t, gvA_f, zV, zRay, zB, Bool.true_and, Bool.false_and, Bool.and_true, Bool.and_false, h2, h4, h6, h8, h10, h12, h14, hβ1, c46]; done)
    have x54 : cf .f32 0 = (gvA zRay (camPx A_c x y) (rayC A_c x y)).frm.y := by first | (rw [camPx_f (by assumption)]; simp only [gvA_f, zRay, zV]; done) | (rw [camPx_t (by assumption)]; simp only [gvA_t, gvA_t, gvA_f, zV, zRay, zB, Bool.true_and, Bool.false_and, Bool.and_true, Bool.and_false, h2, h4, h6, h8, h10, h12, h14, hβ1, c46]; done) | exact camPx_f (by assumption) | exact camPx_t (by assumption) | (rw [camPx_f (by assumption)]; rfl) | assumption | (simp only [gvA_t, gvA_f, zV, zRay, zB, Bool.true_and, Bool.false_and, Bool.and_true, Bool.and_false, h2, h4, h6, h8, h10, h12, h14, hβ1, c46]; done)
    have x55 : cf .f32 0 = (gvA zRay (camPx A_c x y) (rayC A_c x y)).frm.z := by first | (rw [camPx_f (by assumption)]; simp only [gvA_f, zRay, zV]; done) | (rw [camPx_t (by assumption)]; simp only [gvA_t, gvA_t, gvA_f, zV, zRay, zB, Bool.true_and, Bool.false_and, Bool.and_true, Bool.and_false, h2, h4, h6, h8, h10, h12, h14, hβ1, c46]; done) | exact camPx_f (by assumption) | exact camPx_t (by assumption) | (rw [camPx_f (by assumption)]; rfl) | assumption | (simp only [gvA_t, gvA_f, zV, zRay, zB, Bool.true_and, Bool.false_and, Bool.and_true, Bool.and_false, h2, h4, h6, h8, h10, h12, h14, hβ1, c46]; done)
    have x56 : cf .f32 0 = (gvA zRay (camPx A_c x y) (rayC A_c x y)).way.x := by first | (rw [camPx_f (by assumption)]; simp only [gvA_f, zRay, zV]; done) | (rw [camPx_t (by assumption)]; simp only [gvA_t, gvA_t, gvA_f, zV, zRay, zB, Bool.true_and, Bool.false_and, Bool.and_true, Bool.and_false, h2, h4, h6, h8, h10, h12, h14, hβ1, c46]; done) | exact camPx_f (by assumption) | exact camPx_t (by assumption) | (rw [camPx_f (by assumption)]; rfl) | assumption | (simp only [gvA_t, gvA_f, zV, zRay, zB, Bool.true_and, Bool.false_and, Bool.and_true, Bool.and_false, h2, h4, h6, h8, h10, h12, h14, hβ1, c46]; done)
    have x57 : cf .f32 0 = (gvA zRay (camPx A_c x y) (rayC A_c x y)).way.y := by first | (rw [camPx_f (by assumption)]; simp only [gvA_f, zRay, zV]; done) | (rw [camPx_t (by assumption)]; simp only [gvA_t, gvA_t, gvA_f, zV, zRay, zB, Bool.true_and, Bool.false_and, Bool.and_true, Bool.and_false, h2, h4, h6, h8, h10, h12, h14, hβ1, c46]; done) | exact camPx_f (by assumption) | exact camPx_t (by assumption) | (rw [camPx_f (by assumption)]; rfl) | assumption | (simp only [gvA_t, gvA_f, zV, zRay, zB, Bool.true_and, Bool.false_and, Bool.and_true, Bool.and_false, h2, h4, h6, h8, h10, h12, h14, hβ1, c46]; done)
    have x58 : cf .f32 0 = (gvA zRay (camPx A_c x y) (rayC A_c x y)).way.z := by first | (rw [camPx_f (by assumption)]; simp only [gvA_f, zRay, zV]; done) | (rw [camPx_t (by assumption)]; simp only [gvA_t, gvA_t, gvA_f, zV, zRay, zB, Bool.true_and, Bool.false_and, Bool.and_true, Bool.and_false, h2, h4, h6, h8, h10, h12, h14, hβ1, c46]; done) | exact camPx_f (by assumption) | exact camPx_t (by assumption) | (rw [camPx_f (by assumption)]; rfl) | assumption | (simp only [gvA_t, gvA_f, zV, zRay, zB, Bool.true_and, Bool.false_and, Bool.and_true, Bool.and_false, h2, h4, h6, h8, h10, h12, h14, hβ1, c46]; done)
    exact ⟨[(Fl 0), (Fl 0), (Fl 0), (Fl 0), (Fl 0), (Fl 0)], (by first | rfl | rw [x52]), ⟨0, 0, 0, 0, 0, 0, rfl, x53, x54, x55, x56, x57, x58⟩⟩
  have c46' := c46
  (try simp only [hβ1] at c46')
  (try simp only [icmp, Bool.and_eq_true, Bool.or_eq_true, Bool.and_eq_false_iff, Bool.or_eq_false_iff, Bool.not_eq_true', Bool.not_eq_false', decide_eq_true_eq, decide_eq_false_iff_not, beq_iff_eq, bne_iff_ne, beq_eq_false_iff_ne, bne_eq_false_iff_eq] at c46')
  refine wp_skip (hK31 _ _ ?_)
  refine wp_seq_k fun K59 hK59 => ?_
  refine wp_region_lit ?_
  refine q_is (l' := [(.agg #[(Fl r1), (Fl r3), (Fl r5), (Fl r7), (Fl r9), (Fl r11), (Fl r13), (Iv A_c.width), (Iv A_c.height)]), (Iv x), (Iv y), (Pt b16 0), Ud, Ud, (Pt b23 0), (Bo false), v33, v34, v35, v36, v37, v38, v39, (Bo β1), Ud, (Iv x), Ud, Ud]) rfl rfl (does_move (u := (Iv x)) (ev rfl)) rfl ?_
  refine q_is (l' := [(.agg #[(Fl r1), (Fl r3), (Fl r5), (Fl r7), (Fl r9), (Fl r11), (Fl r13), (Iv A_c.width), (Iv A_c.height)]), (Iv x), (Iv y), (Pt b16 0), Ud, Ud, (Pt b23 0), (Bo false), v33, v34, v35, v36, v37, v38, v39, (Bo β1), Ud, (Iv x), (Iv y), Ud]) rfl rfl (does_move (u := (Iv y)) (ev rfl)) rfl ?_
  refine seqd rfl rfl (does_call (args := #[(Pt b16 0), (Iv x), (Iv y)]) cal71 (evs rfl) (c_spec_l09Ray b16 0 [(Fl r1), (Fl r3), (Fl r5), (Fl r7), (Fl r9), (Fl r11), (Fl r13), (Iv A_c.width), (Iv A_c.height)] A_c x y _ (Blk.cells ((hB18.ext E26).ext E42)) ⟨r1, r3, r5, r7, r9, r11, r13, rfl, h2, h4, h6, h8, h10, h12, h14⟩)) ?_; rintro _ w61 ⟨E60, ⟨_, rfl, ⟨r62, r64, r66, r68, r70, r72, rfl, h63, h65, h67, h69, h71, h73⟩⟩⟩
  have X74 := Ext.gr X45 E60
  show wpList _ _ _ _ (fr [(.agg #[(Fl r1), (Fl r3), (Fl r5), (Fl r7), (Fl r9), (Fl r11), (Fl r13), (Iv A_c.width), (Iv A_c.height)]), (Iv x), (Iv y), (Pt b16 0), Ud, Ud, (Pt b23 0), (Bo false), v33, v34, v35, v36, v37, v38, v39, (Bo β1), Ud, (Iv x), (Iv y), (.agg #[(Fl r62), (Fl r64), (Fl r66), (Fl r68), (Fl r70), (Fl r72)])]) _
  refine seqn rfl rfl (does_store (n := 6) (cs := [(Fl 0), (Fl 0), (Fl 0), (Fl 0), (Fl 0), (Fl 0)]) (u := (.agg #[(Fl r62), (Fl r64), (Fl r66), (Fl r68), (Fl r70), (Fl r72)])) (ev rfl) (ev rfl) Try.sizeOf64 rfl ((hB25.ext E42).ext E60) (Nat.le_of_ble_eq_true rfl) rfl) ?_; rintro _ w77 ⟨rfl, W75, hB76⟩
  change Blk _ _ [(Fl r62), (Fl r64), (Fl r66), (Fl r68), (Fl r70), (Fl r72)] at hB76
  have X78 := Below.wr X74 W75 g29
  refine q_is (l' := [(.agg #[(Fl r1), (Fl r3), (Fl r5), (Fl r7), (Fl r9), (Fl r11), (Fl r13), (Iv A_c.width), (Iv A_c.height)]), (Iv x), (Iv y), (Pt b16 0), Ud, Ud, (Pt b23 0), (Bo true), v33, v34, v35, v36, v37, v38, v39, (Bo β1), Ud, (Iv x), (Iv y), (.agg #[(Fl r62), (Fl r64), (Fl r66), (Fl r68), (Fl r70), (Fl r72)])]) rfl rfl (does_assign (u := (Bo true)) (ev rfl)) rfl ?_
  refine wpList_nil (hK59 _ _ ?_)
  refine wp_ret ?_
  refine ret_val (v := (.tuple #[(.agg #[(Fl r62), (Fl r64), (Fl r66), (Fl r68), (Fl r70), (Fl r72)]), (Bo true)])) (res_CT rfl (slot rfl) (run_loadAgg (cs := [(Fl r62), (Fl r64), (Fl r66), (Fl r68), (Fl r70), (Fl r72)]) Try.isAgg64 Try.sizeOf64 (Blk.cells hB76) rfl) (slot rfl)) X78 ?_
  try simp only [h2, h4, h6, h8, h10, h12, h14, hβ1, h63, h65, h67, h69, h71, h73] at c46
  have x79 : (camPx A_c x y) = true := by first | (rw [camPx_f (by assumption)]; simp only [gvA_f, zRay, zV]; done) | (rw [camPx_t (by assumption)]; simp only [gvA_t, gvA_t, gvA_f, zV, zRay, zB, Bool.true_and, Bool.false_and, Bool.and_true, Bool.and_false, h2, h4, h6, h8, h10, h12, h14, hβ1, h63, h65, h67, h69, h71, h73, c46]; done) | exact camPx_f (by assumption) | exact camPx_t (by assumption) | (rw [camPx_f (by assumption)]; rfl) | assumption | (simp only [gvA_t, gvA_f, zV, zRay, zB, Bool.true_and, Bool.false_and, Bool.and_true, Bool.and_false, h2, h4, h6, h8, h10, h12, h14, hβ1, h63, h65, h67, h69, h71, h73, c46]; done)
  have x80 : cf .f32 r62 = (gvA zRay (camPx A_c x y) (rayC A_c x y)).frm.x := by first | (rw [camPx_f (by assumption)]; simp only [gvA_f, zRay, zV]; done) | (rw [camPx_t (by assumption)]; simp only [gvA_t, gvA_t, gvA_f, zV, zRay, zB, Bool.true_and, Bool.false_and, Bool.and_true, Bool.and_false, h2, h4, h6, h8, h10, h12, h14, hβ1, h63, h65, h67, h69, h71, h73, c46]; done) | exact camPx_f (by assumption) | exact camPx_t (by assumption) | (rw [camPx_f (by assumption)]; rfl) | assumption | (simp only [gvA_t, gvA_f, zV, zRay, zB, Bool.true_and, Bool.false_and, Bool.and_true, Bool.and_false, h2, h4, h6, h8, h10, h12, h14, hβ1, h63, h65, h67, h69, h71, h73, c46]; done)
  have x81 : cf .f32 r64 = (gvA zRay (camPx A_c x y) (rayC A_c x y)).frm.y := by first | (rw [camPx_f (by assumption)]; simp only [gvA_f, zRay, zV]; done) | (rw [camPx_t (by assumption)]; simp only [gvA_t, gvA_t, gvA_f, zV, zRay, zB, Bool.true_and, Bool.false_and, Bool.and_true, Bool.and_false, h2, h4, h6, h8, h10, h12, h14, hβ1, h63, h65, h67, h69, h71, h73, c46]; done) | exact camPx_f (by assumption) | exact camPx_t (by assumption) | (rw [camPx_f (by assumption)]; rfl) | assumption | (simp only [gvA_t, gvA_f, zV, zRay, zB, Bool.true_and, Bool.false_and, Bool.and_true, Bool.and_false, h2, h4, h6, h8, h10, h12, h14, hβ1, h63, h65, h67, h69, h71, h73, c46]; done)
  have x82 : cf .f32 r66 = (gvA zRay (camPx A_c x y) (rayC A_c x y)).frm.z := by first | (rw [camPx_f (by assumption)]; simp only [gvA_f, zRay, zV]; done) | (rw [camPx_t (by assumption)]; simp only [gvA_t, gvA_t, gvA_f, zV, zRay, zB, Bool.true_and, Bool.false_and, Bool.and_true, Bool.and_false, h2, h4, h6, h8, h10, h12, h14, hβ1, h63, h65, h67, h69, h71, h73, c46]; done) | exact camPx_f (by assumption) | exact camPx_t (by assumption) | (rw [camPx_f (by assumption)]; rfl) | assumption | (simp only [gvA_t, gvA_f, zV, zRay, zB, Bool.true_and, Bool.false_and, Bool.and_true, Bool.and_false, h2, h4, h6, h8, h10, h12, h14, hβ1, h63, h65, h67, h69, h71, h73, c46]; done)
  have x83 : cf .f32 r68 = (gvA zRay (camPx A_c x y) (rayC A_c x y)).way.x := by first | (rw [camPx_f (by assumption)]; simp only [gvA_f, zRay, zV]; done) | (rw [camPx_t (by assumption)]; simp only [gvA_t, gvA_t, gvA_f, zV, zRay, zB, Bool.true_and, Bool.false_and, Bool.and_true, Bool.and_false, h2, h4, h6, h8, h10, h12, h14, hβ1, h63, h65, h67, h69, h71, h73, c46]; done) | exact camPx_f (by assumption) | exact camPx_t (by assumption) | (rw [camPx_f (by assumption)]; rfl) | assumption | (simp only [gvA_t, gvA_f, zV, zRay, zB, Bool.true_and, Bool.false_and, Bool.and_true, Bool.and_false, h2, h4, h6, h8, h10, h12, h14, hβ1, h63, h65, h67, h69, h71, h73, c46]; done)
  have x84 : cf .f32 r70 = (gvA zRay (camPx A_c x y) (rayC A_c x y)).way.y := by first | (rw [camPx_f (by assumption)]; simp only [gvA_f, zRay, zV]; done) | (rw [camPx_t (by assumption)]; simp only [gvA_t, gvA_t, gvA_f, zV, zRay, zB, Bool.true_and, Bool.false_and, Bool.and_true, Bool.and_false, h2, h4, h6, h8, h10, h12, h14, hβ1, h63, h65, h67, h69, h71, h73, c46]; done) | exact camPx_f (by assumption) | exact camPx_t (by assumption) | (rw [camPx_f (by assumption)]; rfl) | assumption | (simp only [gvA_t, gvA_f, zV, zRay, zB, Bool.true_and, Bool.false_and, Bool.and_true, Bool.and_false, h2, h4, h6, h8, h10, h12, h14, hβ1, h63, h65, h67, h69, h71, h73, c46]; done)
  have x85 : cf .f32 r72 = (gvA zRay (camPx A_c x y) (rayC A_c x y)).way.z := by first | (rw [camPx_f (by assumption)]; simp only [gvA_f, zRay, zV]; done) | (rw [camPx_t (by assumption)]; simp only [gvA_t, gvA_t, gvA_f, zV, zRay, zB, Bool.true_and, Bool.false_and, Bool.and_true, Bool.and_false, h2, h4, h6, h8, h10, h12, h14, hβ1, h63, h65, h67, h69, h71, h73, c46]; done) | exact camPx_f (by assumption) | exact camPx_t (by assumption) | (rw [camPx_f (by assumption)]; rfl) | assumption | (simp only [gvA_t, gvA_f, zV, zRay, zB, Bool.true_and, Bool.false_and, Bool.and_true, Bool.and_false, h2, h4, h6, h8, h10, h12, h14, hβ1, h63, h65, h67, h69, h71, h73, c46]; done)
  exact ⟨[(Fl r62), (Fl r64), (Fl r66), (Fl r68), (Fl r70), (Fl r72)], (by first | rfl | rw [x79]), ⟨r62, r64, r66, r68, r70, r72, rfl, x80, x81, x82, x83, x84, x85⟩⟩

end Go.Proofs.Ytbbidfadenmmjaa
