/- contracts of functions, each walked once -/
import Derived.Test.YtffmjlalacnfiaaTy
import Derived.Test.YtffmjlalacnfiaaUni
import Derived.Test.YtffmjlalacnfiaaOwn
import Derived.Test.YtffmjlalacnfiaaRow
import Derived.Test.YtffmjlalacnfiaaEdg
namespace Go.Proofs.Ytffmjlalacnfiaa
open Go Go.RowKit
set_option maxRecDepth 100000
set_option maxHeartbeats 3200000
set_option linter.unusedVariables false
set_option linter.unusedSimpArgs false

/- spec.l06Near -/
theorem c_spec_l06Near (g_b : Nat) (g_o : Nat) (g : List Value) (A_g : GridT) (ix : Int) (w : World) (hc_g : Cells w g_b g_o g) (hv_g : RGridT w A_g g) (hgr : isGrid A_g = true) (hix : 0 ≤ ix ∧ ix < A_g.vals.length) : Gives Try.prog 56 #[(Pt g_b g_o), (Iv ix)] w (fun v w' => ∃ y_1 : Value, v = y_1 ∧ Hang w.heap.size w' (fun u => Sl RI 1 u y_1 (nb A_g ix))) := by
  obtain ⟨r1, r3, r5, r7, y9, rfl, h2, h4, h6, h8, h10⟩ := hv_g
  have hs13 := h10; have hs13l := Sl.len h10; obtain ⟨p11, q12, rfl⟩ := Sl.shape h10
  obtain ⟨hnx, hny, hnz, hnxy, hni, hn1, hn2, hn3, hn4⟩ := nb_pre hgr hix
  refine enter [(Pt g_b g_o), (Iv ix), Ud, Ud, Ud, Ud, Ud, Ud, Ud, Ud, Ud, Ud, Ud, Ud, Ud, Ud, Ud, Ud, Ud, Ud, Ud, Ud, Ud, Ud, Ud, Ud, Ud, Ud, Ud, Ud, Ud, Ud, Ud, Ud, Ud, Ud, Ud, Ud, Ud, Ud, Ud, Ud, Ud, Ud, Ud, Ud, Ud, Ud, Ud, Ud, Ud, Ud, Ud, Ud, Ud, Ud, Ud, Ud, Ud, Ud, Ud, Ud, Ud, Ud, Ud, Ud, Ud, Ud, Ud, Ud, Ud, Ud, Ud, Ud, Ud, Ud, Ud, Ud, Ud, Ud, Ud, Ud, Ud, Ud, Ud, Ud, Ud, Ud, Ud, Ud, Ud, Ud, Ud, Ud, Ud, Ud, Ud, Ud, Ud, Ud, Ud, Ud, Ud, Ud, Ud, Ud, Ud, Ud, Ud, Ud, Ud, Ud, Ud, Ud, Ud, Ud, Ud, Ud, Ud, Ud, Ud, Ud] Try.func56 rfl Try.ntmps56 rfl ?_
  refine wp_seq_k fun K14 hK14 => ?_
  refine wp_region_lit ?_
  refine q_is rfl rfl (does_assign (u := (.slice none 0 0)) (ev rfl)) (by dsimp only [List.set]; try rfl) ?_
  refine wpList_nil (hK14 _ _ ?_)
  refine wp_seq_k fun K15 hK15 => ?_
  refine wp_region_lit ?_
  refine q_is rfl rfl (does_move (u := (Iv ix)) (ev rfl)) (by dsimp only [List.set]; try rfl) ?_
  refine q_is rfl rfl (does_move (u := (Pt g_b g_o)) (ev rfl)) (by dsimp only [List.set]; try rfl) ?_
  refine q_is rfl rfl (does_nilCheck (ev rfl)) (by dsimp only [List.set]; try rfl) ?_
  refine q_is rfl rfl (does_fieldAddr (ev rfl) fa31_2) (by dsimp only [List.set]; try rfl) ?_
  refine q_is rfl rfl (does_load (u := (Iv A_g.x)) (ev rfl) Try.isAgg2 (Cells.at hc_g 4 rfl)) (by dsimp only [List.set]; try rfl) ?_
  refine q_is rfl rfl (does_irem (p := ix) (q := A_g.x) (ev rfl) (ev rfl) (by first | omega | assumption) (by first | omega | assumption) (by first | omega | assumption)) (by dsimp only [List.set]; try rfl) ?_
  refine q_is rfl rfl (does_assign (u := (Iv (ix % A_g.x))) (ev rfl)) (by dsimp only [List.set]; try rfl) ?_
  refine wpList_nil (hK15 _ _ ?_)
  refine wp_seq_k fun K16 hK16 => ?_
  refine region_draw (
    [Fact.pure [] (fun v => v = (Iv ix)),
    Fact.pure [] (fun v => v = (Pt g_b g_o)),
    Fact.pure [16] (fun v => v = (Pt g_b g_o)),
    Fact.pure [17] (fun v => v = (Pt g_b (g_o + 4))),
    Fact.pure [18] (fun v => v = (Iv A_g.x)),
    Fact.pure [15, 19] (fun v => v = (Iv (ix / A_g.x))),
    Fact.pure [] (fun v => v = (Pt g_b g_o)),
    Fact.pure [21] (fun v => v = (Pt g_b g_o)),
    Fact.pure [22] (fun v => v = (Pt g_b (g_o + 5))),
    Fact.pure [23] (fun v => v = (Iv A_g.y)),
    Fact.pure [20, 24] (fun v => v = (Iv ((ix / A_g.x) % A_g.y)))]) mixed (by kernel_rfl) (by intro _ _ d _ _ h; cases d <;> exact h) ?_
  obtain ⟨w17, hw19⟩ : ∃ w', w' = World.drew w := ⟨_, rfl⟩; rw [← hw19]; have E18 : Ext w w17 := by rw [hw19]; exact Ext.draw _
  clear hw19
  have X20 := Ext.gr (Ext.refl w) E18
  refine RW_d _ rfl (fun v => by dsimp only [List.set]; try rfl) (fun u hu hF => ?_) (fun v21 => ?_)
  · clear hF
    refine doesG_un rfl ?_
    refine (does_move (u := (Iv ix)) (ev rfl)).mono ?_; rintro _ _ ⟨rfl, rfl⟩
    exact ⟨rfl, Ext.refl _⟩
  refine RW_d _ rfl (fun v => by dsimp only [List.set]; try rfl) (fun u hu hF => ?_) (fun v22 => ?_)
  · clear hF
    refine doesG_un rfl ?_
    refine (does_move (u := (Pt g_b g_o)) (ev rfl)).mono ?_; rintro _ _ ⟨rfl, rfl⟩
    exact ⟨rfl, Ext.refl _⟩
  refine RW_d _ rfl (fun v => by dsimp only [List.set]; try rfl) (fun u hu hF => ?_) (fun v23 => ?_)
  · have h16_ : v22 = (Pt g_b g_o) := hF.1
    clear hF
    refine doesG_un rfl ?_
    obtain rfl := h16_
    refine (does_nilCheck (ev rfl)).mono ?_; rintro _ _ ⟨rfl, rfl⟩
    exact ⟨rfl, Ext.refl _⟩
  refine RW_d _ rfl (fun v => by dsimp only [List.set]; try rfl) (fun u hu hF => ?_) (fun v24 => ?_)
  · have h17_ : v23 = (Pt g_b g_o) := hF.1
    clear hF
    refine doesG_un rfl ?_
    obtain rfl := h17_
    refine (does_fieldAddr (ev rfl) fa31_2).mono ?_; rintro _ _ ⟨rfl, rfl⟩
    exact ⟨rfl, Ext.refl _⟩
  refine RW_d _ rfl (fun v => by dsimp only [List.set]; try rfl) (fun u hu hF => ?_) (fun v25 => ?_)
  · have h18_ : v24 = (Pt g_b (g_o + 4)) := hF.1
    clear hF
    refine doesG_un rfl ?_
    obtain rfl := h18_
    refine (does_load (u := (Iv A_g.x)) (ev rfl) Try.isAgg2 (Cells.at ((hc_g.ext (Ext.gr (Ext.refl w) E18)).ext hu) 4 rfl)).mono ?_; rintro _ _ ⟨rfl, rfl⟩
    exact ⟨rfl, Ext.refl _⟩
  refine RW_d _ rfl (fun v => by dsimp only [List.set]; try rfl) (fun u hu hF => ?_) (fun v26 => ?_)
  · have h15_ : v21 = (Iv ix) := hF.1
    have h19_ : v25 = (Iv A_g.x) := hF.2.1
    clear hF
    refine doesG_un rfl ?_
    obtain rfl := h15_
    obtain rfl := h19_
    refine (does_iquo (p := ix) (q := A_g.x) (ev rfl) (ev rfl) (by first | omega | assumption) (by first | omega | assumption) (by first | omega | assumption)).mono ?_; rintro _ _ ⟨rfl, rfl⟩
    exact ⟨rfl, Ext.refl _⟩
  refine RW_d _ rfl (fun v => by dsimp only [List.set]; try rfl) (fun u hu hF => ?_) (fun v27 => ?_)
  · clear hF
    refine doesG_un rfl ?_
    refine (does_move (u := (Pt g_b g_o)) (ev rfl)).mono ?_; rintro _ _ ⟨rfl, rfl⟩
    exact ⟨rfl, Ext.refl _⟩
  refine RW_d _ rfl (fun v => by dsimp only [List.set]; try rfl) (fun u hu hF => ?_) (fun v28 => ?_)
  · have h21_ : v27 = (Pt g_b g_o) := hF.1
    clear hF
    refine doesG_un rfl ?_
    obtain rfl := h21_
    refine (does_nilCheck (ev rfl)).mono ?_; rintro _ _ ⟨rfl, rfl⟩
    exact ⟨rfl, Ext.refl _⟩
  refine RW_d _ rfl (fun v => by dsimp only [List.set]; try rfl) (fun u hu hF => ?_) (fun v29 => ?_)
  · have h22_ : v28 = (Pt g_b g_o) := hF.1
    clear hF
    refine doesG_un rfl ?_
    obtain rfl := h22_
    refine (does_fieldAddr (ev rfl) fa31_3).mono ?_; rintro _ _ ⟨rfl, rfl⟩
    exact ⟨rfl, Ext.refl _⟩
  refine RW_d _ rfl (fun v => by dsimp only [List.set]; try rfl) (fun u hu hF => ?_) (fun v30 => ?_)
  · have h23_ : v29 = (Pt g_b (g_o + 5)) := hF.1
    clear hF
    refine doesG_un rfl ?_
    obtain rfl := h23_
    refine (does_load (u := (Iv A_g.y)) (ev rfl) Try.isAgg2 (Cells.at ((hc_g.ext (Ext.gr (Ext.refl w) E18)).ext hu) 5 rfl)).mono ?_; rintro _ _ ⟨rfl, rfl⟩
    exact ⟨rfl, Ext.refl _⟩
  refine RW_d _ rfl (fun v => by dsimp only [List.set]; try rfl) (fun u hu hF => ?_) (fun v31 => ?_)
  · have h20_ : v26 = (Iv (ix / A_g.x)) := hF.1
    have h24_ : v30 = (Iv A_g.y) := hF.2.1
    clear hF
    refine doesG_un rfl ?_
    obtain rfl := h20_
    obtain rfl := h24_
    refine (does_irem (p := ix / A_g.x) (q := A_g.y) (ev rfl) (ev rfl) (by first | omega | assumption) (by first | omega | assumption) (by first | omega | assumption)).mono ?_; rintro _ _ ⟨rfl, rfl⟩
    exact ⟨rfl, Ext.refl _⟩
  refine RW_fin ?_; intro w32 E33 hP34
  obtain ⟨⟨⟨⟨⟨⟨⟨⟨⟨⟨⟨-, -⟩, -⟩, -⟩, -⟩, -⟩, -⟩, -⟩, -⟩, -⟩, -⟩, q35⟩ := hP34
  have X36 := Ext.gr X20 E33
  have q35 : v31 = (Iv ((ix / A_g.x) % A_g.y)) := q35
  obtain rfl := q35
  show wpList _ _ _ _ (fr [_, _, _, _, _, _, _, _, _, _, _, _, _, _, _, _, _, _, _, _, _, _, _, _, _, _, _, _, _, _, _, _, _, _, _, _, _, _, _, _, _, _, _, _, _, _, _, _, _, _, _, _, _, _, _, _, _, _, _, _, _, _, _, _, _, _, _, _, _, _, _, _, _, _, _, _, _, _, _, _, _, _, _, _, _, _, _, _, _, _, _, _, _, _, _, _, _, _, _, _, _, _, _, _, _, _, _, _, _, _, _, _, _, _, _, _, _, _, _, _, _, _]) _
  refine q_is rfl rfl (does_assign (u := (Iv ((ix / A_g.x) % A_g.y))) (ev rfl)) (by dsimp only [List.set]; try rfl) ?_
  refine wpList_nil (hK16 _ _ ?_)
  refine wp_seq_k fun K37 hK37 => ?_
  refine region_draw (
    [Fact.pure [] (fun v => v = (Iv ix)),
    Fact.pure [] (fun v => v = (Pt g_b g_o)),
    Fact.pure [27] (fun v => v = (Pt g_b g_o)),
    Fact.pure [28] (fun v => v = (Pt g_b (g_o + 4))),
    Fact.pure [29] (fun v => v = (Iv A_g.x)),
    Fact.pure [26, 30] (fun v => v = (Iv (ix / A_g.x))),
    Fact.pure [] (fun v => v = (Pt g_b g_o)),
    Fact.pure [32] (fun v => v = (Pt g_b g_o)),
    Fact.pure [33] (fun v => v = (Pt g_b (g_o + 5))),
    Fact.pure [34] (fun v => v = (Iv A_g.y)),
    Fact.pure [31, 35] (fun v => v = (Iv ((ix / A_g.x) / A_g.y)))]) mixed (by kernel_rfl) (by intro _ _ d _ _ h; cases d <;> exact h) ?_
  obtain ⟨w38, hw40⟩ : ∃ w', w' = World.drew w32 := ⟨_, rfl⟩; rw [← hw40]; have E39 : Ext w32 w38 := by rw [hw40]; exact Ext.draw _
  clear hw40
  have X41 := Ext.gr X36 E39
  refine RW_d _ rfl (fun v => by dsimp only [List.set]; try rfl) (fun u hu hF => ?_) (fun v42 => ?_)
  · clear hF
    refine doesG_un rfl ?_
    refine (does_move (u := (Iv ix)) (ev rfl)).mono ?_; rintro _ _ ⟨rfl, rfl⟩
    exact ⟨rfl, Ext.refl _⟩
  refine RW_d _ rfl (fun v => by dsimp only [List.set]; try rfl) (fun u hu hF => ?_) (fun v43 => ?_)
  · clear hF
    refine doesG_un rfl ?_
    refine (does_move (u := (Pt g_b g_o)) (ev rfl)).mono ?_; rintro _ _ ⟨rfl, rfl⟩
    exact ⟨rfl, Ext.refl _⟩
  refine RW_d _ rfl (fun v => by dsimp only [List.set]; try rfl) (fun u hu hF => ?_) (fun v44 => ?_)
  · have h27_ : v43 = (Pt g_b g_o) := hF.1
    clear hF
    refine doesG_un rfl ?_
    obtain rfl := h27_
    refine (does_nilCheck (ev rfl)).mono ?_; rintro _ _ ⟨rfl, rfl⟩
    exact ⟨rfl, Ext.refl _⟩
  refine RW_d _ rfl (fun v => by dsimp only [List.set]; try rfl) (fun u hu hF => ?_) (fun v45 => ?_)
  · have h28_ : v44 = (Pt g_b g_o) := hF.1
    clear hF
    refine doesG_un rfl ?_
    obtain rfl := h28_
    refine (does_fieldAddr (ev rfl) fa31_2).mono ?_; rintro _ _ ⟨rfl, rfl⟩
    exact ⟨rfl, Ext.refl _⟩
  refine RW_d _ rfl (fun v => by dsimp only [List.set]; try rfl) (fun u hu hF => ?_) (fun v46 => ?_)
  · have h29_ : v45 = (Pt g_b (g_o + 4)) := hF.1
    clear hF
    refine doesG_un rfl ?_
    obtain rfl := h29_
    refine (does_load (u := (Iv A_g.x)) (ev rfl) Try.isAgg2 (Cells.at ((hc_g.ext (Ext.gr X36 E39)).ext hu) 4 rfl)).mono ?_; rintro _ _ ⟨rfl, rfl⟩
    exact ⟨rfl, Ext.refl _⟩
  refine RW_d _ rfl (fun v => by dsimp only [List.set]; try rfl) (fun u hu hF => ?_) (fun v47 => ?_)
  · have h26_ : v42 = (Iv ix) := hF.1
    have h30_ : v46 = (Iv A_g.x) := hF.2.1
    clear hF
    refine doesG_un rfl ?_
    obtain rfl := h26_
    obtain rfl := h30_
    refine (does_iquo (p := ix) (q := A_g.x) (ev rfl) (ev rfl) (by first | omega | assumption) (by first | omega | assumption) (by first | omega | assumption)).mono ?_; rintro _ _ ⟨rfl, rfl⟩
    exact ⟨rfl, Ext.refl _⟩
  refine RW_d _ rfl (fun v => by dsimp only [List.set]; try rfl) (fun u hu hF => ?_) (fun v48 => ?_)
  · clear hF
    refine doesG_un rfl ?_
    refine (does_move (u := (Pt g_b g_o)) (ev rfl)).mono ?_; rintro _ _ ⟨rfl, rfl⟩
    exact ⟨rfl, Ext.refl _⟩
  refine RW_d _ rfl (fun v => by dsimp only [List.set]; try rfl) (fun u hu hF => ?_) (fun v49 => ?_)
  · have h32_ : v48 = (Pt g_b g_o) := hF.1
    clear hF
    refine doesG_un rfl ?_
    obtain rfl := h32_
    refine (does_nilCheck (ev rfl)).mono ?_; rintro _ _ ⟨rfl, rfl⟩
    exact ⟨rfl, Ext.refl _⟩
  refine RW_d _ rfl (fun v => by dsimp only [List.set]; try rfl) (fun u hu hF => ?_) (fun v50 => ?_)
  · have h33_ : v49 = (Pt g_b g_o) := hF.1
    clear hF
    refine doesG_un rfl ?_
    obtain rfl := h33_
    refine (does_fieldAddr (ev rfl) fa31_3).mono ?_; rintro _ _ ⟨rfl, rfl⟩
    exact ⟨rfl, Ext.refl _⟩
  refine RW_d _ rfl (fun v => by dsimp only [List.set]; try rfl) (fun u hu hF => ?_) (fun v51 => ?_)
  · have h34_ : v50 = (Pt g_b (g_o + 5)) := hF.1
    clear hF
    refine doesG_un rfl ?_
    obtain rfl := h34_
    refine (does_load (u := (Iv A_g.y)) (ev rfl) Try.isAgg2 (Cells.at ((hc_g.ext (Ext.gr X36 E39)).ext hu) 5 rfl)).mono ?_; rintro _ _ ⟨rfl, rfl⟩
    exact ⟨rfl, Ext.refl _⟩
  refine RW_d _ rfl (fun v => by dsimp only [List.set]; try rfl) (fun u hu hF => ?_) (fun v52 => ?_)
  · have h31_ : v47 = (Iv (ix / A_g.x)) := hF.1
    have h35_ : v51 = (Iv A_g.y) := hF.2.1
    clear hF
    refine doesG_un rfl ?_
    obtain rfl := h31_
    obtain rfl := h35_
    refine (does_iquo (p := ix / A_g.x) (q := A_g.y) (ev rfl) (ev rfl) (by first | omega | assumption) (by first | omega | assumption) (by first | omega | assumption)).mono ?_; rintro _ _ ⟨rfl, rfl⟩
    exact ⟨rfl, Ext.refl _⟩
  refine RW_fin ?_; intro w53 E54 hP55
  obtain ⟨⟨⟨⟨⟨⟨⟨⟨⟨⟨⟨-, -⟩, -⟩, -⟩, -⟩, -⟩, -⟩, -⟩, -⟩, -⟩, -⟩, q56⟩ := hP55
  have X57 := Ext.gr X41 E54
  have q56 : v52 = (Iv ((ix / A_g.x) / A_g.y)) := q56
  obtain rfl := q56
  show wpList _ _ _ _ (fr [_, _, _, _, _, _, _, _, _, _, _, _, _, _, _, _, _, _, _, _, _, _, _, _, _, _, _, _, _, _, _, _, _, _, _, _, _, _, _, _, _, _, _, _, _, _, _, _, _, _, _, _, _, _, _, _, _, _, _, _, _, _, _, _, _, _, _, _, _, _, _, _, _, _, _, _, _, _, _, _, _, _, _, _, _, _, _, _, _, _, _, _, _, _, _, _, _, _, _, _, _, _, _, _, _, _, _, _, _, _, _, _, _, _, _, _, _, _, _, _, _, _]) _
  refine q_is rfl rfl (does_assign (u := (Iv ((ix / A_g.x) / A_g.y))) (ev rfl)) (by dsimp only [List.set]; try rfl) ?_
  refine wpList_nil (hK37 _ _ ?_)
  refine wp_seq_k fun K58 hK58 => ?_
  refine wp_region_lit ?_
  have n65 : g_b < w53.heap.size := cell_lt (Cells.at (hc_g.ext X57) 0 rfl)
  refine seqd rfl rfl (does_slice0 (e := 2) (fun _ => by kernel_rfl)) ?_; rintro _ w64 ⟨b59, rfl, hb60, hl61, hO62, E63⟩
  have X66 := Ext.gr X57 E63
  have hO67 := hO62 _ RI 1
  have hH68 : Hang w53.heap.size w64 (fun u => Sl RI 1 u (.slice (some ⟨b59, 0, none⟩) 0 0) ([])) := Own.hang hO67 RI.flat (by decide) hb60 (Below.size E63)
  show wpList _ _ _ _ (fr [_, _, _, _, _, _, _, _, _, _, _, _, _, _, _, _, _, _, _, _, _, _, _, _, _, _, _, _, _, _, _, _, _, _, _, _, _, _, _, _, _, _, _, _, _, _, _, _, _, _, _, _, _, _, _, _, _, _, _, _, _, _, _, _, _, _, _, _, _, _, _, _, _, _, _, _, _, _, _, _, _, _, _, _, _, _, _, _, _, _, _, _, _, _, _, _, _, _, _, _, _, _, _, _, _, _, _, _, _, _, _, _, _, _, _, _, _, _, _, _, _, _]) _
  refine q_is rfl rfl (does_assign (u := (.slice (some ⟨b59, 0, none⟩) 0 0)) (ev rfl)) (by dsimp only [List.set]; try rfl) ?_
  refine wpList_nil (hK58 _ _ ?_)
  refine wp_seq_k fun K69 hK69 => ?_
  refine wp_seq_k fun K70 hK70 => ?_
  refine wp_region_lit ?_
  refine q_is rfl rfl (does_move (u := (Iv ((ix / A_g.x) / A_g.y))) (ev rfl)) (by dsimp only [List.set]; try rfl) ?_
  refine q_is rfl rfl (does_icmp (p := (ix / A_g.x) / A_g.y) (q := 0) (.inr (.inr (.inr (.inr (.inl rfl))))) (ev rfl) (ev rfl)) (by dsimp only [List.set]; try rfl) ?_
  refine wpList_nil (hK70 _ _ ?_)
  have n76 : g_b < w64.heap.size := cell_lt (Cells.at (hc_g.ext X66) 0 rfl)
  obtain ⟨gg72, hg73, hg74, hO75⟩ := Own.start' hO67 hO67
  have hN77 : w53.heap.size ≤ gg72 := by rcases hg73 with h | h; exact h ▸ hb60; exact Nat.le_trans (Below.size E63) h
  have g78 : w.heap.size ≤ gg72 := Nat.le_trans (Nat.le_trans (Nat.le_trans (Nat.le_trans (Below.size E18) (Below.size E33)) (Below.size E39)) (Below.size E54)) hN77
  have hg79 : gg72 < w64.heap.size := by rcases hg74 with h | h; exact h ▸ Nat.lt_of_lt_of_le hl61 (Nat.le_refl _); exact h
  have hH80 : Hang w53.heap.size w64 (fun u => Sl RI 1 u (.slice (some ⟨b59, 0, none⟩) 0 0) ([])) := Own.hang hO75 RI.flat (by decide) hN77 (Below.size E63)
  have J69 : ∀ (u71 : Nat → Value) (y8_ : Value) (w81 : World), (KpL [gg72] w64 w81) → (Own RI 1 2 gg72 w64.heap.size w81 y8_ (nbK A_g ix 1)) → K69 (fr [(Pt g_b g_o), (Iv ix), Ud, Ud, (.slice none 0 0), (Iv (ix % A_g.x)), (Iv ((ix / A_g.x) % A_g.y)), (Iv ((ix / A_g.x) / A_g.y)), y8_, (Iv ix), (Pt g_b g_o), (Pt g_b g_o), (Pt g_b (g_o + 4)), (Iv A_g.x), (Iv (ix % A_g.x)), v21, v22, v23, v24, v25, v26, v27, v28, v29, v30, (Iv ((ix / A_g.x) % A_g.y)), v42, v43, v44, v45, v46, v47, v48, v49, v50, v51, (Iv ((ix / A_g.x) / A_g.y)), (.slice (some ⟨b59, 0, none⟩) 0 0), (Iv ((ix / A_g.x) / A_g.y)), (Bo (icmp .gtr ((ix / A_g.x) / A_g.y) 0)), (u71 40), (u71 41), (u71 42), (u71 43), (u71 44), (u71 45), (u71 46), (u71 47), (u71 48), (u71 49), (u71 50), (u71 51), (u71 52), (u71 53), Ud, Ud, Ud, Ud, Ud, Ud, Ud, Ud, Ud, Ud, Ud, Ud, Ud, Ud, Ud, Ud, Ud, Ud, Ud, Ud, Ud, Ud, Ud, Ud, Ud, Ud, Ud, Ud, Ud, Ud, Ud, Ud, Ud, Ud, Ud, Ud, Ud, Ud, Ud, Ud, Ud, Ud, Ud, Ud, Ud, Ud, Ud, Ud, Ud, Ud, Ud, Ud, Ud, Ud, Ud, Ud, Ud, Ud, Ud, Ud, Ud, Ud, Ud, Ud, Ud, Ud, Ud, Ud]) w81 := by
    intro u71 y8_ w81 E82 hO83
    have X84 := Below.kl X66 E82 (allS g78 all0) (Nat.le_refl _)
    obtain ⟨p85, q86, rfl⟩ := Own.shape hO83
    have hH87 : Hang w53.heap.size w81 (fun u => Sl RI 1 u (.slice p85 ((nbK A_g ix 1).length) q86) (nbK A_g ix 1)) := Own.hang hO83 RI.flat (by decide) hN77 (Below.size E63)
    have hnl := nbK_len A_g ix 1
    refine hK69 _ _ ?_
    refine wp_seq_k fun K88 hK88 => ?_
    refine wp_seq_k fun K89 hK89 => ?_
    refine wp_region_lit ?_
    refine q_is rfl rfl (does_move (u := (Iv ((ix / A_g.x) % A_g.y))) (ev rfl)) (by dsimp only [List.set]; try rfl) ?_
    refine q_is rfl rfl (does_icmp (p := (ix / A_g.x) % A_g.y) (q := 0) (.inr (.inr (.inr (.inr (.inl rfl))))) (ev rfl) (ev rfl)) (by dsimp only [List.set]; try rfl) ?_
    refine wpList_nil (hK89 _ _ ?_)
    have n95 : g_b < w81.heap.size := cell_lt (Cells.at (hc_g.ext X84) 0 rfl)
    obtain ⟨gg91, hg92, hg93, hO94⟩ := Own.start' hO83 hO83
    have hN96 : w53.heap.size ≤ gg91 := by rcases hg92 with h | h; exact h ▸ hN77; exact Nat.le_trans (Below.size E63) h
    have g97 : w.heap.size ≤ gg91 := Nat.le_trans (Nat.le_trans (Nat.le_trans (Nat.le_trans (Below.size E18) (Below.size E33)) (Below.size E39)) (Below.size E54)) hN96
    have n98 : g_b ≠ gg91 := hg92.elim (fun h => by rw [h]; exact (Nat.ne_of_lt (Nat.lt_of_lt_of_le n65 hN77))) (fun h => Nat.ne_of_lt (Nat.lt_of_lt_of_le n76 h))
    have hg99 : gg91 < w81.heap.size := by rcases hg93 with h | h; exact h ▸ Nat.lt_of_lt_of_le hg79 (KpL.size E82); exact h
    have hH100 : Hang w53.heap.size w81 (fun u => Sl RI 1 u (.slice p85 ((nbK A_g ix 1).length) q86) (nbK A_g ix 1)) := Own.hang hO94 RI.flat (by decide) hN96 (Nat.le_trans (Below.size E63) (KpL.size E82))
    have J88 : ∀ (u90 : Nat → Value) (y8_ : Value) (w101 : World), (KpL [gg91] w81 w101) → (Own RI 1 2 gg91 w81.heap.size w101 y8_ (nbK A_g ix 2)) → K88 (fr [(Pt g_b g_o), (Iv ix), Ud, Ud, (.slice none 0 0), (Iv (ix % A_g.x)), (Iv ((ix / A_g.x) % A_g.y)), (Iv ((ix / A_g.x) / A_g.y)), y8_, (Iv ix), (Pt g_b g_o), (Pt g_b g_o), (Pt g_b (g_o + 4)), (Iv A_g.x), (Iv (ix % A_g.x)), v21, v22, v23, v24, v25, v26, v27, v28, v29, v30, (Iv ((ix / A_g.x) % A_g.y)), v42, v43, v44, v45, v46, v47, v48, v49, v50, v51, (Iv ((ix / A_g.x) / A_g.y)), (.slice (some ⟨b59, 0, none⟩) 0 0), (Iv ((ix / A_g.x) / A_g.y)), (Bo (icmp .gtr ((ix / A_g.x) / A_g.y) 0)), (u71 40), (u71 41), (u71 42), (u71 43), (u71 44), (u71 45), (u71 46), (u71 47), (u71 48), (u71 49), (u71 50), (u71 51), (u71 52), (u71 53), (Iv ((ix / A_g.x) % A_g.y)), (Bo (icmp .gtr ((ix / A_g.x) % A_g.y) 0)), (u90 56), (u90 57), (u90 58), (u90 59), (u90 60), (u90 61), (u90 62), (u90 63), (u90 64), Ud, Ud, Ud, Ud, Ud, Ud, Ud, Ud, Ud, Ud, Ud, Ud, Ud, Ud, Ud, Ud, Ud, Ud, Ud, Ud, Ud, Ud, Ud, Ud, Ud, Ud, Ud, Ud, Ud, Ud, Ud, Ud, Ud, Ud, Ud, Ud, Ud, Ud, Ud, Ud, Ud, Ud, Ud, Ud, Ud, Ud, Ud, Ud, Ud, Ud, Ud, Ud, Ud, Ud, Ud, Ud, Ud]) w101 := by
      intro u90 y8_ w101 E102 hO103
      have X104 := Below.kl X84 E102 (allS g97 all0) (Nat.le_refl _)
      obtain ⟨p105, q106, rfl⟩ := Own.shape hO103
      have hH107 : Hang w53.heap.size w101 (fun u => Sl RI 1 u (.slice p105 ((nbK A_g ix 2).length) q106) (nbK A_g ix 2)) := Own.hang hO103 RI.flat (by decide) hN96 (Nat.le_trans (Below.size E63) (KpL.size E82))
      have hnl := nbK_len A_g ix 2
      refine hK88 _ _ ?_
      refine wp_seq_k fun K108 hK108 => ?_
      refine wp_seq_k fun K109 hK109 => ?_
      refine wp_region_lit ?_
      refine q_is rfl rfl (does_move (u := (Iv (ix % A_g.x))) (ev rfl)) (by dsimp only [List.set]; try rfl) ?_
      refine q_is rfl rfl (does_icmp (p := ix % A_g.x) (q := 0) (.inr (.inr (.inr (.inr (.inl rfl))))) (ev rfl) (ev rfl)) (by dsimp only [List.set]; try rfl) ?_
      refine wpList_nil (hK109 _ _ ?_)
      have n115 : g_b < w101.heap.size := cell_lt (Cells.at (hc_g.ext X104) 0 rfl)
      obtain ⟨gg111, hg112, hg113, hO114⟩ := Own.start' hO103 hO103
      have hN116 : w53.heap.size ≤ gg111 := by rcases hg112 with h | h; exact h ▸ hN96; exact Nat.le_trans (Nat.le_trans (Below.size E63) (KpL.size E82)) h
      have g117 : w.heap.size ≤ gg111 := Nat.le_trans (Nat.le_trans (Nat.le_trans (Nat.le_trans (Below.size E18) (Below.size E33)) (Below.size E39)) (Below.size E54)) hN116
      have n118 : g_b ≠ gg111 := hg112.elim (fun h => by rw [h]; exact n98) (fun h => Nat.ne_of_lt (Nat.lt_of_lt_of_le n95 h))
      have hg119 : gg111 < w101.heap.size := by rcases hg113 with h | h; exact h ▸ Nat.lt_of_lt_of_le hg99 (KpL.size E102); exact h
      have hH120 : Hang w53.heap.size w101 (fun u => Sl RI 1 u (.slice p105 ((nbK A_g ix 2).length) q106) (nbK A_g ix 2)) := Own.hang hO114 RI.flat (by decide) hN116 (Nat.le_trans (Nat.le_trans (Below.size E63) (KpL.size E82)) (KpL.size E102))
      have J108 : ∀ (u110 : Nat → Value) (y8_ : Value) (w121 : World), (KpL [gg111] w101 w121) → (Own RI 1 2 gg111 w101.heap.size w121 y8_ (nbK A_g ix 3)) → K108 (fr [(Pt g_b g_o), (Iv ix), Ud, Ud, (.slice none 0 0), (Iv (ix % A_g.x)), (Iv ((ix / A_g.x) % A_g.y)), (Iv ((ix / A_g.x) / A_g.y)), y8_, (Iv ix), (Pt g_b g_o), (Pt g_b g_o), (Pt g_b (g_o + 4)), (Iv A_g.x), (Iv (ix % A_g.x)), v21, v22, v23, v24, v25, v26, v27, v28, v29, v30, (Iv ((ix / A_g.x) % A_g.y)), v42, v43, v44, v45, v46, v47, v48, v49, v50, v51, (Iv ((ix / A_g.x) / A_g.y)), (.slice (some ⟨b59, 0, none⟩) 0 0), (Iv ((ix / A_g.x) / A_g.y)), (Bo (icmp .gtr ((ix / A_g.x) / A_g.y) 0)), (u71 40), (u71 41), (u71 42), (u71 43), (u71 44), (u71 45), (u71 46), (u71 47), (u71 48), (u71 49), (u71 50), (u71 51), (u71 52), (u71 53), (Iv ((ix / A_g.x) % A_g.y)), (Bo (icmp .gtr ((ix / A_g.x) % A_g.y) 0)), (u90 56), (u90 57), (u90 58), (u90 59), (u90 60), (u90 61), (u90 62), (u90 63), (u90 64), (Iv (ix % A_g.x)), (Bo (icmp .gtr (ix % A_g.x) 0)), (u110 67), (u110 68), (u110 69), (u110 70), (u110 71), Ud, Ud, Ud, Ud, Ud, Ud, Ud, Ud, Ud, Ud, Ud, Ud, Ud, Ud, Ud, Ud, Ud, Ud, Ud, Ud, Ud, Ud, Ud, Ud, Ud, Ud, Ud, Ud, Ud, Ud, Ud, Ud, Ud, Ud, Ud, Ud, Ud, Ud, Ud, Ud, Ud, Ud, Ud, Ud, Ud, Ud, Ud, Ud, Ud, Ud]) w121 := by
        intro u110 y8_ w121 E122 hO123
        have X124 := Below.kl X104 E122 (allS g117 all0) (Nat.le_refl _)
        obtain ⟨p125, q126, rfl⟩ := Own.shape hO123
        have hH127 : Hang w53.heap.size w121 (fun u => Sl RI 1 u (.slice p125 ((nbK A_g ix 3).length) q126) (nbK A_g ix 3)) := Own.hang hO123 RI.flat (by decide) hN116 (Nat.le_trans (Nat.le_trans (Below.size E63) (KpL.size E82)) (KpL.size E102))
        have hnl := nbK_len A_g ix 3
        refine hK108 _ _ ?_
        refine wp_seq_k fun K128 hK128 => ?_
        refine wp_seq_k fun K129 hK129 => ?_
        refine wp_region_lit ?_
        refine q_is rfl rfl (does_move (u := (Iv (ix % A_g.x))) (ev rfl)) (by dsimp only [List.set]; try rfl) ?_
        refine q_is rfl rfl (does_move (u := (Pt g_b g_o)) (ev rfl)) (by dsimp only [List.set]; try rfl) ?_
        refine q_is rfl rfl (does_nilCheck (ev rfl)) (by dsimp only [List.set]; try rfl) ?_
        refine q_is rfl rfl (does_fieldAddr (ev rfl) fa31_2) (by dsimp only [List.set]; try rfl) ?_
        refine q_is rfl rfl (does_load (u := (Iv A_g.x)) (ev rfl) Try.isAgg2 (Cells.at (hc_g.ext X124) 4 rfl)) (by dsimp only [List.set]; try rfl) ?_
        refine q_is rfl rfl (does_iarith (p := A_g.x) (q := 1) (r := A_g.x - 1) (ev rfl) (ev rfl) (.inr (.inl ⟨rfl, (in_i64 (by omega) (by omega)).symm⟩))) (by dsimp only [List.set]; try rfl) ?_
        refine q_is rfl rfl (does_icmp (p := ix % A_g.x) (q := A_g.x - 1) (.inr (.inr (.inl rfl))) (ev rfl) (ev rfl)) (by dsimp only [List.set]; try rfl) ?_
        refine wpList_nil (hK129 _ _ ?_)
        have n135 : g_b < w121.heap.size := cell_lt (Cells.at (hc_g.ext X124) 0 rfl)
        obtain ⟨gg131, hg132, hg133, hO134⟩ := Own.start' hO123 hO123
        have hN136 : w53.heap.size ≤ gg131 := by rcases hg132 with h | h; exact h ▸ hN116; exact Nat.le_trans (Nat.le_trans (Nat.le_trans (Below.size E63) (KpL.size E82)) (KpL.size E102)) h
        have g137 : w.heap.size ≤ gg131 := Nat.le_trans (Nat.le_trans (Nat.le_trans (Nat.le_trans (Below.size E18) (Below.size E33)) (Below.size E39)) (Below.size E54)) hN136
        have n138 : g_b ≠ gg131 := hg132.elim (fun h => by rw [h]; exact n118) (fun h => Nat.ne_of_lt (Nat.lt_of_lt_of_le n115 h))
        have hg139 : gg131 < w121.heap.size := by rcases hg133 with h | h; exact h ▸ Nat.lt_of_lt_of_le hg119 (KpL.size E122); exact h
        have hH140 : Hang w53.heap.size w121 (fun u => Sl RI 1 u (.slice p125 ((nbK A_g ix 3).length) q126) (nbK A_g ix 3)) := Own.hang hO134 RI.flat (by decide) hN136 (Nat.le_trans (Nat.le_trans (Nat.le_trans (Below.size E63) (KpL.size E82)) (KpL.size E102)) (KpL.size E122))
        have J128 : ∀ (u130 : Nat → Value) (y8_ : Value) (w141 : World), (KpL [gg131] w121 w141) → (Own RI 1 2 gg131 w121.heap.size w141 y8_ (nbK A_g ix 4)) → K128 (fr [(Pt g_b g_o), (Iv ix), Ud, Ud, (.slice none 0 0), (Iv (ix % A_g.x)), (Iv ((ix / A_g.x) % A_g.y)), (Iv ((ix / A_g.x) / A_g.y)), y8_, (Iv ix), (Pt g_b g_o), (Pt g_b g_o), (Pt g_b (g_o + 4)), (Iv A_g.x), (Iv (ix % A_g.x)), v21, v22, v23, v24, v25, v26, v27, v28, v29, v30, (Iv ((ix / A_g.x) % A_g.y)), v42, v43, v44, v45, v46, v47, v48, v49, v50, v51, (Iv ((ix / A_g.x) / A_g.y)), (.slice (some ⟨b59, 0, none⟩) 0 0), (Iv ((ix / A_g.x) / A_g.y)), (Bo (icmp .gtr ((ix / A_g.x) / A_g.y) 0)), (u71 40), (u71 41), (u71 42), (u71 43), (u71 44), (u71 45), (u71 46), (u71 47), (u71 48), (u71 49), (u71 50), (u71 51), (u71 52), (u71 53), (Iv ((ix / A_g.x) % A_g.y)), (Bo (icmp .gtr ((ix / A_g.x) % A_g.y) 0)), (u90 56), (u90 57), (u90 58), (u90 59), (u90 60), (u90 61), (u90 62), (u90 63), (u90 64), (Iv (ix % A_g.x)), (Bo (icmp .gtr (ix % A_g.x) 0)), (u110 67), (u110 68), (u110 69), (u110 70), (u110 71), (Iv (ix % A_g.x)), (Pt g_b g_o), (Pt g_b g_o), (Pt g_b (g_o + 4)), (Iv A_g.x), (Iv (A_g.x - 1)), (Bo (icmp .lss (ix % A_g.x) (A_g.x - 1))), (u130 79), (u130 80), (u130 81), (u130 82), (u130 83), Ud, Ud, Ud, Ud, Ud, Ud, Ud, Ud, Ud, Ud, Ud, Ud, Ud, Ud, Ud, Ud, Ud, Ud, Ud, Ud, Ud, Ud, Ud, Ud, Ud, Ud, Ud, Ud, Ud, Ud, Ud, Ud, Ud, Ud, Ud, Ud, Ud, Ud]) w141 := by
          intro u130 y8_ w141 E142 hO143
          have X144 := Below.kl X124 E142 (allS g137 all0) (Nat.le_refl _)
          obtain ⟨p145, q146, rfl⟩ := Own.shape hO143
          have hH147 : Hang w53.heap.size w141 (fun u => Sl RI 1 u (.slice p145 ((nbK A_g ix 4).length) q146) (nbK A_g ix 4)) := Own.hang hO143 RI.flat (by decide) hN136 (Nat.le_trans (Nat.le_trans (Nat.le_trans (Below.size E63) (KpL.size E82)) (KpL.size E102)) (KpL.size E122))
          have hnl := nbK_len A_g ix 4
          refine hK128 _ _ ?_
          refine wp_seq_k fun K148 hK148 => ?_
          refine wp_seq_k fun K149 hK149 => ?_
          refine wp_region_lit ?_
          refine q_is rfl rfl (does_move (u := (Iv ((ix / A_g.x) % A_g.y))) (ev rfl)) (by dsimp only [List.set]; try rfl) ?_
          refine q_is rfl rfl (does_move (u := (Pt g_b g_o)) (ev rfl)) (by dsimp only [List.set]; try rfl) ?_
          refine q_is rfl rfl (does_nilCheck (ev rfl)) (by dsimp only [List.set]; try rfl) ?_
          refine q_is rfl rfl (does_fieldAddr (ev rfl) fa31_3) (by dsimp only [List.set]; try rfl) ?_
          refine q_is rfl rfl (does_load (u := (Iv A_g.y)) (ev rfl) Try.isAgg2 (Cells.at (hc_g.ext X144) 5 rfl)) (by dsimp only [List.set]; try rfl) ?_
          refine q_is rfl rfl (does_iarith (p := A_g.y) (q := 1) (r := A_g.y - 1) (ev rfl) (ev rfl) (.inr (.inl ⟨rfl, (in_i64 (by omega) (by omega)).symm⟩))) (by dsimp only [List.set]; try rfl) ?_
          refine q_is rfl rfl (does_icmp (p := (ix / A_g.x) % A_g.y) (q := A_g.y - 1) (.inr (.inr (.inl rfl))) (ev rfl) (ev rfl)) (by dsimp only [List.set]; try rfl) ?_
          refine wpList_nil (hK149 _ _ ?_)
          have n155 : g_b < w141.heap.size := cell_lt (Cells.at (hc_g.ext X144) 0 rfl)
          obtain ⟨gg151, hg152, hg153, hO154⟩ := Own.start' hO143 hO143
          have hN156 : w53.heap.size ≤ gg151 := by rcases hg152 with h | h; exact h ▸ hN136; exact Nat.le_trans (Nat.le_trans (Nat.le_trans (Nat.le_trans (Below.size E63) (KpL.size E82)) (KpL.size E102)) (KpL.size E122)) h
          have g157 : w.heap.size ≤ gg151 := Nat.le_trans (Nat.le_trans (Nat.le_trans (Nat.le_trans (Below.size E18) (Below.size E33)) (Below.size E39)) (Below.size E54)) hN156
          have n158 : g_b ≠ gg151 := hg152.elim (fun h => by rw [h]; exact n138) (fun h => Nat.ne_of_lt (Nat.lt_of_lt_of_le n135 h))
          have hg159 : gg151 < w141.heap.size := by rcases hg153 with h | h; exact h ▸ Nat.lt_of_lt_of_le hg139 (KpL.size E142); exact h
          have hH160 : Hang w53.heap.size w141 (fun u => Sl RI 1 u (.slice p145 ((nbK A_g ix 4).length) q146) (nbK A_g ix 4)) := Own.hang hO154 RI.flat (by decide) hN156 (Nat.le_trans (Nat.le_trans (Nat.le_trans (Nat.le_trans (Below.size E63) (KpL.size E82)) (KpL.size E102)) (KpL.size E122)) (KpL.size E142))
          have J148 : ∀ (u150 : Nat → Value) (y8_ : Value) (w161 : World), (KpL [gg151] w141 w161) → (Own RI 1 2 gg151 w141.heap.size w161 y8_ (nbK A_g ix 5)) → K148 (fr [(Pt g_b g_o), (Iv ix), Ud, Ud, (.slice none 0 0), (Iv (ix % A_g.x)), (Iv ((ix / A_g.x) % A_g.y)), (Iv ((ix / A_g.x) / A_g.y)), y8_, (Iv ix), (Pt g_b g_o), (Pt g_b g_o), (Pt g_b (g_o + 4)), (Iv A_g.x), (Iv (ix % A_g.x)), v21, v22, v23, v24, v25, v26, v27, v28, v29, v30, (Iv ((ix / A_g.x) % A_g.y)), v42, v43, v44, v45, v46, v47, v48, v49, v50, v51, (Iv ((ix / A_g.x) / A_g.y)), (.slice (some ⟨b59, 0, none⟩) 0 0), (Iv ((ix / A_g.x) / A_g.y)), (Bo (icmp .gtr ((ix / A_g.x) / A_g.y) 0)), (u71 40), (u71 41), (u71 42), (u71 43), (u71 44), (u71 45), (u71 46), (u71 47), (u71 48), (u71 49), (u71 50), (u71 51), (u71 52), (u71 53), (Iv ((ix / A_g.x) % A_g.y)), (Bo (icmp .gtr ((ix / A_g.x) % A_g.y) 0)), (u90 56), (u90 57), (u90 58), (u90 59), (u90 60), (u90 61), (u90 62), (u90 63), (u90 64), (Iv (ix % A_g.x)), (Bo (icmp .gtr (ix % A_g.x) 0)), (u110 67), (u110 68), (u110 69), (u110 70), (u110 71), (Iv (ix % A_g.x)), (Pt g_b g_o), (Pt g_b g_o), (Pt g_b (g_o + 4)), (Iv A_g.x), (Iv (A_g.x - 1)), (Bo (icmp .lss (ix % A_g.x) (A_g.x - 1))), (u130 79), (u130 80), (u130 81), (u130 82), (u130 83), (Iv ((ix / A_g.x) % A_g.y)), (Pt g_b g_o), (Pt g_b g_o), (Pt g_b (g_o + 5)), (Iv A_g.y), (Iv (A_g.y - 1)), (Bo (icmp .lss ((ix / A_g.x) % A_g.y) (A_g.y - 1))), (u150 91), (u150 92), (u150 93), (u150 94), (u150 95), (u150 96), (u150 97), (u150 98), (u150 99), Ud, Ud, Ud, Ud, Ud, Ud, Ud, Ud, Ud, Ud, Ud, Ud, Ud, Ud, Ud, Ud, Ud, Ud, Ud, Ud, Ud, Ud]) w161 := by
            intro u150 y8_ w161 E162 hO163
            have X164 := Below.kl X144 E162 (allS g157 all0) (Nat.le_refl _)
            obtain ⟨p165, q166, rfl⟩ := Own.shape hO163
            have hH167 : Hang w53.heap.size w161 (fun u => Sl RI 1 u (.slice p165 ((nbK A_g ix 5).length) q166) (nbK A_g ix 5)) := Own.hang hO163 RI.flat (by decide) hN156 (Nat.le_trans (Nat.le_trans (Nat.le_trans (Nat.le_trans (Below.size E63) (KpL.size E82)) (KpL.size E102)) (KpL.size E122)) (KpL.size E142))
            have hnl := nbK_len A_g ix 5
            refine hK148 _ _ ?_
            refine wp_seq_k fun K168 hK168 => ?_
            refine wp_seq_k fun K169 hK169 => ?_
            refine wp_region_lit ?_
            refine q_is rfl rfl (does_move (u := (Iv ((ix / A_g.x) / A_g.y))) (ev rfl)) (by dsimp only [List.set]; try rfl) ?_
            refine q_is rfl rfl (does_move (u := (Pt g_b g_o)) (ev rfl)) (by dsimp only [List.set]; try rfl) ?_
            refine q_is rfl rfl (does_nilCheck (ev rfl)) (by dsimp only [List.set]; try rfl) ?_
            refine q_is rfl rfl (does_fieldAddr (ev rfl) fa31_4) (by dsimp only [List.set]; try rfl) ?_
            refine q_is rfl rfl (does_load (u := (Iv A_g.z)) (ev rfl) Try.isAgg2 (Cells.at (hc_g.ext X164) 6 rfl)) (by dsimp only [List.set]; try rfl) ?_
            refine q_is rfl rfl (does_iarith (p := A_g.z) (q := 1) (r := A_g.z - 1) (ev rfl) (ev rfl) (.inr (.inl ⟨rfl, (in_i64 (by omega) (by omega)).symm⟩))) (by dsimp only [List.set]; try rfl) ?_
            refine q_is rfl rfl (does_icmp (p := (ix / A_g.x) / A_g.y) (q := A_g.z - 1) (.inr (.inr (.inl rfl))) (ev rfl) (ev rfl)) (by dsimp only [List.set]; try rfl) ?_
            refine wpList_nil (hK169 _ _ ?_)
            have n175 : g_b < w161.heap.size := cell_lt (Cells.at (hc_g.ext X164) 0 rfl)
            obtain ⟨gg171, hg172, hg173, hO174⟩ := Own.start' hO163 hO163
            have hN176 : w53.heap.size ≤ gg171 := by rcases hg172 with h | h; exact h ▸ hN156; exact Nat.le_trans (Nat.le_trans (Nat.le_trans (Nat.le_trans (Nat.le_trans (Below.size E63) (KpL.size E82)) (KpL.size E102)) (KpL.size E122)) (KpL.size E142)) h
            have g177 : w.heap.size ≤ gg171 := Nat.le_trans (Nat.le_trans (Nat.le_trans (Nat.le_trans (Below.size E18) (Below.size E33)) (Below.size E39)) (Below.size E54)) hN176
            have n178 : g_b ≠ gg171 := hg172.elim (fun h => by rw [h]; exact n158) (fun h => Nat.ne_of_lt (Nat.lt_of_lt_of_le n155 h))
            have hg179 : gg171 < w161.heap.size := by rcases hg173 with h | h; exact h ▸ Nat.lt_of_lt_of_le hg159 (KpL.size E162); exact h
            have hH180 : Hang w53.heap.size w161 (fun u => Sl RI 1 u (.slice p165 ((nbK A_g ix 5).length) q166) (nbK A_g ix 5)) := Own.hang hO174 RI.flat (by decide) hN176 (Nat.le_trans (Nat.le_trans (Nat.le_trans (Nat.le_trans (Nat.le_trans (Below.size E63) (KpL.size E82)) (KpL.size E102)) (KpL.size E122)) (KpL.size E142)) (KpL.size E162))
            have J168 : ∀ (u170 : Nat → Value) (y8_ : Value) (w181 : World), (KpL [gg171] w161 w181) → (Own RI 1 2 gg171 w161.heap.size w181 y8_ (nbK A_g ix 6)) → K168 (fr [(Pt g_b g_o), (Iv ix), Ud, Ud, (.slice none 0 0), (Iv (ix % A_g.x)), (Iv ((ix / A_g.x) % A_g.y)), (Iv ((ix / A_g.x) / A_g.y)), y8_, (Iv ix), (Pt g_b g_o), (Pt g_b g_o), (Pt g_b (g_o + 4)), (Iv A_g.x), (Iv (ix % A_g.x)), v21, v22, v23, v24, v25, v26, v27, v28, v29, v30, (Iv ((ix / A_g.x) % A_g.y)), v42, v43, v44, v45, v46, v47, v48, v49, v50, v51, (Iv ((ix / A_g.x) / A_g.y)), (.slice (some ⟨b59, 0, none⟩) 0 0), (Iv ((ix / A_g.x) / A_g.y)), (Bo (icmp .gtr ((ix / A_g.x) / A_g.y) 0)), (u71 40), (u71 41), (u71 42), (u71 43), (u71 44), (u71 45), (u71 46), (u71 47), (u71 48), (u71 49), (u71 50), (u71 51), (u71 52), (u71 53), (Iv ((ix / A_g.x) % A_g.y)), (Bo (icmp .gtr ((ix / A_g.x) % A_g.y) 0)), (u90 56), (u90 57), (u90 58), (u90 59), (u90 60), (u90 61), (u90 62), (u90 63), (u90 64), (Iv (ix % A_g.x)), (Bo (icmp .gtr (ix % A_g.x) 0)), (u110 67), (u110 68), (u110 69), (u110 70), (u110 71), (Iv (ix % A_g.x)), (Pt g_b g_o), (Pt g_b g_o), (Pt g_b (g_o + 4)), (Iv A_g.x), (Iv (A_g.x - 1)), (Bo (icmp .lss (ix % A_g.x) (A_g.x - 1))), (u130 79), (u130 80), (u130 81), (u130 82), (u130 83), (Iv ((ix / A_g.x) % A_g.y)), (Pt g_b g_o), (Pt g_b g_o), (Pt g_b (g_o + 5)), (Iv A_g.y), (Iv (A_g.y - 1)), (Bo (icmp .lss ((ix / A_g.x) % A_g.y) (A_g.y - 1))), (u150 91), (u150 92), (u150 93), (u150 94), (u150 95), (u150 96), (u150 97), (u150 98), (u150 99), (Iv ((ix / A_g.x) / A_g.y)), (Pt g_b g_o), (Pt g_b g_o), (Pt g_b (g_o + 6)), (Iv A_g.z), (Iv (A_g.z - 1)), (Bo (icmp .lss ((ix / A_g.x) / A_g.y) (A_g.z - 1))), (u170 107), (u170 108), (u170 109), (u170 110), (u170 111), (u170 112), (u170 113), (u170 114), (u170 115), (u170 116), (u170 117), (u170 118), (u170 119), (u170 120), Ud]) w181 := by
              intro u170 y8_ w181 E182 hO183
              have X184 := Below.kl X164 E182 (allS g177 all0) (Nat.le_refl _)
              obtain ⟨p185, q186, rfl⟩ := Own.shape hO183
              have hH187 : Hang w53.heap.size w181 (fun u => Sl RI 1 u (.slice p185 ((nbK A_g ix 6).length) q186) (nbK A_g ix 6)) := Own.hang hO183 RI.flat (by decide) hN176 (Nat.le_trans (Nat.le_trans (Nat.le_trans (Nat.le_trans (Nat.le_trans (Below.size E63) (KpL.size E82)) (KpL.size E102)) (KpL.size E122)) (KpL.size E142)) (KpL.size E162))
              have hnl := nbK_len A_g ix 6
              refine hK168 _ _ ?_
              refine wp_seq_k fun K188 hK188 => ?_
              refine wp_region_lit ?_
              refine q_is rfl rfl (does_move (u := (.slice p185 ((nbK A_g ix 6).length) q186)) (ev rfl)) (by dsimp only [List.set]; try rfl) ?_
              refine q_is rfl rfl (does_assign (u := (.slice p185 ((nbK A_g ix 6).length) q186)) (ev rfl)) (by dsimp only [List.set]; try rfl) ?_
              refine wpList_nil (hK188 _ _ ?_)
              refine wp_ret ?_
              refine ret_val (v := (.slice p185 ((nbK A_g ix 6).length) q186)) (res_T rfl (slot rfl)) X184 ?_
              have x189 : (nbK A_g ix 6) = (nb A_g ix) := by rfl
              exact ⟨(.slice p185 ((nbK A_g ix 6).length) q186), rfl, (Hang.castL (Own.hang hO183 RI.flat (by decide) (Nat.le_trans (Nat.le_trans (Nat.le_trans (Nat.le_trans (Below.size E18) (Below.size E33)) (Below.size E39)) (Below.size E54)) hN176) (Nat.le_trans (Nat.le_trans (Nat.le_trans (Nat.le_trans (Below.size E18) (Below.size E33)) (Below.size E39)) (Below.size E54)) (Nat.le_trans (Nat.le_trans (Nat.le_trans (Nat.le_trans (Nat.le_trans (Below.size E63) (KpL.size E82)) (KpL.size E102)) (KpL.size E122)) (KpL.size E142)) (KpL.size E162)))) x189)⟩
            refine wp_cond_split (t := icmp .lss ((ix / A_g.x) / A_g.y) (A_g.z - 1)) (ev rfl) (fun c190 => ?_) (fun c190 => ?_)
            · have c190' := c190
              (try simp only [icmp, Bool.and_eq_true, Bool.or_eq_true, Bool.and_eq_false_iff, Bool.or_eq_false_iff, Bool.not_eq_true', Bool.not_eq_false', decide_eq_true_eq, decide_eq_false_iff_not, beq_iff_eq, bne_iff_ne, beq_eq_false_iff_ne, bne_eq_false_iff_eq] at c190')
              refine region_any2 [] [0, 0, 0, 4, 12, 28, 0, 64, 192, 448, 1020, 2046, 4094, 8191, 16383] [] (
                [FactW.pure [] [] [] true (fun v => v = (.slice p165 ((nbK A_g ix 5).length) q166)),
                  FactW.pure [] [] [] true (fun v => v = (Iv ix)),
                  FactW.pure [] [] [] true (fun v => v = (Pt g_b g_o)),
                  FactW.pure [2] [] [] true (fun v => v = (Pt g_b g_o)),
                  FactW.pure [3] [] [] true (fun v => v = (Pt g_b (g_o + 4))),
                  FactW.pure [4] [] [] true (fun v => v = (Iv A_g.x)),
                  FactW.pure [] [] [] true (fun v => v = (Pt g_b g_o)),
                  FactW.pure [6] [] [] true (fun v => v = (Pt g_b g_o)),
                  FactW.pure [7] [] [] true (fun v => v = (Pt g_b (g_o + 5))),
                  FactW.pure [8] [] [] true (fun v => v = (Iv A_g.y)),
                  FactW.pure [5, 9] [] [] true (fun v => v = (Iv (A_g.x * A_g.y))),
                  FactW.pure [1, 10] [] [] true (fun v => v = (Iv (ix + (A_g.x * A_g.y)))),
                  FactW.mem [11] [] [] [] true (fun v w' => ∃ b : Nat, v = .slice (some ⟨b, 0, none⟩) 1 1 ∧ w161.heap.size ≤ b ∧ Blk w' b [(Iv (ix + (A_g.x * A_g.y)))]) (by rintro v w1 w2 hx' ⟨b, rfl, hb, hB⟩; have hx := KpL.toExt hx'; exact ⟨b, rfl, hb, (hB.ext hx)⟩)]) mixed (by kernel_rfl) ?_
              obtain ⟨w191, hw193⟩ : ∃ w', w' = World.drew w161 := ⟨_, rfl⟩; rw [← hw193]; have E192 : Ext w161 w191 := by rw [hw193]; exact Ext.draw _
              clear hw193
              have X194 := Ext.gr X164 E192
              refine RW2_d _ rfl (fun v => by dsimp only [List.set]; try rfl) (fun u hu hF => ?_) (fun v195 => ?_)
              · replace hu : KpL [] _ _ := hu
                clear hF
                refine doesG_un rfl ?_
                refine (does_move (u := (.slice p165 ((nbK A_g ix 5).length) q166)) (ev rfl)).mono ?_; rintro _ _ ⟨rfl, rfl⟩
                exact ⟨rfl, KpL.refl _ _⟩
              refine RW2_d _ rfl (fun v => by dsimp only [List.set]; try rfl) (fun u hu hF => ?_) (fun v196 => ?_)
              · replace hu : KpL [] _ _ := hu
                clear hF
                refine doesG_un rfl ?_
                refine (does_move (u := (Iv ix)) (ev rfl)).mono ?_; rintro _ _ ⟨rfl, rfl⟩
                exact ⟨rfl, KpL.refl _ _⟩
              refine RW2_d _ rfl (fun v => by dsimp only [List.set]; try rfl) (fun u hu hF => ?_) (fun v197 => ?_)
              · replace hu : KpL [] _ _ := hu
                clear hF
                refine doesG_un rfl ?_
                refine (does_move (u := (Pt g_b g_o)) (ev rfl)).mono ?_; rintro _ _ ⟨rfl, rfl⟩
                exact ⟨rfl, KpL.refl _ _⟩
              refine RW2_d _ rfl (fun v => by dsimp only [List.set]; try rfl) (fun u hu hF => ?_) (fun v198 => ?_)
              · replace hu : KpL [] _ _ := hu
                have h109_ : v197 = (Pt g_b g_o) := hF.1
                clear hF
                refine doesG_un rfl ?_
                obtain rfl := h109_
                refine (does_nilCheck (ev rfl)).mono ?_; rintro _ _ ⟨rfl, rfl⟩
                exact ⟨rfl, KpL.refl _ _⟩
              refine RW2_d _ rfl (fun v => by dsimp only [List.set]; try rfl) (fun u hu hF => ?_) (fun v199 => ?_)
              · replace hu : KpL [] _ _ := hu
                have h110_ : v198 = (Pt g_b g_o) := hF.1
                clear hF
                refine doesG_un rfl ?_
                obtain rfl := h110_
                refine (does_fieldAddr (ev rfl) fa31_2).mono ?_; rintro _ _ ⟨rfl, rfl⟩
                exact ⟨rfl, KpL.refl _ _⟩
              refine RW2_d _ rfl (fun v => by dsimp only [List.set]; try rfl) (fun u hu hF => ?_) (fun v200 => ?_)
              · replace hu : KpL [] _ _ := hu
                have h111_ : v199 = (Pt g_b (g_o + 4)) := hF.1
                clear hF
                refine doesG_un rfl ?_
                obtain rfl := h111_
                refine (does_load (u := (Iv A_g.x)) (ev rfl) Try.isAgg2 (Cells.at (hc_g.ext (Ext.gr (Ext.gr X164 E192) (KpL.toExt hu))) 4 rfl)).mono ?_; rintro _ _ ⟨rfl, rfl⟩
                exact ⟨rfl, KpL.refl _ _⟩
              refine RW2_d _ rfl (fun v => by dsimp only [List.set]; try rfl) (fun u hu hF => ?_) (fun v201 => ?_)
              · replace hu : KpL [] _ _ := hu
                clear hF
                refine doesG_un rfl ?_
                refine (does_move (u := (Pt g_b g_o)) (ev rfl)).mono ?_; rintro _ _ ⟨rfl, rfl⟩
                exact ⟨rfl, KpL.refl _ _⟩
              refine RW2_d _ rfl (fun v => by dsimp only [List.set]; try rfl) (fun u hu hF => ?_) (fun v202 => ?_)
              · replace hu : KpL [] _ _ := hu
                have h113_ : v201 = (Pt g_b g_o) := hF.1
                clear hF
                refine doesG_un rfl ?_
                obtain rfl := h113_
                refine (does_nilCheck (ev rfl)).mono ?_; rintro _ _ ⟨rfl, rfl⟩
                exact ⟨rfl, KpL.refl _ _⟩
              refine RW2_d _ rfl (fun v => by dsimp only [List.set]; try rfl) (fun u hu hF => ?_) (fun v203 => ?_)
              · replace hu : KpL [] _ _ := hu
                have h114_ : v202 = (Pt g_b g_o) := hF.1
                clear hF
                refine doesG_un rfl ?_
                obtain rfl := h114_
                refine (does_fieldAddr (ev rfl) fa31_3).mono ?_; rintro _ _ ⟨rfl, rfl⟩
                exact ⟨rfl, KpL.refl _ _⟩
              refine RW2_d _ rfl (fun v => by dsimp only [List.set]; try rfl) (fun u hu hF => ?_) (fun v204 => ?_)
              · replace hu : KpL [] _ _ := hu
                have h115_ : v203 = (Pt g_b (g_o + 5)) := hF.1
                clear hF
                refine doesG_un rfl ?_
                obtain rfl := h115_
                refine (does_load (u := (Iv A_g.y)) (ev rfl) Try.isAgg2 (Cells.at (hc_g.ext (Ext.gr (Ext.gr X164 E192) (KpL.toExt hu))) 5 rfl)).mono ?_; rintro _ _ ⟨rfl, rfl⟩
                exact ⟨rfl, KpL.refl _ _⟩
              refine RW2_d _ rfl (fun v => by dsimp only [List.set]; try rfl) (fun u hu hF => ?_) (fun v205 => ?_)
              · replace hu : KpL [] _ _ := hu
                have h112_ : v200 = (Iv A_g.x) := hF.1
                have h116_ : v204 = (Iv A_g.y) := hF.2.1
                clear hF
                refine doesG_un rfl ?_
                obtain rfl := h112_
                obtain rfl := h116_
                refine (does_iarith (p := A_g.x) (q := A_g.y) (r := A_g.x * A_g.y) (ev rfl) (ev rfl) (.inr (.inr ⟨rfl, (in_i64 (by omega) (by omega)).symm⟩))).mono ?_; rintro _ _ ⟨rfl, rfl⟩
                exact ⟨rfl, KpL.refl _ _⟩
              refine RW2_d _ rfl (fun v => by dsimp only [List.set]; try rfl) (fun u hu hF => ?_) (fun v206 => ?_)
              · replace hu : KpL [] _ _ := hu
                have h108_ : v196 = (Iv ix) := hF.1
                have h117_ : v205 = (Iv (A_g.x * A_g.y)) := hF.2.1
                clear hF
                refine doesG_un rfl ?_
                obtain rfl := h108_
                obtain rfl := h117_
                refine (does_iarith (p := ix) (q := A_g.x * A_g.y) (r := ix + (A_g.x * A_g.y)) (ev rfl) (ev rfl) (.inl ⟨rfl, (in_i64 (by omega) (by omega)).symm⟩)).mono ?_; rintro _ _ ⟨rfl, rfl⟩
                exact ⟨rfl, KpL.refl _ _⟩
              refine RW2_d _ rfl (fun v => by dsimp only [List.set]; try rfl) (fun u hu hF => ?_) (fun v207 => ?_)
              · replace hu : KpL [] _ _ := hu
                have h118_ : v206 = (Iv (ix + (A_g.x * A_g.y))) := hF.1
                clear hF
                refine doesG_un rfl ?_
                obtain rfl := h118_
                refine (does_buildSlice (e := 2) (parts' := [(0, (Iv (ix + (A_g.x * A_g.y))))]) (cells := [(Iv (ix + (A_g.x * A_g.y)))]) (evp rfl) (fun _ => by kernel_rfl)).mono ?_; rintro _ _ ⟨b, rfl, hb, hB, hx⟩
                exact ⟨⟨b, rfl, Nat.le_trans (Nat.le_trans (Below.size E192) (KpL.size hu)) hb, hB⟩, (KpL.of_ext hx)⟩
              refine RW2_fin ?_; intro w208 E209 hP210; replace E209 : KpL [] _ _ := E209
              obtain ⟨⟨⟨⟨⟨⟨⟨⟨⟨⟨⟨⟨⟨-, q211⟩, -⟩, -⟩, -⟩, -⟩, -⟩, -⟩, -⟩, -⟩, -⟩, -⟩, -⟩, q212⟩ := hP210
              have X213 := Below.kl X194 E209 all0 (Nat.le_refl _)
              have q211 : v195 = (.slice p165 ((nbK A_g ix 5).length) q166) := q211 rfl
              obtain rfl := q211
              have q212 : ∃ b : Nat, v207 = .slice (some ⟨b, 0, none⟩) 1 1 ∧ w161.heap.size ≤ b ∧ Blk w208 b [(Iv (ix + (A_g.x * A_g.y)))] := q212 rfl
              obtain ⟨b214, rfl, hb215, hB216⟩ := q212
              have n217 : g_b < b214 := Nat.lt_of_lt_of_le (cell_lt (Cells.at (hc_g.ext X164) 0 rfl)) hb215
              have g218 : w.heap.size ≤ b214 := Nat.le_trans (Below.size X164) hb215
              show wpList _ _ _ _ (fr [_, _, _, _, _, _, _, _, _, _, _, _, _, _, _, _, _, _, _, _, _, _, _, _, _, _, _, _, _, _, _, _, _, _, _, _, _, _, _, _, _, _, _, _, _, _, _, _, _, _, _, _, _, _, _, _, _, _, _, _, _, _, _, _, _, _, _, _, _, _, _, _, _, _, _, _, _, _, _, _, _, _, _, _, _, _, _, _, _, _, _, _, _, _, _, _, _, _, _, _, _, _, _, _, _, _, _, _, _, _, _, _, _, _, _, _, _, _, _, _, _, _]) _
              refine seqd rfl rfl (does_append (R := RI) (k := 1) (g0 := gg171) (B := w161.heap.size) (xs := (nbK A_g ix 5)) (ys := [ix + (A_g.x * A_g.y)]) Try.underlying38 inf2 rfl (by decide) (ev rfl) (ev rfl) (Own.same hO174 RI.flat (((Same.refl _ _).ext E192).kl E209 all0) hN176 (Nat.le_trans (Nat.le_trans (Nat.le_trans (Nat.le_trans (Nat.le_trans (Below.size E63) (KpL.size E82)) (KpL.size E102)) (KpL.size E122)) (KpL.size E142)) (KpL.size E162))) RI.flat hB216 rfl rfl rfl (fun i x hi => lit1 (R := RI) (cs := [(Iv (ix + (A_g.x * A_g.y)))]) (y := ix + (A_g.x * A_g.y))  rfl i x hi) (by first | (simp only [List.length_append, List.length_cons, List.length_nil]; omega) | omega) (Nat.le_trans (Below.size E192) (KpL.size E209))) ?_; rintro y' w219 ⟨gg220, hg221, K222, hO223⟩
              have hN224 : w53.heap.size ≤ gg220 := by rcases hg221 with h | h; exact h ▸ hN176; exact Nat.le_trans (Nat.le_trans (Nat.le_trans (Nat.le_trans (Nat.le_trans (Nat.le_trans (Below.size E63) (KpL.size E82)) (KpL.size E102)) (KpL.size E122)) (KpL.size E142)) (KpL.size E162)) h
              have g225 : w.heap.size ≤ gg220 := Nat.le_trans (Nat.le_trans (Nat.le_trans (Nat.le_trans (Below.size E18) (Below.size E33)) (Below.size E39)) (Below.size E54)) hN224
              have n226 : g_b ≠ gg220 := hg221.elim (fun h => by rw [h]; exact n178) (fun h => Nat.ne_of_lt (Nat.lt_of_lt_of_le n175 h))
              have X227 := Below.kl X213 K222 (allS g225 all0) (Nat.le_refl _)
              obtain ⟨p228, q229, rfl⟩ := Own.shape hO223
              have hH230 : Hang w53.heap.size w219 (fun u => Sl RI 1 u (.slice p228 (((nbK A_g ix 5) ++ [ix + (A_g.x * A_g.y)]).length) q229) ((nbK A_g ix 5) ++ [ix + (A_g.x * A_g.y)])) := Own.hang hO223 RI.flat (by decide) hN176 (Nat.le_trans (Nat.le_trans (Nat.le_trans (Nat.le_trans (Nat.le_trans (Below.size E63) (KpL.size E82)) (KpL.size E102)) (KpL.size E122)) (KpL.size E142)) (KpL.size E162))
              show wpList _ _ _ _ (fr [_, _, _, _, _, _, _, _, _, _, _, _, _, _, _, _, _, _, _, _, _, _, _, _, _, _, _, _, _, _, _, _, _, _, _, _, _, _, _, _, _, _, _, _, _, _, _, _, _, _, _, _, _, _, _, _, _, _, _, _, _, _, _, _, _, _, _, _, _, _, _, _, _, _, _, _, _, _, _, _, _, _, _, _, _, _, _, _, _, _, _, _, _, _, _, _, _, _, _, _, _, _, _, _, _, _, _, _, _, _, _, _, _, _, _, _, _, _, _, _, _, _]) _
              refine q_is rfl rfl (does_assign (u := (.slice p228 (((nbK A_g ix 5) ++ [ix + (A_g.x * A_g.y)]).length) q229)) (ev rfl)) (by dsimp only [List.set]; try rfl) ?_
              have hO231 := Own.cast (ys := nbK A_g ix 6) hO223 (by first | exact nb_f0 (if_neg (by omega)) | exact nb_t0 (if_pos (by omega)) | exact nb_t (if_pos (by omega)) | exact nb_f (if_neg (by omega)))
              exact wpList_nil (J168 (fun t => (([(Pt g_b g_o), (Iv ix), Ud, Ud, (.slice none 0 0), (Iv (ix % A_g.x)), (Iv ((ix / A_g.x) % A_g.y)), (Iv ((ix / A_g.x) / A_g.y)), (.slice p228 (((nbK A_g ix 5) ++ [ix + (A_g.x * A_g.y)]).length) q229), (Iv ix), (Pt g_b g_o), (Pt g_b g_o), (Pt g_b (g_o + 4)), (Iv A_g.x), (Iv (ix % A_g.x)), v21, v22, v23, v24, v25, v26, v27, v28, v29, v30, (Iv ((ix / A_g.x) % A_g.y)), v42, v43, v44, v45, v46, v47, v48, v49, v50, v51, (Iv ((ix / A_g.x) / A_g.y)), (.slice (some ⟨b59, 0, none⟩) 0 0), (Iv ((ix / A_g.x) / A_g.y)), (Bo (icmp .gtr ((ix / A_g.x) / A_g.y) 0)), (u71 40), (u71 41), (u71 42), (u71 43), (u71 44), (u71 45), (u71 46), (u71 47), (u71 48), (u71 49), (u71 50), (u71 51), (u71 52), (u71 53), (Iv ((ix / A_g.x) % A_g.y)), (Bo (icmp .gtr ((ix / A_g.x) % A_g.y) 0)), (u90 56), (u90 57), (u90 58), (u90 59), (u90 60), (u90 61), (u90 62), (u90 63), (u90 64), (Iv (ix % A_g.x)), (Bo (icmp .gtr (ix % A_g.x) 0)), (u110 67), (u110 68), (u110 69), (u110 70), (u110 71), (Iv (ix % A_g.x)), (Pt g_b g_o), (Pt g_b g_o), (Pt g_b (g_o + 4)), (Iv A_g.x), (Iv (A_g.x - 1)), (Bo (icmp .lss (ix % A_g.x) (A_g.x - 1))), (u130 79), (u130 80), (u130 81), (u130 82), (u130 83), (Iv ((ix / A_g.x) % A_g.y)), (Pt g_b g_o), (Pt g_b g_o), (Pt g_b (g_o + 5)), (Iv A_g.y), (Iv (A_g.y - 1)), (Bo (icmp .lss ((ix / A_g.x) % A_g.y) (A_g.y - 1))), (u150 91), (u150 92), (u150 93), (u150 94), (u150 95), (u150 96), (u150 97), (u150 98), (u150 99), (Iv ((ix / A_g.x) / A_g.y)), (Pt g_b g_o), (Pt g_b g_o), (Pt g_b (g_o + 6)), (Iv A_g.z), (Iv (A_g.z - 1)), (Bo (icmp .lss ((ix / A_g.x) / A_g.y) (A_g.z - 1))), (.slice p165 ((nbK A_g ix 5).length) q166), v196, v197, v198, v199, v200, v201, v202, v203, v204, v205, v206, (.slice (some ⟨b214, 0, none⟩) 1 1), (.slice p228 (((nbK A_g ix 5) ++ [ix + (A_g.x * A_g.y)]).length) q229), Ud] : List Value)[t]?).getD undef) (.slice p228 (((nbK A_g ix 5) ++ [ix + (A_g.x * A_g.y)]).length) q229) _ (KpL.more (KpL.more (KpL.ext (KpL.refl _ _) E192) E209 all0) K222 (allS (hg221.imp (fun h => by simp [h]) id) all0)) hO231)
            have c190' := c190
            (try simp only [icmp, Bool.and_eq_true, Bool.or_eq_true, Bool.and_eq_false_iff, Bool.or_eq_false_iff, Bool.not_eq_true', Bool.not_eq_false', decide_eq_true_eq, decide_eq_false_iff_not, beq_iff_eq, bne_iff_ne, beq_eq_false_iff_ne, bne_eq_false_iff_eq] at c190')
            have hO232 := Own.cast (ys := nbK A_g ix 6) hO174 (by first | exact nb_f0 (if_neg (by omega)) | exact nb_t0 (if_pos (by omega)) | exact nb_t (if_pos (by omega)) | exact nb_f (if_neg (by omega)))
            exact wp_skip (J168 (fun t => (([(Pt g_b g_o), (Iv ix), Ud, Ud, (.slice none 0 0), (Iv (ix % A_g.x)), (Iv ((ix / A_g.x) % A_g.y)), (Iv ((ix / A_g.x) / A_g.y)), (.slice p165 ((nbK A_g ix 5).length) q166), (Iv ix), (Pt g_b g_o), (Pt g_b g_o), (Pt g_b (g_o + 4)), (Iv A_g.x), (Iv (ix % A_g.x)), v21, v22, v23, v24, v25, v26, v27, v28, v29, v30, (Iv ((ix / A_g.x) % A_g.y)), v42, v43, v44, v45, v46, v47, v48, v49, v50, v51, (Iv ((ix / A_g.x) / A_g.y)), (.slice (some ⟨b59, 0, none⟩) 0 0), (Iv ((ix / A_g.x) / A_g.y)), (Bo (icmp .gtr ((ix / A_g.x) / A_g.y) 0)), (u71 40), (u71 41), (u71 42), (u71 43), (u71 44), (u71 45), (u71 46), (u71 47), (u71 48), (u71 49), (u71 50), (u71 51), (u71 52), (u71 53), (Iv ((ix / A_g.x) % A_g.y)), (Bo (icmp .gtr ((ix / A_g.x) % A_g.y) 0)), (u90 56), (u90 57), (u90 58), (u90 59), (u90 60), (u90 61), (u90 62), (u90 63), (u90 64), (Iv (ix % A_g.x)), (Bo (icmp .gtr (ix % A_g.x) 0)), (u110 67), (u110 68), (u110 69), (u110 70), (u110 71), (Iv (ix % A_g.x)), (Pt g_b g_o), (Pt g_b g_o), (Pt g_b (g_o + 4)), (Iv A_g.x), (Iv (A_g.x - 1)), (Bo (icmp .lss (ix % A_g.x) (A_g.x - 1))), (u130 79), (u130 80), (u130 81), (u130 82), (u130 83), (Iv ((ix / A_g.x) % A_g.y)), (Pt g_b g_o), (Pt g_b g_o), (Pt g_b (g_o + 5)), (Iv A_g.y), (Iv (A_g.y - 1)), (Bo (icmp .lss ((ix / A_g.x) % A_g.y) (A_g.y - 1))), (u150 91), (u150 92), (u150 93), (u150 94), (u150 95), (u150 96), (u150 97), (u150 98), (u150 99), (Iv ((ix / A_g.x) / A_g.y)), (Pt g_b g_o), (Pt g_b g_o), (Pt g_b (g_o + 6)), (Iv A_g.z), (Iv (A_g.z - 1)), (Bo (icmp .lss ((ix / A_g.x) / A_g.y) (A_g.z - 1))), Ud, Ud, Ud, Ud, Ud, Ud, Ud, Ud, Ud, Ud, Ud, Ud, Ud, Ud, Ud] : List Value)[t]?).getD undef) (.slice p165 ((nbK A_g ix 5).length) q166) _ (KpL.refl _ _) hO232)
          refine wp_cond_split (t := icmp .lss ((ix / A_g.x) % A_g.y) (A_g.y - 1)) (ev rfl) (fun c233 => ?_) (fun c233 => ?_)
          · have c233' := c233
            (try simp only [icmp, Bool.and_eq_true, Bool.or_eq_true, Bool.and_eq_false_iff, Bool.or_eq_false_iff, Bool.not_eq_true', Bool.not_eq_false', decide_eq_true_eq, decide_eq_false_iff_not, beq_iff_eq, bne_iff_ne, beq_eq_false_iff_ne, bne_eq_false_iff_eq] at c233')
            refine wp_region_lit ?_
            refine q_is rfl rfl (does_move (u := (.slice p145 ((nbK A_g ix 4).length) q146)) (ev rfl)) (by dsimp only [List.set]; try rfl) ?_
            refine q_is rfl rfl (does_move (u := (Iv ix)) (ev rfl)) (by dsimp only [List.set]; try rfl) ?_
            refine q_is rfl rfl (does_move (u := (Pt g_b g_o)) (ev rfl)) (by dsimp only [List.set]; try rfl) ?_
            refine q_is rfl rfl (does_nilCheck (ev rfl)) (by dsimp only [List.set]; try rfl) ?_
            refine q_is rfl rfl (does_fieldAddr (ev rfl) fa31_2) (by dsimp only [List.set]; try rfl) ?_
            refine q_is rfl rfl (does_load (u := (Iv A_g.x)) (ev rfl) Try.isAgg2 (Cells.at (hc_g.ext X144) 4 rfl)) (by dsimp only [List.set]; try rfl) ?_
            refine q_is rfl rfl (does_iarith (p := ix) (q := A_g.x) (r := ix + A_g.x) (ev rfl) (ev rfl) (.inl ⟨rfl, (in_i64 (by omega) (by omega)).symm⟩)) (by dsimp only [List.set]; try rfl) ?_
            refine seqd rfl rfl (does_buildSlice (e := 2) (parts' := [(0, (Iv (ix + A_g.x)))]) (cells := [(Iv (ix + A_g.x))]) (evp rfl) (fun _ => by kernel_rfl)) ?_; rintro _ w238 ⟨b234, rfl, hb235, hB236, E237⟩
            have n239 : g_b < b234 := Nat.lt_of_lt_of_le (cell_lt (Cells.at (hc_g.ext X144) 0 rfl)) hb235
            have g240 : w.heap.size ≤ b234 := Nat.le_trans (Below.size X144) hb235
            have X241 := Ext.gr X144 E237
            show wpList _ _ _ _ (fr [_, _, _, _, _, _, _, _, _, _, _, _, _, _, _, _, _, _, _, _, _, _, _, _, _, _, _, _, _, _, _, _, _, _, _, _, _, _, _, _, _, _, _, _, _, _, _, _, _, _, _, _, _, _, _, _, _, _, _, _, _, _, _, _, _, _, _, _, _, _, _, _, _, _, _, _, _, _, _, _, _, _, _, _, _, _, _, _, _, _, _, _, _, _, _, _, _, _, _, _, _, _, _, _, _, _, _, _, _, _, _, _, _, _, _, _, _, _, _, _, _, _]) _
            refine seqd rfl rfl (does_append (R := RI) (k := 1) (g0 := gg151) (B := w141.heap.size) (xs := (nbK A_g ix 4)) (ys := [ix + A_g.x]) Try.underlying38 inf2 rfl (by decide) (ev rfl) (ev rfl) (Own.same hO154 RI.flat ((Same.refl _ _).ext E237) hN156 (Nat.le_trans (Nat.le_trans (Nat.le_trans (Nat.le_trans (Below.size E63) (KpL.size E82)) (KpL.size E102)) (KpL.size E122)) (KpL.size E142))) RI.flat hB236 rfl rfl rfl (fun i x hi => lit1 (R := RI) (cs := [(Iv (ix + A_g.x))]) (y := ix + A_g.x)  rfl i x hi) (by first | (simp only [List.length_append, List.length_cons, List.length_nil]; omega) | omega) (Below.size E237)) ?_; rintro y' w242 ⟨gg243, hg244, K245, hO246⟩
            have hN247 : w53.heap.size ≤ gg243 := by rcases hg244 with h | h; exact h ▸ hN156; exact Nat.le_trans (Nat.le_trans (Nat.le_trans (Nat.le_trans (Nat.le_trans (Below.size E63) (KpL.size E82)) (KpL.size E102)) (KpL.size E122)) (KpL.size E142)) h
            have g248 : w.heap.size ≤ gg243 := Nat.le_trans (Nat.le_trans (Nat.le_trans (Nat.le_trans (Below.size E18) (Below.size E33)) (Below.size E39)) (Below.size E54)) hN247
            have n249 : g_b ≠ gg243 := hg244.elim (fun h => by rw [h]; exact n158) (fun h => Nat.ne_of_lt (Nat.lt_of_lt_of_le n155 h))
            have X250 := Below.kl X241 K245 (allS g248 all0) (Nat.le_refl _)
            obtain ⟨p251, q252, rfl⟩ := Own.shape hO246
            have hH253 : Hang w53.heap.size w242 (fun u => Sl RI 1 u (.slice p251 (((nbK A_g ix 4) ++ [ix + A_g.x]).length) q252) ((nbK A_g ix 4) ++ [ix + A_g.x])) := Own.hang hO246 RI.flat (by decide) hN156 (Nat.le_trans (Nat.le_trans (Nat.le_trans (Nat.le_trans (Below.size E63) (KpL.size E82)) (KpL.size E102)) (KpL.size E122)) (KpL.size E142))
            show wpList _ _ _ _ (fr [_, _, _, _, _, _, _, _, _, _, _, _, _, _, _, _, _, _, _, _, _, _, _, _, _, _, _, _, _, _, _, _, _, _, _, _, _, _, _, _, _, _, _, _, _, _, _, _, _, _, _, _, _, _, _, _, _, _, _, _, _, _, _, _, _, _, _, _, _, _, _, _, _, _, _, _, _, _, _, _, _, _, _, _, _, _, _, _, _, _, _, _, _, _, _, _, _, _, _, _, _, _, _, _, _, _, _, _, _, _, _, _, _, _, _, _, _, _, _, _, _, _]) _
            refine q_is rfl rfl (does_assign (u := (.slice p251 (((nbK A_g ix 4) ++ [ix + A_g.x]).length) q252)) (ev rfl)) (by dsimp only [List.set]; try rfl) ?_
            have hO254 := Own.cast (ys := nbK A_g ix 5) hO246 (by first | exact nb_f0 (if_neg (by omega)) | exact nb_t0 (if_pos (by omega)) | exact nb_t (if_pos (by omega)) | exact nb_f (if_neg (by omega)))
            exact wpList_nil (J148 (fun t => (([(Pt g_b g_o), (Iv ix), Ud, Ud, (.slice none 0 0), (Iv (ix % A_g.x)), (Iv ((ix / A_g.x) % A_g.y)), (Iv ((ix / A_g.x) / A_g.y)), (.slice p251 (((nbK A_g ix 4) ++ [ix + A_g.x]).length) q252), (Iv ix), (Pt g_b g_o), (Pt g_b g_o), (Pt g_b (g_o + 4)), (Iv A_g.x), (Iv (ix % A_g.x)), v21, v22, v23, v24, v25, v26, v27, v28, v29, v30, (Iv ((ix / A_g.x) % A_g.y)), v42, v43, v44, v45, v46, v47, v48, v49, v50, v51, (Iv ((ix / A_g.x) / A_g.y)), (.slice (some ⟨b59, 0, none⟩) 0 0), (Iv ((ix / A_g.x) / A_g.y)), (Bo (icmp .gtr ((ix / A_g.x) / A_g.y) 0)), (u71 40), (u71 41), (u71 42), (u71 43), (u71 44), (u71 45), (u71 46), (u71 47), (u71 48), (u71 49), (u71 50), (u71 51), (u71 52), (u71 53), (Iv ((ix / A_g.x) % A_g.y)), (Bo (icmp .gtr ((ix / A_g.x) % A_g.y) 0)), (u90 56), (u90 57), (u90 58), (u90 59), (u90 60), (u90 61), (u90 62), (u90 63), (u90 64), (Iv (ix % A_g.x)), (Bo (icmp .gtr (ix % A_g.x) 0)), (u110 67), (u110 68), (u110 69), (u110 70), (u110 71), (Iv (ix % A_g.x)), (Pt g_b g_o), (Pt g_b g_o), (Pt g_b (g_o + 4)), (Iv A_g.x), (Iv (A_g.x - 1)), (Bo (icmp .lss (ix % A_g.x) (A_g.x - 1))), (u130 79), (u130 80), (u130 81), (u130 82), (u130 83), (Iv ((ix / A_g.x) % A_g.y)), (Pt g_b g_o), (Pt g_b g_o), (Pt g_b (g_o + 5)), (Iv A_g.y), (Iv (A_g.y - 1)), (Bo (icmp .lss ((ix / A_g.x) % A_g.y) (A_g.y - 1))), (.slice p145 ((nbK A_g ix 4).length) q146), (Iv ix), (Pt g_b g_o), (Pt g_b g_o), (Pt g_b (g_o + 4)), (Iv A_g.x), (Iv (ix + A_g.x)), (.slice (some ⟨b234, 0, none⟩) 1 1), (.slice p251 (((nbK A_g ix 4) ++ [ix + A_g.x]).length) q252), Ud, Ud, Ud, Ud, Ud, Ud, Ud, Ud, Ud, Ud, Ud, Ud, Ud, Ud, Ud, Ud, Ud, Ud, Ud, Ud, Ud, Ud] : List Value)[t]?).getD undef) (.slice p251 (((nbK A_g ix 4) ++ [ix + A_g.x]).length) q252) _ (KpL.more (KpL.ext (KpL.refl _ _) E237) K245 (allS (hg244.imp (fun h => by simp [h]) id) all0)) hO254)
          have c233' := c233
          (try simp only [icmp, Bool.and_eq_true, Bool.or_eq_true, Bool.and_eq_false_iff, Bool.or_eq_false_iff, Bool.not_eq_true', Bool.not_eq_false', decide_eq_true_eq, decide_eq_false_iff_not, beq_iff_eq, bne_iff_ne, beq_eq_false_iff_ne, bne_eq_false_iff_eq] at c233')
          have hO255 := Own.cast (ys := nbK A_g ix 5) hO154 (by first | exact nb_f0 (if_neg (by omega)) | exact nb_t0 (if_pos (by omega)) | exact nb_t (if_pos (by omega)) | exact nb_f (if_neg (by omega)))
          exact wp_skip (J148 (fun t => (([(Pt g_b g_o), (Iv ix), Ud, Ud, (.slice none 0 0), (Iv (ix % A_g.x)), (Iv ((ix / A_g.x) % A_g.y)), (Iv ((ix / A_g.x) / A_g.y)), (.slice p145 ((nbK A_g ix 4).length) q146), (Iv ix), (Pt g_b g_o), (Pt g_b g_o), (Pt g_b (g_o + 4)), (Iv A_g.x), (Iv (ix % A_g.x)), v21, v22, v23, v24, v25, v26, v27, v28, v29, v30, (Iv ((ix / A_g.x) % A_g.y)), v42, v43, v44, v45, v46, v47, v48, v49, v50, v51, (Iv ((ix / A_g.x) / A_g.y)), (.slice (some ⟨b59, 0, none⟩) 0 0), (Iv ((ix / A_g.x) / A_g.y)), (Bo (icmp .gtr ((ix / A_g.x) / A_g.y) 0)), (u71 40), (u71 41), (u71 42), (u71 43), (u71 44), (u71 45), (u71 46), (u71 47), (u71 48), (u71 49), (u71 50), (u71 51), (u71 52), (u71 53), (Iv ((ix / A_g.x) % A_g.y)), (Bo (icmp .gtr ((ix / A_g.x) % A_g.y) 0)), (u90 56), (u90 57), (u90 58), (u90 59), (u90 60), (u90 61), (u90 62), (u90 63), (u90 64), (Iv (ix % A_g.x)), (Bo (icmp .gtr (ix % A_g.x) 0)), (u110 67), (u110 68), (u110 69), (u110 70), (u110 71), (Iv (ix % A_g.x)), (Pt g_b g_o), (Pt g_b g_o), (Pt g_b (g_o + 4)), (Iv A_g.x), (Iv (A_g.x - 1)), (Bo (icmp .lss (ix % A_g.x) (A_g.x - 1))), (u130 79), (u130 80), (u130 81), (u130 82), (u130 83), (Iv ((ix / A_g.x) % A_g.y)), (Pt g_b g_o), (Pt g_b g_o), (Pt g_b (g_o + 5)), (Iv A_g.y), (Iv (A_g.y - 1)), (Bo (icmp .lss ((ix / A_g.x) % A_g.y) (A_g.y - 1))), Ud, Ud, Ud, Ud, Ud, Ud, Ud, Ud, Ud, Ud, Ud, Ud, Ud, Ud, Ud, Ud, Ud, Ud, Ud, Ud, Ud, Ud, Ud, Ud, Ud, Ud, Ud, Ud, Ud, Ud, Ud] : List Value)[t]?).getD undef) (.slice p145 ((nbK A_g ix 4).length) q146) _ (KpL.refl _ _) hO255)
        refine wp_cond_split (t := icmp .lss (ix % A_g.x) (A_g.x - 1)) (ev rfl) (fun c256 => ?_) (fun c256 => ?_)
        · have c256' := c256
          (try simp only [icmp, Bool.and_eq_true, Bool.or_eq_true, Bool.and_eq_false_iff, Bool.or_eq_false_iff, Bool.not_eq_true', Bool.not_eq_false', decide_eq_true_eq, decide_eq_false_iff_not, beq_iff_eq, bne_iff_ne, beq_eq_false_iff_ne, bne_eq_false_iff_eq] at c256')
          refine wp_region_lit ?_
          refine q_is rfl rfl (does_move (u := (.slice p125 ((nbK A_g ix 3).length) q126)) (ev rfl)) (by dsimp only [List.set]; try rfl) ?_
          refine q_is rfl rfl (does_move (u := (Iv ix)) (ev rfl)) (by dsimp only [List.set]; try rfl) ?_
          refine q_is rfl rfl (does_iarith (p := ix) (q := 1) (r := ix + 1) (ev rfl) (ev rfl) (.inl ⟨rfl, (in_i64 (by omega) (by omega)).symm⟩)) (by dsimp only [List.set]; try rfl) ?_
          refine seqd rfl rfl (does_buildSlice (e := 2) (parts' := [(0, (Iv (ix + 1)))]) (cells := [(Iv (ix + 1))]) (evp rfl) (fun _ => by kernel_rfl)) ?_; rintro _ w261 ⟨b257, rfl, hb258, hB259, E260⟩
          have n262 : g_b < b257 := Nat.lt_of_lt_of_le (cell_lt (Cells.at (hc_g.ext X124) 0 rfl)) hb258
          have g263 : w.heap.size ≤ b257 := Nat.le_trans (Below.size X124) hb258
          have X264 := Ext.gr X124 E260
          show wpList _ _ _ _ (fr [_, _, _, _, _, _, _, _, _, _, _, _, _, _, _, _, _, _, _, _, _, _, _, _, _, _, _, _, _, _, _, _, _, _, _, _, _, _, _, _, _, _, _, _, _, _, _, _, _, _, _, _, _, _, _, _, _, _, _, _, _, _, _, _, _, _, _, _, _, _, _, _, _, _, _, _, _, _, _, _, _, _, _, _, _, _, _, _, _, _, _, _, _, _, _, _, _, _, _, _, _, _, _, _, _, _, _, _, _, _, _, _, _, _, _, _, _, _, _, _, _, _]) _
          refine seqd rfl rfl (does_append (R := RI) (k := 1) (g0 := gg131) (B := w121.heap.size) (xs := (nbK A_g ix 3)) (ys := [ix + 1]) Try.underlying38 inf2 rfl (by decide) (ev rfl) (ev rfl) (Own.same hO134 RI.flat ((Same.refl _ _).ext E260) hN136 (Nat.le_trans (Nat.le_trans (Nat.le_trans (Below.size E63) (KpL.size E82)) (KpL.size E102)) (KpL.size E122))) RI.flat hB259 rfl rfl rfl (fun i x hi => lit1 (R := RI) (cs := [(Iv (ix + 1))]) (y := ix + 1)  rfl i x hi) (by first | (simp only [List.length_append, List.length_cons, List.length_nil]; omega) | omega) (Below.size E260)) ?_; rintro y' w265 ⟨gg266, hg267, K268, hO269⟩
          have hN270 : w53.heap.size ≤ gg266 := by rcases hg267 with h | h; exact h ▸ hN136; exact Nat.le_trans (Nat.le_trans (Nat.le_trans (Nat.le_trans (Below.size E63) (KpL.size E82)) (KpL.size E102)) (KpL.size E122)) h
          have g271 : w.heap.size ≤ gg266 := Nat.le_trans (Nat.le_trans (Nat.le_trans (Nat.le_trans (Below.size E18) (Below.size E33)) (Below.size E39)) (Below.size E54)) hN270
          have n272 : g_b ≠ gg266 := hg267.elim (fun h => by rw [h]; exact n138) (fun h => Nat.ne_of_lt (Nat.lt_of_lt_of_le n135 h))
          have X273 := Below.kl X264 K268 (allS g271 all0) (Nat.le_refl _)
          obtain ⟨p274, q275, rfl⟩ := Own.shape hO269
          have hH276 : Hang w53.heap.size w265 (fun u => Sl RI 1 u (.slice p274 (((nbK A_g ix 3) ++ [ix + 1]).length) q275) ((nbK A_g ix 3) ++ [ix + 1])) := Own.hang hO269 RI.flat (by decide) hN136 (Nat.le_trans (Nat.le_trans (Nat.le_trans (Below.size E63) (KpL.size E82)) (KpL.size E102)) (KpL.size E122))
          show wpList _ _ _ _ (fr [_, _, _, _, _, _, _, _, _, _, _, _, _, _, _, _, _, _, _, _, _, _, _, _, _, _, _, _, _, _, _, _, _, _, _, _, _, _, _, _, _, _, _, _, _, _, _, _, _, _, _, _, _, _, _, _, _, _, _, _, _, _, _, _, _, _, _, _, _, _, _, _, _, _, _, _, _, _, _, _, _, _, _, _, _, _, _, _, _, _, _, _, _, _, _, _, _, _, _, _, _, _, _, _, _, _, _, _, _, _, _, _, _, _, _, _, _, _, _, _, _, _]) _
          refine q_is rfl rfl (does_assign (u := (.slice p274 (((nbK A_g ix 3) ++ [ix + 1]).length) q275)) (ev rfl)) (by dsimp only [List.set]; try rfl) ?_
          have hO277 := Own.cast (ys := nbK A_g ix 4) hO269 (by first | exact nb_f0 (if_neg (by omega)) | exact nb_t0 (if_pos (by omega)) | exact nb_t (if_pos (by omega)) | exact nb_f (if_neg (by omega)))
          exact wpList_nil (J128 (fun t => (([(Pt g_b g_o), (Iv ix), Ud, Ud, (.slice none 0 0), (Iv (ix % A_g.x)), (Iv ((ix / A_g.x) % A_g.y)), (Iv ((ix / A_g.x) / A_g.y)), (.slice p274 (((nbK A_g ix 3) ++ [ix + 1]).length) q275), (Iv ix), (Pt g_b g_o), (Pt g_b g_o), (Pt g_b (g_o + 4)), (Iv A_g.x), (Iv (ix % A_g.x)), v21, v22, v23, v24, v25, v26, v27, v28, v29, v30, (Iv ((ix / A_g.x) % A_g.y)), v42, v43, v44, v45, v46, v47, v48, v49, v50, v51, (Iv ((ix / A_g.x) / A_g.y)), (.slice (some ⟨b59, 0, none⟩) 0 0), (Iv ((ix / A_g.x) / A_g.y)), (Bo (icmp .gtr ((ix / A_g.x) / A_g.y) 0)), (u71 40), (u71 41), (u71 42), (u71 43), (u71 44), (u71 45), (u71 46), (u71 47), (u71 48), (u71 49), (u71 50), (u71 51), (u71 52), (u71 53), (Iv ((ix / A_g.x) % A_g.y)), (Bo (icmp .gtr ((ix / A_g.x) % A_g.y) 0)), (u90 56), (u90 57), (u90 58), (u90 59), (u90 60), (u90 61), (u90 62), (u90 63), (u90 64), (Iv (ix % A_g.x)), (Bo (icmp .gtr (ix % A_g.x) 0)), (u110 67), (u110 68), (u110 69), (u110 70), (u110 71), (Iv (ix % A_g.x)), (Pt g_b g_o), (Pt g_b g_o), (Pt g_b (g_o + 4)), (Iv A_g.x), (Iv (A_g.x - 1)), (Bo (icmp .lss (ix % A_g.x) (A_g.x - 1))), (.slice p125 ((nbK A_g ix 3).length) q126), (Iv ix), (Iv (ix + 1)), (.slice (some ⟨b257, 0, none⟩) 1 1), (.slice p274 (((nbK A_g ix 3) ++ [ix + 1]).length) q275), Ud, Ud, Ud, Ud, Ud, Ud, Ud, Ud, Ud, Ud, Ud, Ud, Ud, Ud, Ud, Ud, Ud, Ud, Ud, Ud, Ud, Ud, Ud, Ud, Ud, Ud, Ud, Ud, Ud, Ud, Ud, Ud, Ud, Ud, Ud, Ud, Ud, Ud] : List Value)[t]?).getD undef) (.slice p274 (((nbK A_g ix 3) ++ [ix + 1]).length) q275) _ (KpL.more (KpL.ext (KpL.refl _ _) E260) K268 (allS (hg267.imp (fun h => by simp [h]) id) all0)) hO277)
        have c256' := c256
        (try simp only [icmp, Bool.and_eq_true, Bool.or_eq_true, Bool.and_eq_false_iff, Bool.or_eq_false_iff, Bool.not_eq_true', Bool.not_eq_false', decide_eq_true_eq, decide_eq_false_iff_not, beq_iff_eq, bne_iff_ne, beq_eq_false_iff_ne, bne_eq_false_iff_eq] at c256')
        have hO278 := Own.cast (ys := nbK A_g ix 4) hO134 (by first | exact nb_f0 (if_neg (by omega)) | exact nb_t0 (if_pos (by omega)) | exact nb_t (if_pos (by omega)) | exact nb_f (if_neg (by omega)))
        exact wp_skip (J128 (fun t => (([(Pt g_b g_o), (Iv ix), Ud, Ud, (.slice none 0 0), (Iv (ix % A_g.x)), (Iv ((ix / A_g.x) % A_g.y)), (Iv ((ix / A_g.x) / A_g.y)), (.slice p125 ((nbK A_g ix 3).length) q126), (Iv ix), (Pt g_b g_o), (Pt g_b g_o), (Pt g_b (g_o + 4)), (Iv A_g.x), (Iv (ix % A_g.x)), v21, v22, v23, v24, v25, v26, v27, v28, v29, v30, (Iv ((ix / A_g.x) % A_g.y)), v42, v43, v44, v45, v46, v47, v48, v49, v50, v51, (Iv ((ix / A_g.x) / A_g.y)), (.slice (some ⟨b59, 0, none⟩) 0 0), (Iv ((ix / A_g.x) / A_g.y)), (Bo (icmp .gtr ((ix / A_g.x) / A_g.y) 0)), (u71 40), (u71 41), (u71 42), (u71 43), (u71 44), (u71 45), (u71 46), (u71 47), (u71 48), (u71 49), (u71 50), (u71 51), (u71 52), (u71 53), (Iv ((ix / A_g.x) % A_g.y)), (Bo (icmp .gtr ((ix / A_g.x) % A_g.y) 0)), (u90 56), (u90 57), (u90 58), (u90 59), (u90 60), (u90 61), (u90 62), (u90 63), (u90 64), (Iv (ix % A_g.x)), (Bo (icmp .gtr (ix % A_g.x) 0)), (u110 67), (u110 68), (u110 69), (u110 70), (u110 71), (Iv (ix % A_g.x)), (Pt g_b g_o), (Pt g_b g_o), (Pt g_b (g_o + 4)), (Iv A_g.x), (Iv (A_g.x - 1)), (Bo (icmp .lss (ix % A_g.x) (A_g.x - 1))), Ud, Ud, Ud, Ud, Ud, Ud, Ud, Ud, Ud, Ud, Ud, Ud, Ud, Ud, Ud, Ud, Ud, Ud, Ud, Ud, Ud, Ud, Ud, Ud, Ud, Ud, Ud, Ud, Ud, Ud, Ud, Ud, Ud, Ud, Ud, Ud, Ud, Ud, Ud, Ud, Ud, Ud, Ud] : List Value)[t]?).getD undef) (.slice p125 ((nbK A_g ix 3).length) q126) _ (KpL.refl _ _) hO278)
      refine wp_cond_split (t := icmp .gtr (ix % A_g.x) 0) (ev rfl) (fun c279 => ?_) (fun c279 => ?_)
      · have c279' := c279
        (try simp only [icmp, Bool.and_eq_true, Bool.or_eq_true, Bool.and_eq_false_iff, Bool.or_eq_false_iff, Bool.not_eq_true', Bool.not_eq_false', decide_eq_true_eq, decide_eq_false_iff_not, beq_iff_eq, bne_iff_ne, beq_eq_false_iff_ne, bne_eq_false_iff_eq] at c279')
        refine wp_region_lit ?_
        refine q_is rfl rfl (does_move (u := (.slice p105 ((nbK A_g ix 2).length) q106)) (ev rfl)) (by dsimp only [List.set]; try rfl) ?_
        refine q_is rfl rfl (does_move (u := (Iv ix)) (ev rfl)) (by dsimp only [List.set]; try rfl) ?_
        refine q_is rfl rfl (does_iarith (p := ix) (q := 1) (r := ix - 1) (ev rfl) (ev rfl) (.inr (.inl ⟨rfl, (in_i64 (by omega) (by omega)).symm⟩))) (by dsimp only [List.set]; try rfl) ?_
        refine seqd rfl rfl (does_buildSlice (e := 2) (parts' := [(0, (Iv (ix - 1)))]) (cells := [(Iv (ix - 1))]) (evp rfl) (fun _ => by kernel_rfl)) ?_; rintro _ w284 ⟨b280, rfl, hb281, hB282, E283⟩
        have n285 : g_b < b280 := Nat.lt_of_lt_of_le (cell_lt (Cells.at (hc_g.ext X104) 0 rfl)) hb281
        have g286 : w.heap.size ≤ b280 := Nat.le_trans (Below.size X104) hb281
        have X287 := Ext.gr X104 E283
        show wpList _ _ _ _ (fr [_, _, _, _, _, _, _, _, _, _, _, _, _, _, _, _, _, _, _, _, _, _, _, _, _, _, _, _, _, _, _, _, _, _, _, _, _, _, _, _, _, _, _, _, _, _, _, _, _, _, _, _, _, _, _, _, _, _, _, _, _, _, _, _, _, _, _, _, _, _, _, _, _, _, _, _, _, _, _, _, _, _, _, _, _, _, _, _, _, _, _, _, _, _, _, _, _, _, _, _, _, _, _, _, _, _, _, _, _, _, _, _, _, _, _, _, _, _, _, _, _, _]) _
        refine seqd rfl rfl (does_append (R := RI) (k := 1) (g0 := gg111) (B := w101.heap.size) (xs := (nbK A_g ix 2)) (ys := [ix - 1]) Try.underlying38 inf2 rfl (by decide) (ev rfl) (ev rfl) (Own.same hO114 RI.flat ((Same.refl _ _).ext E283) hN116 (Nat.le_trans (Nat.le_trans (Below.size E63) (KpL.size E82)) (KpL.size E102))) RI.flat hB282 rfl rfl rfl (fun i x hi => lit1 (R := RI) (cs := [(Iv (ix - 1))]) (y := ix - 1)  rfl i x hi) (by first | (simp only [List.length_append, List.length_cons, List.length_nil]; omega) | omega) (Below.size E283)) ?_; rintro y' w288 ⟨gg289, hg290, K291, hO292⟩
        have hN293 : w53.heap.size ≤ gg289 := by rcases hg290 with h | h; exact h ▸ hN116; exact Nat.le_trans (Nat.le_trans (Nat.le_trans (Below.size E63) (KpL.size E82)) (KpL.size E102)) h
        have g294 : w.heap.size ≤ gg289 := Nat.le_trans (Nat.le_trans (Nat.le_trans (Nat.le_trans (Below.size E18) (Below.size E33)) (Below.size E39)) (Below.size E54)) hN293
        have n295 : g_b ≠ gg289 := hg290.elim (fun h => by rw [h]; exact n118) (fun h => Nat.ne_of_lt (Nat.lt_of_lt_of_le n115 h))
        have X296 := Below.kl X287 K291 (allS g294 all0) (Nat.le_refl _)
        obtain ⟨p297, q298, rfl⟩ := Own.shape hO292
        have hH299 : Hang w53.heap.size w288 (fun u => Sl RI 1 u (.slice p297 (((nbK A_g ix 2) ++ [ix - 1]).length) q298) ((nbK A_g ix 2) ++ [ix - 1])) := Own.hang hO292 RI.flat (by decide) hN116 (Nat.le_trans (Nat.le_trans (Below.size E63) (KpL.size E82)) (KpL.size E102))
        show wpList _ _ _ _ (fr [_, _, _, _, _, _, _, _, _, _, _, _, _, _, _, _, _, _, _, _, _, _, _, _, _, _, _, _, _, _, _, _, _, _, _, _, _, _, _, _, _, _, _, _, _, _, _, _, _, _, _, _, _, _, _, _, _, _, _, _, _, _, _, _, _, _, _, _, _, _, _, _, _, _, _, _, _, _, _, _, _, _, _, _, _, _, _, _, _, _, _, _, _, _, _, _, _, _, _, _, _, _, _, _, _, _, _, _, _, _, _, _, _, _, _, _, _, _, _, _, _, _]) _
        refine q_is rfl rfl (does_assign (u := (.slice p297 (((nbK A_g ix 2) ++ [ix - 1]).length) q298)) (ev rfl)) (by dsimp only [List.set]; try rfl) ?_
        have hO300 := Own.cast (ys := nbK A_g ix 3) hO292 (by first | exact nb_f0 (if_neg (by omega)) | exact nb_t0 (if_pos (by omega)) | exact nb_t (if_pos (by omega)) | exact nb_f (if_neg (by omega)))
        exact wpList_nil (J108 (fun t => (([(Pt g_b g_o), (Iv ix), Ud, Ud, (.slice none 0 0), (Iv (ix % A_g.x)), (Iv ((ix / A_g.x) % A_g.y)), (Iv ((ix / A_g.x) / A_g.y)), (.slice p297 (((nbK A_g ix 2) ++ [ix - 1]).length) q298), (Iv ix), (Pt g_b g_o), (Pt g_b g_o), (Pt g_b (g_o + 4)), (Iv A_g.x), (Iv (ix % A_g.x)), v21, v22, v23, v24, v25, v26, v27, v28, v29, v30, (Iv ((ix / A_g.x) % A_g.y)), v42, v43, v44, v45, v46, v47, v48, v49, v50, v51, (Iv ((ix / A_g.x) / A_g.y)), (.slice (some ⟨b59, 0, none⟩) 0 0), (Iv ((ix / A_g.x) / A_g.y)), (Bo (icmp .gtr ((ix / A_g.x) / A_g.y) 0)), (u71 40), (u71 41), (u71 42), (u71 43), (u71 44), (u71 45), (u71 46), (u71 47), (u71 48), (u71 49), (u71 50), (u71 51), (u71 52), (u71 53), (Iv ((ix / A_g.x) % A_g.y)), (Bo (icmp .gtr ((ix / A_g.x) % A_g.y) 0)), (u90 56), (u90 57), (u90 58), (u90 59), (u90 60), (u90 61), (u90 62), (u90 63), (u90 64), (Iv (ix % A_g.x)), (Bo (icmp .gtr (ix % A_g.x) 0)), (.slice p105 ((nbK A_g ix 2).length) q106), (Iv ix), (Iv (ix - 1)), (.slice (some ⟨b280, 0, none⟩) 1 1), (.slice p297 (((nbK A_g ix 2) ++ [ix - 1]).length) q298), Ud, Ud, Ud, Ud, Ud, Ud, Ud, Ud, Ud, Ud, Ud, Ud, Ud, Ud, Ud, Ud, Ud, Ud, Ud, Ud, Ud, Ud, Ud, Ud, Ud, Ud, Ud, Ud, Ud, Ud, Ud, Ud, Ud, Ud, Ud, Ud, Ud, Ud, Ud, Ud, Ud, Ud, Ud, Ud, Ud, Ud, Ud, Ud, Ud, Ud] : List Value)[t]?).getD undef) (.slice p297 (((nbK A_g ix 2) ++ [ix - 1]).length) q298) _ (KpL.more (KpL.ext (KpL.refl _ _) E283) K291 (allS (hg290.imp (fun h => by simp [h]) id) all0)) hO300)
      have c279' := c279
      (try simp only [icmp, Bool.and_eq_true, Bool.or_eq_true, Bool.and_eq_false_iff, Bool.or_eq_false_iff, Bool.not_eq_true', Bool.not_eq_false', decide_eq_true_eq, decide_eq_false_iff_not, beq_iff_eq, bne_iff_ne, beq_eq_false_iff_ne, bne_eq_false_iff_eq] at c279')
      have hO301 := Own.cast (ys := nbK A_g ix 3) hO114 (by first | exact nb_f0 (if_neg (by omega)) | exact nb_t0 (if_pos (by omega)) | exact nb_t (if_pos (by omega)) | exact nb_f (if_neg (by omega)))
      exact wp_skip (J108 (fun t => (([(Pt g_b g_o), (Iv ix), Ud, Ud, (.slice none 0 0), (Iv (ix % A_g.x)), (Iv ((ix / A_g.x) % A_g.y)), (Iv ((ix / A_g.x) / A_g.y)), (.slice p105 ((nbK A_g ix 2).length) q106), (Iv ix), (Pt g_b g_o), (Pt g_b g_o), (Pt g_b (g_o + 4)), (Iv A_g.x), (Iv (ix % A_g.x)), v21, v22, v23, v24, v25, v26, v27, v28, v29, v30, (Iv ((ix / A_g.x) % A_g.y)), v42, v43, v44, v45, v46, v47, v48, v49, v50, v51, (Iv ((ix / A_g.x) / A_g.y)), (.slice (some ⟨b59, 0, none⟩) 0 0), (Iv ((ix / A_g.x) / A_g.y)), (Bo (icmp .gtr ((ix / A_g.x) / A_g.y) 0)), (u71 40), (u71 41), (u71 42), (u71 43), (u71 44), (u71 45), (u71 46), (u71 47), (u71 48), (u71 49), (u71 50), (u71 51), (u71 52), (u71 53), (Iv ((ix / A_g.x) % A_g.y)), (Bo (icmp .gtr ((ix / A_g.x) % A_g.y) 0)), (u90 56), (u90 57), (u90 58), (u90 59), (u90 60), (u90 61), (u90 62), (u90 63), (u90 64), (Iv (ix % A_g.x)), (Bo (icmp .gtr (ix % A_g.x) 0)), Ud, Ud, Ud, Ud, Ud, Ud, Ud, Ud, Ud, Ud, Ud, Ud, Ud, Ud, Ud, Ud, Ud, Ud, Ud, Ud, Ud, Ud, Ud, Ud, Ud, Ud, Ud, Ud, Ud, Ud, Ud, Ud, Ud, Ud, Ud, Ud, Ud, Ud, Ud, Ud, Ud, Ud, Ud, Ud, Ud, Ud, Ud, Ud, Ud, Ud, Ud, Ud, Ud, Ud, Ud] : List Value)[t]?).getD undef) (.slice p105 ((nbK A_g ix 2).length) q106) _ (KpL.refl _ _) hO301)
    refine wp_cond_split (t := icmp .gtr ((ix / A_g.x) % A_g.y) 0) (ev rfl) (fun c302 => ?_) (fun c302 => ?_)
    · have c302' := c302
      (try simp only [icmp, Bool.and_eq_true, Bool.or_eq_true, Bool.and_eq_false_iff, Bool.or_eq_false_iff, Bool.not_eq_true', Bool.not_eq_false', decide_eq_true_eq, decide_eq_false_iff_not, beq_iff_eq, bne_iff_ne, beq_eq_false_iff_ne, bne_eq_false_iff_eq] at c302')
      refine wp_region_lit ?_
      refine q_is rfl rfl (does_move (u := (.slice p85 ((nbK A_g ix 1).length) q86)) (ev rfl)) (by dsimp only [List.set]; try rfl) ?_
      refine q_is rfl rfl (does_move (u := (Iv ix)) (ev rfl)) (by dsimp only [List.set]; try rfl) ?_
      refine q_is rfl rfl (does_move (u := (Pt g_b g_o)) (ev rfl)) (by dsimp only [List.set]; try rfl) ?_
      refine q_is rfl rfl (does_nilCheck (ev rfl)) (by dsimp only [List.set]; try rfl) ?_
      refine q_is rfl rfl (does_fieldAddr (ev rfl) fa31_2) (by dsimp only [List.set]; try rfl) ?_
      refine q_is rfl rfl (does_load (u := (Iv A_g.x)) (ev rfl) Try.isAgg2 (Cells.at (hc_g.ext X84) 4 rfl)) (by dsimp only [List.set]; try rfl) ?_
      refine q_is rfl rfl (does_iarith (p := ix) (q := A_g.x) (r := ix - A_g.x) (ev rfl) (ev rfl) (.inr (.inl ⟨rfl, (in_i64 (by omega) (by omega)).symm⟩))) (by dsimp only [List.set]; try rfl) ?_
      refine seqd rfl rfl (does_buildSlice (e := 2) (parts' := [(0, (Iv (ix - A_g.x)))]) (cells := [(Iv (ix - A_g.x))]) (evp rfl) (fun _ => by kernel_rfl)) ?_; rintro _ w307 ⟨b303, rfl, hb304, hB305, E306⟩
      have n308 : g_b < b303 := Nat.lt_of_lt_of_le (cell_lt (Cells.at (hc_g.ext X84) 0 rfl)) hb304
      have g309 : w.heap.size ≤ b303 := Nat.le_trans (Below.size X84) hb304
      have X310 := Ext.gr X84 E306
      show wpList _ _ _ _ (fr [_, _, _, _, _, _, _, _, _, _, _, _, _, _, _, _, _, _, _, _, _, _, _, _, _, _, _, _, _, _, _, _, _, _, _, _, _, _, _, _, _, _, _, _, _, _, _, _, _, _, _, _, _, _, _, _, _, _, _, _, _, _, _, _, _, _, _, _, _, _, _, _, _, _, _, _, _, _, _, _, _, _, _, _, _, _, _, _, _, _, _, _, _, _, _, _, _, _, _, _, _, _, _, _, _, _, _, _, _, _, _, _, _, _, _, _, _, _, _, _, _, _]) _
      refine seqd rfl rfl (does_append (R := RI) (k := 1) (g0 := gg91) (B := w81.heap.size) (xs := (nbK A_g ix 1)) (ys := [ix - A_g.x]) Try.underlying38 inf2 rfl (by decide) (ev rfl) (ev rfl) (Own.same hO94 RI.flat ((Same.refl _ _).ext E306) hN96 (Nat.le_trans (Below.size E63) (KpL.size E82))) RI.flat hB305 rfl rfl rfl (fun i x hi => lit1 (R := RI) (cs := [(Iv (ix - A_g.x))]) (y := ix - A_g.x)  rfl i x hi) (by first | (simp only [List.length_append, List.length_cons, List.length_nil]; omega) | omega) (Below.size E306)) ?_; rintro y' w311 ⟨gg312, hg313, K314, hO315⟩
      have hN316 : w53.heap.size ≤ gg312 := by rcases hg313 with h | h; exact h ▸ hN96; exact Nat.le_trans (Nat.le_trans (Below.size E63) (KpL.size E82)) h
      have g317 : w.heap.size ≤ gg312 := Nat.le_trans (Nat.le_trans (Nat.le_trans (Nat.le_trans (Below.size E18) (Below.size E33)) (Below.size E39)) (Below.size E54)) hN316
      have n318 : g_b ≠ gg312 := hg313.elim (fun h => by rw [h]; exact n98) (fun h => Nat.ne_of_lt (Nat.lt_of_lt_of_le n95 h))
      have X319 := Below.kl X310 K314 (allS g317 all0) (Nat.le_refl _)
      obtain ⟨p320, q321, rfl⟩ := Own.shape hO315
      have hH322 : Hang w53.heap.size w311 (fun u => Sl RI 1 u (.slice p320 (((nbK A_g ix 1) ++ [ix - A_g.x]).length) q321) ((nbK A_g ix 1) ++ [ix - A_g.x])) := Own.hang hO315 RI.flat (by decide) hN96 (Nat.le_trans (Below.size E63) (KpL.size E82))
      show wpList _ _ _ _ (fr [_, _, _, _, _, _, _, _, _, _, _, _, _, _, _, _, _, _, _, _, _, _, _, _, _, _, _, _, _, _, _, _, _, _, _, _, _, _, _, _, _, _, _, _, _, _, _, _, _, _, _, _, _, _, _, _, _, _, _, _, _, _, _, _, _, _, _, _, _, _, _, _, _, _, _, _, _, _, _, _, _, _, _, _, _, _, _, _, _, _, _, _, _, _, _, _, _, _, _, _, _, _, _, _, _, _, _, _, _, _, _, _, _, _, _, _, _, _, _, _, _, _]) _
      refine q_is rfl rfl (does_assign (u := (.slice p320 (((nbK A_g ix 1) ++ [ix - A_g.x]).length) q321)) (ev rfl)) (by dsimp only [List.set]; try rfl) ?_
      have hO323 := Own.cast (ys := nbK A_g ix 2) hO315 (by first | exact nb_f0 (if_neg (by omega)) | exact nb_t0 (if_pos (by omega)) | exact nb_t (if_pos (by omega)) | exact nb_f (if_neg (by omega)))
      exact wpList_nil (J88 (fun t => (([(Pt g_b g_o), (Iv ix), Ud, Ud, (.slice none 0 0), (Iv (ix % A_g.x)), (Iv ((ix / A_g.x) % A_g.y)), (Iv ((ix / A_g.x) / A_g.y)), (.slice p320 (((nbK A_g ix 1) ++ [ix - A_g.x]).length) q321), (Iv ix), (Pt g_b g_o), (Pt g_b g_o), (Pt g_b (g_o + 4)), (Iv A_g.x), (Iv (ix % A_g.x)), v21, v22, v23, v24, v25, v26, v27, v28, v29, v30, (Iv ((ix / A_g.x) % A_g.y)), v42, v43, v44, v45, v46, v47, v48, v49, v50, v51, (Iv ((ix / A_g.x) / A_g.y)), (.slice (some ⟨b59, 0, none⟩) 0 0), (Iv ((ix / A_g.x) / A_g.y)), (Bo (icmp .gtr ((ix / A_g.x) / A_g.y) 0)), (u71 40), (u71 41), (u71 42), (u71 43), (u71 44), (u71 45), (u71 46), (u71 47), (u71 48), (u71 49), (u71 50), (u71 51), (u71 52), (u71 53), (Iv ((ix / A_g.x) % A_g.y)), (Bo (icmp .gtr ((ix / A_g.x) % A_g.y) 0)), (.slice p85 ((nbK A_g ix 1).length) q86), (Iv ix), (Pt g_b g_o), (Pt g_b g_o), (Pt g_b (g_o + 4)), (Iv A_g.x), (Iv (ix - A_g.x)), (.slice (some ⟨b303, 0, none⟩) 1 1), (.slice p320 (((nbK A_g ix 1) ++ [ix - A_g.x]).length) q321), Ud, Ud, Ud, Ud, Ud, Ud, Ud, Ud, Ud, Ud, Ud, Ud, Ud, Ud, Ud, Ud, Ud, Ud, Ud, Ud, Ud, Ud, Ud, Ud, Ud, Ud, Ud, Ud, Ud, Ud, Ud, Ud, Ud, Ud, Ud, Ud, Ud, Ud, Ud, Ud, Ud, Ud, Ud, Ud, Ud, Ud, Ud, Ud, Ud, Ud, Ud, Ud, Ud, Ud, Ud, Ud, Ud] : List Value)[t]?).getD undef) (.slice p320 (((nbK A_g ix 1) ++ [ix - A_g.x]).length) q321) _ (KpL.more (KpL.ext (KpL.refl _ _) E306) K314 (allS (hg313.imp (fun h => by simp [h]) id) all0)) hO323)
    have c302' := c302
    (try simp only [icmp, Bool.and_eq_true, Bool.or_eq_true, Bool.and_eq_false_iff, Bool.or_eq_false_iff, Bool.not_eq_true', Bool.not_eq_false', decide_eq_true_eq, decide_eq_false_iff_not, beq_iff_eq, bne_iff_ne, beq_eq_false_iff_ne, bne_eq_false_iff_eq] at c302')
    have hO324 := Own.cast (ys := nbK A_g ix 2) hO94 (by first | exact nb_f0 (if_neg (by omega)) | exact nb_t0 (if_pos (by omega)) | exact nb_t (if_pos (by omega)) | exact nb_f (if_neg (by omega)))
    exact wp_skip (J88 (fun t => (([(Pt g_b g_o), (Iv ix), Ud, Ud, (.slice none 0 0), (Iv (ix % A_g.x)), (Iv ((ix / A_g.x) % A_g.y)), (Iv ((ix / A_g.x) / A_g.y)), (.slice p85 ((nbK A_g ix 1).length) q86), (Iv ix), (Pt g_b g_o), (Pt g_b g_o), (Pt g_b (g_o + 4)), (Iv A_g.x), (Iv (ix % A_g.x)), v21, v22, v23, v24, v25, v26, v27, v28, v29, v30, (Iv ((ix / A_g.x) % A_g.y)), v42, v43, v44, v45, v46, v47, v48, v49, v50, v51, (Iv ((ix / A_g.x) / A_g.y)), (.slice (some ⟨b59, 0, none⟩) 0 0), (Iv ((ix / A_g.x) / A_g.y)), (Bo (icmp .gtr ((ix / A_g.x) / A_g.y) 0)), (u71 40), (u71 41), (u71 42), (u71 43), (u71 44), (u71 45), (u71 46), (u71 47), (u71 48), (u71 49), (u71 50), (u71 51), (u71 52), (u71 53), (Iv ((ix / A_g.x) % A_g.y)), (Bo (icmp .gtr ((ix / A_g.x) % A_g.y) 0)), Ud, Ud, Ud, Ud, Ud, Ud, Ud, Ud, Ud, Ud, Ud, Ud, Ud, Ud, Ud, Ud, Ud, Ud, Ud, Ud, Ud, Ud, Ud, Ud, Ud, Ud, Ud, Ud, Ud, Ud, Ud, Ud, Ud, Ud, Ud, Ud, Ud, Ud, Ud, Ud, Ud, Ud, Ud, Ud, Ud, Ud, Ud, Ud, Ud, Ud, Ud, Ud, Ud, Ud, Ud, Ud, Ud, Ud, Ud, Ud, Ud, Ud, Ud, Ud, Ud, Ud] : List Value)[t]?).getD undef) (.slice p85 ((nbK A_g ix 1).length) q86) _ (KpL.refl _ _) hO324)
  refine wp_cond_split (t := icmp .gtr ((ix / A_g.x) / A_g.y) 0) (ev rfl) (fun c325 => ?_) (fun c325 => ?_)
  · have c325' := c325
    (try simp only [icmp, Bool.and_eq_true, Bool.or_eq_true, Bool.and_eq_false_iff, Bool.or_eq_false_iff, Bool.not_eq_true', Bool.not_eq_false', decide_eq_true_eq, decide_eq_false_iff_not, beq_iff_eq, bne_iff_ne, beq_eq_false_iff_ne, bne_eq_false_iff_eq] at c325')
    refine region_any2 [] [0, 0, 0, 4, 12, 28, 0, 64, 192, 448, 1020, 2046, 4094, 8191, 16383] [] (
      [FactW.pure [] [] [] true (fun v => v = (.slice (some ⟨b59, 0, none⟩) 0 0)),
        FactW.pure [] [] [] true (fun v => v = (Iv ix)),
        FactW.pure [] [] [] true (fun v => v = (Pt g_b g_o)),
        FactW.pure [2] [] [] true (fun v => v = (Pt g_b g_o)),
        FactW.pure [3] [] [] true (fun v => v = (Pt g_b (g_o + 4))),
        FactW.pure [4] [] [] true (fun v => v = (Iv A_g.x)),
        FactW.pure [] [] [] true (fun v => v = (Pt g_b g_o)),
        FactW.pure [6] [] [] true (fun v => v = (Pt g_b g_o)),
        FactW.pure [7] [] [] true (fun v => v = (Pt g_b (g_o + 5))),
        FactW.pure [8] [] [] true (fun v => v = (Iv A_g.y)),
        FactW.pure [5, 9] [] [] true (fun v => v = (Iv (A_g.x * A_g.y))),
        FactW.pure [1, 10] [] [] true (fun v => v = (Iv (ix - (A_g.x * A_g.y)))),
        FactW.mem [11] [] [] [] true (fun v w' => ∃ b : Nat, v = .slice (some ⟨b, 0, none⟩) 1 1 ∧ w64.heap.size ≤ b ∧ Blk w' b [(Iv (ix - (A_g.x * A_g.y)))]) (by rintro v w1 w2 hx' ⟨b, rfl, hb, hB⟩; have hx := KpL.toExt hx'; exact ⟨b, rfl, hb, (hB.ext hx)⟩)]) mixed (by kernel_rfl) ?_
    obtain ⟨w326, hw328⟩ : ∃ w', w' = World.drew w64 := ⟨_, rfl⟩; rw [← hw328]; have E327 : Ext w64 w326 := by rw [hw328]; exact Ext.draw _
    clear hw328
    have X329 := Ext.gr X66 E327
    refine RW2_d _ rfl (fun v => by dsimp only [List.set]; try rfl) (fun u hu hF => ?_) (fun v330 => ?_)
    · replace hu : KpL [] _ _ := hu
      clear hF
      refine doesG_un rfl ?_
      refine (does_move (u := (.slice (some ⟨b59, 0, none⟩) 0 0)) (ev rfl)).mono ?_; rintro _ _ ⟨rfl, rfl⟩
      exact ⟨rfl, KpL.refl _ _⟩
    refine RW2_d _ rfl (fun v => by dsimp only [List.set]; try rfl) (fun u hu hF => ?_) (fun v331 => ?_)
    · replace hu : KpL [] _ _ := hu
      clear hF
      refine doesG_un rfl ?_
      refine (does_move (u := (Iv ix)) (ev rfl)).mono ?_; rintro _ _ ⟨rfl, rfl⟩
      exact ⟨rfl, KpL.refl _ _⟩
    refine RW2_d _ rfl (fun v => by dsimp only [List.set]; try rfl) (fun u hu hF => ?_) (fun v332 => ?_)
    · replace hu : KpL [] _ _ := hu
      clear hF
      refine doesG_un rfl ?_
      refine (does_move (u := (Pt g_b g_o)) (ev rfl)).mono ?_; rintro _ _ ⟨rfl, rfl⟩
      exact ⟨rfl, KpL.refl _ _⟩
    refine RW2_d _ rfl (fun v => by dsimp only [List.set]; try rfl) (fun u hu hF => ?_) (fun v333 => ?_)
    · replace hu : KpL [] _ _ := hu
      have h42_ : v332 = (Pt g_b g_o) := hF.1
      clear hF
      refine doesG_un rfl ?_
      obtain rfl := h42_
      refine (does_nilCheck (ev rfl)).mono ?_; rintro _ _ ⟨rfl, rfl⟩
      exact ⟨rfl, KpL.refl _ _⟩
    refine RW2_d _ rfl (fun v => by dsimp only [List.set]; try rfl) (fun u hu hF => ?_) (fun v334 => ?_)
    · replace hu : KpL [] _ _ := hu
      have h43_ : v333 = (Pt g_b g_o) := hF.1
      clear hF
      refine doesG_un rfl ?_
      obtain rfl := h43_
      refine (does_fieldAddr (ev rfl) fa31_2).mono ?_; rintro _ _ ⟨rfl, rfl⟩
      exact ⟨rfl, KpL.refl _ _⟩
    refine RW2_d _ rfl (fun v => by dsimp only [List.set]; try rfl) (fun u hu hF => ?_) (fun v335 => ?_)
    · replace hu : KpL [] _ _ := hu
      have h44_ : v334 = (Pt g_b (g_o + 4)) := hF.1
      clear hF
      refine doesG_un rfl ?_
      obtain rfl := h44_
      refine (does_load (u := (Iv A_g.x)) (ev rfl) Try.isAgg2 (Cells.at (hc_g.ext (Ext.gr (Ext.gr X66 E327) (KpL.toExt hu))) 4 rfl)).mono ?_; rintro _ _ ⟨rfl, rfl⟩
      exact ⟨rfl, KpL.refl _ _⟩
    refine RW2_d _ rfl (fun v => by dsimp only [List.set]; try rfl) (fun u hu hF => ?_) (fun v336 => ?_)
    · replace hu : KpL [] _ _ := hu
      clear hF
      refine doesG_un rfl ?_
      refine (does_move (u := (Pt g_b g_o)) (ev rfl)).mono ?_; rintro _ _ ⟨rfl, rfl⟩
      exact ⟨rfl, KpL.refl _ _⟩
    refine RW2_d _ rfl (fun v => by dsimp only [List.set]; try rfl) (fun u hu hF => ?_) (fun v337 => ?_)
    · replace hu : KpL [] _ _ := hu
      have h46_ : v336 = (Pt g_b g_o) := hF.1
      clear hF
      refine doesG_un rfl ?_
      obtain rfl := h46_
      refine (does_nilCheck (ev rfl)).mono ?_; rintro _ _ ⟨rfl, rfl⟩
      exact ⟨rfl, KpL.refl _ _⟩
    refine RW2_d _ rfl (fun v => by dsimp only [List.set]; try rfl) (fun u hu hF => ?_) (fun v338 => ?_)
    · replace hu : KpL [] _ _ := hu
      have h47_ : v337 = (Pt g_b g_o) := hF.1
      clear hF
      refine doesG_un rfl ?_
      obtain rfl := h47_
      refine (does_fieldAddr (ev rfl) fa31_3).mono ?_; rintro _ _ ⟨rfl, rfl⟩
      exact ⟨rfl, KpL.refl _ _⟩
    refine RW2_d _ rfl (fun v => by dsimp only [List.set]; try rfl) (fun u hu hF => ?_) (fun v339 => ?_)
    · replace hu : KpL [] _ _ := hu
      have h48_ : v338 = (Pt g_b (g_o + 5)) := hF.1
      clear hF
      refine doesG_un rfl ?_
      obtain rfl := h48_
      refine (does_load (u := (Iv A_g.y)) (ev rfl) Try.isAgg2 (Cells.at (hc_g.ext (Ext.gr (Ext.gr X66 E327) (KpL.toExt hu))) 5 rfl)).mono ?_; rintro _ _ ⟨rfl, rfl⟩
      exact ⟨rfl, KpL.refl _ _⟩
    refine RW2_d _ rfl (fun v => by dsimp only [List.set]; try rfl) (fun u hu hF => ?_) (fun v340 => ?_)
    · replace hu : KpL [] _ _ := hu
      have h45_ : v335 = (Iv A_g.x) := hF.1
      have h49_ : v339 = (Iv A_g.y) := hF.2.1
      clear hF
      refine doesG_un rfl ?_
      obtain rfl := h45_
      obtain rfl := h49_
      refine (does_iarith (p := A_g.x) (q := A_g.y) (r := A_g.x * A_g.y) (ev rfl) (ev rfl) (.inr (.inr ⟨rfl, (in_i64 (by omega) (by omega)).symm⟩))).mono ?_; rintro _ _ ⟨rfl, rfl⟩
      exact ⟨rfl, KpL.refl _ _⟩
    refine RW2_d _ rfl (fun v => by dsimp only [List.set]; try rfl) (fun u hu hF => ?_) (fun v341 => ?_)
    · replace hu : KpL [] _ _ := hu
      have h41_ : v331 = (Iv ix) := hF.1
      have h50_ : v340 = (Iv (A_g.x * A_g.y)) := hF.2.1
      clear hF
      refine doesG_un rfl ?_
      obtain rfl := h41_
      obtain rfl := h50_
      refine (does_iarith (p := ix) (q := A_g.x * A_g.y) (r := ix - (A_g.x * A_g.y)) (ev rfl) (ev rfl) (.inr (.inl ⟨rfl, (in_i64 (by omega) (by omega)).symm⟩))).mono ?_; rintro _ _ ⟨rfl, rfl⟩
      exact ⟨rfl, KpL.refl _ _⟩
    refine RW2_d _ rfl (fun v => by dsimp only [List.set]; try rfl) (fun u hu hF => ?_) (fun v342 => ?_)
    · replace hu : KpL [] _ _ := hu
      have h51_ : v341 = (Iv (ix - (A_g.x * A_g.y))) := hF.1
      clear hF
      refine doesG_un rfl ?_
      obtain rfl := h51_
      refine (does_buildSlice (e := 2) (parts' := [(0, (Iv (ix - (A_g.x * A_g.y))))]) (cells := [(Iv (ix - (A_g.x * A_g.y)))]) (evp rfl) (fun _ => by kernel_rfl)).mono ?_; rintro _ _ ⟨b, rfl, hb, hB, hx⟩
      exact ⟨⟨b, rfl, Nat.le_trans (Nat.le_trans (Below.size E327) (KpL.size hu)) hb, hB⟩, (KpL.of_ext hx)⟩
    refine RW2_fin ?_; intro w343 E344 hP345; replace E344 : KpL [] _ _ := E344
    obtain ⟨⟨⟨⟨⟨⟨⟨⟨⟨⟨⟨⟨⟨-, q346⟩, -⟩, -⟩, -⟩, -⟩, -⟩, -⟩, -⟩, -⟩, -⟩, -⟩, -⟩, q347⟩ := hP345
    have X348 := Below.kl X329 E344 all0 (Nat.le_refl _)
    have q346 : v330 = (.slice (some ⟨b59, 0, none⟩) 0 0) := q346 rfl
    obtain rfl := q346
    have q347 : ∃ b : Nat, v342 = .slice (some ⟨b, 0, none⟩) 1 1 ∧ w64.heap.size ≤ b ∧ Blk w343 b [(Iv (ix - (A_g.x * A_g.y)))] := q347 rfl
    obtain ⟨b349, rfl, hb350, hB351⟩ := q347
    have n352 : g_b < b349 := Nat.lt_of_lt_of_le (cell_lt (Cells.at (hc_g.ext X66) 0 rfl)) hb350
    have g353 : w.heap.size ≤ b349 := Nat.le_trans (Below.size X66) hb350
    show wpList _ _ _ _ (fr [_, _, _, _, _, _, _, _, _, _, _, _, _, _, _, _, _, _, _, _, _, _, _, _, _, _, _, _, _, _, _, _, _, _, _, _, _, _, _, _, _, _, _, _, _, _, _, _, _, _, _, _, _, _, _, _, _, _, _, _, _, _, _, _, _, _, _, _, _, _, _, _, _, _, _, _, _, _, _, _, _, _, _, _, _, _, _, _, _, _, _, _, _, _, _, _, _, _, _, _, _, _, _, _, _, _, _, _, _, _, _, _, _, _, _, _, _, _, _, _, _, _]) _
    refine seqd rfl rfl (does_append (R := RI) (k := 1) (g0 := gg72) (B := w64.heap.size) (xs := ([])) (ys := [ix - (A_g.x * A_g.y)]) Try.underlying38 inf2 rfl (by decide) (ev rfl) (ev rfl) (Own.same hO75 RI.flat (((Same.refl _ _).ext E327).kl E344 all0) hN77 (Below.size E63)) RI.flat hB351 rfl rfl rfl (fun i x hi => lit1 (R := RI) (cs := [(Iv (ix - (A_g.x * A_g.y)))]) (y := ix - (A_g.x * A_g.y))  rfl i x hi) (by first | (simp only [List.length_append, List.length_cons, List.length_nil]; omega) | omega) (Nat.le_trans (Below.size E327) (KpL.size E344))) ?_; rintro y' w354 ⟨gg355, hg356, K357, hO358⟩
    have hN359 : w53.heap.size ≤ gg355 := by rcases hg356 with h | h; exact h ▸ hN77; exact Nat.le_trans (Below.size E63) h
    have g360 : w.heap.size ≤ gg355 := Nat.le_trans (Nat.le_trans (Nat.le_trans (Nat.le_trans (Below.size E18) (Below.size E33)) (Below.size E39)) (Below.size E54)) hN359
    have n361 : g_b ≠ gg355 := hg356.elim (fun h => by rw [h]; exact (Nat.ne_of_lt (Nat.lt_of_lt_of_le n65 hN77))) (fun h => Nat.ne_of_lt (Nat.lt_of_lt_of_le n76 h))
    have X362 := Below.kl X348 K357 (allS g360 all0) (Nat.le_refl _)
    replace hO358 := hO358.cast (List.nil_append _)
    obtain ⟨p363, q364, rfl⟩ := Own.shape hO358
    have hH365 : Hang w53.heap.size w354 (fun u => Sl RI 1 u (.slice p363 (([ix - (A_g.x * A_g.y)]).length) q364) ([ix - (A_g.x * A_g.y)])) := Own.hang hO358 RI.flat (by decide) hN77 (Below.size E63)
    show wpList _ _ _ _ (fr [_, _, _, _, _, _, _, _, _, _, _, _, _, _, _, _, _, _, _, _, _, _, _, _, _, _, _, _, _, _, _, _, _, _, _, _, _, _, _, _, _, _, _, _, _, _, _, _, _, _, _, _, _, _, _, _, _, _, _, _, _, _, _, _, _, _, _, _, _, _, _, _, _, _, _, _, _, _, _, _, _, _, _, _, _, _, _, _, _, _, _, _, _, _, _, _, _, _, _, _, _, _, _, _, _, _, _, _, _, _, _, _, _, _, _, _, _, _, _, _, _, _]) _
    refine q_is rfl rfl (does_assign (u := (.slice p363 (([ix - (A_g.x * A_g.y)]).length) q364)) (ev rfl)) (by dsimp only [List.set]; try rfl) ?_
    have hO366 := Own.cast (ys := nbK A_g ix 1) hO358 (by first | exact nb_f0 (if_neg (by omega)) | exact nb_t0 (if_pos (by omega)) | exact nb_t (if_pos (by omega)) | exact nb_f (if_neg (by omega)))
    exact wpList_nil (J69 (fun t => (([(Pt g_b g_o), (Iv ix), Ud, Ud, (.slice none 0 0), (Iv (ix % A_g.x)), (Iv ((ix / A_g.x) % A_g.y)), (Iv ((ix / A_g.x) / A_g.y)), (.slice p363 (([ix - (A_g.x * A_g.y)]).length) q364), (Iv ix), (Pt g_b g_o), (Pt g_b g_o), (Pt g_b (g_o + 4)), (Iv A_g.x), (Iv (ix % A_g.x)), v21, v22, v23, v24, v25, v26, v27, v28, v29, v30, (Iv ((ix / A_g.x) % A_g.y)), v42, v43, v44, v45, v46, v47, v48, v49, v50, v51, (Iv ((ix / A_g.x) / A_g.y)), (.slice (some ⟨b59, 0, none⟩) 0 0), (Iv ((ix / A_g.x) / A_g.y)), (Bo (icmp .gtr ((ix / A_g.x) / A_g.y) 0)), (.slice (some ⟨b59, 0, none⟩) 0 0), v331, v332, v333, v334, v335, v336, v337, v338, v339, v340, v341, (.slice (some ⟨b349, 0, none⟩) 1 1), (.slice p363 (([ix - (A_g.x * A_g.y)]).length) q364), Ud, Ud, Ud, Ud, Ud, Ud, Ud, Ud, Ud, Ud, Ud, Ud, Ud, Ud, Ud, Ud, Ud, Ud, Ud, Ud, Ud, Ud, Ud, Ud, Ud, Ud, Ud, Ud, Ud, Ud, Ud, Ud, Ud, Ud, Ud, Ud, Ud, Ud, Ud, Ud, Ud, Ud, Ud, Ud, Ud, Ud, Ud, Ud, Ud, Ud, Ud, Ud, Ud, Ud, Ud, Ud, Ud, Ud, Ud, Ud, Ud, Ud, Ud, Ud, Ud, Ud, Ud, Ud] : List Value)[t]?).getD undef) (.slice p363 (([ix - (A_g.x * A_g.y)]).length) q364) _ (KpL.more (KpL.more (KpL.ext (KpL.refl _ _) E327) E344 all0) K357 (allS (hg356.imp (fun h => by simp [h]) id) all0)) hO366)
  have c325' := c325
  (try simp only [icmp, Bool.and_eq_true, Bool.or_eq_true, Bool.and_eq_false_iff, Bool.or_eq_false_iff, Bool.not_eq_true', Bool.not_eq_false', decide_eq_true_eq, decide_eq_false_iff_not, beq_iff_eq, bne_iff_ne, beq_eq_false_iff_ne, bne_eq_false_iff_eq] at c325')
  have hO367 := Own.cast (ys := nbK A_g ix 1) hO75 (by first | exact nb_f0 (if_neg (by omega)) | exact nb_t0 (if_pos (by omega)) | exact nb_t (if_pos (by omega)) | exact nb_f (if_neg (by omega)))
  exact wp_skip (J69 (fun t => (([(Pt g_b g_o), (Iv ix), Ud, Ud, (.slice none 0 0), (Iv (ix % A_g.x)), (Iv ((ix / A_g.x) % A_g.y)), (Iv ((ix / A_g.x) / A_g.y)), (.slice (some ⟨b59, 0, none⟩) 0 0), (Iv ix), (Pt g_b g_o), (Pt g_b g_o), (Pt g_b (g_o + 4)), (Iv A_g.x), (Iv (ix % A_g.x)), v21, v22, v23, v24, v25, v26, v27, v28, v29, v30, (Iv ((ix / A_g.x) % A_g.y)), v42, v43, v44, v45, v46, v47, v48, v49, v50, v51, (Iv ((ix / A_g.x) / A_g.y)), (.slice (some ⟨b59, 0, none⟩) 0 0), (Iv ((ix / A_g.x) / A_g.y)), (Bo (icmp .gtr ((ix / A_g.x) / A_g.y) 0)), Ud, Ud, Ud, Ud, Ud, Ud, Ud, Ud, Ud, Ud, Ud, Ud, Ud, Ud, Ud, Ud, Ud, Ud, Ud, Ud, Ud, Ud, Ud, Ud, Ud, Ud, Ud, Ud, Ud, Ud, Ud, Ud, Ud, Ud, Ud, Ud, Ud, Ud, Ud, Ud, Ud, Ud, Ud, Ud, Ud, Ud, Ud, Ud, Ud, Ud, Ud, Ud, Ud, Ud, Ud, Ud, Ud, Ud, Ud, Ud, Ud, Ud, Ud, Ud, Ud, Ud, Ud, Ud, Ud, Ud, Ud, Ud, Ud, Ud, Ud, Ud, Ud, Ud, Ud, Ud, Ud, Ud] : List Value)[t]?).getD undef) (.slice (some ⟨b59, 0, none⟩) 0 0) _ (KpL.refl _ _) hO367)

/- spec.l06Sweep -/
theorem c_spec_l06Sweep (g_b : Nat) (g_o : Nat) (g_g : Nat) (g_c : Nat) (g : List Value) (A_g : GridT) (back : Bool) (w : World) (hc_g : Cells w g_b g_o g) (hv_g : RGridT w A_g g) (hr_g : g[7]? = some (.slice (some ⟨g_g, 0, none⟩) A_g.vals.length g_c)) (hrow_g : RowF w g_g A_g.vals) (hcap_g : A_g.vals.length ≤ g_c) (hne_g : g_b ≠ g_g) (hgr : isGrid A_g = true) : GivesK [g_g] Try.prog 44 #[(Pt g_b g_o), (Bo back)] w (fun v w' => v = (Bo ((sweepG A_g back).2)) ∧ RowF w' g_g ((sweepG A_g back).1)) := by
  obtain ⟨r1, r3, r5, r7, y9, rfl, h2, h4, h6, h8, h10⟩ := hv_g
  have hy_g : y9 = .slice (some ⟨g_g, 0, none⟩) A_g.vals.length g_c := Option.some.inj hr_g; have hlen_g := Sl.len h10; subst hy_g; clear h10
  refine enterK [(Pt g_b g_o), (Bo back), Ud, Ud, Ud, Ud, Ud, Ud, Ud, Ud, Ud, Ud, Ud, Ud, Ud, Ud, Ud, Ud, Ud, Ud, Ud, Ud, Ud, Ud, Ud, Ud, Ud, Ud, Ud, Ud, Ud, Ud, Ud, Ud, Ud, Ud, Ud, Ud, Ud, Ud, Ud, Ud, Ud, Ud, Ud, Ud, Ud, Ud, Ud, Ud, Ud, Ud, Ud, Ud, Ud, Ud, Ud, Ud, Ud, Ud, Ud, Ud, Ud, Ud, Ud, Ud, Ud, Ud, Ud] Try.func44 rfl Try.ntmps44 rfl ?_
  refine wp_seq_k fun K11 hK11 => ?_
  refine wp_region_lit ?_
  refine q_is rfl rfl (does_assign (u := (Bo false)) (ev rfl)) (by dsimp only [List.set]; try rfl) ?_
  refine wpList_nil (hK11 _ _ ?_)
  refine wp_seq_k fun K12 hK12 => ?_
  refine wp_region_lit ?_
  refine q_is rfl rfl (does_assign (u := (Bo false)) (ev rfl)) (by dsimp only [List.set]; try rfl) ?_
  refine wpList_nil (hK12 _ _ ?_)
  refine wp_seq_k fun K13 hK13 => ?_
  refine wp_region_lit ?_
  refine q_is rfl rfl (does_move (u := (Pt g_b g_o)) (ev rfl)) (by dsimp only [List.set]; try rfl) ?_
  refine q_is rfl rfl (does_nilCheck (ev rfl)) (by dsimp only [List.set]; try rfl) ?_
  refine q_is rfl rfl (does_fieldAddr (ev rfl) fa31_5) (by dsimp only [List.set]; try rfl) ?_
  refine q_is rfl rfl (does_load (u := (.slice (some ⟨g_g, 0, none⟩) A_g.vals.length g_c)) (ev rfl) Try.isAgg25 (Cells.at hc_g 7 rfl)) (by dsimp only [List.set]; try rfl) ?_
  refine q_is rfl rfl (does_len_slice Try.underlying25 (ev rfl)) (by dsimp only [List.set]; try rfl) ?_
  refine q_is rfl rfl (does_assign (u := (Iv (A_g.vals.length : Int))) (ev rfl)) (by dsimp only [List.set]; try rfl) ?_
  refine wpList_nil (hK13 _ _ ?_)
  refine wp_seq_k fun K14 hK14 => ?_
  refine wp_seq_k fun K15 hK15 => ?_
  refine wp_region_lit ?_
  refine q_is rfl rfl (does_assign (u := (Iv 0)) (ev rfl)) (by dsimp only [List.set]; try rfl) ?_
  refine wpList_nil (hK15 _ _ ?_)
  refine wp_block ?_
  refine loop_ghost (σ := Nat) (fun k a w' => ∃ u16 : Nat → Value, a = fr [(Pt g_b g_o), (Bo back), Ud, Ud, (Bo false), (Bo ((sweepTo A_g back k).2)), (Iv (A_g.vals.length : Int)), (Iv (k : Int)), (u16 8), (u16 9), (u16 10), (u16 11), (Pt g_b g_o), (Pt g_b g_o), (Pt g_b (g_o + 7)), (.slice (some ⟨g_g, 0, none⟩) A_g.vals.length g_c), (Iv (A_g.vals.length : Int)), (u16 17), (u16 18), (u16 19), (u16 20), (u16 21), (u16 22), (u16 23), (u16 24), (u16 25), (u16 26), (u16 27), (u16 28), (u16 29), (u16 30), (u16 31), (u16 32), (u16 33), (u16 34), (u16 35), (u16 36), (u16 37), (u16 38), (u16 39), (u16 40), (u16 41), (u16 42), (u16 43), (u16 44), (u16 45), (u16 46), (u16 47), (u16 48), (u16 49), (u16 50), (u16 51), (u16 52), (u16 53), (u16 54), (u16 55), (u16 56), (u16 57), (u16 58), (u16 59), (u16 60), (u16 61), (u16 62), (u16 63), (u16 64), (u16 65), (u16 66), (u16 67), Ud] ∧ KpL [g_g] w w' ∧ RowF w' g_g ((sweepTo A_g back k).1) ∧ (k ≤ A_g.vals.length)) (fun k => A_g.vals.length - k) 0 ?_ ?_
  · refine ⟨fun t => (([(Pt g_b g_o), (Bo back), Ud, Ud, (Bo false), (Bo false), (Iv (A_g.vals.length : Int)), (Iv 0), Ud, Ud, Ud, Ud, (Pt g_b g_o), (Pt g_b g_o), (Pt g_b (g_o + 7)), (.slice (some ⟨g_g, 0, none⟩) A_g.vals.length g_c), (Iv (A_g.vals.length : Int)), Ud, Ud, Ud, Ud, Ud, Ud, Ud, Ud, Ud, Ud, Ud, Ud, Ud, Ud, Ud, Ud, Ud, Ud, Ud, Ud, Ud, Ud, Ud, Ud, Ud, Ud, Ud, Ud, Ud, Ud, Ud, Ud, Ud, Ud, Ud, Ud, Ud, Ud, Ud, Ud, Ud, Ud, Ud, Ud, Ud, Ud, Ud, Ud, Ud, Ud, Ud, Ud] : List Value)[t]?).getD undef, rfl, KpL.refl _ _, (RowF.cast hrow_g (by rfl)), ?_⟩
    exact Nat.zero_le _
  · rintro k a w17 ⟨u16, rfl, E18, hRw, hk⟩
    have X20 := KpL.more (KpL.refl [g_g] w) E18 (allS (.inl (by simp)) all0)
    have hR21 := hRw; clear hRw
    have hgc := isGrid_cnt hgr
    have hsl := sweepTo_len A_g back k
    have hgv := isGrid_vals hgr hsl
    refine wp_seq_k fun K22 hK22 => ?_
    refine wp_seq_k fun K23 hK23 => ?_
    refine wp_region_lit ?_
    refine q_is rfl rfl (does_move (u := (Iv (k : Int))) (ev rfl)) (by dsimp only [List.set]; try rfl) ?_
    refine q_is rfl rfl (does_move (u := (Iv (A_g.vals.length : Int))) (ev rfl)) (by dsimp only [List.set]; try rfl) ?_
    refine q_is rfl rfl (does_icmp (p := (k : Int)) (q := (A_g.vals.length : Int)) (.inr (.inr (.inl rfl))) (ev rfl) (ev rfl)) (by dsimp only [List.set]; try rfl) ?_
    refine wpList_nil (hK23 _ _ ?_)
    refine wp_cond_split (t := icmp .lss (k : Int) (A_g.vals.length : Int)) (ev rfl) (fun c24 => ?_) (fun c24 => ?_)
    · have c24' := c24
      (try simp only [icmp, Bool.and_eq_true, Bool.or_eq_true, Bool.and_eq_false_iff, Bool.or_eq_false_iff, Bool.not_eq_true', Bool.not_eq_false', decide_eq_true_eq, decide_eq_false_iff_not, beq_iff_eq, bne_iff_ne, beq_eq_false_iff_ne, bne_eq_false_iff_eq] at c24')
      refine wp_skip (hK22 _ _ ?_)
      refine wp_seq_k fun K25 hK25 => ?_
      refine wp_block ?_
      refine wp_seq_k fun K26 hK26 => ?_
      refine wp_region_lit ?_
      refine q_is rfl rfl (does_move (u := (Iv (k : Int))) (ev rfl)) (by dsimp only [List.set]; try rfl) ?_
      refine q_is rfl rfl (does_assign (u := (Iv (k : Int))) (ev rfl)) (by dsimp only [List.set]; try rfl) ?_
      refine wpList_nil (hK26 _ _ ?_)
      refine wp_seq_k fun K27 hK27 => ?_
      refine wp_seq_k fun K28 hK28 => ?_
      refine wp_region_lit ?_
      refine q_is rfl rfl (does_move (u := (Bo back)) (ev rfl)) (by dsimp only [List.set]; try rfl) ?_
      refine wpList_nil (hK28 _ _ ?_)
      refine wp_cond_split (t := back) (ev rfl) (fun c29 => ?_) (fun c29 => ?_)
      · have c29' := c29
        refine wp_region_lit ?_
        refine q_is rfl rfl (does_move (u := (Iv (A_g.vals.length : Int))) (ev rfl)) (by dsimp only [List.set]; try rfl) ?_
        refine q_is rfl rfl (does_iarith (p := (A_g.vals.length : Int)) (q := 1) (r := (A_g.vals.length : Int) - 1) (ev rfl) (ev rfl) (.inr (.inl ⟨rfl, (in_i64 (by omega) (by omega)).symm⟩))) (by dsimp only [List.set]; try rfl) ?_
        refine q_is rfl rfl (does_move (u := (Iv (k : Int))) (ev rfl)) (by dsimp only [List.set]; try rfl) ?_
        refine q_is rfl rfl (does_iarith (p := (A_g.vals.length : Int) - 1) (q := (k : Int)) (r := ((A_g.vals.length : Int) - 1) - (k : Int)) (ev rfl) (ev rfl) (.inr (.inl ⟨rfl, (in_i64 (by omega) (by omega)).symm⟩))) (by dsimp only [List.set]; try rfl) ?_
        refine q_is rfl rfl (does_assign (u := (Iv (((A_g.vals.length : Int) - 1) - (k : Int)))) (ev rfl)) (by dsimp only [List.set]; try rfl) ?_
        refine wpList_nil (hK27 _ _ ?_)
        refine wp_seq_k fun K30 hK30 => ?_
        refine wp_region_lit ?_
        refine q_is rfl rfl (does_move (u := (Pt g_b g_o)) (ev rfl)) (by dsimp only [List.set]; try rfl) ?_
        refine q_is rfl rfl (does_move (u := (Iv (((A_g.vals.length : Int) - 1) - (k : Int)))) (ev rfl)) (by dsimp only [List.set]; try rfl) ?_
        refine seqd rfl rfl (does_call (args := #[(Pt g_b g_o), (Iv (((A_g.vals.length : Int) - 1) - (k : Int)))]) cal56 (evs rfl) (c_spec_l06Near g_b g_o [(Fl r1), (Fl r3), (Fl r5), (Fl r7), (Iv A_g.x), (Iv A_g.y), (Iv A_g.z), (.slice (some ⟨g_g, 0, none⟩) A_g.vals.length g_c)] (GridT.mk A_g.low A_g.step A_g.x A_g.y A_g.z ((sweepTo A_g back k).1)) (((A_g.vals.length : Int) - 1) - (k : Int)) _ (hc_g.kl E18 (ninS hne_g nin0)) ⟨r1, r3, r5, r7, (.slice (some ⟨g_g, 0, none⟩) A_g.vals.length g_c), rfl, h2, h4, h6, h8, (RowF.sl hR21 (by first | assumption | (simp only [sweepG_len, sweepTo_len, rowS_len, swN_len, List.length_set]; done) | omega | (simp only [sweepG_len, sweepTo_len, rowS_len, swN_len, List.length_set]; omega) | rfl) hcap_g (by omega))⟩ (by exact hgv) (by (try dsimp only); omega))) ?_; rintro _ w32 ⟨E31, ⟨y34, rfl, hh33⟩⟩
        have X35 := KpL.ext X20 E31
        have n36 : g_g < w17.heap.size := RowF.lt hR21
        obtain ⟨p37, q38, rfl⟩ := Sl.shape hh33.get
        show wpList _ _ _ _ (fr [_, _, _, _, _, _, _, _, _, _, _, _, _, _, _, _, _, _, _, _, _, _, _, _, _, _, _, _, _, _, _, _, _, _, _, _, _, _, _, _, _, _, _, _, _, _, _, _, _, _, _, _, _, _, _, _, _, _, _, _, _, _, _, _, _, _, _, _, _]) _
        refine q_is rfl rfl (does_assign (u := (.slice p37 ((nb (GridT.mk A_g.low A_g.step A_g.x A_g.y A_g.z ((sweepTo A_g back k).1)) (((A_g.vals.length : Int) - 1) - (k : Int))).length) q38)) (ev rfl)) (by dsimp only [List.set]; try rfl) ?_
        refine wpList_nil (hK30 _ _ ?_)
        refine wp_seq_k fun K39 hK39 => ?_
        refine wp_region_lit ?_
        refine q_is rfl rfl (does_assign (u := (Iv 0)) (ev rfl)) (by dsimp only [List.set]; try rfl) ?_
        refine wpList_nil (hK39 _ _ ?_)
        refine wp_block ?_
        refine loop_ghost (σ := Nat) (fun m a w' => ∃ u40 : Nat → Value, a = fr [(Pt g_b g_o), (Bo back), Ud, Ud, (Bo false), (Bo ((rowS A_g (((A_g.vals.length : Int) - 1) - (k : Int)) (sweepTo A_g back k) m).2)), (Iv (A_g.vals.length : Int)), (Iv (k : Int)), (Iv (((A_g.vals.length : Int) - 1) - (k : Int))), (.slice p37 ((nb (GridT.mk A_g.low A_g.step A_g.x A_g.y A_g.z ((sweepTo A_g back k).1)) (((A_g.vals.length : Int) - 1) - (k : Int))).length) q38), (Iv (m : Int)), (u40 11), (Pt g_b g_o), (Pt g_b g_o), (Pt g_b (g_o + 7)), (.slice (some ⟨g_g, 0, none⟩) A_g.vals.length g_c), (Iv (A_g.vals.length : Int)), (Iv (k : Int)), (Iv (A_g.vals.length : Int)), (Bo (icmp .lss (k : Int) (A_g.vals.length : Int))), (u16 20), (u16 21), (Iv (k : Int)), (Bo back), (Iv (A_g.vals.length : Int)), (Iv ((A_g.vals.length : Int) - 1)), (Iv (k : Int)), (Iv (((A_g.vals.length : Int) - 1) - (k : Int))), (Pt g_b g_o), (Iv (((A_g.vals.length : Int) - 1) - (k : Int))), (.slice p37 ((nb (GridT.mk A_g.low A_g.step A_g.x A_g.y A_g.z ((sweepTo A_g back k).1)) (((A_g.vals.length : Int) - 1) - (k : Int))).length) q38), (u40 31), (u40 32), (u40 33), (u40 34), (u40 35), (u40 36), (u40 37), (u40 38), (u40 39), (u40 40), (u40 41), (u40 42), (u40 43), (u40 44), (u40 45), (u40 46), (u40 47), (u40 48), (u40 49), (u40 50), (u40 51), (u40 52), (u40 53), (u40 54), (u40 55), (u40 56), (u40 57), (u40 58), (u40 59), (u40 60), (u40 61), (u40 62), (u40 63), (u40 64), (u40 65), (u40 66), (u40 67), Ud] ∧ KpL [g_g] w32 w' ∧ RowF w' g_g ((rowS A_g (((A_g.vals.length : Int) - 1) - (k : Int)) (sweepTo A_g back k) m).1) ∧ (m ≤ (nb A_g (((A_g.vals.length : Int) - 1) - (k : Int))).length)) (fun m => (nb A_g (((A_g.vals.length : Int) - 1) - (k : Int))).length - m) 0 ?_ ?_
        · refine ⟨fun t => (([(Pt g_b g_o), (Bo back), Ud, Ud, (Bo false), (Bo ((sweepTo A_g back k).2)), (Iv (A_g.vals.length : Int)), (Iv (k : Int)), (Iv (((A_g.vals.length : Int) - 1) - (k : Int))), (.slice p37 ((nb (GridT.mk A_g.low A_g.step A_g.x A_g.y A_g.z ((sweepTo A_g back k).1)) (((A_g.vals.length : Int) - 1) - (k : Int))).length) q38), (Iv 0), (u16 11), (Pt g_b g_o), (Pt g_b g_o), (Pt g_b (g_o + 7)), (.slice (some ⟨g_g, 0, none⟩) A_g.vals.length g_c), (Iv (A_g.vals.length : Int)), (Iv (k : Int)), (Iv (A_g.vals.length : Int)), (Bo (icmp .lss (k : Int) (A_g.vals.length : Int))), (u16 20), (u16 21), (Iv (k : Int)), (Bo back), (Iv (A_g.vals.length : Int)), (Iv ((A_g.vals.length : Int) - 1)), (Iv (k : Int)), (Iv (((A_g.vals.length : Int) - 1) - (k : Int))), (Pt g_b g_o), (Iv (((A_g.vals.length : Int) - 1) - (k : Int))), (.slice p37 ((nb (GridT.mk A_g.low A_g.step A_g.x A_g.y A_g.z ((sweepTo A_g back k).1)) (((A_g.vals.length : Int) - 1) - (k : Int))).length) q38), (u16 31), (u16 32), (u16 33), (u16 34), (u16 35), (u16 36), (u16 37), (u16 38), (u16 39), (u16 40), (u16 41), (u16 42), (u16 43), (u16 44), (u16 45), (u16 46), (u16 47), (u16 48), (u16 49), (u16 50), (u16 51), (u16 52), (u16 53), (u16 54), (u16 55), (u16 56), (u16 57), (u16 58), (u16 59), (u16 60), (u16 61), (u16 62), (u16 63), (u16 64), (u16 65), (u16 66), (u16 67), Ud] : List Value)[t]?).getD undef, rfl, KpL.refl _ _, (RowF.cast (hR21.ext E31) (by rfl)), ?_⟩
          exact Nat.zero_le _
        · rintro m a w41 ⟨u40, rfl, E42, hRw, hm⟩
          have X44 := KpL.more X35 E42 (allS (.inl (by simp)) all0)
          have hR45 := hRw; clear hRw
          have hnl : ((nb (GridT.mk A_g.low A_g.step A_g.x A_g.y A_g.z ((sweepTo A_g back k).1)) (((A_g.vals.length : Int) - 1) - (k : Int)))).length = (nb A_g (((A_g.vals.length : Int) - 1) - (k : Int))).length := congrArg List.length (nb_vals A_g _ _)
          have hrl := (rowS_len A_g (((A_g.vals.length : Int) - 1) - (k : Int)) (sweepTo A_g back k) m).trans hsl
          have hn6 : (nb A_g (((A_g.vals.length : Int) - 1) - (k : Int))).length ≤ 6 := nbK_len A_g (((A_g.vals.length : Int) - 1) - (k : Int)) 6
          refine wp_seq_k fun K46 hK46 => ?_
          refine wp_seq_k fun K47 hK47 => ?_
          refine wp_region_lit ?_
          refine q_is rfl rfl (does_move (u := (Iv (m : Int))) (ev rfl)) (by dsimp only [List.set]; try rfl) ?_
          refine q_is rfl rfl (does_move (u := (.slice p37 ((nb (GridT.mk A_g.low A_g.step A_g.x A_g.y A_g.z ((sweepTo A_g back k).1)) (((A_g.vals.length : Int) - 1) - (k : Int))).length) q38)) (ev rfl)) (by dsimp only [List.set]; try rfl) ?_
          refine q_is rfl rfl (does_len_slice Try.underlying38 (ev rfl)) (by dsimp only [List.set]; try rfl) ?_
          refine q_is rfl rfl (does_icmp (p := (m : Int)) (q := (((nb (GridT.mk A_g.low A_g.step A_g.x A_g.y A_g.z ((sweepTo A_g back k).1)) (((A_g.vals.length : Int) - 1) - (k : Int))).length) : Int)) (.inr (.inr (.inl rfl))) (ev rfl) (ev rfl)) (by dsimp only [List.set]; try rfl) ?_
          refine wpList_nil (hK47 _ _ ?_)
          refine wp_cond_split (t := icmp .lss (m : Int) (((nb (GridT.mk A_g.low A_g.step A_g.x A_g.y A_g.z ((sweepTo A_g back k).1)) (((A_g.vals.length : Int) - 1) - (k : Int))).length) : Int)) (ev rfl) (fun c48 => ?_) (fun c48 => ?_)
          · have c48' := c48
            (try simp only [icmp, Bool.and_eq_true, Bool.or_eq_true, Bool.and_eq_false_iff, Bool.or_eq_false_iff, Bool.not_eq_true', Bool.not_eq_false', decide_eq_true_eq, decide_eq_false_iff_not, beq_iff_eq, bne_iff_ne, beq_eq_false_iff_ne, bne_eq_false_iff_eq] at c48')
            have hnm := fun (x : Int) (hx : x ∈ nb (GridT.mk A_g.low A_g.step A_g.x A_g.y A_g.z (sweepTo A_g back k).1) (((A_g.vals.length : Int) - 1) - (k : Int))) => nb_mem (g := GridT.mk A_g.low A_g.step A_g.x A_g.y A_g.z (sweepTo A_g back k).1) hgv (i := (((A_g.vals.length : Int) - 1) - (k : Int))) (by (try dsimp only); omega) hx
            refine wp_skip (hK46 _ _ ?_)
            refine wp_seq_k fun K49 hK49 => ?_
            refine wp_block ?_
            refine wp_seq_k fun K50 hK50 => ?_
            obtain ⟨el1, hel1⟩ : ∃ e, (nb (GridT.mk A_g.low A_g.step A_g.x A_g.y A_g.z ((sweepTo A_g back k).1)) (((A_g.vals.length : Int) - 1) - (k : Int)))[m]? = some e := ⟨_, List.getElem?_eq_getElem (by omega)⟩
            have hj := hnm _ (List.mem_of_getElem? (by assumption))
            dsimp only at hj
            obtain ⟨el2, hel2⟩ : ∃ e, ((rowS A_g (((A_g.vals.length : Int) - 1) - (k : Int)) (sweepTo A_g back k) m).1)[el1.toNat]? = some e := ⟨_, List.getElem?_eq_getElem (by first | assumption | (simp only [sweepG_len, sweepTo_len, rowS_len, swN_len, List.length_set]; done) | omega | (simp only [sweepG_len, sweepTo_len, rowS_len, swN_len, List.length_set]; omega) | rfl)⟩
            refine region_draw (
              [Fact.pure [] (fun v => v = (Pt g_b g_o)),
    Fact.pure [37] (fun v => v = (Pt g_b g_o)),
    Fact.pure [38] (fun v => v = (Pt g_b (g_o + 7))),
    Fact.pure [39] (fun v => v = (.slice (some ⟨g_g, 0, none⟩) A_g.vals.length g_c)),
    Fact.pure [] (fun v => v = (.slice p37 ((nb (GridT.mk A_g.low A_g.step A_g.x A_g.y A_g.z ((sweepTo A_g back k).1)) (((A_g.vals.length : Int) - 1) - (k : Int))).length) q38)),
    Fact.pure [] (fun v => v = (Iv (m : Int))),
    Fact.mem [41, 42] (fun v w' => PtrR RI w' v el1) (by intro v w1 w2 hx h; exact h.ext RI.mono hx),
    Fact.pure [43] (fun v => v = (Iv el1)),
    Fact.pure [40, 44] (fun v => v = (Pt g_g (el1.toNat * 1))),
    Fact.pure [45] (fun v => ∃ r_1 : Nat, v = (Fl r_1) ∧ cf .f32 r_1 = el2),
    Fact.pure [] (fun v => v = (Pt g_b g_o)),
    Fact.pure [47] (fun v => v = (Pt g_b g_o)),
    Fact.pure [48] (fun v => v = (Pt g_b (g_o + 3))),
    Fact.pure [49] (fun v => v = (Fl r7)),
    Fact.pure [46, 50] (fun v => ∃ r_1 : Nat, v = (Fl r_1) ∧ cf .f32 r_1 = fop .add .f32 el2 (cf .f32 r7))]) mixed (by kernel_rfl) (by intro _ _ d _ _ h; cases d <;> exact h) ?_
            obtain ⟨w51, hw53⟩ : ∃ w', w' = World.drew w41 := ⟨_, rfl⟩; rw [← hw53]; have E52 : Ext w41 w51 := by rw [hw53]; exact Ext.draw _
            clear hw53
            have X54 := KpL.ext X44 E52
            refine RW_d _ rfl (fun v => by dsimp only [List.set]; try rfl) (fun u hu hF => ?_) (fun v55 => ?_)
            · clear hF
              refine doesG_un rfl ?_
              refine (does_move (u := (Pt g_b g_o)) (ev rfl)).mono ?_; rintro _ _ ⟨rfl, rfl⟩
              exact ⟨rfl, Ext.refl _⟩
            refine RW_d _ rfl (fun v => by dsimp only [List.set]; try rfl) (fun u hu hF => ?_) (fun v56 => ?_)
            · have h37_ : v55 = (Pt g_b g_o) := hF.1
              clear hF
              refine doesG_un rfl ?_
              obtain rfl := h37_
              refine (does_nilCheck (ev rfl)).mono ?_; rintro _ _ ⟨rfl, rfl⟩
              exact ⟨rfl, Ext.refl _⟩
            refine RW_d _ rfl (fun v => by dsimp only [List.set]; try rfl) (fun u hu hF => ?_) (fun v57 => ?_)
            · have h38_ : v56 = (Pt g_b g_o) := hF.1
              clear hF
              refine doesG_un rfl ?_
              obtain rfl := h38_
              refine (does_fieldAddr (ev rfl) fa31_5).mono ?_; rintro _ _ ⟨rfl, rfl⟩
              exact ⟨rfl, Ext.refl _⟩
            refine RW_d _ rfl (fun v => by dsimp only [List.set]; try rfl) (fun u hu hF => ?_) (fun v58 => ?_)
            · have h39_ : v57 = (Pt g_b (g_o + 7)) := hF.1
              clear hF
              refine doesG_un rfl ?_
              obtain rfl := h39_
              refine (does_load (u := (.slice (some ⟨g_g, 0, none⟩) A_g.vals.length g_c)) (ev rfl) Try.isAgg25 (Cells.at (((((hc_g.kl E18 (ninS hne_g nin0)).ext E31).kl E42 (ninS hne_g nin0)).ext E52).ext hu) 7 rfl)).mono ?_; rintro _ _ ⟨rfl, rfl⟩
              exact ⟨rfl, Ext.refl _⟩
            refine RW_d _ rfl (fun v => by dsimp only [List.set]; try rfl) (fun u hu hF => ?_) (fun v59 => ?_)
            · clear hF
              refine doesG_un rfl ?_
              refine (does_move (u := (.slice p37 ((nb (GridT.mk A_g.low A_g.step A_g.x A_g.y A_g.z ((sweepTo A_g back k).1)) (((A_g.vals.length : Int) - 1) - (k : Int))).length) q38)) (ev rfl)).mono ?_; rintro _ _ ⟨rfl, rfl⟩
              exact ⟨rfl, Ext.refl _⟩
            refine RW_d _ rfl (fun v => by dsimp only [List.set]; try rfl) (fun u hu hF => ?_) (fun v60 => ?_)
            · clear hF
              refine doesG_un rfl ?_
              refine (does_move (u := (Iv (m : Int))) (ev rfl)).mono ?_; rintro _ _ ⟨rfl, rfl⟩
              exact ⟨rfl, Ext.refl _⟩
            refine RW_d _ rfl (fun v => by dsimp only [List.set]; try rfl) (fun u hu hF => ?_) (fun v61 => ?_)
            · have h41_ : v59 = (.slice p37 ((nb (GridT.mk A_g.low A_g.step A_g.x A_g.y A_g.z ((sweepTo A_g back k).1)) (((A_g.vals.length : Int) - 1) - (k : Int))).length) q38) := hF.1
              have h42_ : v60 = (Iv (m : Int)) := hF.2.1
              clear hF
              refine doesG_un rfl ?_
              obtain rfl := h41_
              obtain rfl := h42_
              refine (does_indexSl (R := RI) (i := (m : Int)) (xs := (nb (GridT.mk A_g.low A_g.step A_g.x A_g.y A_g.z ((sweepTo A_g back k).1)) (((A_g.vals.length : Int) - 1) - (k : Int)))) (e := el1) Try.underlying38 Try.sizeOf2 (ev rfl) (ev rfl) (Sl.ext (hh33 _ (((Same.refl _ _).kl E42 (allS (.inl n36) all0)).ext E52)) RI.mono hu) (by omega) hel1).mono ?_; rintro v u' ⟨b, of, cs, hv, hc, hR, hu'⟩; subst hu'
              exact ⟨⟨b, of, cs, hv, hc, hR⟩, Ext.refl _⟩
            refine RW_d _ rfl (fun v => by dsimp only [List.set]; try rfl) (fun u hu hF => ?_) (fun v62 => ?_)
            · have h43_ : PtrR RI u v61 el1 := hF.1
              clear hF
              refine doesG_un rfl ?_
              obtain ⟨b43_, o43_, _, rfl, hc43_, rfl⟩ := h43_
              refine (does_load (u := (Iv el1)) (ev rfl) Try.isAgg2 (Cells.at hc43_ 0 rfl)).mono ?_; rintro _ _ ⟨rfl, rfl⟩
              exact ⟨rfl, Ext.refl _⟩
            refine RW_d _ rfl (fun v => by dsimp only [List.set]; try rfl) (fun u hu hF => ?_) (fun v63 => ?_)
            · have h40_ : v58 = (.slice (some ⟨g_g, 0, none⟩) A_g.vals.length g_c) := hF.1
              have h44_ : v62 = (Iv el1) := hF.2.1
              clear hF
              refine doesG_un rfl ?_
              obtain rfl := h40_
              obtain rfl := h44_
              refine (does_indexOwn (b := g_g) (n := A_g.vals.length) (i := el1) Try.underlying25 Try.sizeOf22 (ev rfl) (ev rfl) (by omega) (by omega)).mono ?_; rintro _ _ ⟨rfl, rfl⟩
              exact ⟨rfl, Ext.refl _⟩
            refine RW_d _ rfl (fun v => by dsimp only [List.set]; try rfl) (fun u hu hF => ?_) (fun v64 => ?_)
            · have h45_ : v63 = (Pt g_g (el1.toNat * 1)) := hF.1
              clear hF
              refine doesG_un rfl ?_
              obtain rfl := h45_
              refine (does_loadRow (xs := ((rowS A_g (((A_g.vals.length : Int) - 1) - (k : Int)) (sweepTo A_g back k) m).1)) (i := el1.toNat) (e := el2) (ev rfl) Try.isAgg22 (RowF.ext (hR45.ext E52) hu) (by omega) hel2).mono ?_; rintro _ _ ⟨r, rfl, hr, rfl⟩
              exact ⟨⟨r, rfl, (by simp only [hr])⟩, Ext.refl _⟩
            refine RW_d _ rfl (fun v => by dsimp only [List.set]; try rfl) (fun u hu hF => ?_) (fun v65 => ?_)
            · clear hF
              refine doesG_un rfl ?_
              refine (does_move (u := (Pt g_b g_o)) (ev rfl)).mono ?_; rintro _ _ ⟨rfl, rfl⟩
              exact ⟨rfl, Ext.refl _⟩
            refine RW_d _ rfl (fun v => by dsimp only [List.set]; try rfl) (fun u hu hF => ?_) (fun v66 => ?_)
            · have h47_ : v65 = (Pt g_b g_o) := hF.1
              clear hF
              refine doesG_un rfl ?_
              obtain rfl := h47_
              refine (does_nilCheck (ev rfl)).mono ?_; rintro _ _ ⟨rfl, rfl⟩
              exact ⟨rfl, Ext.refl _⟩
            refine RW_d _ rfl (fun v => by dsimp only [List.set]; try rfl) (fun u hu hF => ?_) (fun v67 => ?_)
            · have h48_ : v66 = (Pt g_b g_o) := hF.1
              clear hF
              refine doesG_un rfl ?_
              obtain rfl := h48_
              refine (does_fieldAddr (ev rfl) fa31_1).mono ?_; rintro _ _ ⟨rfl, rfl⟩
              exact ⟨rfl, Ext.refl _⟩
            refine RW_d _ rfl (fun v => by dsimp only [List.set]; try rfl) (fun u hu hF => ?_) (fun v68 => ?_)
            · have h49_ : v67 = (Pt g_b (g_o + 3)) := hF.1
              clear hF
              refine doesG_un rfl ?_
              obtain rfl := h49_
              refine (does_load (u := (Fl r7)) (ev rfl) Try.isAgg22 (Cells.at (((((hc_g.kl E18 (ninS hne_g nin0)).ext E31).kl E42 (ninS hne_g nin0)).ext E52).ext hu) 3 rfl)).mono ?_; rintro _ _ ⟨rfl, rfl⟩
              exact ⟨rfl, Ext.refl _⟩
            refine RW_d _ rfl (fun v => by dsimp only [List.set]; try rfl) (fun u hu hF => ?_) (fun v69 => ?_)
            · have h46_ : ∃ r_1 : Nat, v64 = (Fl r_1) ∧ cf .f32 r_1 = el2 := hF.1
              have h50_ : v68 = (Fl r7) := hF.2.1
              clear hF
              refine doesG_un rfl ?_
              obtain ⟨r46_1, rfl, h46_2⟩ := h46_
              obtain rfl := h50_
              refine (does_float (.inl rfl) (ev rfl) (ev rfl)).mono ?_; rintro _ _ ⟨r, rfl, hr, hx⟩
              exact ⟨⟨r, rfl, (by simp only [hr, h46_2])⟩, hx⟩
            refine RW_fin ?_; intro w70 E71 hP72
            obtain ⟨⟨⟨⟨⟨⟨⟨⟨⟨⟨⟨⟨⟨⟨⟨-, -⟩, -⟩, -⟩, -⟩, -⟩, -⟩, -⟩, -⟩, -⟩, -⟩, -⟩, -⟩, -⟩, -⟩, q73⟩ := hP72
            have X74 := KpL.ext X54 E71
            have q73 : ∃ r_1 : Nat, v69 = (Fl r_1) ∧ cf .f32 r_1 = fop .add .f32 el2 (cf .f32 r7) := q73
            obtain ⟨r75, rfl, h76⟩ := q73
            show wpList _ _ _ _ (fr [_, _, _, _, _, _, _, _, _, _, _, _, _, _, _, _, _, _, _, _, _, _, _, _, _, _, _, _, _, _, _, _, _, _, _, _, _, _, _, _, _, _, _, _, _, _, _, _, _, _, _, _, _, _, _, _, _, _, _, _, _, _, _, _, _, _, _, _, _]) _
            refine q_is rfl rfl (does_assign (u := (Fl r75)) (ev rfl)) (by dsimp only [List.set]; try rfl) ?_
            refine wpList_nil (hK50 _ _ ?_)
            refine wp_seq_k fun K77 hK77 => ?_
            refine wp_region_lit ?_
            refine q_is rfl rfl (does_move (u := (Fl r75)) (ev rfl)) (by dsimp only [List.set]; try rfl) ?_
            refine q_is rfl rfl (does_move (u := (Pt g_b g_o)) (ev rfl)) (by dsimp only [List.set]; try rfl) ?_
            refine q_is rfl rfl (does_nilCheck (ev rfl)) (by dsimp only [List.set]; try rfl) ?_
            refine q_is rfl rfl (does_fieldAddr (ev rfl) fa31_5) (by dsimp only [List.set]; try rfl) ?_
            refine q_is rfl rfl (does_load (u := (.slice (some ⟨g_g, 0, none⟩) A_g.vals.length g_c)) (ev rfl) Try.isAgg25 (Cells.at (((((hc_g.kl E18 (ninS hne_g nin0)).ext E31).kl E42 (ninS hne_g nin0)).ext E52).ext E71) 7 rfl)) (by dsimp only [List.set]; try rfl) ?_
            refine q_is rfl rfl (does_move (u := (Iv (((A_g.vals.length : Int) - 1) - (k : Int)))) (ev rfl)) (by dsimp only [List.set]; try rfl) ?_
            refine q_is rfl rfl (does_indexOwn (b := g_g) (n := A_g.vals.length) (i := ((A_g.vals.length : Int) - 1) - (k : Int)) Try.underlying25 Try.sizeOf22 (ev rfl) (ev rfl) (by omega) (by omega)) (by dsimp only [List.set]; try rfl) ?_
            obtain ⟨el3, hel3⟩ : ∃ e, ((rowS A_g (((A_g.vals.length : Int) - 1) - (k : Int)) (sweepTo A_g back k) m).1)[((((A_g.vals.length : Int) - 1) - (k : Int)).toNat)]? = some e := ⟨_, List.getElem?_eq_getElem (by first | assumption | (simp only [sweepG_len, sweepTo_len, rowS_len, swN_len, List.length_set]; done) | omega | (simp only [sweepG_len, sweepTo_len, rowS_len, swN_len, List.length_set]; omega) | rfl)⟩
            refine seqd rfl rfl (does_loadRow (xs := ((rowS A_g (((A_g.vals.length : Int) - 1) - (k : Int)) (sweepTo A_g back k) m).1)) (i := ((((A_g.vals.length : Int) - 1) - (k : Int)).toNat)) (e := el3) (ev rfl) Try.isAgg22 ((hR45.ext E52).ext E71) (by omega) hel3) ?_; rintro _ w70 ⟨r78, rfl, h79, rfl⟩
            show wpList _ _ _ _ (fr [_, _, _, _, _, _, _, _, _, _, _, _, _, _, _, _, _, _, _, _, _, _, _, _, _, _, _, _, _, _, _, _, _, _, _, _, _, _, _, _, _, _, _, _, _, _, _, _, _, _, _, _, _, _, _, _, _, _, _, _, _, _, _, _, _, _, _, _, _]) _
            refine q_is rfl rfl (does_fcmp (.inr (.inr (.inl rfl))) (ev rfl) (ev rfl)) (by dsimp only [List.set]; try rfl) ?_
            refine wpList_nil (hK77 _ _ ?_)
            refine wp_cond_split (t := fcmp .lss (ford .f32 (cf .f32 r75) (cf .f32 r78))) (ev rfl) (fun c80 => ?_) (fun c80 => ?_)
            · have c80' := c80
              simp only [h2, h4, h6, h8, hel1, hel2, h76, h79] at c80
              have hst := (rowS_succ (g := A_g) (s := (sweepTo A_g back k)) (nb_get (by assumption))).trans (relax_t (by assumption) (by assumption) c80)
              refine wp_seq_k fun K81 hK81 => ?_
              refine wp_region_lit ?_
              refine q_is rfl rfl (does_move (u := (Pt g_b g_o)) (ev rfl)) (by dsimp only [List.set]; try rfl) ?_
              refine q_is rfl rfl (does_nilCheck (ev rfl)) (by dsimp only [List.set]; try rfl) ?_
              refine q_is rfl rfl (does_fieldAddr (ev rfl) fa31_5) (by dsimp only [List.set]; try rfl) ?_
              refine q_is rfl rfl (does_load (u := (.slice (some ⟨g_g, 0, none⟩) A_g.vals.length g_c)) (ev rfl) Try.isAgg25 (Cells.at (((((hc_g.kl E18 (ninS hne_g nin0)).ext E31).kl E42 (ninS hne_g nin0)).ext E52).ext E71) 7 rfl)) (by dsimp only [List.set]; try rfl) ?_
              refine q_is rfl rfl (does_move (u := (Iv (((A_g.vals.length : Int) - 1) - (k : Int)))) (ev rfl)) (by dsimp only [List.set]; try rfl) ?_
              refine q_is rfl rfl (does_move (u := (Fl r75)) (ev rfl)) (by dsimp only [List.set]; try rfl) ?_
              refine q_is rfl rfl (does_indexOwn (b := g_g) (n := A_g.vals.length) (i := ((A_g.vals.length : Int) - 1) - (k : Int)) Try.underlying25 Try.sizeOf22 (ev rfl) (ev rfl) (by omega) (by omega)) (by dsimp only [List.set]; try rfl) ?_
              refine seqn rfl rfl (does_storeRow (xs := ((rowS A_g (((A_g.vals.length : Int) - 1) - (k : Int)) (sweepTo A_g back k) m).1)) (i := ((((A_g.vals.length : Int) - 1) - (k : Int)).toNat)) (r := r75) (ev rfl) (ev rfl) Try.sizeOf22 ((hR45.ext E52).ext E71) (by omega) (by first | assumption | (simp only [sweepG_len, sweepTo_len, rowS_len, swN_len, List.length_set]; done) | omega | (simp only [sweepG_len, sweepTo_len, rowS_len, swN_len, List.length_set]; omega) | rfl)) ?_; rintro _ w84 ⟨rfl, W82, hR83⟩
              have X85 := KpL.more X74 (KpL.of_wr W82) (allS (.inl (by simp)) all0)
              refine wpList_nil (hK81 _ _ ?_)
              refine wp_region_lit ?_
              refine q_is rfl rfl (does_assign (u := (Bo true)) (ev rfl)) (by dsimp only [List.set]; try rfl) ?_
              refine wpList_nil (hK49 _ _ ?_)
              refine wp_region_lit ?_
              refine q_is rfl rfl (does_move (u := (Iv (m : Int))) (ev rfl)) (by dsimp only [List.set]; try rfl) ?_
              refine q_is rfl rfl (does_iarith (p := (m : Int)) (q := 1) (r := (m : Int) + 1) (ev rfl) (ev rfl) (.inl ⟨rfl, (in_i64 (by omega) (by omega)).symm⟩)) (by dsimp only [List.set]; try rfl) ?_
              refine q_is rfl rfl (does_assign (u := (Iv ((m : Int) + 1))) (ev rfl)) (by dsimp only [List.set]; try rfl) ?_
              refine wpList_nil ?_
              have hR86 := RowF.cast (ys := ((fun (m : Nat) => (rowS A_g (((A_g.vals.length : Int) - 1) - (k : Int)) (sweepTo A_g back k) m).1) (m + 1))) hR83 (by (try dsimp only); rw [hst]; (try simp only [h2, h4, h6, h8, hel1, hel2, h76, h79]))
              refine ⟨m + 1, ⟨fun t => (([(Pt g_b g_o), (Bo back), Ud, Ud, (Bo false), (Bo true), (Iv (A_g.vals.length : Int)), (Iv (k : Int)), (Iv (((A_g.vals.length : Int) - 1) - (k : Int))), (.slice p37 ((nb (GridT.mk A_g.low A_g.step A_g.x A_g.y A_g.z ((sweepTo A_g back k).1)) (((A_g.vals.length : Int) - 1) - (k : Int))).length) q38), (Iv ((m : Int) + 1)), (Fl r75), (Pt g_b g_o), (Pt g_b g_o), (Pt g_b (g_o + 7)), (.slice (some ⟨g_g, 0, none⟩) A_g.vals.length g_c), (Iv (A_g.vals.length : Int)), (Iv (k : Int)), (Iv (A_g.vals.length : Int)), (Bo (icmp .lss (k : Int) (A_g.vals.length : Int))), (u16 20), (u16 21), (Iv (k : Int)), (Bo back), (Iv (A_g.vals.length : Int)), (Iv ((A_g.vals.length : Int) - 1)), (Iv (k : Int)), (Iv (((A_g.vals.length : Int) - 1) - (k : Int))), (Pt g_b g_o), (Iv (((A_g.vals.length : Int) - 1) - (k : Int))), (.slice p37 ((nb (GridT.mk A_g.low A_g.step A_g.x A_g.y A_g.z ((sweepTo A_g back k).1)) (((A_g.vals.length : Int) - 1) - (k : Int))).length) q38), (Iv (m : Int)), (.slice p37 ((nb (GridT.mk A_g.low A_g.step A_g.x A_g.y A_g.z ((sweepTo A_g back k).1)) (((A_g.vals.length : Int) - 1) - (k : Int))).length) q38), (Iv (((nb (GridT.mk A_g.low A_g.step A_g.x A_g.y A_g.z ((sweepTo A_g back k).1)) (((A_g.vals.length : Int) - 1) - (k : Int))).length) : Int)), (Bo (icmp .lss (m : Int) (((nb (GridT.mk A_g.low A_g.step A_g.x A_g.y A_g.z ((sweepTo A_g back k).1)) (((A_g.vals.length : Int) - 1) - (k : Int))).length) : Int))), (Iv (m : Int)), (Iv ((m : Int) + 1)), v55, v56, v57, v58, v59, v60, v61, v62, v63, v64, v65, v66, v67, v68, (Fl r75), (Fl r75), (Pt g_b g_o), (Pt g_b g_o), (Pt g_b (g_o + 7)), (.slice (some ⟨g_g, 0, none⟩) A_g.vals.length g_c), (Iv (((A_g.vals.length : Int) - 1) - (k : Int))), (Pt g_g (((((A_g.vals.length : Int) - 1) - (k : Int)).toNat) * 1)), (Fl r78), (Bo (fcmp .lss (ford .f32 (cf .f32 r75) (cf .f32 r78)))), (Pt g_b g_o), (Pt g_b g_o), (Pt g_b (g_o + 7)), (.slice (some ⟨g_g, 0, none⟩) A_g.vals.length g_c), (Iv (((A_g.vals.length : Int) - 1) - (k : Int))), (Fl r75), (Pt g_g (((((A_g.vals.length : Int) - 1) - (k : Int)).toNat) * 1)), Ud] : List Value)[t]?).getD undef, ?_, (KpL.more (KpL.ext (KpL.ext E42 E52) E71) (KpL.of_wr W82) (allS (.inl (by simp)) all0)), hR86, ?_⟩, ?_⟩
              · first | rfl | (rw [hst]; rfl) | (simp only [hst, Nat.cast_add, Nat.cast_one, Int.natCast_add, Int.natCast_one]; rfl)
              · (try dsimp only); (try dsimp only); omega
              · (try dsimp only); omega
            have c80' := c80
            simp only [h2, h4, h6, h8, hel1, hel2, h76, h79] at c80
            have hst := (rowS_succ (g := A_g) (s := (sweepTo A_g back k)) (nb_get (by assumption))).trans (relax_f (by assumption) (by assumption) c80)
            refine wp_skip (hK49 _ _ ?_)
            refine wp_region_lit ?_
            refine q_is rfl rfl (does_move (u := (Iv (m : Int))) (ev rfl)) (by dsimp only [List.set]; try rfl) ?_
            refine q_is rfl rfl (does_iarith (p := (m : Int)) (q := 1) (r := (m : Int) + 1) (ev rfl) (ev rfl) (.inl ⟨rfl, (in_i64 (by omega) (by omega)).symm⟩)) (by dsimp only [List.set]; try rfl) ?_
            refine q_is rfl rfl (does_assign (u := (Iv ((m : Int) + 1))) (ev rfl)) (by dsimp only [List.set]; try rfl) ?_
            refine wpList_nil ?_
            have hR87 := RowF.cast (ys := ((fun (m : Nat) => (rowS A_g (((A_g.vals.length : Int) - 1) - (k : Int)) (sweepTo A_g back k) m).1) (m + 1))) ((hR45.ext E52).ext E71) (by (try dsimp only); rw [hst]; (try simp only [h2, h4, h6, h8, hel1, hel2, h76, h79]))
            refine ⟨m + 1, ⟨fun t => (([(Pt g_b g_o), (Bo back), Ud, Ud, (Bo false), (Bo ((rowS A_g (((A_g.vals.length : Int) - 1) - (k : Int)) (sweepTo A_g back k) m).2)), (Iv (A_g.vals.length : Int)), (Iv (k : Int)), (Iv (((A_g.vals.length : Int) - 1) - (k : Int))), (.slice p37 ((nb (GridT.mk A_g.low A_g.step A_g.x A_g.y A_g.z ((sweepTo A_g back k).1)) (((A_g.vals.length : Int) - 1) - (k : Int))).length) q38), (Iv ((m : Int) + 1)), (Fl r75), (Pt g_b g_o), (Pt g_b g_o), (Pt g_b (g_o + 7)), (.slice (some ⟨g_g, 0, none⟩) A_g.vals.length g_c), (Iv (A_g.vals.length : Int)), (Iv (k : Int)), (Iv (A_g.vals.length : Int)), (Bo (icmp .lss (k : Int) (A_g.vals.length : Int))), (u16 20), (u16 21), (Iv (k : Int)), (Bo back), (Iv (A_g.vals.length : Int)), (Iv ((A_g.vals.length : Int) - 1)), (Iv (k : Int)), (Iv (((A_g.vals.length : Int) - 1) - (k : Int))), (Pt g_b g_o), (Iv (((A_g.vals.length : Int) - 1) - (k : Int))), (.slice p37 ((nb (GridT.mk A_g.low A_g.step A_g.x A_g.y A_g.z ((sweepTo A_g back k).1)) (((A_g.vals.length : Int) - 1) - (k : Int))).length) q38), (Iv (m : Int)), (.slice p37 ((nb (GridT.mk A_g.low A_g.step A_g.x A_g.y A_g.z ((sweepTo A_g back k).1)) (((A_g.vals.length : Int) - 1) - (k : Int))).length) q38), (Iv (((nb (GridT.mk A_g.low A_g.step A_g.x A_g.y A_g.z ((sweepTo A_g back k).1)) (((A_g.vals.length : Int) - 1) - (k : Int))).length) : Int)), (Bo (icmp .lss (m : Int) (((nb (GridT.mk A_g.low A_g.step A_g.x A_g.y A_g.z ((sweepTo A_g back k).1)) (((A_g.vals.length : Int) - 1) - (k : Int))).length) : Int))), (Iv (m : Int)), (Iv ((m : Int) + 1)), v55, v56, v57, v58, v59, v60, v61, v62, v63, v64, v65, v66, v67, v68, (Fl r75), (Fl r75), (Pt g_b g_o), (Pt g_b g_o), (Pt g_b (g_o + 7)), (.slice (some ⟨g_g, 0, none⟩) A_g.vals.length g_c), (Iv (((A_g.vals.length : Int) - 1) - (k : Int))), (Pt g_g (((((A_g.vals.length : Int) - 1) - (k : Int)).toNat) * 1)), (Fl r78), (Bo (fcmp .lss (ford .f32 (cf .f32 r75) (cf .f32 r78)))), (u40 61), (u40 62), (u40 63), (u40 64), (u40 65), (u40 66), (u40 67), Ud] : List Value)[t]?).getD undef, ?_, (KpL.ext (KpL.ext E42 E52) E71), hR87, ?_⟩, ?_⟩
            · first | rfl | (rw [hst]; rfl) | (simp only [hst, Nat.cast_add, Nat.cast_one, Int.natCast_add, Int.natCast_one]; rfl)
            · (try dsimp only); (try dsimp only); omega
            · (try dsimp only); omega
          have c48' := c48
          (try simp only [icmp, Bool.and_eq_true, Bool.or_eq_true, Bool.and_eq_false_iff, Bool.or_eq_false_iff, Bool.not_eq_true', Bool.not_eq_false', decide_eq_true_eq, decide_eq_false_iff_not, beq_iff_eq, bne_iff_ne, beq_eq_false_iff_ne, bne_eq_false_iff_eq] at c48')
          have hsw := sweepTo_step (g := A_g) (back := back) (k := k) (m := m) (i := (((A_g.vals.length : Int) - 1) - (k : Int))) (by first | exact swI_t (by assumption) | exact swI_f (by assumption) | exact swI_t (hbk.trans (by assumption)) | exact swI_f (hbk.trans (by assumption))) (by omega) (by omega)
          refine wp_exit ?_
          refine hK25 _ _ ?_
          refine wp_region_lit ?_
          refine q_is rfl rfl (does_move (u := (Iv (k : Int))) (ev rfl)) (by dsimp only [List.set]; try rfl) ?_
          refine q_is rfl rfl (does_iarith (p := (k : Int)) (q := 1) (r := (k : Int) + 1) (ev rfl) (ev rfl) (.inl ⟨rfl, (in_i64 (by omega) (by omega)).symm⟩)) (by dsimp only [List.set]; try rfl) ?_
          refine q_is rfl rfl (does_assign (u := (Iv ((k : Int) + 1))) (ev rfl)) (by dsimp only [List.set]; try rfl) ?_
          refine wpList_nil ?_
          have hR88 := RowF.cast (ys := ((fun (k : Nat) => (sweepTo A_g back k).1) (k + 1))) hR45 (by (try dsimp only); rw [hsw])
          refine ⟨k + 1, ⟨fun t => (([(Pt g_b g_o), (Bo back), Ud, Ud, (Bo false), (Bo ((rowS A_g (((A_g.vals.length : Int) - 1) - (k : Int)) (sweepTo A_g back k) m).2)), (Iv (A_g.vals.length : Int)), (Iv ((k : Int) + 1)), (Iv (((A_g.vals.length : Int) - 1) - (k : Int))), (.slice p37 ((nb (GridT.mk A_g.low A_g.step A_g.x A_g.y A_g.z ((sweepTo A_g back k).1)) (((A_g.vals.length : Int) - 1) - (k : Int))).length) q38), (Iv (m : Int)), (u40 11), (Pt g_b g_o), (Pt g_b g_o), (Pt g_b (g_o + 7)), (.slice (some ⟨g_g, 0, none⟩) A_g.vals.length g_c), (Iv (A_g.vals.length : Int)), (Iv (k : Int)), (Iv (A_g.vals.length : Int)), (Bo (icmp .lss (k : Int) (A_g.vals.length : Int))), (Iv (k : Int)), (Iv ((k : Int) + 1)), (Iv (k : Int)), (Bo back), (Iv (A_g.vals.length : Int)), (Iv ((A_g.vals.length : Int) - 1)), (Iv (k : Int)), (Iv (((A_g.vals.length : Int) - 1) - (k : Int))), (Pt g_b g_o), (Iv (((A_g.vals.length : Int) - 1) - (k : Int))), (.slice p37 ((nb (GridT.mk A_g.low A_g.step A_g.x A_g.y A_g.z ((sweepTo A_g back k).1)) (((A_g.vals.length : Int) - 1) - (k : Int))).length) q38), (Iv (m : Int)), (.slice p37 ((nb (GridT.mk A_g.low A_g.step A_g.x A_g.y A_g.z ((sweepTo A_g back k).1)) (((A_g.vals.length : Int) - 1) - (k : Int))).length) q38), (Iv (((nb (GridT.mk A_g.low A_g.step A_g.x A_g.y A_g.z ((sweepTo A_g back k).1)) (((A_g.vals.length : Int) - 1) - (k : Int))).length) : Int)), (Bo (icmp .lss (m : Int) (((nb (GridT.mk A_g.low A_g.step A_g.x A_g.y A_g.z ((sweepTo A_g back k).1)) (((A_g.vals.length : Int) - 1) - (k : Int))).length) : Int))), (u40 35), (u40 36), (u40 37), (u40 38), (u40 39), (u40 40), (u40 41), (u40 42), (u40 43), (u40 44), (u40 45), (u40 46), (u40 47), (u40 48), (u40 49), (u40 50), (u40 51), (u40 52), (u40 53), (u40 54), (u40 55), (u40 56), (u40 57), (u40 58), (u40 59), (u40 60), (u40 61), (u40 62), (u40 63), (u40 64), (u40 65), (u40 66), (u40 67), Ud] : List Value)[t]?).getD undef, ?_, (KpL.more (KpL.ext E18 E31) E42 (allS (.inl (by simp)) all0)), hR88, ?_⟩, ?_⟩
          · first | rfl | (rw [hsw]; rfl) | (simp only [hsw, Nat.cast_add, Nat.cast_one, Int.natCast_add, Int.natCast_one]; rfl)
          · omega
          · omega
      have c29' := c29
      refine wp_skip (hK27 _ _ ?_)
      refine wp_seq_k fun K89 hK89 => ?_
      refine wp_region_lit ?_
      refine q_is rfl rfl (does_move (u := (Pt g_b g_o)) (ev rfl)) (by dsimp only [List.set]; try rfl) ?_
      refine q_is rfl rfl (does_move (u := (Iv (k : Int))) (ev rfl)) (by dsimp only [List.set]; try rfl) ?_
      refine seqd rfl rfl (does_call (args := #[(Pt g_b g_o), (Iv (k : Int))]) cal56 (evs rfl) (c_spec_l06Near g_b g_o [(Fl r1), (Fl r3), (Fl r5), (Fl r7), (Iv A_g.x), (Iv A_g.y), (Iv A_g.z), (.slice (some ⟨g_g, 0, none⟩) A_g.vals.length g_c)] (GridT.mk A_g.low A_g.step A_g.x A_g.y A_g.z ((sweepTo A_g back k).1)) (k : Int) _ (hc_g.kl E18 (ninS hne_g nin0)) ⟨r1, r3, r5, r7, (.slice (some ⟨g_g, 0, none⟩) A_g.vals.length g_c), rfl, h2, h4, h6, h8, (RowF.sl hR21 (by first | assumption | (simp only [sweepG_len, sweepTo_len, rowS_len, swN_len, List.length_set]; done) | omega | (simp only [sweepG_len, sweepTo_len, rowS_len, swN_len, List.length_set]; omega) | rfl) hcap_g (by omega))⟩ (by exact hgv) (by (try dsimp only); omega))) ?_; rintro _ w91 ⟨E90, ⟨y93, rfl, hh92⟩⟩
      have X94 := KpL.ext X20 E90
      have n95 : g_g < w17.heap.size := RowF.lt hR21
      obtain ⟨p96, q97, rfl⟩ := Sl.shape hh92.get
      show wpList _ _ _ _ (fr [_, _, _, _, _, _, _, _, _, _, _, _, _, _, _, _, _, _, _, _, _, _, _, _, _, _, _, _, _, _, _, _, _, _, _, _, _, _, _, _, _, _, _, _, _, _, _, _, _, _, _, _, _, _, _, _, _, _, _, _, _, _, _, _, _, _, _, _, _]) _
      refine q_is rfl rfl (does_assign (u := (.slice p96 ((nb (GridT.mk A_g.low A_g.step A_g.x A_g.y A_g.z ((sweepTo A_g back k).1)) (k : Int)).length) q97)) (ev rfl)) (by dsimp only [List.set]; try rfl) ?_
      refine wpList_nil (hK89 _ _ ?_)
      refine wp_seq_k fun K98 hK98 => ?_
      refine wp_region_lit ?_
      refine q_is rfl rfl (does_assign (u := (Iv 0)) (ev rfl)) (by dsimp only [List.set]; try rfl) ?_
      refine wpList_nil (hK98 _ _ ?_)
      refine wp_block ?_
      refine loop_ghost (σ := Nat) (fun m a w' => ∃ u99 : Nat → Value, a = fr [(Pt g_b g_o), (Bo back), Ud, Ud, (Bo false), (Bo ((rowS A_g (k : Int) (sweepTo A_g back k) m).2)), (Iv (A_g.vals.length : Int)), (Iv (k : Int)), (Iv (k : Int)), (.slice p96 ((nb (GridT.mk A_g.low A_g.step A_g.x A_g.y A_g.z ((sweepTo A_g back k).1)) (k : Int)).length) q97), (Iv (m : Int)), (u99 11), (Pt g_b g_o), (Pt g_b g_o), (Pt g_b (g_o + 7)), (.slice (some ⟨g_g, 0, none⟩) A_g.vals.length g_c), (Iv (A_g.vals.length : Int)), (Iv (k : Int)), (Iv (A_g.vals.length : Int)), (Bo (icmp .lss (k : Int) (A_g.vals.length : Int))), (u16 20), (u16 21), (Iv (k : Int)), (Bo back), (u16 24), (u16 25), (u16 26), (u16 27), (Pt g_b g_o), (Iv (k : Int)), (.slice p96 ((nb (GridT.mk A_g.low A_g.step A_g.x A_g.y A_g.z ((sweepTo A_g back k).1)) (k : Int)).length) q97), (u99 31), (u99 32), (u99 33), (u99 34), (u99 35), (u99 36), (u99 37), (u99 38), (u99 39), (u99 40), (u99 41), (u99 42), (u99 43), (u99 44), (u99 45), (u99 46), (u99 47), (u99 48), (u99 49), (u99 50), (u99 51), (u99 52), (u99 53), (u99 54), (u99 55), (u99 56), (u99 57), (u99 58), (u99 59), (u99 60), (u99 61), (u99 62), (u99 63), (u99 64), (u99 65), (u99 66), (u99 67), Ud] ∧ KpL [g_g] w91 w' ∧ RowF w' g_g ((rowS A_g (k : Int) (sweepTo A_g back k) m).1) ∧ (m ≤ (nb A_g (k : Int)).length)) (fun m => (nb A_g (k : Int)).length - m) 0 ?_ ?_
      · refine ⟨fun t => (([(Pt g_b g_o), (Bo back), Ud, Ud, (Bo false), (Bo ((sweepTo A_g back k).2)), (Iv (A_g.vals.length : Int)), (Iv (k : Int)), (Iv (k : Int)), (.slice p96 ((nb (GridT.mk A_g.low A_g.step A_g.x A_g.y A_g.z ((sweepTo A_g back k).1)) (k : Int)).length) q97), (Iv 0), (u16 11), (Pt g_b g_o), (Pt g_b g_o), (Pt g_b (g_o + 7)), (.slice (some ⟨g_g, 0, none⟩) A_g.vals.length g_c), (Iv (A_g.vals.length : Int)), (Iv (k : Int)), (Iv (A_g.vals.length : Int)), (Bo (icmp .lss (k : Int) (A_g.vals.length : Int))), (u16 20), (u16 21), (Iv (k : Int)), (Bo back), (u16 24), (u16 25), (u16 26), (u16 27), (Pt g_b g_o), (Iv (k : Int)), (.slice p96 ((nb (GridT.mk A_g.low A_g.step A_g.x A_g.y A_g.z ((sweepTo A_g back k).1)) (k : Int)).length) q97), (u16 31), (u16 32), (u16 33), (u16 34), (u16 35), (u16 36), (u16 37), (u16 38), (u16 39), (u16 40), (u16 41), (u16 42), (u16 43), (u16 44), (u16 45), (u16 46), (u16 47), (u16 48), (u16 49), (u16 50), (u16 51), (u16 52), (u16 53), (u16 54), (u16 55), (u16 56), (u16 57), (u16 58), (u16 59), (u16 60), (u16 61), (u16 62), (u16 63), (u16 64), (u16 65), (u16 66), (u16 67), Ud] : List Value)[t]?).getD undef, rfl, KpL.refl _ _, (RowF.cast (hR21.ext E90) (by rfl)), ?_⟩
        exact Nat.zero_le _
      · rintro m a w100 ⟨u99, rfl, E101, hRw, hm⟩
        have X103 := KpL.more X94 E101 (allS (.inl (by simp)) all0)
        have hR104 := hRw; clear hRw
        have hnl : ((nb (GridT.mk A_g.low A_g.step A_g.x A_g.y A_g.z ((sweepTo A_g back k).1)) (k : Int))).length = (nb A_g (k : Int)).length := congrArg List.length (nb_vals A_g _ _)
        have hrl := (rowS_len A_g (k : Int) (sweepTo A_g back k) m).trans hsl
        have hn6 : (nb A_g (k : Int)).length ≤ 6 := nbK_len A_g (k : Int) 6
        refine wp_seq_k fun K105 hK105 => ?_
        refine wp_seq_k fun K106 hK106 => ?_
        refine wp_region_lit ?_
        refine q_is rfl rfl (does_move (u := (Iv (m : Int))) (ev rfl)) (by dsimp only [List.set]; try rfl) ?_
        refine q_is rfl rfl (does_move (u := (.slice p96 ((nb (GridT.mk A_g.low A_g.step A_g.x A_g.y A_g.z ((sweepTo A_g back k).1)) (k : Int)).length) q97)) (ev rfl)) (by dsimp only [List.set]; try rfl) ?_
        refine q_is rfl rfl (does_len_slice Try.underlying38 (ev rfl)) (by dsimp only [List.set]; try rfl) ?_
        refine q_is rfl rfl (does_icmp (p := (m : Int)) (q := (((nb (GridT.mk A_g.low A_g.step A_g.x A_g.y A_g.z ((sweepTo A_g back k).1)) (k : Int)).length) : Int)) (.inr (.inr (.inl rfl))) (ev rfl) (ev rfl)) (by dsimp only [List.set]; try rfl) ?_
        refine wpList_nil (hK106 _ _ ?_)
        refine wp_cond_split (t := icmp .lss (m : Int) (((nb (GridT.mk A_g.low A_g.step A_g.x A_g.y A_g.z ((sweepTo A_g back k).1)) (k : Int)).length) : Int)) (ev rfl) (fun c107 => ?_) (fun c107 => ?_)
        · have c107' := c107
          (try simp only [icmp, Bool.and_eq_true, Bool.or_eq_true, Bool.and_eq_false_iff, Bool.or_eq_false_iff, Bool.not_eq_true', Bool.not_eq_false', decide_eq_true_eq, decide_eq_false_iff_not, beq_iff_eq, bne_iff_ne, beq_eq_false_iff_ne, bne_eq_false_iff_eq] at c107')
          have hnm := fun (x : Int) (hx : x ∈ nb (GridT.mk A_g.low A_g.step A_g.x A_g.y A_g.z (sweepTo A_g back k).1) (k : Int)) => nb_mem (g := GridT.mk A_g.low A_g.step A_g.x A_g.y A_g.z (sweepTo A_g back k).1) hgv (i := (k : Int)) (by (try dsimp only); omega) hx
          refine wp_skip (hK105 _ _ ?_)
          refine wp_seq_k fun K108 hK108 => ?_
          refine wp_block ?_
          refine wp_seq_k fun K109 hK109 => ?_
          obtain ⟨el4, hel4⟩ : ∃ e, (nb (GridT.mk A_g.low A_g.step A_g.x A_g.y A_g.z ((sweepTo A_g back k).1)) (k : Int))[m]? = some e := ⟨_, List.getElem?_eq_getElem (by omega)⟩
          have hj := hnm _ (List.mem_of_getElem? (by assumption))
          dsimp only at hj
          obtain ⟨el5, hel5⟩ : ∃ e, ((rowS A_g (k : Int) (sweepTo A_g back k) m).1)[el4.toNat]? = some e := ⟨_, List.getElem?_eq_getElem (by first | assumption | (simp only [sweepG_len, sweepTo_len, rowS_len, swN_len, List.length_set]; done) | omega | (simp only [sweepG_len, sweepTo_len, rowS_len, swN_len, List.length_set]; omega) | rfl)⟩
          refine region_draw (
            [Fact.pure [] (fun v => v = (Pt g_b g_o)),
    Fact.pure [37] (fun v => v = (Pt g_b g_o)),
    Fact.pure [38] (fun v => v = (Pt g_b (g_o + 7))),
    Fact.pure [39] (fun v => v = (.slice (some ⟨g_g, 0, none⟩) A_g.vals.length g_c)),
    Fact.pure [] (fun v => v = (.slice p96 ((nb (GridT.mk A_g.low A_g.step A_g.x A_g.y A_g.z ((sweepTo A_g back k).1)) (k : Int)).length) q97)),
    Fact.pure [] (fun v => v = (Iv (m : Int))),
    Fact.mem [41, 42] (fun v w' => PtrR RI w' v el4) (by intro v w1 w2 hx h; exact h.ext RI.mono hx),
    Fact.pure [43] (fun v => v = (Iv el4)),
    Fact.pure [40, 44] (fun v => v = (Pt g_g (el4.toNat * 1))),
    Fact.pure [45] (fun v => ∃ r_1 : Nat, v = (Fl r_1) ∧ cf .f32 r_1 = el5),
    Fact.pure [] (fun v => v = (Pt g_b g_o)),
    Fact.pure [47] (fun v => v = (Pt g_b g_o)),
    Fact.pure [48] (fun v => v = (Pt g_b (g_o + 3))),
    Fact.pure [49] (fun v => v = (Fl r7)),
    Fact.pure [46, 50] (fun v => ∃ r_1 : Nat, v = (Fl r_1) ∧ cf .f32 r_1 = fop .add .f32 el5 (cf .f32 r7))]) mixed (by kernel_rfl) (by intro _ _ d _ _ h; cases d <;> exact h) ?_
          obtain ⟨w110, hw112⟩ : ∃ w', w' = World.drew w100 := ⟨_, rfl⟩; rw [← hw112]; have E111 : Ext w100 w110 := by rw [hw112]; exact Ext.draw _
          clear hw112
          have X113 := KpL.ext X103 E111
          refine RW_d _ rfl (fun v => by dsimp only [List.set]; try rfl) (fun u hu hF => ?_) (fun v114 => ?_)
          · clear hF
            refine doesG_un rfl ?_
            refine (does_move (u := (Pt g_b g_o)) (ev rfl)).mono ?_; rintro _ _ ⟨rfl, rfl⟩
            exact ⟨rfl, Ext.refl _⟩
          refine RW_d _ rfl (fun v => by dsimp only [List.set]; try rfl) (fun u hu hF => ?_) (fun v115 => ?_)
          · have h37_ : v114 = (Pt g_b g_o) := hF.1
            clear hF
            refine doesG_un rfl ?_
            obtain rfl := h37_
            refine (does_nilCheck (ev rfl)).mono ?_; rintro _ _ ⟨rfl, rfl⟩
            exact ⟨rfl, Ext.refl _⟩
          refine RW_d _ rfl (fun v => by dsimp only [List.set]; try rfl) (fun u hu hF => ?_) (fun v116 => ?_)
          · have h38_ : v115 = (Pt g_b g_o) := hF.1
            clear hF
            refine doesG_un rfl ?_
            obtain rfl := h38_
            refine (does_fieldAddr (ev rfl) fa31_5).mono ?_; rintro _ _ ⟨rfl, rfl⟩
            exact ⟨rfl, Ext.refl _⟩
          refine RW_d _ rfl (fun v => by dsimp only [List.set]; try rfl) (fun u hu hF => ?_) (fun v117 => ?_)
          · have h39_ : v116 = (Pt g_b (g_o + 7)) := hF.1
            clear hF
            refine doesG_un rfl ?_
            obtain rfl := h39_
            refine (does_load (u := (.slice (some ⟨g_g, 0, none⟩) A_g.vals.length g_c)) (ev rfl) Try.isAgg25 (Cells.at (((((hc_g.kl E18 (ninS hne_g nin0)).ext E90).kl E101 (ninS hne_g nin0)).ext E111).ext hu) 7 rfl)).mono ?_; rintro _ _ ⟨rfl, rfl⟩
            exact ⟨rfl, Ext.refl _⟩
          refine RW_d _ rfl (fun v => by dsimp only [List.set]; try rfl) (fun u hu hF => ?_) (fun v118 => ?_)
          · clear hF
            refine doesG_un rfl ?_
            refine (does_move (u := (.slice p96 ((nb (GridT.mk A_g.low A_g.step A_g.x A_g.y A_g.z ((sweepTo A_g back k).1)) (k : Int)).length) q97)) (ev rfl)).mono ?_; rintro _ _ ⟨rfl, rfl⟩
            exact ⟨rfl, Ext.refl _⟩
          refine RW_d _ rfl (fun v => by dsimp only [List.set]; try rfl) (fun u hu hF => ?_) (fun v119 => ?_)
          · clear hF
            refine doesG_un rfl ?_
            refine (does_move (u := (Iv (m : Int))) (ev rfl)).mono ?_; rintro _ _ ⟨rfl, rfl⟩
            exact ⟨rfl, Ext.refl _⟩
          refine RW_d _ rfl (fun v => by dsimp only [List.set]; try rfl) (fun u hu hF => ?_) (fun v120 => ?_)
          · have h41_ : v118 = (.slice p96 ((nb (GridT.mk A_g.low A_g.step A_g.x A_g.y A_g.z ((sweepTo A_g back k).1)) (k : Int)).length) q97) := hF.1
            have h42_ : v119 = (Iv (m : Int)) := hF.2.1
            clear hF
            refine doesG_un rfl ?_
            obtain rfl := h41_
            obtain rfl := h42_
            refine (does_indexSl (R := RI) (i := (m : Int)) (xs := (nb (GridT.mk A_g.low A_g.step A_g.x A_g.y A_g.z ((sweepTo A_g back k).1)) (k : Int))) (e := el4) Try.underlying38 Try.sizeOf2 (ev rfl) (ev rfl) (Sl.ext (hh92 _ (((Same.refl _ _).kl E101 (allS (.inl n95) all0)).ext E111)) RI.mono hu) (by omega) hel4).mono ?_; rintro v u' ⟨b, of, cs, hv, hc, hR, hu'⟩; subst hu'
            exact ⟨⟨b, of, cs, hv, hc, hR⟩, Ext.refl _⟩
          refine RW_d _ rfl (fun v => by dsimp only [List.set]; try rfl) (fun u hu hF => ?_) (fun v121 => ?_)
          · have h43_ : PtrR RI u v120 el4 := hF.1
            clear hF
            refine doesG_un rfl ?_
            obtain ⟨b43_, o43_, _, rfl, hc43_, rfl⟩ := h43_
            refine (does_load (u := (Iv el4)) (ev rfl) Try.isAgg2 (Cells.at hc43_ 0 rfl)).mono ?_; rintro _ _ ⟨rfl, rfl⟩
            exact ⟨rfl, Ext.refl _⟩
          refine RW_d _ rfl (fun v => by dsimp only [List.set]; try rfl) (fun u hu hF => ?_) (fun v122 => ?_)
          · have h40_ : v117 = (.slice (some ⟨g_g, 0, none⟩) A_g.vals.length g_c) := hF.1
            have h44_ : v121 = (Iv el4) := hF.2.1
            clear hF
            refine doesG_un rfl ?_
            obtain rfl := h40_
            obtain rfl := h44_
            refine (does_indexOwn (b := g_g) (n := A_g.vals.length) (i := el4) Try.underlying25 Try.sizeOf22 (ev rfl) (ev rfl) (by omega) (by omega)).mono ?_; rintro _ _ ⟨rfl, rfl⟩
            exact ⟨rfl, Ext.refl _⟩
          refine RW_d _ rfl (fun v => by dsimp only [List.set]; try rfl) (fun u hu hF => ?_) (fun v123 => ?_)
          · have h45_ : v122 = (Pt g_g (el4.toNat * 1)) := hF.1
            clear hF
            refine doesG_un rfl ?_
            obtain rfl := h45_
            refine (does_loadRow (xs := ((rowS A_g (k : Int) (sweepTo A_g back k) m).1)) (i := el4.toNat) (e := el5) (ev rfl) Try.isAgg22 (RowF.ext (hR104.ext E111) hu) (by omega) hel5).mono ?_; rintro _ _ ⟨r, rfl, hr, rfl⟩
            exact ⟨⟨r, rfl, (by simp only [hr])⟩, Ext.refl _⟩
          refine RW_d _ rfl (fun v => by dsimp only [List.set]; try rfl) (fun u hu hF => ?_) (fun v124 => ?_)
          · clear hF
            refine doesG_un rfl ?_
            refine (does_move (u := (Pt g_b g_o)) (ev rfl)).mono ?_; rintro _ _ ⟨rfl, rfl⟩
            exact ⟨rfl, Ext.refl _⟩
          refine RW_d _ rfl (fun v => by dsimp only [List.set]; try rfl) (fun u hu hF => ?_) (fun v125 => ?_)
          · have h47_ : v124 = (Pt g_b g_o) := hF.1
            clear hF
            refine doesG_un rfl ?_
            obtain rfl := h47_
            refine (does_nilCheck (ev rfl)).mono ?_; rintro _ _ ⟨rfl, rfl⟩
            exact ⟨rfl, Ext.refl _⟩
          refine RW_d _ rfl (fun v => by dsimp only [List.set]; try rfl) (fun u hu hF => ?_) (fun v126 => ?_)
          · have h48_ : v125 = (Pt g_b g_o) := hF.1
            clear hF
            refine doesG_un rfl ?_
            obtain rfl := h48_
            refine (does_fieldAddr (ev rfl) fa31_1).mono ?_; rintro _ _ ⟨rfl, rfl⟩
            exact ⟨rfl, Ext.refl _⟩
          refine RW_d _ rfl (fun v => by dsimp only [List.set]; try rfl) (fun u hu hF => ?_) (fun v127 => ?_)
          · have h49_ : v126 = (Pt g_b (g_o + 3)) := hF.1
            clear hF
            refine doesG_un rfl ?_
            obtain rfl := h49_
            refine (does_load (u := (Fl r7)) (ev rfl) Try.isAgg22 (Cells.at (((((hc_g.kl E18 (ninS hne_g nin0)).ext E90).kl E101 (ninS hne_g nin0)).ext E111).ext hu) 3 rfl)).mono ?_; rintro _ _ ⟨rfl, rfl⟩
            exact ⟨rfl, Ext.refl _⟩
          refine RW_d _ rfl (fun v => by dsimp only [List.set]; try rfl) (fun u hu hF => ?_) (fun v128 => ?_)
          · have h46_ : ∃ r_1 : Nat, v123 = (Fl r_1) ∧ cf .f32 r_1 = el5 := hF.1
            have h50_ : v127 = (Fl r7) := hF.2.1
            clear hF
            refine doesG_un rfl ?_
            obtain ⟨r46_1, rfl, h46_2⟩ := h46_
            obtain rfl := h50_
            refine (does_float (.inl rfl) (ev rfl) (ev rfl)).mono ?_; rintro _ _ ⟨r, rfl, hr, hx⟩
            exact ⟨⟨r, rfl, (by simp only [hr, h46_2])⟩, hx⟩
          refine RW_fin ?_; intro w129 E130 hP131
          obtain ⟨⟨⟨⟨⟨⟨⟨⟨⟨⟨⟨⟨⟨⟨⟨-, -⟩, -⟩, -⟩, -⟩, -⟩, -⟩, -⟩, -⟩, -⟩, -⟩, -⟩, -⟩, -⟩, -⟩, q132⟩ := hP131
          have X133 := KpL.ext X113 E130
          have q132 : ∃ r_1 : Nat, v128 = (Fl r_1) ∧ cf .f32 r_1 = fop .add .f32 el5 (cf .f32 r7) := q132
          obtain ⟨r134, rfl, h135⟩ := q132
          show wpList _ _ _ _ (fr [_, _, _, _, _, _, _, _, _, _, _, _, _, _, _, _, _, _, _, _, _, _, _, _, _, _, _, _, _, _, _, _, _, _, _, _, _, _, _, _, _, _, _, _, _, _, _, _, _, _, _, _, _, _, _, _, _, _, _, _, _, _, _, _, _, _, _, _, _]) _
          refine q_is rfl rfl (does_assign (u := (Fl r134)) (ev rfl)) (by dsimp only [List.set]; try rfl) ?_
          refine wpList_nil (hK109 _ _ ?_)
          refine wp_seq_k fun K136 hK136 => ?_
          refine wp_region_lit ?_
          refine q_is rfl rfl (does_move (u := (Fl r134)) (ev rfl)) (by dsimp only [List.set]; try rfl) ?_
          refine q_is rfl rfl (does_move (u := (Pt g_b g_o)) (ev rfl)) (by dsimp only [List.set]; try rfl) ?_
          refine q_is rfl rfl (does_nilCheck (ev rfl)) (by dsimp only [List.set]; try rfl) ?_
          refine q_is rfl rfl (does_fieldAddr (ev rfl) fa31_5) (by dsimp only [List.set]; try rfl) ?_
          refine q_is rfl rfl (does_load (u := (.slice (some ⟨g_g, 0, none⟩) A_g.vals.length g_c)) (ev rfl) Try.isAgg25 (Cells.at (((((hc_g.kl E18 (ninS hne_g nin0)).ext E90).kl E101 (ninS hne_g nin0)).ext E111).ext E130) 7 rfl)) (by dsimp only [List.set]; try rfl) ?_
          refine q_is rfl rfl (does_move (u := (Iv (k : Int))) (ev rfl)) (by dsimp only [List.set]; try rfl) ?_
          refine q_is rfl rfl (does_indexOwn (b := g_g) (n := A_g.vals.length) (i := (k : Int)) Try.underlying25 Try.sizeOf22 (ev rfl) (ev rfl) (by omega) (by omega)) (by dsimp only [List.set]; try rfl) ?_
          obtain ⟨el6, hel6⟩ : ∃ e, ((rowS A_g (k : Int) (sweepTo A_g back k) m).1)[((k : Int).toNat)]? = some e := ⟨_, List.getElem?_eq_getElem (by first | assumption | (simp only [sweepG_len, sweepTo_len, rowS_len, swN_len, List.length_set]; done) | omega | (simp only [sweepG_len, sweepTo_len, rowS_len, swN_len, List.length_set]; omega) | rfl)⟩
          refine seqd rfl rfl (does_loadRow (xs := ((rowS A_g (k : Int) (sweepTo A_g back k) m).1)) (i := ((k : Int).toNat)) (e := el6) (ev rfl) Try.isAgg22 ((hR104.ext E111).ext E130) (by omega) hel6) ?_; rintro _ w129 ⟨r137, rfl, h138, rfl⟩
          show wpList _ _ _ _ (fr [_, _, _, _, _, _, _, _, _, _, _, _, _, _, _, _, _, _, _, _, _, _, _, _, _, _, _, _, _, _, _, _, _, _, _, _, _, _, _, _, _, _, _, _, _, _, _, _, _, _, _, _, _, _, _, _, _, _, _, _, _, _, _, _, _, _, _, _, _]) _
          refine q_is rfl rfl (does_fcmp (.inr (.inr (.inl rfl))) (ev rfl) (ev rfl)) (by dsimp only [List.set]; try rfl) ?_
          refine wpList_nil (hK136 _ _ ?_)
          refine wp_cond_split (t := fcmp .lss (ford .f32 (cf .f32 r134) (cf .f32 r137))) (ev rfl) (fun c139 => ?_) (fun c139 => ?_)
          · have c139' := c139
            simp only [h2, h4, h6, h8, hel4, hel5, h135, h138] at c139
            have hst := (rowS_succ (g := A_g) (s := (sweepTo A_g back k)) (nb_get (by assumption))).trans (relax_t (by assumption) (by assumption) c139)
            refine wp_seq_k fun K140 hK140 => ?_
            refine wp_region_lit ?_
            refine q_is rfl rfl (does_move (u := (Pt g_b g_o)) (ev rfl)) (by dsimp only [List.set]; try rfl) ?_
            refine q_is rfl rfl (does_nilCheck (ev rfl)) (by dsimp only [List.set]; try rfl) ?_
            refine q_is rfl rfl (does_fieldAddr (ev rfl) fa31_5) (by dsimp only [List.set]; try rfl) ?_
            refine q_is rfl rfl (does_load (u := (.slice (some ⟨g_g, 0, none⟩) A_g.vals.length g_c)) (ev rfl) Try.isAgg25 (Cells.at (((((hc_g.kl E18 (ninS hne_g nin0)).ext E90).kl E101 (ninS hne_g nin0)).ext E111).ext E130) 7 rfl)) (by dsimp only [List.set]; try rfl) ?_
            refine q_is rfl rfl (does_move (u := (Iv (k : Int))) (ev rfl)) (by dsimp only [List.set]; try rfl) ?_
            refine q_is rfl rfl (does_move (u := (Fl r134)) (ev rfl)) (by dsimp only [List.set]; try rfl) ?_
            refine q_is rfl rfl (does_indexOwn (b := g_g) (n := A_g.vals.length) (i := (k : Int)) Try.underlying25 Try.sizeOf22 (ev rfl) (ev rfl) (by omega) (by omega)) (by dsimp only [List.set]; try rfl) ?_
            refine seqn rfl rfl (does_storeRow (xs := ((rowS A_g (k : Int) (sweepTo A_g back k) m).1)) (i := ((k : Int).toNat)) (r := r134) (ev rfl) (ev rfl) Try.sizeOf22 ((hR104.ext E111).ext E130) (by omega) (by first | assumption | (simp only [sweepG_len, sweepTo_len, rowS_len, swN_len, List.length_set]; done) | omega | (simp only [sweepG_len, sweepTo_len, rowS_len, swN_len, List.length_set]; omega) | rfl)) ?_; rintro _ w143 ⟨rfl, W141, hR142⟩
            have X144 := KpL.more X133 (KpL.of_wr W141) (allS (.inl (by simp)) all0)
            refine wpList_nil (hK140 _ _ ?_)
            refine wp_region_lit ?_
            refine q_is rfl rfl (does_assign (u := (Bo true)) (ev rfl)) (by dsimp only [List.set]; try rfl) ?_
            refine wpList_nil (hK108 _ _ ?_)
            refine wp_region_lit ?_
            refine q_is rfl rfl (does_move (u := (Iv (m : Int))) (ev rfl)) (by dsimp only [List.set]; try rfl) ?_
            refine q_is rfl rfl (does_iarith (p := (m : Int)) (q := 1) (r := (m : Int) + 1) (ev rfl) (ev rfl) (.inl ⟨rfl, (in_i64 (by omega) (by omega)).symm⟩)) (by dsimp only [List.set]; try rfl) ?_
            refine q_is rfl rfl (does_assign (u := (Iv ((m : Int) + 1))) (ev rfl)) (by dsimp only [List.set]; try rfl) ?_
            refine wpList_nil ?_
            have hR145 := RowF.cast (ys := ((fun (m : Nat) => (rowS A_g (k : Int) (sweepTo A_g back k) m).1) (m + 1))) hR142 (by (try dsimp only); rw [hst]; (try simp only [h2, h4, h6, h8, hel4, hel5, h135, h138]))
            refine ⟨m + 1, ⟨fun t => (([(Pt g_b g_o), (Bo back), Ud, Ud, (Bo false), (Bo true), (Iv (A_g.vals.length : Int)), (Iv (k : Int)), (Iv (k : Int)), (.slice p96 ((nb (GridT.mk A_g.low A_g.step A_g.x A_g.y A_g.z ((sweepTo A_g back k).1)) (k : Int)).length) q97), (Iv ((m : Int) + 1)), (Fl r134), (Pt g_b g_o), (Pt g_b g_o), (Pt g_b (g_o + 7)), (.slice (some ⟨g_g, 0, none⟩) A_g.vals.length g_c), (Iv (A_g.vals.length : Int)), (Iv (k : Int)), (Iv (A_g.vals.length : Int)), (Bo (icmp .lss (k : Int) (A_g.vals.length : Int))), (u16 20), (u16 21), (Iv (k : Int)), (Bo back), (u16 24), (u16 25), (u16 26), (u16 27), (Pt g_b g_o), (Iv (k : Int)), (.slice p96 ((nb (GridT.mk A_g.low A_g.step A_g.x A_g.y A_g.z ((sweepTo A_g back k).1)) (k : Int)).length) q97), (Iv (m : Int)), (.slice p96 ((nb (GridT.mk A_g.low A_g.step A_g.x A_g.y A_g.z ((sweepTo A_g back k).1)) (k : Int)).length) q97), (Iv (((nb (GridT.mk A_g.low A_g.step A_g.x A_g.y A_g.z ((sweepTo A_g back k).1)) (k : Int)).length) : Int)), (Bo (icmp .lss (m : Int) (((nb (GridT.mk A_g.low A_g.step A_g.x A_g.y A_g.z ((sweepTo A_g back k).1)) (k : Int)).length) : Int))), (Iv (m : Int)), (Iv ((m : Int) + 1)), v114, v115, v116, v117, v118, v119, v120, v121, v122, v123, v124, v125, v126, v127, (Fl r134), (Fl r134), (Pt g_b g_o), (Pt g_b g_o), (Pt g_b (g_o + 7)), (.slice (some ⟨g_g, 0, none⟩) A_g.vals.length g_c), (Iv (k : Int)), (Pt g_g (((k : Int).toNat) * 1)), (Fl r137), (Bo (fcmp .lss (ford .f32 (cf .f32 r134) (cf .f32 r137)))), (Pt g_b g_o), (Pt g_b g_o), (Pt g_b (g_o + 7)), (.slice (some ⟨g_g, 0, none⟩) A_g.vals.length g_c), (Iv (k : Int)), (Fl r134), (Pt g_g (((k : Int).toNat) * 1)), Ud] : List Value)[t]?).getD undef, ?_, (KpL.more (KpL.ext (KpL.ext E101 E111) E130) (KpL.of_wr W141) (allS (.inl (by simp)) all0)), hR145, ?_⟩, ?_⟩
            · first | rfl | (rw [hst]; rfl) | (simp only [hst, Nat.cast_add, Nat.cast_one, Int.natCast_add, Int.natCast_one]; rfl)
            · (try dsimp only); (try dsimp only); omega
            · (try dsimp only); omega
          have c139' := c139
          simp only [h2, h4, h6, h8, hel4, hel5, h135, h138] at c139
          have hst := (rowS_succ (g := A_g) (s := (sweepTo A_g back k)) (nb_get (by assumption))).trans (relax_f (by assumption) (by assumption) c139)
          refine wp_skip (hK108 _ _ ?_)
          refine wp_region_lit ?_
          refine q_is rfl rfl (does_move (u := (Iv (m : Int))) (ev rfl)) (by dsimp only [List.set]; try rfl) ?_
          refine q_is rfl rfl (does_iarith (p := (m : Int)) (q := 1) (r := (m : Int) + 1) (ev rfl) (ev rfl) (.inl ⟨rfl, (in_i64 (by omega) (by omega)).symm⟩)) (by dsimp only [List.set]; try rfl) ?_
          refine q_is rfl rfl (does_assign (u := (Iv ((m : Int) + 1))) (ev rfl)) (by dsimp only [List.set]; try rfl) ?_
          refine wpList_nil ?_
          have hR146 := RowF.cast (ys := ((fun (m : Nat) => (rowS A_g (k : Int) (sweepTo A_g back k) m).1) (m + 1))) ((hR104.ext E111).ext E130) (by (try dsimp only); rw [hst]; (try simp only [h2, h4, h6, h8, hel4, hel5, h135, h138]))
          refine ⟨m + 1, ⟨fun t => (([(Pt g_b g_o), (Bo back), Ud, Ud, (Bo false), (Bo ((rowS A_g (k : Int) (sweepTo A_g back k) m).2)), (Iv (A_g.vals.length : Int)), (Iv (k : Int)), (Iv (k : Int)), (.slice p96 ((nb (GridT.mk A_g.low A_g.step A_g.x A_g.y A_g.z ((sweepTo A_g back k).1)) (k : Int)).length) q97), (Iv ((m : Int) + 1)), (Fl r134), (Pt g_b g_o), (Pt g_b g_o), (Pt g_b (g_o + 7)), (.slice (some ⟨g_g, 0, none⟩) A_g.vals.length g_c), (Iv (A_g.vals.length : Int)), (Iv (k : Int)), (Iv (A_g.vals.length : Int)), (Bo (icmp .lss (k : Int) (A_g.vals.length : Int))), (u16 20), (u16 21), (Iv (k : Int)), (Bo back), (u16 24), (u16 25), (u16 26), (u16 27), (Pt g_b g_o), (Iv (k : Int)), (.slice p96 ((nb (GridT.mk A_g.low A_g.step A_g.x A_g.y A_g.z ((sweepTo A_g back k).1)) (k : Int)).length) q97), (Iv (m : Int)), (.slice p96 ((nb (GridT.mk A_g.low A_g.step A_g.x A_g.y A_g.z ((sweepTo A_g back k).1)) (k : Int)).length) q97), (Iv (((nb (GridT.mk A_g.low A_g.step A_g.x A_g.y A_g.z ((sweepTo A_g back k).1)) (k : Int)).length) : Int)), (Bo (icmp .lss (m : Int) (((nb (GridT.mk A_g.low A_g.step A_g.x A_g.y A_g.z ((sweepTo A_g back k).1)) (k : Int)).length) : Int))), (Iv (m : Int)), (Iv ((m : Int) + 1)), v114, v115, v116, v117, v118, v119, v120, v121, v122, v123, v124, v125, v126, v127, (Fl r134), (Fl r134), (Pt g_b g_o), (Pt g_b g_o), (Pt g_b (g_o + 7)), (.slice (some ⟨g_g, 0, none⟩) A_g.vals.length g_c), (Iv (k : Int)), (Pt g_g (((k : Int).toNat) * 1)), (Fl r137), (Bo (fcmp .lss (ford .f32 (cf .f32 r134) (cf .f32 r137)))), (u99 61), (u99 62), (u99 63), (u99 64), (u99 65), (u99 66), (u99 67), Ud] : List Value)[t]?).getD undef, ?_, (KpL.ext (KpL.ext E101 E111) E130), hR146, ?_⟩, ?_⟩
          · first | rfl | (rw [hst]; rfl) | (simp only [hst, Nat.cast_add, Nat.cast_one, Int.natCast_add, Int.natCast_one]; rfl)
          · (try dsimp only); (try dsimp only); omega
          · (try dsimp only); omega
        have c107' := c107
        (try simp only [icmp, Bool.and_eq_true, Bool.or_eq_true, Bool.and_eq_false_iff, Bool.or_eq_false_iff, Bool.not_eq_true', Bool.not_eq_false', decide_eq_true_eq, decide_eq_false_iff_not, beq_iff_eq, bne_iff_ne, beq_eq_false_iff_ne, bne_eq_false_iff_eq] at c107')
        have hsw := sweepTo_step (g := A_g) (back := back) (k := k) (m := m) (i := (k : Int)) (by first | exact swI_t (by assumption) | exact swI_f (by assumption) | exact swI_t (hbk.trans (by assumption)) | exact swI_f (hbk.trans (by assumption))) (by omega) (by omega)
        refine wp_exit ?_
        refine hK25 _ _ ?_
        refine wp_region_lit ?_
        refine q_is rfl rfl (does_move (u := (Iv (k : Int))) (ev rfl)) (by dsimp only [List.set]; try rfl) ?_
        refine q_is rfl rfl (does_iarith (p := (k : Int)) (q := 1) (r := (k : Int) + 1) (ev rfl) (ev rfl) (.inl ⟨rfl, (in_i64 (by omega) (by omega)).symm⟩)) (by dsimp only [List.set]; try rfl) ?_
        refine q_is rfl rfl (does_assign (u := (Iv ((k : Int) + 1))) (ev rfl)) (by dsimp only [List.set]; try rfl) ?_
        refine wpList_nil ?_
        have hR147 := RowF.cast (ys := ((fun (k : Nat) => (sweepTo A_g back k).1) (k + 1))) hR104 (by (try dsimp only); rw [hsw])
        refine ⟨k + 1, ⟨fun t => (([(Pt g_b g_o), (Bo back), Ud, Ud, (Bo false), (Bo ((rowS A_g (k : Int) (sweepTo A_g back k) m).2)), (Iv (A_g.vals.length : Int)), (Iv ((k : Int) + 1)), (Iv (k : Int)), (.slice p96 ((nb (GridT.mk A_g.low A_g.step A_g.x A_g.y A_g.z ((sweepTo A_g back k).1)) (k : Int)).length) q97), (Iv (m : Int)), (u99 11), (Pt g_b g_o), (Pt g_b g_o), (Pt g_b (g_o + 7)), (.slice (some ⟨g_g, 0, none⟩) A_g.vals.length g_c), (Iv (A_g.vals.length : Int)), (Iv (k : Int)), (Iv (A_g.vals.length : Int)), (Bo (icmp .lss (k : Int) (A_g.vals.length : Int))), (Iv (k : Int)), (Iv ((k : Int) + 1)), (Iv (k : Int)), (Bo back), (u16 24), (u16 25), (u16 26), (u16 27), (Pt g_b g_o), (Iv (k : Int)), (.slice p96 ((nb (GridT.mk A_g.low A_g.step A_g.x A_g.y A_g.z ((sweepTo A_g back k).1)) (k : Int)).length) q97), (Iv (m : Int)), (.slice p96 ((nb (GridT.mk A_g.low A_g.step A_g.x A_g.y A_g.z ((sweepTo A_g back k).1)) (k : Int)).length) q97), (Iv (((nb (GridT.mk A_g.low A_g.step A_g.x A_g.y A_g.z ((sweepTo A_g back k).1)) (k : Int)).length) : Int)), (Bo (icmp .lss (m : Int) (((nb (GridT.mk A_g.low A_g.step A_g.x A_g.y A_g.z ((sweepTo A_g back k).1)) (k : Int)).length) : Int))), (u99 35), (u99 36), (u99 37), (u99 38), (u99 39), (u99 40), (u99 41), (u99 42), (u99 43), (u99 44), (u99 45), (u99 46), (u99 47), (u99 48), (u99 49), (u99 50), (u99 51), (u99 52), (u99 53), (u99 54), (u99 55), (u99 56), (u99 57), (u99 58), (u99 59), (u99 60), (u99 61), (u99 62), (u99 63), (u99 64), (u99 65), (u99 66), (u99 67), Ud] : List Value)[t]?).getD undef, ?_, (KpL.more (KpL.ext E18 E90) E101 (allS (.inl (by simp)) all0)), hR147, ?_⟩, ?_⟩
        · first | rfl | (rw [hsw]; rfl) | (simp only [hsw, Nat.cast_add, Nat.cast_one, Int.natCast_add, Int.natCast_one]; rfl)
        · omega
        · omega
    have c24' := c24
    (try simp only [icmp, Bool.and_eq_true, Bool.or_eq_true, Bool.and_eq_false_iff, Bool.or_eq_false_iff, Bool.not_eq_true', Bool.not_eq_false', decide_eq_true_eq, decide_eq_false_iff_not, beq_iff_eq, bne_iff_ne, beq_eq_false_iff_ne, bne_eq_false_iff_eq] at c24')
    refine wp_exit ?_
    refine hK14 _ _ ?_
    refine wp_seq_k fun K148 hK148 => ?_
    refine wp_region_lit ?_
    refine q_is rfl rfl (does_move (u := (Bo ((sweepTo A_g back k).2))) (ev rfl)) (by dsimp only [List.set]; try rfl) ?_
    refine q_is rfl rfl (does_assign (u := (Bo ((sweepTo A_g back k).2))) (ev rfl)) (by dsimp only [List.set]; try rfl) ?_
    refine wpList_nil (hK148 _ _ ?_)
    refine wp_ret ?_
    refine ret_valK (v := (Bo ((sweepTo A_g back k).2))) (res_T rfl (slot rfl)) X20 ?_
    exact ⟨(congrArg Value.bool (show ((sweepTo A_g back k).2) = ((sweepG A_g back).2) by first | rfl | (rw [show k = A_g.vals.length by omega]; rfl) | (rw [show k = A_g.vals.length by omega, ← hbk]; rfl)) : _), RowF.cast hR21 (by first | rfl | (rw [show k = A_g.vals.length by omega]; rfl) | (rw [show k = A_g.vals.length by omega, ← hbk]; rfl))⟩

/- (*impl.Grid).counts -/
theorem c_impl_Grid_counts (g_b : Nat) (g_o : Nat) (g : List Value) (A_g : GridT) (w : World) (hc_g : Cells w g_b g_o g) (hv_g : RGridT w A_g g) : Gives Try.prog 39 #[(Pt g_b g_o)] w (fun v w' => v = (.agg #[(Iv A_g.x), (Iv A_g.y), (Iv A_g.z)])) := by
  obtain ⟨r1, r3, r5, r7, y9, rfl, h2, h4, h6, h8, h10⟩ := hv_g
  have hs13 := h10; have hs13l := Sl.len h10; obtain ⟨p11, q12, rfl⟩ := Sl.shape h10
  refine enter [(Pt g_b g_o), Ud, Ud, Ud, Ud, Ud, Ud, Ud, Ud, Ud, Ud, Ud, Ud, Ud, Ud, Ud] Try.func39 rfl Try.ntmps39 rfl ?_
  refine wp_seq_k fun K14 hK14 => ?_
  refine wp_region_lit ?_
  refine seqd rfl rfl (does_alloc z55) ?_; rintro _ w19 ⟨b15, rfl, hb16, hB17, E18⟩
  have n20 : g_b < b15 := Nat.lt_of_lt_of_le (cell_lt (Cells.at hc_g 0 rfl)) hb16
  have g21 : w.heap.size ≤ b15 := Nat.le_trans (Below.size (Ext.refl w)) hb16
  change Blk _ _ [(Iv 0), (Iv 0), (Iv 0)] at hB17
  have X22 := Ext.gr (Ext.refl w) E18
  show wpList _ _ _ _ (fr [(Pt g_b g_o), Ud, (Pt b15 0), Ud, Ud, Ud, Ud, Ud, Ud, Ud, Ud, Ud, Ud, Ud, Ud, Ud]) _
  refine wpList_nil (hK14 _ _ ?_)
  refine wp_seq_k fun K23 hK23 => ?_
  refine region_draw (
    [Fact.pure [] (fun v => v = (Pt g_b g_o)),
    Fact.pure [3] (fun v => v = (Pt g_b g_o)),
    Fact.pure [4] (fun v => v = (Pt g_b (g_o + 4))),
    Fact.pure [5] (fun v => v = (Iv A_g.x)),
    Fact.pure [] (fun v => v = (Pt g_b g_o)),
    Fact.pure [7] (fun v => v = (Pt g_b g_o)),
    Fact.pure [8] (fun v => v = (Pt g_b (g_o + 5))),
    Fact.pure [9] (fun v => v = (Iv A_g.y)),
    Fact.pure [] (fun v => v = (Pt g_b g_o)),
    Fact.pure [11] (fun v => v = (Pt g_b g_o)),
    Fact.pure [12] (fun v => v = (Pt g_b (g_o + 6))),
    Fact.pure [13] (fun v => v = (Iv A_g.z)),
    Fact.pure [6, 10, 14] (fun v => v = (.agg #[(Iv A_g.x), (Iv A_g.y), (Iv A_g.z)]))]) mixed (by kernel_rfl) (by intro _ _ d _ _ h; cases d <;> exact h) ?_
  obtain ⟨w24, hw26⟩ : ∃ w', w' = World.drew w19 := ⟨_, rfl⟩; rw [← hw26]; have E25 : Ext w19 w24 := by rw [hw26]; exact Ext.draw _
  clear hw26
  have X27 := Ext.gr X22 E25
  refine RW_d (fun v28 => [(Pt g_b g_o), Ud, (Pt b15 0), v28, Ud, Ud, Ud, Ud, Ud, Ud, Ud, Ud, Ud, Ud, Ud, Ud]) rfl (fun _ => rfl) (fun u hu hF => ?_) (fun v28 => ?_)
  · clear hF
    refine doesG_un rfl ?_
    refine (does_move (u := (Pt g_b g_o)) (ev rfl)).mono ?_; rintro _ _ ⟨rfl, rfl⟩
    exact ⟨rfl, Ext.refl _⟩
  refine RW_d (fun v29 => [(Pt g_b g_o), Ud, (Pt b15 0), v28, v29, Ud, Ud, Ud, Ud, Ud, Ud, Ud, Ud, Ud, Ud, Ud]) rfl (fun _ => rfl) (fun u hu hF => ?_) (fun v29 => ?_)
  · have h3_ : v28 = (Pt g_b g_o) := hF.1
    clear hF
    refine doesG_un rfl ?_
    obtain rfl := h3_
    refine (does_nilCheck (ev rfl)).mono ?_; rintro _ _ ⟨rfl, rfl⟩
    exact ⟨rfl, Ext.refl _⟩
  refine RW_d (fun v30 => [(Pt g_b g_o), Ud, (Pt b15 0), v28, v29, v30, Ud, Ud, Ud, Ud, Ud, Ud, Ud, Ud, Ud, Ud]) rfl (fun _ => rfl) (fun u hu hF => ?_) (fun v30 => ?_)
  · have h4_ : v29 = (Pt g_b g_o) := hF.1
    clear hF
    refine doesG_un rfl ?_
    obtain rfl := h4_
    refine (does_fieldAddr (ev rfl) fa31_2).mono ?_; rintro _ _ ⟨rfl, rfl⟩
    exact ⟨rfl, Ext.refl _⟩
  refine RW_d (fun v31 => [(Pt g_b g_o), Ud, (Pt b15 0), v28, v29, v30, v31, Ud, Ud, Ud, Ud, Ud, Ud, Ud, Ud, Ud]) rfl (fun _ => rfl) (fun u hu hF => ?_) (fun v31 => ?_)
  · have h5_ : v30 = (Pt g_b (g_o + 4)) := hF.1
    clear hF
    refine doesG_un rfl ?_
    obtain rfl := h5_
    refine (does_load (u := (Iv A_g.x)) (ev rfl) Try.isAgg2 (Cells.at ((hc_g.ext (Ext.gr X22 E25)).ext hu) 4 rfl)).mono ?_; rintro _ _ ⟨rfl, rfl⟩
    exact ⟨rfl, Ext.refl _⟩
  refine RW_d (fun v32 => [(Pt g_b g_o), Ud, (Pt b15 0), v28, v29, v30, v31, v32, Ud, Ud, Ud, Ud, Ud, Ud, Ud, Ud]) rfl (fun _ => rfl) (fun u hu hF => ?_) (fun v32 => ?_)
  · clear hF
    refine doesG_un rfl ?_
    refine (does_move (u := (Pt g_b g_o)) (ev rfl)).mono ?_; rintro _ _ ⟨rfl, rfl⟩
    exact ⟨rfl, Ext.refl _⟩
  refine RW_d (fun v33 => [(Pt g_b g_o), Ud, (Pt b15 0), v28, v29, v30, v31, v32, v33, Ud, Ud, Ud, Ud, Ud, Ud, Ud]) rfl (fun _ => rfl) (fun u hu hF => ?_) (fun v33 => ?_)
  · have h7_ : v32 = (Pt g_b g_o) := hF.1
    clear hF
    refine doesG_un rfl ?_
    obtain rfl := h7_
    refine (does_nilCheck (ev rfl)).mono ?_; rintro _ _ ⟨rfl, rfl⟩
    exact ⟨rfl, Ext.refl _⟩
  refine RW_d (fun v34 => [(Pt g_b g_o), Ud, (Pt b15 0), v28, v29, v30, v31, v32, v33, v34, Ud, Ud, Ud, Ud, Ud, Ud]) rfl (fun _ => rfl) (fun u hu hF => ?_) (fun v34 => ?_)
  · have h8_ : v33 = (Pt g_b g_o) := hF.1
    clear hF
    refine doesG_un rfl ?_
    obtain rfl := h8_
    refine (does_fieldAddr (ev rfl) fa31_3).mono ?_; rintro _ _ ⟨rfl, rfl⟩
    exact ⟨rfl, Ext.refl _⟩
  refine RW_d (fun v35 => [(Pt g_b g_o), Ud, (Pt b15 0), v28, v29, v30, v31, v32, v33, v34, v35, Ud, Ud, Ud, Ud, Ud]) rfl (fun _ => rfl) (fun u hu hF => ?_) (fun v35 => ?_)
  · have h9_ : v34 = (Pt g_b (g_o + 5)) := hF.1
    clear hF
    refine doesG_un rfl ?_
    obtain rfl := h9_
    refine (does_load (u := (Iv A_g.y)) (ev rfl) Try.isAgg2 (Cells.at ((hc_g.ext (Ext.gr X22 E25)).ext hu) 5 rfl)).mono ?_; rintro _ _ ⟨rfl, rfl⟩
    exact ⟨rfl, Ext.refl _⟩
  refine RW_d (fun v36 => [(Pt g_b g_o), Ud, (Pt b15 0), v28, v29, v30, v31, v32, v33, v34, v35, v36, Ud, Ud, Ud, Ud]) rfl (fun _ => rfl) (fun u hu hF => ?_) (fun v36 => ?_)
  · clear hF
    refine doesG_un rfl ?_
    refine (does_move (u := (Pt g_b g_o)) (ev rfl)).mono ?_; rintro _ _ ⟨rfl, rfl⟩
    exact ⟨rfl, Ext.refl _⟩
  refine RW_d (fun v37 => [(Pt g_b g_o), Ud, (Pt b15 0), v28, v29, v30, v31, v32, v33, v34, v35, v36, v37, Ud, Ud, Ud]) rfl (fun _ => rfl) (fun u hu hF => ?_) (fun v37 => ?_)
  · have h11_ : v36 = (Pt g_b g_o) := hF.1
    clear hF
    refine doesG_un rfl ?_
    obtain rfl := h11_
    refine (does_nilCheck (ev rfl)).mono ?_; rintro _ _ ⟨rfl, rfl⟩
    exact ⟨rfl, Ext.refl _⟩
  refine RW_d (fun v38 => [(Pt g_b g_o), Ud, (Pt b15 0), v28, v29, v30, v31, v32, v33, v34, v35, v36, v37, v38, Ud, Ud]) rfl (fun _ => rfl) (fun u hu hF => ?_) (fun v38 => ?_)
  · have h12_ : v37 = (Pt g_b g_o) := hF.1
    clear hF
    refine doesG_un rfl ?_
    obtain rfl := h12_
    refine (does_fieldAddr (ev rfl) fa31_4).mono ?_; rintro _ _ ⟨rfl, rfl⟩
    exact ⟨rfl, Ext.refl _⟩
  refine RW_d (fun v39 => [(Pt g_b g_o), Ud, (Pt b15 0), v28, v29, v30, v31, v32, v33, v34, v35, v36, v37, v38, v39, Ud]) rfl (fun _ => rfl) (fun u hu hF => ?_) (fun v39 => ?_)
  · have h13_ : v38 = (Pt g_b (g_o + 6)) := hF.1
    clear hF
    refine doesG_un rfl ?_
    obtain rfl := h13_
    refine (does_load (u := (Iv A_g.z)) (ev rfl) Try.isAgg2 (Cells.at ((hc_g.ext (Ext.gr X22 E25)).ext hu) 6 rfl)).mono ?_; rintro _ _ ⟨rfl, rfl⟩
    exact ⟨rfl, Ext.refl _⟩
  refine RW_d (fun v40 => [(Pt g_b g_o), Ud, (Pt b15 0), v28, v29, v30, v31, v32, v33, v34, v35, v36, v37, v38, v39, v40]) rfl (fun _ => rfl) (fun u hu hF => ?_) (fun v40 => ?_)
  · have h6_ : v31 = (Iv A_g.x) := hF.1
    have h10_ : v35 = (Iv A_g.y) := hF.2.1
    have h14_ : v39 = (Iv A_g.z) := hF.2.2.1
    clear hF
    refine doesG_un rfl ?_
    obtain rfl := h6_
    obtain rfl := h10_
    obtain rfl := h14_
    refine (does_build (parts' := [(0, (Iv A_g.x)), (1, (Iv A_g.y)), (2, (Iv A_g.z))]) (cells := #[(Iv A_g.x), (Iv A_g.y), (Iv A_g.z)]) (evp rfl) (by kernel_rfl)).mono ?_; rintro _ _ ⟨rfl, rfl⟩
    exact ⟨rfl, Ext.refl _⟩
  refine RW_fin ?_; intro w41 E42 hP43
  obtain ⟨⟨⟨⟨⟨⟨⟨⟨⟨⟨⟨⟨⟨-, -⟩, -⟩, -⟩, -⟩, -⟩, -⟩, -⟩, -⟩, -⟩, -⟩, -⟩, -⟩, q44⟩ := hP43
  have X45 := Ext.gr X27 E42
  have q44 : v40 = (.agg #[(Iv A_g.x), (Iv A_g.y), (Iv A_g.z)]) := q44
  obtain rfl := q44
  show wpList _ _ _ _ (fr [(Pt g_b g_o), Ud, (Pt b15 0), v28, v29, v30, v31, v32, v33, v34, v35, v36, v37, v38, v39, (.agg #[(Iv A_g.x), (Iv A_g.y), (Iv A_g.z)])]) _
  refine seqn rfl rfl (does_store (n := 3) (cs := [(Iv 0), (Iv 0), (Iv 0)]) (u := (.agg #[(Iv A_g.x), (Iv A_g.y), (Iv A_g.z)])) (ev rfl) (ev rfl) Try.sizeOf55 rfl ((hB17.ext E25).ext E42) (Nat.le_of_ble_eq_true rfl) rfl) ?_; rintro _ w48 ⟨rfl, W46, hB47⟩
  change Blk _ _ [(Iv A_g.x), (Iv A_g.y), (Iv A_g.z)] at hB47
  have X49 := Below.wr X45 W46 g21
  refine wpList_nil (hK23 _ _ ?_)
  refine wp_ret ?_
  refine ret_val (v := (.agg #[(Iv A_g.x), (Iv A_g.y), (Iv A_g.z)])) (res_C rfl (slot rfl) (run_loadAgg (cs := [(Iv A_g.x), (Iv A_g.y), (Iv A_g.z)]) Try.isAgg55 Try.sizeOf55 (Blk.cells hB47) rfl)) X49 ?_
  have x50 : (A_g.x : Int) = A_g.x := by first | with_reducible rfl | (simp only [h2, h4, h6, h8]; done) | (simp [h2, h4, h6, h8]; done) | rfl
  have x51 : (A_g.y : Int) = A_g.y := by first | with_reducible rfl | (simp only [h2, h4, h6, h8]; done) | (simp [h2, h4, h6, h8]; done) | rfl
  have x52 : (A_g.z : Int) = A_g.z := by first | with_reducible rfl | (simp only [h2, h4, h6, h8]; done) | (simp [h2, h4, h6, h8]; done) | rfl
  exact (by first | rfl | rw [x50, x51, x52] | rw [x52, x51, x50])

/- (*impl.Grid).place -/
theorem c_impl_Grid_place (g_b : Nat) (g_o : Nat) (g : List Value) (A_g : GridT) (ix : Int) (w : World) (hc_g : Cells w g_b g_o g) (hv_g : RGridT w A_g g) (hpx : 1 ≤ A_g.x) (hpy : 1 ≤ A_g.y) (hpi : 0 ≤ ix ∧ ix ≤ 9223372036854775807) : Gives Try.prog 53 #[(Pt g_b g_o), (Iv ix)] w (fun v w' => v = (.agg #[(Iv (ix % A_g.x)), (Iv (ix / A_g.x % A_g.y)), (Iv (ix / A_g.x / A_g.y))])) := by
  obtain ⟨r1, r3, r5, r7, y9, rfl, h2, h4, h6, h8, h10⟩ := hv_g
  have hs13 := h10; have hs13l := Sl.len h10; obtain ⟨p11, q12, rfl⟩ := Sl.shape h10
  have hq1 := Int.ediv_nonneg hpi.1 (show 0 ≤ A_g.x by omega)
  have hq2 := Int.ediv_le_self A_g.x hpi.1
  refine enter [(Pt g_b g_o), (Iv ix), Ud, Ud, Ud, Ud, Ud, Ud, Ud, Ud, Ud, Ud, Ud, Ud, Ud, Ud, Ud, Ud, Ud, Ud, Ud, Ud, Ud, Ud, Ud, Ud, Ud, Ud, Ud, Ud, Ud, Ud, Ud, Ud] Try.func53 rfl Try.ntmps53 rfl ?_
  refine wp_seq_k fun K14 hK14 => ?_
  refine wp_region_lit ?_
  refine seqd rfl rfl (does_alloc z55) ?_; rintro _ w19 ⟨b15, rfl, hb16, hB17, E18⟩
  have n20 : g_b < b15 := Nat.lt_of_lt_of_le (cell_lt (Cells.at hc_g 0 rfl)) hb16
  have g21 : w.heap.size ≤ b15 := Nat.le_trans (Below.size (Ext.refl w)) hb16
  change Blk _ _ [(Iv 0), (Iv 0), (Iv 0)] at hB17
  have X22 := Ext.gr (Ext.refl w) E18
  show wpList _ _ _ _ (fr [_, _, _, _, _, _, _, _, _, _, _, _, _, _, _, _, _, _, _, _, _, _, _, _, _, _, _, _, _, _, _, _, _, _]) _
  refine wpList_nil (hK14 _ _ ?_)
  refine wp_seq_k fun K23 hK23 => ?_
  refine region_draw (
    [Fact.pure [] (fun v => v = (Iv ix)),
    Fact.pure [] (fun v => v = (Pt g_b g_o)),
    Fact.pure [6] (fun v => v = (Pt g_b g_o)),
    Fact.pure [7] (fun v => v = (Pt g_b (g_o + 4))),
    Fact.pure [8] (fun v => v = (Iv A_g.x)),
    Fact.pure [5, 9] (fun v => v = (Iv (ix % A_g.x))),
    Fact.pure [] (fun v => v = (Iv ix)),
    Fact.pure [] (fun v => v = (Pt g_b g_o)),
    Fact.pure [12] (fun v => v = (Pt g_b g_o)),
    Fact.pure [13] (fun v => v = (Pt g_b (g_o + 4))),
    Fact.pure [14] (fun v => v = (Iv A_g.x)),
    Fact.pure [11, 15] (fun v => v = (Iv (ix / A_g.x))),
    Fact.pure [] (fun v => v = (Pt g_b g_o)),
    Fact.pure [17] (fun v => v = (Pt g_b g_o)),
    Fact.pure [18] (fun v => v = (Pt g_b (g_o + 5))),
    Fact.pure [19] (fun v => v = (Iv A_g.y)),
    Fact.pure [16, 20] (fun v => v = (Iv ((ix / A_g.x) % A_g.y))),
    Fact.pure [] (fun v => v = (Iv ix)),
    Fact.pure [] (fun v => v = (Pt g_b g_o)),
    Fact.pure [23] (fun v => v = (Pt g_b g_o)),
    Fact.pure [24] (fun v => v = (Pt g_b (g_o + 4))),
    Fact.pure [25] (fun v => v = (Iv A_g.x)),
    Fact.pure [22, 26] (fun v => v = (Iv (ix / A_g.x))),
    Fact.pure [] (fun v => v = (Pt g_b g_o)),
    Fact.pure [28] (fun v => v = (Pt g_b g_o)),
    Fact.pure [29] (fun v => v = (Pt g_b (g_o + 5))),
    Fact.pure [30] (fun v => v = (Iv A_g.y)),
    Fact.pure [27, 31] (fun v => v = (Iv ((ix / A_g.x) / A_g.y))),
    Fact.pure [10, 21, 32] (fun v => v = (.agg #[(Iv (ix % A_g.x)), (Iv ((ix / A_g.x) % A_g.y)), (Iv ((ix / A_g.x) / A_g.y))]))]) mixed (by kernel_rfl) (by intro _ _ d _ _ h; cases d <;> exact h) ?_
  obtain ⟨w24, hw26⟩ : ∃ w', w' = World.drew w19 := ⟨_, rfl⟩; rw [← hw26]; have E25 : Ext w19 w24 := by rw [hw26]; exact Ext.draw _
  clear hw26
  have X27 := Ext.gr X22 E25
  refine RW_d _ rfl (fun v => by dsimp only [List.set]; try rfl) (fun u hu hF => ?_) (fun v28 => ?_)
  · clear hF
    refine doesG_un rfl ?_
    refine (does_move (u := (Iv ix)) (ev rfl)).mono ?_; rintro _ _ ⟨rfl, rfl⟩
    exact ⟨rfl, Ext.refl _⟩
  refine RW_d _ rfl (fun v => by dsimp only [List.set]; try rfl) (fun u hu hF => ?_) (fun v29 => ?_)
  · clear hF
    refine doesG_un rfl ?_
    refine (does_move (u := (Pt g_b g_o)) (ev rfl)).mono ?_; rintro _ _ ⟨rfl, rfl⟩
    exact ⟨rfl, Ext.refl _⟩
  refine RW_d _ rfl (fun v => by dsimp only [List.set]; try rfl) (fun u hu hF => ?_) (fun v30 => ?_)
  · have h6_ : v29 = (Pt g_b g_o) := hF.1
    clear hF
    refine doesG_un rfl ?_
    obtain rfl := h6_
    refine (does_nilCheck (ev rfl)).mono ?_; rintro _ _ ⟨rfl, rfl⟩
    exact ⟨rfl, Ext.refl _⟩
  refine RW_d _ rfl (fun v => by dsimp only [List.set]; try rfl) (fun u hu hF => ?_) (fun v31 => ?_)
  · have h7_ : v30 = (Pt g_b g_o) := hF.1
    clear hF
    refine doesG_un rfl ?_
    obtain rfl := h7_
    refine (does_fieldAddr (ev rfl) fa31_2).mono ?_; rintro _ _ ⟨rfl, rfl⟩
    exact ⟨rfl, Ext.refl _⟩
  refine RW_d _ rfl (fun v => by dsimp only [List.set]; try rfl) (fun u hu hF => ?_) (fun v32 => ?_)
  · have h8_ : v31 = (Pt g_b (g_o + 4)) := hF.1
    clear hF
    refine doesG_un rfl ?_
    obtain rfl := h8_
    refine (does_load (u := (Iv A_g.x)) (ev rfl) Try.isAgg2 (Cells.at ((hc_g.ext (Ext.gr X22 E25)).ext hu) 4 rfl)).mono ?_; rintro _ _ ⟨rfl, rfl⟩
    exact ⟨rfl, Ext.refl _⟩
  refine RW_d _ rfl (fun v => by dsimp only [List.set]; try rfl) (fun u hu hF => ?_) (fun v33 => ?_)
  · have h5_ : v28 = (Iv ix) := hF.1
    have h9_ : v32 = (Iv A_g.x) := hF.2.1
    clear hF
    refine doesG_un rfl ?_
    obtain rfl := h5_
    obtain rfl := h9_
    refine (does_irem (p := ix) (q := A_g.x) (ev rfl) (ev rfl) (by first | omega | assumption) (by first | omega | assumption) (by first | omega | assumption)).mono ?_; rintro _ _ ⟨rfl, rfl⟩
    exact ⟨rfl, Ext.refl _⟩
  refine RW_d _ rfl (fun v => by dsimp only [List.set]; try rfl) (fun u hu hF => ?_) (fun v34 => ?_)
  · clear hF
    refine doesG_un rfl ?_
    refine (does_move (u := (Iv ix)) (ev rfl)).mono ?_; rintro _ _ ⟨rfl, rfl⟩
    exact ⟨rfl, Ext.refl _⟩
  refine RW_d _ rfl (fun v => by dsimp only [List.set]; try rfl) (fun u hu hF => ?_) (fun v35 => ?_)
  · clear hF
    refine doesG_un rfl ?_
    refine (does_move (u := (Pt g_b g_o)) (ev rfl)).mono ?_; rintro _ _ ⟨rfl, rfl⟩
    exact ⟨rfl, Ext.refl _⟩
  refine RW_d _ rfl (fun v => by dsimp only [List.set]; try rfl) (fun u hu hF => ?_) (fun v36 => ?_)
  · have h12_ : v35 = (Pt g_b g_o) := hF.1
    clear hF
    refine doesG_un rfl ?_
    obtain rfl := h12_
    refine (does_nilCheck (ev rfl)).mono ?_; rintro _ _ ⟨rfl, rfl⟩
    exact ⟨rfl, Ext.refl _⟩
  refine RW_d _ rfl (fun v => by dsimp only [List.set]; try rfl) (fun u hu hF => ?_) (fun v37 => ?_)
  · have h13_ : v36 = (Pt g_b g_o) := hF.1
    clear hF
    refine doesG_un rfl ?_
    obtain rfl := h13_
    refine (does_fieldAddr (ev rfl) fa31_2).mono ?_; rintro _ _ ⟨rfl, rfl⟩
    exact ⟨rfl, Ext.refl _⟩
  refine RW_d _ rfl (fun v => by dsimp only [List.set]; try rfl) (fun u hu hF => ?_) (fun v38 => ?_)
  · have h14_ : v37 = (Pt g_b (g_o + 4)) := hF.1
    clear hF
    refine doesG_un rfl ?_
    obtain rfl := h14_
    refine (does_load (u := (Iv A_g.x)) (ev rfl) Try.isAgg2 (Cells.at ((hc_g.ext (Ext.gr X22 E25)).ext hu) 4 rfl)).mono ?_; rintro _ _ ⟨rfl, rfl⟩
    exact ⟨rfl, Ext.refl _⟩
  refine RW_d _ rfl (fun v => by dsimp only [List.set]; try rfl) (fun u hu hF => ?_) (fun v39 => ?_)
  · have h11_ : v34 = (Iv ix) := hF.1
    have h15_ : v38 = (Iv A_g.x) := hF.2.1
    clear hF
    refine doesG_un rfl ?_
    obtain rfl := h11_
    obtain rfl := h15_
    refine (does_iquo (p := ix) (q := A_g.x) (ev rfl) (ev rfl) (by first | omega | assumption) (by first | omega | assumption) (by first | omega | assumption)).mono ?_; rintro _ _ ⟨rfl, rfl⟩
    exact ⟨rfl, Ext.refl _⟩
  refine RW_d _ rfl (fun v => by dsimp only [List.set]; try rfl) (fun u hu hF => ?_) (fun v40 => ?_)
  · clear hF
    refine doesG_un rfl ?_
    refine (does_move (u := (Pt g_b g_o)) (ev rfl)).mono ?_; rintro _ _ ⟨rfl, rfl⟩
    exact ⟨rfl, Ext.refl _⟩
  refine RW_d _ rfl (fun v => by dsimp only [List.set]; try rfl) (fun u hu hF => ?_) (fun v41 => ?_)
  · have h17_ : v40 = (Pt g_b g_o) := hF.1
    clear hF
    refine doesG_un rfl ?_
    obtain rfl := h17_
    refine (does_nilCheck (ev rfl)).mono ?_; rintro _ _ ⟨rfl, rfl⟩
    exact ⟨rfl, Ext.refl _⟩
  refine RW_d _ rfl (fun v => by dsimp only [List.set]; try rfl) (fun u hu hF => ?_) (fun v42 => ?_)
  · have h18_ : v41 = (Pt g_b g_o) := hF.1
    clear hF
    refine doesG_un rfl ?_
    obtain rfl := h18_
    refine (does_fieldAddr (ev rfl) fa31_3).mono ?_; rintro _ _ ⟨rfl, rfl⟩
    exact ⟨rfl, Ext.refl _⟩
  refine RW_d _ rfl (fun v => by dsimp only [List.set]; try rfl) (fun u hu hF => ?_) (fun v43 => ?_)
  · have h19_ : v42 = (Pt g_b (g_o + 5)) := hF.1
    clear hF
    refine doesG_un rfl ?_
    obtain rfl := h19_
    refine (does_load (u := (Iv A_g.y)) (ev rfl) Try.isAgg2 (Cells.at ((hc_g.ext (Ext.gr X22 E25)).ext hu) 5 rfl)).mono ?_; rintro _ _ ⟨rfl, rfl⟩
    exact ⟨rfl, Ext.refl _⟩
  refine RW_d _ rfl (fun v => by dsimp only [List.set]; try rfl) (fun u hu hF => ?_) (fun v44 => ?_)
  · have h16_ : v39 = (Iv (ix / A_g.x)) := hF.1
    have h20_ : v43 = (Iv A_g.y) := hF.2.1
    clear hF
    refine doesG_un rfl ?_
    obtain rfl := h16_
    obtain rfl := h20_
    refine (does_irem (p := ix / A_g.x) (q := A_g.y) (ev rfl) (ev rfl) (by first | omega | assumption) (by first | omega | assumption) (by first | omega | assumption)).mono ?_; rintro _ _ ⟨rfl, rfl⟩
    exact ⟨rfl, Ext.refl _⟩
  refine RW_d _ rfl (fun v => by dsimp only [List.set]; try rfl) (fun u hu hF => ?_) (fun v45 => ?_)
  · clear hF
    refine doesG_un rfl ?_
    refine (does_move (u := (Iv ix)) (ev rfl)).mono ?_; rintro _ _ ⟨rfl, rfl⟩
    exact ⟨rfl, Ext.refl _⟩
  refine RW_d _ rfl (fun v => by dsimp only [List.set]; try rfl) (fun u hu hF => ?_) (fun v46 => ?_)
  · clear hF
    refine doesG_un rfl ?_
    refine (does_move (u := (Pt g_b g_o)) (ev rfl)).mono ?_; rintro _ _ ⟨rfl, rfl⟩
    exact ⟨rfl, Ext.refl _⟩
  refine RW_d _ rfl (fun v => by dsimp only [List.set]; try rfl) (fun u hu hF => ?_) (fun v47 => ?_)
  · have h23_ : v46 = (Pt g_b g_o) := hF.1
    clear hF
    refine doesG_un rfl ?_
    obtain rfl := h23_
    refine (does_nilCheck (ev rfl)).mono ?_; rintro _ _ ⟨rfl, rfl⟩
    exact ⟨rfl, Ext.refl _⟩
  refine RW_d _ rfl (fun v => by dsimp only [List.set]; try rfl) (fun u hu hF => ?_) (fun v48 => ?_)
  · have h24_ : v47 = (Pt g_b g_o) := hF.1
    clear hF
    refine doesG_un rfl ?_
    obtain rfl := h24_
    refine (does_fieldAddr (ev rfl) fa31_2).mono ?_; rintro _ _ ⟨rfl, rfl⟩
    exact ⟨rfl, Ext.refl _⟩
  refine RW_d _ rfl (fun v => by dsimp only [List.set]; try rfl) (fun u hu hF => ?_) (fun v49 => ?_)
  · have h25_ : v48 = (Pt g_b (g_o + 4)) := hF.1
    clear hF
    refine doesG_un rfl ?_
    obtain rfl := h25_
    refine (does_load (u := (Iv A_g.x)) (ev rfl) Try.isAgg2 (Cells.at ((hc_g.ext (Ext.gr X22 E25)).ext hu) 4 rfl)).mono ?_; rintro _ _ ⟨rfl, rfl⟩
    exact ⟨rfl, Ext.refl _⟩
  refine RW_d _ rfl (fun v => by dsimp only [List.set]; try rfl) (fun u hu hF => ?_) (fun v50 => ?_)
  · have h22_ : v45 = (Iv ix) := hF.1
    have h26_ : v49 = (Iv A_g.x) := hF.2.1
    clear hF
    refine doesG_un rfl ?_
    obtain rfl := h22_
    obtain rfl := h26_
    refine (does_iquo (p := ix) (q := A_g.x) (ev rfl) (ev rfl) (by first | omega | assumption) (by first | omega | assumption) (by first | omega | assumption)).mono ?_; rintro _ _ ⟨rfl, rfl⟩
    exact ⟨rfl, Ext.refl _⟩
  refine RW_d _ rfl (fun v => by dsimp only [List.set]; try rfl) (fun u hu hF => ?_) (fun v51 => ?_)
  · clear hF
    refine doesG_un rfl ?_
    refine (does_move (u := (Pt g_b g_o)) (ev rfl)).mono ?_; rintro _ _ ⟨rfl, rfl⟩
    exact ⟨rfl, Ext.refl _⟩
  refine RW_d _ rfl (fun v => by dsimp only [List.set]; try rfl) (fun u hu hF => ?_) (fun v52 => ?_)
  · have h28_ : v51 = (Pt g_b g_o) := hF.1
    clear hF
    refine doesG_un rfl ?_
    obtain rfl := h28_
    refine (does_nilCheck (ev rfl)).mono ?_; rintro _ _ ⟨rfl, rfl⟩
    exact ⟨rfl, Ext.refl _⟩
  refine RW_d _ rfl (fun v => by dsimp only [List.set]; try rfl) (fun u hu hF => ?_) (fun v53 => ?_)
  · have h29_ : v52 = (Pt g_b g_o) := hF.1
    clear hF
    refine doesG_un rfl ?_
    obtain rfl := h29_
    refine (does_fieldAddr (ev rfl) fa31_3).mono ?_; rintro _ _ ⟨rfl, rfl⟩
    exact ⟨rfl, Ext.refl _⟩
  refine RW_d _ rfl (fun v => by dsimp only [List.set]; try rfl) (fun u hu hF => ?_) (fun v54 => ?_)
  · have h30_ : v53 = (Pt g_b (g_o + 5)) := hF.1
    clear hF
    refine doesG_un rfl ?_
    obtain rfl := h30_
    refine (does_load (u := (Iv A_g.y)) (ev rfl) Try.isAgg2 (Cells.at ((hc_g.ext (Ext.gr X22 E25)).ext hu) 5 rfl)).mono ?_; rintro _ _ ⟨rfl, rfl⟩
    exact ⟨rfl, Ext.refl _⟩
  refine RW_d _ rfl (fun v => by dsimp only [List.set]; try rfl) (fun u hu hF => ?_) (fun v55 => ?_)
  · have h27_ : v50 = (Iv (ix / A_g.x)) := hF.1
    have h31_ : v54 = (Iv A_g.y) := hF.2.1
    clear hF
    refine doesG_un rfl ?_
    obtain rfl := h27_
    obtain rfl := h31_
    refine (does_iquo (p := ix / A_g.x) (q := A_g.y) (ev rfl) (ev rfl) (by first | omega | assumption) (by first | omega | assumption) (by first | omega | assumption)).mono ?_; rintro _ _ ⟨rfl, rfl⟩
    exact ⟨rfl, Ext.refl _⟩
  refine RW_d _ rfl (fun v => by dsimp only [List.set]; try rfl) (fun u hu hF => ?_) (fun v56 => ?_)
  · have h10_ : v33 = (Iv (ix % A_g.x)) := hF.1
    have h21_ : v44 = (Iv ((ix / A_g.x) % A_g.y)) := hF.2.1
    have h32_ : v55 = (Iv ((ix / A_g.x) / A_g.y)) := hF.2.2.1
    clear hF
    refine doesG_un rfl ?_
    obtain rfl := h10_
    obtain rfl := h21_
    obtain rfl := h32_
    refine (does_build (parts' := [(0, (Iv (ix % A_g.x))), (1, (Iv ((ix / A_g.x) % A_g.y))), (2, (Iv ((ix / A_g.x) / A_g.y)))]) (cells := #[(Iv (ix % A_g.x)), (Iv ((ix / A_g.x) % A_g.y)), (Iv ((ix / A_g.x) / A_g.y))]) (evp rfl) (by kernel_rfl)).mono ?_; rintro _ _ ⟨rfl, rfl⟩
    exact ⟨rfl, Ext.refl _⟩
  refine RW_fin ?_; intro w57 E58 hP59
  obtain ⟨⟨⟨⟨⟨⟨⟨⟨⟨⟨⟨⟨⟨⟨⟨⟨⟨⟨⟨⟨⟨⟨⟨⟨⟨⟨⟨⟨⟨-, -⟩, -⟩, -⟩, -⟩, -⟩, -⟩, -⟩, -⟩, -⟩, -⟩, -⟩, -⟩, -⟩, -⟩, -⟩, -⟩, -⟩, -⟩, -⟩, -⟩, -⟩, -⟩, -⟩, -⟩, -⟩, -⟩, -⟩, -⟩, q60⟩ := hP59
  have X61 := Ext.gr X27 E58
  have q60 : v56 = (.agg #[(Iv (ix % A_g.x)), (Iv ((ix / A_g.x) % A_g.y)), (Iv ((ix / A_g.x) / A_g.y))]) := q60
  obtain rfl := q60
  show wpList _ _ _ _ (fr [_, _, _, _, _, _, _, _, _, _, _, _, _, _, _, _, _, _, _, _, _, _, _, _, _, _, _, _, _, _, _, _, _, _]) _
  refine seqn rfl rfl (does_store (n := 3) (cs := [(Iv 0), (Iv 0), (Iv 0)]) (u := (.agg #[(Iv (ix % A_g.x)), (Iv ((ix / A_g.x) % A_g.y)), (Iv ((ix / A_g.x) / A_g.y))])) (ev rfl) (ev rfl) Try.sizeOf55 rfl ((hB17.ext E25).ext E58) (Nat.le_of_ble_eq_true rfl) rfl) ?_; rintro _ w64 ⟨rfl, W62, hB63⟩
  change Blk _ _ [(Iv (ix % A_g.x)), (Iv ((ix / A_g.x) % A_g.y)), (Iv ((ix / A_g.x) / A_g.y))] at hB63
  have X65 := Below.wr X61 W62 g21
  refine wpList_nil (hK23 _ _ ?_)
  refine wp_ret ?_
  refine ret_val (v := (.agg #[(Iv (ix % A_g.x)), (Iv ((ix / A_g.x) % A_g.y)), (Iv ((ix / A_g.x) / A_g.y))])) (res_C rfl (slot rfl) (run_loadAgg (cs := [(Iv (ix % A_g.x)), (Iv ((ix / A_g.x) % A_g.y)), (Iv ((ix / A_g.x) / A_g.y))]) Try.isAgg55 Try.sizeOf55 (Blk.cells hB63) rfl)) X65 ?_
  have x66 : (ix % A_g.x : Int) = (ix % A_g.x) := by first | with_reducible rfl | (simp only [h2, h4, h6, h8]; done) | (simp [h2, h4, h6, h8]; done) | rfl
  have x67 : (ix / A_g.x % A_g.y : Int) = ((ix / A_g.x) % A_g.y) := by first | with_reducible rfl | (simp only [h2, h4, h6, h8]; done) | (simp [h2, h4, h6, h8]; done) | rfl
  have x68 : (ix / A_g.x / A_g.y : Int) = ((ix / A_g.x) / A_g.y) := by first | with_reducible rfl | (simp only [h2, h4, h6, h8]; done) | (simp [h2, h4, h6, h8]; done) | rfl
  exact (by first | rfl | rw [x66, x67, x68] | rw [x68, x67, x66])

end Go.Proofs.Ytffmjlalacnfiaa
