/- contracts of functions, each walked once -/
import Derived.Test.YtffmjlalacnfiaaW
namespace Go.Proofs.Ytffmjlalacnfiaa
open Go Go.RowKit
set_option maxRecDepth 100000
set_option maxHeartbeats 3200000
set_option linter.unusedVariables false
set_option linter.unusedSimpArgs false

/- (*impl.Grid).neighbours -/
theorem c_impl_Grid_neighbours (g_b : Nat) (g_o : Nat) (g : List Value) (A_g : GridT) (ix : Int) (w : World) (hc_g : Cells w g_b g_o g) (hv_g : RGridT w A_g g) (hgr : isGrid A_g = true) (hix : 0 ≤ ix ∧ ix < A_g.vals.length) : Gives Try.prog 58 #[(Pt g_b g_o), (Iv ix)] w (fun v w' => ∃ y_1 : Value, v = y_1 ∧ Hang w.heap.size w' (fun u => Sl RI 1 u y_1 (nb A_g ix))) := by
  obtain ⟨r1, r3, r5, r7, y9, rfl, h2, h4, h6, h8, h10⟩ := hv_g
  have hs13 := h10; have hs13l := Sl.len h10; obtain ⟨p11, q12, rfl⟩ := Sl.shape h10
  obtain ⟨hnx, hny, hnz, hnxy, hni, hn1, hn2, hn3, hn4⟩ := nb_pre hgr hix
  refine enter [(Pt g_b g_o), (Iv ix), Ud, Ud, Ud, Ud, Ud, Ud, Ud, Ud, Ud, Ud, Ud, Ud, Ud, Ud, Ud, Ud, Ud, Ud, Ud, Ud, Ud, Ud, Ud, Ud, Ud, Ud, Ud, Ud, Ud, Ud, Ud, Ud, Ud, Ud, Ud, Ud, Ud, Ud, Ud, Ud, Ud, Ud, Ud, Ud, Ud, Ud, Ud, Ud, Ud, Ud, Ud, Ud, Ud, Ud, Ud, Ud, Ud, Ud, Ud, Ud, Ud, Ud, Ud, Ud, Ud, Ud] Try.func58 rfl Try.ntmps58 rfl ?_
  refine wp_seq_k fun K14 hK14 => ?_
  refine wp_region_lit ?_
  refine q_is rfl rfl (does_assign (u := (.slice none 0 0)) (ev rfl)) (by dsimp only [List.set]; try rfl) ?_
  refine wpList_nil (hK14 _ _ ?_)
  refine wp_seq_k fun K15 hK15 => ?_
  refine wp_region_lit ?_
  refine q_is rfl rfl (does_move (u := (Pt g_b g_o)) (ev rfl)) (by dsimp only [List.set]; try rfl) ?_
  refine q_is rfl rfl (does_move (u := (Iv ix)) (ev rfl)) (by dsimp only [List.set]; try rfl) ?_
  refine seqd rfl rfl (does_call (args := #[(Pt g_b g_o), (Iv ix)]) cal53 (evs rfl) (c_impl_Grid_place g_b g_o [(Fl r1), (Fl r3), (Fl r5), (Fl r7), (Iv A_g.x), (Iv A_g.y), (Iv A_g.z), (.slice p11 A_g.vals.length q12)] A_g ix _ hc_g ⟨r1, r3, r5, r7, (.slice p11 A_g.vals.length q12), rfl, h2, h4, h6, h8, hs13⟩ (by omega) (by omega) (by omega))) ?_; rintro _ w17 ⟨E16, rfl⟩
  have X18 := Ext.gr (Ext.refl w) E16
  show wpList _ _ _ _ (fr [_, _, _, _, _, _, _, _, _, _, _, _, _, _, _, _, _, _, _, _, _, _, _, _, _, _, _, _, _, _, _, _, _, _, _, _, _, _, _, _, _, _, _, _, _, _, _, _, _, _, _, _, _, _, _, _, _, _, _, _, _, _, _, _, _, _, _, _]) _
  refine q_is rfl rfl (does_move (u := (Pt g_b g_o)) (ev rfl)) (by dsimp only [List.set]; try rfl) ?_
  refine seqd rfl rfl (does_call (args := #[(Pt g_b g_o)]) cal39 (evs rfl) (c_impl_Grid_counts g_b g_o [(Fl r1), (Fl r3), (Fl r5), (Fl r7), (Iv A_g.x), (Iv A_g.y), (Iv A_g.z), (.slice p11 A_g.vals.length q12)] A_g _ (hc_g.ext X18) ⟨r1, r3, r5, r7, (.slice p11 A_g.vals.length q12), rfl, h2, h4, h6, h8, (Sl.ext hs13 RF.mono X18)⟩)) ?_; rintro _ w20 ⟨E19, rfl⟩
  have X21 := Ext.gr X18 E19
  show wpList _ _ _ _ (fr [_, _, _, _, _, _, _, _, _, _, _, _, _, _, _, _, _, _, _, _, _, _, _, _, _, _, _, _, _, _, _, _, _, _, _, _, _, _, _, _, _, _, _, _, _, _, _, _, _, _, _, _, _, _, _, _, _, _, _, _, _, _, _, _, _, _, _, _]) _
  have n28 : g_b < w20.heap.size := cell_lt (Cells.at (hc_g.ext X21) 0 rfl)
  refine seqd rfl rfl (does_slice0 (e := 2) (fun _ => by kernel_rfl)) ?_; rintro _ w27 ⟨b22, rfl, hb23, hl24, hO25, E26⟩
  have X29 := Ext.gr X21 E26
  have hO30 := hO25 _ RI 1
  have hH31 : Hang w20.heap.size w27 (fun u => Sl RI 1 u (.slice (some ⟨b22, 0, none⟩) 0 0) ([])) := Own.hang hO30 RI.flat (by decide) hb23 (Below.size E26)
  show wpList _ _ _ _ (fr [_, _, _, _, _, _, _, _, _, _, _, _, _, _, _, _, _, _, _, _, _, _, _, _, _, _, _, _, _, _, _, _, _, _, _, _, _, _, _, _, _, _, _, _, _, _, _, _, _, _, _, _, _, _, _, _, _, _, _, _, _, _, _, _, _, _, _, _]) _
  refine seqd rfl rfl (does_alloc z55) ?_; rintro _ w36 ⟨b32, rfl, hb33, hB34, E35⟩
  have n37 : g_b < b32 := Nat.lt_of_lt_of_le (cell_lt (Cells.at (hc_g.ext X29) 0 rfl)) hb33
  have g38 : w.heap.size ≤ b32 := Nat.le_trans (Below.size X29) hb33
  change Blk _ _ [(Iv 0), (Iv 0), (Iv 0)] at hB34
  have X39 := Ext.gr X29 E35
  show wpList _ _ _ _ (fr [_, _, _, _, _, _, _, _, _, _, _, _, _, _, _, _, _, _, _, _, _, _, _, _, _, _, _, _, _, _, _, _, _, _, _, _, _, _, _, _, _, _, _, _, _, _, _, _, _, _, _, _, _, _, _, _, _, _, _, _, _, _, _, _, _, _, _, _]) _
  refine seqd rfl rfl (does_alloc z55) ?_; rintro _ w44 ⟨b40, rfl, hb41, hB42, E43⟩
  have n45 : g_b < b40 := Nat.lt_of_lt_of_le (cell_lt (Cells.at (hc_g.ext X39) 0 rfl)) hb41
  have n46 : b32 < b40 := Nat.lt_of_lt_of_le (Blk.lt hB34) hb41
  have g47 : w.heap.size ≤ b40 := Nat.le_trans (Below.size X39) hb41
  change Blk _ _ [(Iv 0), (Iv 0), (Iv 0)] at hB42
  have X48 := Ext.gr X39 E43
  show wpList _ _ _ _ (fr [_, _, _, _, _, _, _, _, _, _, _, _, _, _, _, _, _, _, _, _, _, _, _, _, _, _, _, _, _, _, _, _, _, _, _, _, _, _, _, _, _, _, _, _, _, _, _, _, _, _, _, _, _, _, _, _, _, _, _, _, _, _, _, _, _, _, _, _]) _
  refine seqn rfl rfl (does_store (n := 3) (cs := [(Iv 0), (Iv 0), (Iv 0)]) (u := (.agg #[(Iv (ix % A_g.x)), (Iv (ix / A_g.x % A_g.y)), (Iv (ix / A_g.x / A_g.y))])) (ev rfl) (ev rfl) Try.sizeOf55 rfl (hB34.ext E43) (Nat.le_of_ble_eq_true rfl) rfl) ?_; rintro _ w51 ⟨rfl, W49, hB50⟩
  change Blk _ _ [(Iv (ix % A_g.x)), (Iv (ix / A_g.x % A_g.y)), (Iv (ix / A_g.x / A_g.y))] at hB50
  have X52 := Below.wr X48 W49 g38
  refine seqn rfl rfl (does_store (n := 3) (cs := [(Iv 0), (Iv 0), (Iv 0)]) (u := (.agg #[(Iv A_g.x), (Iv A_g.y), (Iv A_g.z)])) (ev rfl) (ev rfl) Try.sizeOf55 rfl (hB42.wr W49 (Nat.ne_of_gt n46)) (Nat.le_of_ble_eq_true rfl) rfl) ?_; rintro _ w55 ⟨rfl, W53, hB54⟩
  change Blk _ _ [(Iv A_g.x), (Iv A_g.y), (Iv A_g.z)] at hB54
  have X56 := Below.wr X52 W53 g47
  refine q_is rfl rfl (does_assign (u := (.slice (some ⟨b22, 0, none⟩) 0 0)) (ev rfl)) (by dsimp only [List.set]; try rfl) ?_
  refine wpList_nil (hK15 _ _ ?_)
  refine wp_seq_k fun K57 hK57 => ?_
  refine region_draw (
    [Fact.pure [] (fun v => v = (Pt g_b g_o)),
    Fact.pure [17] (fun v => v = (Pt g_b g_o)),
    Fact.pure [18] (fun v => v = (Pt g_b (g_o + 4))),
    Fact.pure [19] (fun v => v = (Iv A_g.x)),
    Fact.pure [] (fun v => v = (Pt g_b g_o)),
    Fact.pure [21] (fun v => v = (Pt g_b g_o)),
    Fact.pure [22] (fun v => v = (Pt g_b (g_o + 4))),
    Fact.pure [23] (fun v => v = (Iv A_g.x)),
    Fact.pure [] (fun v => v = (Pt g_b g_o)),
    Fact.pure [25] (fun v => v = (Pt g_b g_o)),
    Fact.pure [26] (fun v => v = (Pt g_b (g_o + 5))),
    Fact.pure [27] (fun v => v = (Iv A_g.y)),
    Fact.pure [24, 28] (fun v => v = (Iv (A_g.x * A_g.y))),
    Fact.pure [20, 29] (fun v => v = (.agg #[(Iv 1), (Iv A_g.x), (Iv (A_g.x * A_g.y))])),
    Fact.mem [] (fun v w' => ∃ b : Nat, v = .pointer (some ⟨b, 0, none⟩) ∧ w55.heap.size ≤ b ∧ Blk w' b [(Iv 0), (Iv 0), (Iv 0)]) (by rintro v w1 w2 hx ⟨b, rfl, hb, hB⟩; exact ⟨b, rfl, hb, (hB.ext hx)⟩)]) mixed (by kernel_rfl) (by intro _ _ d _ _ h; cases d <;> exact h) ?_
  obtain ⟨w58, hw60⟩ : ∃ w', w' = World.drew w55 := ⟨_, rfl⟩; rw [← hw60]; have E59 : Ext w55 w58 := by rw [hw60]; exact Ext.draw _
  clear hw60
  have X61 := Ext.gr X56 E59
  refine RW_d _ rfl (fun v => by dsimp only [List.set]; try rfl) (fun u hu hF => ?_) (fun v62 => ?_)
  · clear hF
    refine doesG_un rfl ?_
    refine (does_move (u := (Pt g_b g_o)) (ev rfl)).mono ?_; rintro _ _ ⟨rfl, rfl⟩
    exact ⟨rfl, Ext.refl _⟩
  refine RW_d _ rfl (fun v => by dsimp only [List.set]; try rfl) (fun u hu hF => ?_) (fun v63 => ?_)
  · have h17_ : v62 = (Pt g_b g_o) := hF.1
    clear hF
    refine doesG_un rfl ?_
    obtain rfl := h17_
    refine (does_nilCheck (ev rfl)).mono ?_; rintro _ _ ⟨rfl, rfl⟩
    exact ⟨rfl, Ext.refl _⟩
  refine RW_d _ rfl (fun v => by dsimp only [List.set]; try rfl) (fun u hu hF => ?_) (fun v64 => ?_)
  · have h18_ : v63 = (Pt g_b g_o) := hF.1
    clear hF
    refine doesG_un rfl ?_
    obtain rfl := h18_
    refine (does_fieldAddr (ev rfl) fa31_2).mono ?_; rintro _ _ ⟨rfl, rfl⟩
    exact ⟨rfl, Ext.refl _⟩
  refine RW_d _ rfl (fun v => by dsimp only [List.set]; try rfl) (fun u hu hF => ?_) (fun v65 => ?_)
  · have h19_ : v64 = (Pt g_b (g_o + 4)) := hF.1
    clear hF
    refine doesG_un rfl ?_
    obtain rfl := h19_
    refine (does_load (u := (Iv A_g.x)) (ev rfl) Try.isAgg2 (Cells.at ((hc_g.ext (Ext.gr X56 E59)).ext hu) 4 rfl)).mono ?_; rintro _ _ ⟨rfl, rfl⟩
    exact ⟨rfl, Ext.refl _⟩
  refine RW_d _ rfl (fun v => by dsimp only [List.set]; try rfl) (fun u hu hF => ?_) (fun v66 => ?_)
  · clear hF
    refine doesG_un rfl ?_
    refine (does_move (u := (Pt g_b g_o)) (ev rfl)).mono ?_; rintro _ _ ⟨rfl, rfl⟩
    exact ⟨rfl, Ext.refl _⟩
  refine RW_d _ rfl (fun v => by dsimp only [List.set]; try rfl) (fun u hu hF => ?_) (fun v67 => ?_)
  · have h21_ : v66 = (Pt g_b g_o) := hF.1
    clear hF
    refine doesG_un rfl ?_
    obtain rfl := h21_
    refine (does_nilCheck (ev rfl)).mono ?_; rintro _ _ ⟨rfl, rfl⟩
    exact ⟨rfl, Ext.refl _⟩
  refine RW_d _ rfl (fun v => by dsimp only [List.set]; try rfl) (fun u hu hF => ?_) (fun v68 => ?_)
  · have h22_ : v67 = (Pt g_b g_o) := hF.1
    clear hF
    refine doesG_un rfl ?_
    obtain rfl := h22_
    refine (does_fieldAddr (ev rfl) fa31_2).mono ?_; rintro _ _ ⟨rfl, rfl⟩
    exact ⟨rfl, Ext.refl _⟩
  refine RW_d _ rfl (fun v => by dsimp only [List.set]; try rfl) (fun u hu hF => ?_) (fun v69 => ?_)
  · have h23_ : v68 = (Pt g_b (g_o + 4)) := hF.1
    clear hF
    refine doesG_un rfl ?_
    obtain rfl := h23_
    refine (does_load (u := (Iv A_g.x)) (ev rfl) Try.isAgg2 (Cells.at ((hc_g.ext (Ext.gr X56 E59)).ext hu) 4 rfl)).mono ?_; rintro _ _ ⟨rfl, rfl⟩
    exact ⟨rfl, Ext.refl _⟩
  refine RW_d _ rfl (fun v => by dsimp only [List.set]; try rfl) (fun u hu hF => ?_) (fun v70 => ?_)
  · clear hF
    refine doesG_un rfl ?_
    refine (does_move (u := (Pt g_b g_o)) (ev rfl)).mono ?_; rintro _ _ ⟨rfl, rfl⟩
    exact ⟨rfl, Ext.refl _⟩
  refine RW_d _ rfl (fun v => by dsimp only [List.set]; try rfl) (fun u hu hF => ?_) (fun v71 => ?_)
  · have h25_ : v70 = (Pt g_b g_o) := hF.1
    clear hF
    refine doesG_un rfl ?_
    obtain rfl := h25_
    refine (does_nilCheck (ev rfl)).mono ?_; rintro _ _ ⟨rfl, rfl⟩
    exact ⟨rfl, Ext.refl _⟩
  refine RW_d _ rfl (fun v => by dsimp only [List.set]; try rfl) (fun u hu hF => ?_) (fun v72 => ?_)
  · have h26_ : v71 = (Pt g_b g_o) := hF.1
    clear hF
    refine doesG_un rfl ?_
    obtain rfl := h26_
    refine (does_fieldAddr (ev rfl) fa31_3).mono ?_; rintro _ _ ⟨rfl, rfl⟩
    exact ⟨rfl, Ext.refl _⟩
  refine RW_d _ rfl (fun v => by dsimp only [List.set]; try rfl) (fun u hu hF => ?_) (fun v73 => ?_)
  · have h27_ : v72 = (Pt g_b (g_o + 5)) := hF.1
    clear hF
    refine doesG_un rfl ?_
    obtain rfl := h27_
    refine (does_load (u := (Iv A_g.y)) (ev rfl) Try.isAgg2 (Cells.at ((hc_g.ext (Ext.gr X56 E59)).ext hu) 5 rfl)).mono ?_; rintro _ _ ⟨rfl, rfl⟩
    exact ⟨rfl, Ext.refl _⟩
  refine RW_d _ rfl (fun v => by dsimp only [List.set]; try rfl) (fun u hu hF => ?_) (fun v74 => ?_)
  · have h24_ : v69 = (Iv A_g.x) := hF.1
    have h28_ : v73 = (Iv A_g.y) := hF.2.1
    clear hF
    refine doesG_un rfl ?_
    obtain rfl := h24_
    obtain rfl := h28_
    refine (does_iarith (p := A_g.x) (q := A_g.y) (r := A_g.x * A_g.y) (ev rfl) (ev rfl) (.inr (.inr ⟨rfl, (in_i64 (by omega) (by omega)).symm⟩))).mono ?_; rintro _ _ ⟨rfl, rfl⟩
    exact ⟨rfl, Ext.refl _⟩
  refine RW_d _ rfl (fun v => by dsimp only [List.set]; try rfl) (fun u hu hF => ?_) (fun v75 => ?_)
  · have h20_ : v65 = (Iv A_g.x) := hF.1
    have h29_ : v74 = (Iv (A_g.x * A_g.y)) := hF.2.1
    clear hF
    refine doesG_un rfl ?_
    obtain rfl := h20_
    obtain rfl := h29_
    refine (does_build (parts' := [(0, (Iv 1)), (1, (Iv A_g.x)), (2, (Iv (A_g.x * A_g.y)))]) (cells := #[(Iv 1), (Iv A_g.x), (Iv (A_g.x * A_g.y))]) (evp rfl) (by kernel_rfl)).mono ?_; rintro _ _ ⟨rfl, rfl⟩
    exact ⟨rfl, Ext.refl _⟩
  refine RW_d _ rfl (fun v => by dsimp only [List.set]; try rfl) (fun u hu hF => ?_) (fun v76 => ?_)
  · clear hF
    refine doesG_un rfl ?_
    refine (does_alloc z55).mono ?_; rintro _ _ ⟨b, rfl, hb, hB, hx⟩
    exact ⟨⟨b, rfl, Nat.le_trans (Nat.le_trans (Below.size E59) (Below.size hu)) hb, hB⟩, hx⟩
  refine RW_fin ?_; intro w77 E78 hP79
  obtain ⟨⟨⟨⟨⟨⟨⟨⟨⟨⟨⟨⟨⟨⟨⟨-, -⟩, -⟩, -⟩, -⟩, -⟩, -⟩, -⟩, -⟩, -⟩, -⟩, -⟩, -⟩, -⟩, q80⟩, q81⟩ := hP79
  have X82 := Ext.gr X61 E78
  have q80 : v75 = (.agg #[(Iv 1), (Iv A_g.x), (Iv (A_g.x * A_g.y))]) := q80
  obtain rfl := q80
  have q81 : ∃ b : Nat, v76 = .pointer (some ⟨b, 0, none⟩) ∧ w55.heap.size ≤ b ∧ Blk w77 b [(Iv 0), (Iv 0), (Iv 0)] := q81
  obtain ⟨b83, rfl, hb84, hB85⟩ := q81
  have n86 : g_b < b83 := Nat.lt_of_lt_of_le (cell_lt (Cells.at (hc_g.ext X56) 0 rfl)) hb84
  have n87 : b32 < b83 := Nat.lt_of_lt_of_le (Blk.lt (hB50.wr W53 (Nat.ne_of_lt n46))) hb84
  have n88 : b40 < b83 := Nat.lt_of_lt_of_le (Blk.lt hB54) hb84
  have g89 : w.heap.size ≤ b83 := Nat.le_trans (Below.size X56) hb84
  show wpList _ _ _ _ (fr [_, _, _, _, _, _, _, _, _, _, _, _, _, _, _, _, _, _, _, _, _, _, _, _, _, _, _, _, _, _, _, _, _, _, _, _, _, _, _, _, _, _, _, _, _, _, _, _, _, _, _, _, _, _, _, _, _, _, _, _, _, _, _, _, _, _, _, _]) _
  refine seqn rfl rfl (does_store (n := 3) (cs := [(Iv 0), (Iv 0), (Iv 0)]) (u := (.agg #[(Iv 1), (Iv A_g.x), (Iv (A_g.x * A_g.y))])) (ev rfl) (ev rfl) Try.sizeOf55 rfl hB85 (Nat.le_of_ble_eq_true rfl) rfl) ?_; rintro _ w92 ⟨rfl, W90, hB91⟩
  change Blk _ _ [(Iv 1), (Iv A_g.x), (Iv (A_g.x * A_g.y))] at hB91
  have X93 := Below.wr X82 W90 g89
  refine wpList_nil (hK57 _ _ ?_)
  refine wp_seq_k fun K94 hK94 => ?_
  refine wp_seq_k fun K95 hK95 => ?_
  refine wp_region_lit ?_
  refine q_is rfl rfl (does_assign (u := (Iv 2)) (ev rfl)) (by dsimp only [List.set]; try rfl) ?_
  refine wpList_nil (hK95 _ _ ?_)
  refine wp_block ?_
  refine loop_unroll 4 ?_
  refine un_step ?_
  refine wp_seq_k fun K96 hK96 => ?_
  refine wp_seq_k fun K97 hK97 => ?_
  refine wp_region_lit ?_
  refine q_is rfl rfl (does_move (u := (Iv 2)) (ev rfl)) (by dsimp only [List.set]; try rfl) ?_
  refine q_is rfl rfl (does_icmp (p := 2) (q := 0) (.inr (.inr (.inr (.inr (.inr rfl))))) (ev rfl) (ev rfl)) (by dsimp only [List.set]; try rfl) ?_
  refine wpList_nil (hK97 _ _ ?_)
  refine wp_cond_true (ev rfl) ?_
  refine wp_skip (hK96 _ _ ?_)
  refine wp_seq_k fun K98 hK98 => ?_
  refine wp_block ?_
  refine wp_seq_k fun K99 hK99 => ?_
  refine wp_region_lit ?_
  refine q_is rfl rfl (does_move (u := (Iv 2)) (ev rfl)) (by dsimp only [List.set]; try rfl) ?_
  refine q_is rfl rfl (does_indexAt_run (r := (Pt b32 2)) (ev rfl) (ev rfl) (fun w => ia55_2 _ _ w)) (by dsimp only [List.set]; try rfl) ?_
  refine q_is rfl rfl (does_load (u := (Iv (ix / A_g.x / A_g.y))) (ev rfl) Try.isAgg2 (Cells.at (Blk.cells ((((hB50.wr W53 (Nat.ne_of_lt n46)).ext E59).ext E78).wr W90 (Nat.ne_of_lt n87))) 2 rfl)) (by dsimp only [List.set]; try rfl) ?_
  refine q_is rfl rfl (does_icmp (p := ix / A_g.x / A_g.y) (q := 0) (.inr (.inr (.inr (.inr (.inl rfl))))) (ev rfl) (ev rfl)) (by dsimp only [List.set]; try rfl) ?_
  refine wpList_nil (hK99 _ _ ?_)
  have n105 : g_b < w92.heap.size := cell_lt (Cells.at (hc_g.ext X93) 0 rfl)
  have n106 : b32 < w92.heap.size := Blk.lt ((((hB50.wr W53 (Nat.ne_of_lt n46)).ext E59).ext E78).wr W90 (Nat.ne_of_lt n87))
  have n107 : b40 < w92.heap.size := Blk.lt (((hB54.ext E59).ext E78).wr W90 (Nat.ne_of_lt n88))
  have n108 : b83 < w92.heap.size := Blk.lt hB91
  obtain ⟨gg101, hg102, hg103, hO104⟩ := Own.start' hO30 (Own.same hO30 RI.flat ((((((((Same.refl _ _).ext E35).ext E43).wr W49 (.inr (Nat.le_trans (Nat.le_refl _) hb33))).wr W53 (.inr (Nat.le_trans (Below.size E35) hb41))).ext E59).ext E78).wr W90 (.inr (Nat.le_trans (Nat.le_trans (Nat.le_trans (Nat.le_trans (Below.size E35) (Below.size E43)) (Nat.le_of_eq (Eq.symm (Wr.size W49)))) (Nat.le_of_eq (Eq.symm (Wr.size W53)))) hb84))) hb23 (Below.size E26))
  have hN109 : w20.heap.size ≤ gg101 := by rcases hg102 with h | h; exact h ▸ hb23; exact Nat.le_trans (Below.size E26) h
  have g110 : w.heap.size ≤ gg101 := Nat.le_trans (Nat.le_trans (Below.size E16) (Below.size E19)) hN109
  have hg111 : gg101 < w27.heap.size := by rcases hg103 with h | h; exact h ▸ Nat.lt_of_lt_of_le hl24 (Nat.le_refl _); exact h
  have n112 : gg101 < b32 := Nat.lt_of_lt_of_le hg111 (Nat.le_trans (Nat.le_refl _) hb33)
  have n113 : gg101 < b40 := Nat.lt_of_lt_of_le hg111 (Nat.le_trans (Below.size E35) hb41)
  have n114 : gg101 < b83 := Nat.lt_of_lt_of_le hg111 (Nat.le_trans (Nat.le_trans (Nat.le_trans (Nat.le_trans (Below.size E35) (Below.size E43)) (Nat.le_of_eq (Eq.symm (Wr.size W49)))) (Nat.le_of_eq (Eq.symm (Wr.size W53)))) hb84)
  have hH115 : Hang w20.heap.size w92 (fun u => Sl RI 1 u (.slice (some ⟨b22, 0, none⟩) 0 0) ([])) := Own.hang hO104 RI.flat (by decide) hN109 (Nat.le_trans (Nat.le_trans (Nat.le_trans (Nat.le_trans (Nat.le_trans (Nat.le_trans (Nat.le_trans (Below.size E26) (Below.size E35)) (Below.size E43)) (Nat.le_of_eq (Eq.symm (Wr.size W49)))) (Nat.le_of_eq (Eq.symm (Wr.size W53)))) (Below.size E59)) (Below.size E78)) (Nat.le_of_eq (Eq.symm (Wr.size W90))))
  have J98 : ∀ (u100 : Nat → Value) (y7_ : Value) (w116 : World), (KpL [gg101] w92 w116) → (Own RI 1 2 gg101 w92.heap.size w116 y7_ (nbK A_g ix 1)) → K98 (fr [(Pt g_b g_o), (Iv ix), Ud, Ud, (.slice none 0 0), (Pt b32 0), (Pt b40 0), y7_, (Pt b83 0), (Iv 2), Ud, (Pt g_b g_o), (Iv ix), (.agg #[(Iv (ix % A_g.x)), (Iv (ix / A_g.x % A_g.y)), (Iv (ix / A_g.x / A_g.y))]), (Pt g_b g_o), (.agg #[(Iv A_g.x), (Iv A_g.y), (Iv A_g.z)]), (.slice (some ⟨b22, 0, none⟩) 0 0), v62, v63, v64, v65, v66, v67, v68, v69, v70, v71, v72, v73, v74, (.agg #[(Iv 1), (Iv A_g.x), (Iv (A_g.x * A_g.y))]), (Iv 2), (Bo true), Ud, Ud, (Iv 2), (Pt b32 2), (Iv (ix / A_g.x / A_g.y)), (Bo (icmp .gtr (ix / A_g.x / A_g.y) 0)), (u100 39), (u100 40), (u100 41), (u100 42), (u100 43), (u100 44), (u100 45), (u100 46), Ud, Ud, Ud, Ud, Ud, Ud, Ud, Ud, Ud, Ud, Ud, Ud, Ud, Ud, Ud, Ud, Ud, Ud, Ud, Ud, Ud]) w116 := by
    intro u100 y7_ w116 E117 hO118
    have X119 := Below.kl X93 E117 (allS g110 all0) (Nat.le_refl _)
    obtain ⟨p120, q121, rfl⟩ := Own.shape hO118
    have hH122 : Hang w20.heap.size w116 (fun u => Sl RI 1 u (.slice p120 ((nbK A_g ix 1).length) q121) (nbK A_g ix 1)) := Own.hang hO118 RI.flat (by decide) hN109 (Nat.le_trans (Nat.le_trans (Nat.le_trans (Nat.le_trans (Nat.le_trans (Nat.le_trans (Nat.le_trans (Below.size E26) (Below.size E35)) (Below.size E43)) (Nat.le_of_eq (Eq.symm (Wr.size W49)))) (Nat.le_of_eq (Eq.symm (Wr.size W53)))) (Below.size E59)) (Below.size E78)) (Nat.le_of_eq (Eq.symm (Wr.size W90))))
    have hnl := nbK_len A_g ix 1
    refine hK98 _ _ ?_
    refine wp_region_lit ?_
    refine q_is rfl rfl (does_move (u := (Iv 2)) (ev rfl)) (by dsimp only [List.set]; try rfl) ?_
    refine q_is rfl rfl (does_iarith (p := 2) (q := 1) (r := (1)) (ev rfl) (ev rfl) (.inr (.inl ⟨rfl, rfl⟩))) (by dsimp only [List.set]; try rfl) ?_
    refine q_is rfl rfl (does_assign (u := (Iv 1)) (ev rfl)) (by dsimp only [List.set]; try rfl) ?_
    refine wpList_nil ?_
    refine un_step ?_
    refine wp_seq_k fun K123 hK123 => ?_
    refine wp_seq_k fun K124 hK124 => ?_
    refine wp_region_lit ?_
    refine q_is rfl rfl (does_move (u := (Iv 1)) (ev rfl)) (by dsimp only [List.set]; try rfl) ?_
    refine q_is rfl rfl (does_icmp (p := 1) (q := 0) (.inr (.inr (.inr (.inr (.inr rfl))))) (ev rfl) (ev rfl)) (by dsimp only [List.set]; try rfl) ?_
    refine wpList_nil (hK124 _ _ ?_)
    refine wp_cond_true (ev rfl) ?_
    refine wp_skip (hK123 _ _ ?_)
    refine wp_seq_k fun K125 hK125 => ?_
    refine wp_block ?_
    refine wp_seq_k fun K126 hK126 => ?_
    refine wp_region_lit ?_
    refine q_is rfl rfl (does_move (u := (Iv 1)) (ev rfl)) (by dsimp only [List.set]; try rfl) ?_
    refine q_is rfl rfl (does_indexAt_run (r := (Pt b32 1)) (ev rfl) (ev rfl) (fun w => ia55_1 _ _ w)) (by dsimp only [List.set]; try rfl) ?_
    refine q_is rfl rfl (does_load (u := (Iv (ix / A_g.x % A_g.y))) (ev rfl) Try.isAgg2 (Cells.at (Blk.cells (((((hB50.wr W53 (Nat.ne_of_lt n46)).ext E59).ext E78).wr W90 (Nat.ne_of_lt n87)).kl E117 (ninS (Nat.ne_of_gt n112) nin0))) 1 rfl)) (by dsimp only [List.set]; try rfl) ?_
    refine q_is rfl rfl (does_icmp (p := ix / A_g.x % A_g.y) (q := 0) (.inr (.inr (.inr (.inr (.inl rfl))))) (ev rfl) (ev rfl)) (by dsimp only [List.set]; try rfl) ?_
    refine wpList_nil (hK126 _ _ ?_)
    have n132 : g_b < w116.heap.size := cell_lt (Cells.at (hc_g.ext X119) 0 rfl)
    have n133 : b32 < w116.heap.size := Blk.lt (((((hB50.wr W53 (Nat.ne_of_lt n46)).ext E59).ext E78).wr W90 (Nat.ne_of_lt n87)).kl E117 (ninS (Nat.ne_of_gt n112) nin0))
    have n134 : b40 < w116.heap.size := Blk.lt ((((hB54.ext E59).ext E78).wr W90 (Nat.ne_of_lt n88)).kl E117 (ninS (Nat.ne_of_gt n113) nin0))
    have n135 : b83 < w116.heap.size := Blk.lt (hB91.kl E117 (ninS (Nat.ne_of_gt n114) nin0))
    obtain ⟨gg128, hg129, hg130, hO131⟩ := Own.start' hO118 hO118
    have hN136 : w20.heap.size ≤ gg128 := by rcases hg129 with h | h; exact h ▸ hN109; exact Nat.le_trans (Nat.le_trans (Nat.le_trans (Nat.le_trans (Nat.le_trans (Nat.le_trans (Nat.le_trans (Nat.le_trans (Below.size E26) (Below.size E35)) (Below.size E43)) (Nat.le_of_eq (Eq.symm (Wr.size W49)))) (Nat.le_of_eq (Eq.symm (Wr.size W53)))) (Below.size E59)) (Below.size E78)) (Nat.le_of_eq (Eq.symm (Wr.size W90)))) h
    have g137 : w.heap.size ≤ gg128 := Nat.le_trans (Nat.le_trans (Below.size E16) (Below.size E19)) hN136
    have n138 : g_b ≠ gg128 := hg129.elim (fun h => by rw [h]; exact (Nat.ne_of_lt (Nat.lt_of_lt_of_le n28 hN109))) (fun h => Nat.ne_of_lt (Nat.lt_of_lt_of_le n105 h))
    have n139 : b32 ≠ gg128 := hg129.elim (fun h => by rw [h]; exact (Nat.ne_of_gt n112)) (fun h => Nat.ne_of_lt (Nat.lt_of_lt_of_le n106 h))
    have n140 : b40 ≠ gg128 := hg129.elim (fun h => by rw [h]; exact (Nat.ne_of_gt n113)) (fun h => Nat.ne_of_lt (Nat.lt_of_lt_of_le n107 h))
    have n141 : b83 ≠ gg128 := hg129.elim (fun h => by rw [h]; exact (Nat.ne_of_gt n114)) (fun h => Nat.ne_of_lt (Nat.lt_of_lt_of_le n108 h))
    have hg142 : gg128 < w116.heap.size := by rcases hg130 with h | h; exact h ▸ Nat.lt_of_lt_of_le hg111 (Nat.le_trans (Nat.le_trans (Nat.le_trans (Nat.le_trans (Nat.le_trans (Nat.le_trans (Nat.le_trans (Below.size E35) (Below.size E43)) (Nat.le_of_eq (Eq.symm (Wr.size W49)))) (Nat.le_of_eq (Eq.symm (Wr.size W53)))) (Below.size E59)) (Below.size E78)) (Nat.le_of_eq (Eq.symm (Wr.size W90)))) (KpL.size E117)); exact h
    have hH143 : Hang w20.heap.size w116 (fun u => Sl RI 1 u (.slice p120 ((nbK A_g ix 1).length) q121) (nbK A_g ix 1)) := Own.hang hO131 RI.flat (by decide) hN136 (Nat.le_trans (Nat.le_trans (Nat.le_trans (Nat.le_trans (Nat.le_trans (Nat.le_trans (Nat.le_trans (Nat.le_trans (Below.size E26) (Below.size E35)) (Below.size E43)) (Nat.le_of_eq (Eq.symm (Wr.size W49)))) (Nat.le_of_eq (Eq.symm (Wr.size W53)))) (Below.size E59)) (Below.size E78)) (Nat.le_of_eq (Eq.symm (Wr.size W90)))) (KpL.size E117))
    have J125 : ∀ (u127 : Nat → Value) (y7_ : Value) (w144 : World), (KpL [gg128] w116 w144) → (Own RI 1 2 gg128 w116.heap.size w144 y7_ (nbK A_g ix 2)) → K125 (fr [(Pt g_b g_o), (Iv ix), Ud, Ud, (.slice none 0 0), (Pt b32 0), (Pt b40 0), y7_, (Pt b83 0), (Iv 1), Ud, (Pt g_b g_o), (Iv ix), (.agg #[(Iv (ix % A_g.x)), (Iv (ix / A_g.x % A_g.y)), (Iv (ix / A_g.x / A_g.y))]), (Pt g_b g_o), (.agg #[(Iv A_g.x), (Iv A_g.y), (Iv A_g.z)]), (.slice (some ⟨b22, 0, none⟩) 0 0), v62, v63, v64, v65, v66, v67, v68, v69, v70, v71, v72, v73, v74, (.agg #[(Iv 1), (Iv A_g.x), (Iv (A_g.x * A_g.y))]), (Iv 1), (Bo true), (Iv 2), (Iv 1), (Iv 1), (Pt b32 1), (Iv (ix / A_g.x % A_g.y)), (Bo (icmp .gtr (ix / A_g.x % A_g.y) 0)), (u127 39), (u127 40), (u127 41), (u127 42), (u127 43), (u127 44), (u127 45), (u127 46), Ud, Ud, Ud, Ud, Ud, Ud, Ud, Ud, Ud, Ud, Ud, Ud, Ud, Ud, Ud, Ud, Ud, Ud, Ud, Ud, Ud]) w144 := by
      intro u127 y7_ w144 E145 hO146
      have X147 := Below.kl X119 E145 (allS g137 all0) (Nat.le_refl _)
      obtain ⟨p148, q149, rfl⟩ := Own.shape hO146
      have hH150 : Hang w20.heap.size w144 (fun u => Sl RI 1 u (.slice p148 ((nbK A_g ix 2).length) q149) (nbK A_g ix 2)) := Own.hang hO146 RI.flat (by decide) hN136 (Nat.le_trans (Nat.le_trans (Nat.le_trans (Nat.le_trans (Nat.le_trans (Nat.le_trans (Nat.le_trans (Nat.le_trans (Below.size E26) (Below.size E35)) (Below.size E43)) (Nat.le_of_eq (Eq.symm (Wr.size W49)))) (Nat.le_of_eq (Eq.symm (Wr.size W53)))) (Below.size E59)) (Below.size E78)) (Nat.le_of_eq (Eq.symm (Wr.size W90)))) (KpL.size E117))
      have hnl := nbK_len A_g ix 2
      refine hK125 _ _ ?_
      refine wp_region_lit ?_
      refine q_is rfl rfl (does_move (u := (Iv 1)) (ev rfl)) (by dsimp only [List.set]; try rfl) ?_
      refine q_is rfl rfl (does_iarith (p := 1) (q := 1) (r := (0)) (ev rfl) (ev rfl) (.inr (.inl ⟨rfl, rfl⟩))) (by dsimp only [List.set]; try rfl) ?_
      refine q_is rfl rfl (does_assign (u := (Iv 0)) (ev rfl)) (by dsimp only [List.set]; try rfl) ?_
      refine wpList_nil ?_
      refine un_step ?_
      refine wp_seq_k fun K151 hK151 => ?_
      refine wp_seq_k fun K152 hK152 => ?_
      refine wp_region_lit ?_
      refine q_is rfl rfl (does_move (u := (Iv 0)) (ev rfl)) (by dsimp only [List.set]; try rfl) ?_
      refine q_is rfl rfl (does_icmp (p := 0) (q := 0) (.inr (.inr (.inr (.inr (.inr rfl))))) (ev rfl) (ev rfl)) (by dsimp only [List.set]; try rfl) ?_
      refine wpList_nil (hK152 _ _ ?_)
      refine wp_cond_true (ev rfl) ?_
      refine wp_skip (hK151 _ _ ?_)
      refine wp_seq_k fun K153 hK153 => ?_
      refine wp_block ?_
      refine wp_seq_k fun K154 hK154 => ?_
      refine wp_region_lit ?_
      refine q_is rfl rfl (does_move (u := (Iv 0)) (ev rfl)) (by dsimp only [List.set]; try rfl) ?_
      refine q_is rfl rfl (does_indexAt_run (r := (Pt b32 0)) (ev rfl) (ev rfl) (fun w => ia55_0 _ _ w)) (by dsimp only [List.set]; try rfl) ?_
      refine q_is rfl rfl (does_load (u := (Iv (ix % A_g.x))) (ev rfl) Try.isAgg2 (Cells.at (Blk.cells ((((((hB50.wr W53 (Nat.ne_of_lt n46)).ext E59).ext E78).wr W90 (Nat.ne_of_lt n87)).kl E117 (ninS (Nat.ne_of_gt n112) nin0)).kl E145 (ninS n139 nin0))) 0 rfl)) (by dsimp only [List.set]; try rfl) ?_
      refine q_is rfl rfl (does_icmp (p := ix % A_g.x) (q := 0) (.inr (.inr (.inr (.inr (.inl rfl))))) (ev rfl) (ev rfl)) (by dsimp only [List.set]; try rfl) ?_
      refine wpList_nil (hK154 _ _ ?_)
      have n160 : g_b < w144.heap.size := cell_lt (Cells.at (hc_g.ext X147) 0 rfl)
      have n161 : b32 < w144.heap.size := Blk.lt ((((((hB50.wr W53 (Nat.ne_of_lt n46)).ext E59).ext E78).wr W90 (Nat.ne_of_lt n87)).kl E117 (ninS (Nat.ne_of_gt n112) nin0)).kl E145 (ninS n139 nin0))
      have n162 : b40 < w144.heap.size := Blk.lt (((((hB54.ext E59).ext E78).wr W90 (Nat.ne_of_lt n88)).kl E117 (ninS (Nat.ne_of_gt n113) nin0)).kl E145 (ninS n140 nin0))
      have n163 : b83 < w144.heap.size := Blk.lt ((hB91.kl E117 (ninS (Nat.ne_of_gt n114) nin0)).kl E145 (ninS n141 nin0))
      obtain ⟨gg156, hg157, hg158, hO159⟩ := Own.start' hO146 hO146
      have hN164 : w20.heap.size ≤ gg156 := by rcases hg157 with h | h; exact h ▸ hN136; exact Nat.le_trans (Nat.le_trans (Nat.le_trans (Nat.le_trans (Nat.le_trans (Nat.le_trans (Nat.le_trans (Nat.le_trans (Nat.le_trans (Below.size E26) (Below.size E35)) (Below.size E43)) (Nat.le_of_eq (Eq.symm (Wr.size W49)))) (Nat.le_of_eq (Eq.symm (Wr.size W53)))) (Below.size E59)) (Below.size E78)) (Nat.le_of_eq (Eq.symm (Wr.size W90)))) (KpL.size E117)) h
      have g165 : w.heap.size ≤ gg156 := Nat.le_trans (Nat.le_trans (Below.size E16) (Below.size E19)) hN164
      have n166 : g_b ≠ gg156 := hg157.elim (fun h => by rw [h]; exact n138) (fun h => Nat.ne_of_lt (Nat.lt_of_lt_of_le n132 h))
      have n167 : b32 ≠ gg156 := hg157.elim (fun h => by rw [h]; exact n139) (fun h => Nat.ne_of_lt (Nat.lt_of_lt_of_le n133 h))
      have n168 : b40 ≠ gg156 := hg157.elim (fun h => by rw [h]; exact n140) (fun h => Nat.ne_of_lt (Nat.lt_of_lt_of_le n134 h))
      have n169 : b83 ≠ gg156 := hg157.elim (fun h => by rw [h]; exact n141) (fun h => Nat.ne_of_lt (Nat.lt_of_lt_of_le n135 h))
      have hg170 : gg156 < w144.heap.size := by rcases hg158 with h | h; exact h ▸ Nat.lt_of_lt_of_le hg142 (KpL.size E145); exact h
      have hH171 : Hang w20.heap.size w144 (fun u => Sl RI 1 u (.slice p148 ((nbK A_g ix 2).length) q149) (nbK A_g ix 2)) := Own.hang hO159 RI.flat (by decide) hN164 (Nat.le_trans (Nat.le_trans (Nat.le_trans (Nat.le_trans (Nat.le_trans (Nat.le_trans (Nat.le_trans (Nat.le_trans (Nat.le_trans (Below.size E26) (Below.size E35)) (Below.size E43)) (Nat.le_of_eq (Eq.symm (Wr.size W49)))) (Nat.le_of_eq (Eq.symm (Wr.size W53)))) (Below.size E59)) (Below.size E78)) (Nat.le_of_eq (Eq.symm (Wr.size W90)))) (KpL.size E117)) (KpL.size E145))
      have J153 : ∀ (u155 : Nat → Value) (y7_ : Value) (w172 : World), (KpL [gg156] w144 w172) → (Own RI 1 2 gg156 w144.heap.size w172 y7_ (nbK A_g ix 3)) → K153 (fr [(Pt g_b g_o), (Iv ix), Ud, Ud, (.slice none 0 0), (Pt b32 0), (Pt b40 0), y7_, (Pt b83 0), (Iv 0), Ud, (Pt g_b g_o), (Iv ix), (.agg #[(Iv (ix % A_g.x)), (Iv (ix / A_g.x % A_g.y)), (Iv (ix / A_g.x / A_g.y))]), (Pt g_b g_o), (.agg #[(Iv A_g.x), (Iv A_g.y), (Iv A_g.z)]), (.slice (some ⟨b22, 0, none⟩) 0 0), v62, v63, v64, v65, v66, v67, v68, v69, v70, v71, v72, v73, v74, (.agg #[(Iv 1), (Iv A_g.x), (Iv (A_g.x * A_g.y))]), (Iv 0), (Bo true), (Iv 1), (Iv 0), (Iv 0), (Pt b32 0), (Iv (ix % A_g.x)), (Bo (icmp .gtr (ix % A_g.x) 0)), (u155 39), (u155 40), (u155 41), (u155 42), (u155 43), (u155 44), (u155 45), (u155 46), Ud, Ud, Ud, Ud, Ud, Ud, Ud, Ud, Ud, Ud, Ud, Ud, Ud, Ud, Ud, Ud, Ud, Ud, Ud, Ud, Ud]) w172 := by
        intro u155 y7_ w172 E173 hO174
        have X175 := Below.kl X147 E173 (allS g165 all0) (Nat.le_refl _)
        obtain ⟨p176, q177, rfl⟩ := Own.shape hO174
        have hH178 : Hang w20.heap.size w172 (fun u => Sl RI 1 u (.slice p176 ((nbK A_g ix 3).length) q177) (nbK A_g ix 3)) := Own.hang hO174 RI.flat (by decide) hN164 (Nat.le_trans (Nat.le_trans (Nat.le_trans (Nat.le_trans (Nat.le_trans (Nat.le_trans (Nat.le_trans (Nat.le_trans (Nat.le_trans (Below.size E26) (Below.size E35)) (Below.size E43)) (Nat.le_of_eq (Eq.symm (Wr.size W49)))) (Nat.le_of_eq (Eq.symm (Wr.size W53)))) (Below.size E59)) (Below.size E78)) (Nat.le_of_eq (Eq.symm (Wr.size W90)))) (KpL.size E117)) (KpL.size E145))
        have hnl := nbK_len A_g ix 3
        refine hK153 _ _ ?_
        refine wp_region_lit ?_
        refine q_is rfl rfl (does_move (u := (Iv 0)) (ev rfl)) (by dsimp only [List.set]; try rfl) ?_
        refine q_is rfl rfl (does_iarith (p := 0) (q := 1) (r := (-1)) (ev rfl) (ev rfl) (.inr (.inl ⟨rfl, rfl⟩))) (by dsimp only [List.set]; try rfl) ?_
        refine q_is rfl rfl (does_assign (u := (Iv (-1))) (ev rfl)) (by dsimp only [List.set]; try rfl) ?_
        refine wpList_nil ?_
        refine un_step ?_
        refine wp_seq_k fun K179 hK179 => ?_
        refine wp_seq_k fun K180 hK180 => ?_
        refine wp_region_lit ?_
        refine q_is rfl rfl (does_move (u := (Iv (-1))) (ev rfl)) (by dsimp only [List.set]; try rfl) ?_
        refine q_is rfl rfl (does_icmp (p := (-1)) (q := 0) (.inr (.inr (.inr (.inr (.inr rfl))))) (ev rfl) (ev rfl)) (by dsimp only [List.set]; try rfl) ?_
        refine wpList_nil (hK180 _ _ ?_)
        refine wp_cond_false (ev rfl) ?_
        refine wp_exit ?_
        refine hK94 _ _ ?_
        refine wp_seq_k fun K181 hK181 => ?_
        refine wp_seq_k fun K182 hK182 => ?_
        refine wp_region_lit ?_
        refine q_is rfl rfl (does_move (u := (Iv 0)) (ev rfl)) (by dsimp only [List.set]; try rfl) ?_
        refine wpList_nil (hK182 _ _ ?_)
        refine wp_block ?_
        refine loop_unroll 4 ?_
        refine un_step ?_
        refine wp_seq_k fun K183 hK183 => ?_
        refine wp_region_lit ?_
        refine q_is rfl rfl (does_icmp (p := 0) (q := 3) (.inr (.inr (.inl rfl))) (ev rfl) (ev rfl)) (by dsimp only [List.set]; try rfl) ?_
        refine wpList_nil (hK183 _ _ ?_)
        refine wp_seq_k fun K184 hK184 => ?_
        refine wp_cond_true (ev rfl) ?_
        refine wp_skip (hK184 _ _ ?_)
        refine wp_seq_k fun K185 hK185 => ?_
        refine wp_block ?_
        refine wp_seq_k fun K186 hK186 => ?_
        refine wp_region_lit ?_
        refine q_is rfl rfl (does_move (u := (Iv 0)) (ev rfl)) (by dsimp only [List.set]; try rfl) ?_
        refine q_is rfl rfl (does_assign (u := (Iv 0)) (ev rfl)) (by dsimp only [List.set]; try rfl) ?_
        refine wpList_nil (hK186 _ _ ?_)
        refine wp_seq_k fun K187 hK187 => ?_
        obtain ⟨β1, hβ1⟩ : ∃ b : Bool, b = (icmp .lss ((ix % A_g.x) + 1) A_g.x) := ⟨_, rfl⟩
        refine region_draw (
          [Fact.pure [] (fun v => v = (Iv 0)),
    Fact.pure [50] (fun v => v = (Pt b32 0)),
    Fact.pure [51] (fun v => v = (Iv (ix % A_g.x))),
    Fact.pure [52] (fun v => v = (Iv ((ix % A_g.x) + 1))),
    Fact.pure [] (fun v => v = (Iv 0)),
    Fact.pure [54] (fun v => v = (Pt b40 0)),
    Fact.pure [55] (fun v => v = (Iv A_g.x)),
    Fact.pure [53, 56] (fun v => v = (Bo β1))]) mixed (by kernel_rfl) (by intro _ _ d _ _ h; cases d <;> exact h) ?_
        obtain ⟨w188, hw190⟩ : ∃ w', w' = World.drew w172 := ⟨_, rfl⟩; rw [← hw190]; have E189 : Ext w172 w188 := by rw [hw190]; exact Ext.draw _
        clear hw190
        have X191 := Ext.gr X175 E189
        refine RW_d _ rfl (fun v => by dsimp only [List.set]; try rfl) (fun u hu hF => ?_) (fun v192 => ?_)
        · clear hF
          refine doesG_un rfl ?_
          refine (does_move (u := (Iv 0)) (ev rfl)).mono ?_; rintro _ _ ⟨rfl, rfl⟩
          exact ⟨rfl, Ext.refl _⟩
        refine RW_d _ rfl (fun v => by dsimp only [List.set]; try rfl) (fun u hu hF => ?_) (fun v193 => ?_)
        · have h50_ : v192 = (Iv 0) := hF.1
          clear hF
          refine doesG_un rfl ?_
          obtain rfl := h50_
          refine (does_indexAt_run (r := (Pt b32 0)) (ev rfl) (ev rfl) (fun w => ia55_0 _ _ w)).mono ?_; rintro _ _ ⟨rfl, rfl⟩
          exact ⟨rfl, Ext.refl _⟩
        refine RW_d _ rfl (fun v => by dsimp only [List.set]; try rfl) (fun u hu hF => ?_) (fun v194 => ?_)
        · have h51_ : v193 = (Pt b32 0) := hF.1
          clear hF
          refine doesG_un rfl ?_
          obtain rfl := h51_
          refine (does_load (u := (Iv (ix % A_g.x))) (ev rfl) Try.isAgg2 (Cells.at (Blk.cells (((((((((hB50.wr W53 (Nat.ne_of_lt n46)).ext E59).ext E78).wr W90 (Nat.ne_of_lt n87)).kl E117 (ninS (Nat.ne_of_gt n112) nin0)).kl E145 (ninS n139 nin0)).kl E173 (ninS n167 nin0)).ext E189).ext hu)) 0 rfl)).mono ?_; rintro _ _ ⟨rfl, rfl⟩
          exact ⟨rfl, Ext.refl _⟩
        refine RW_d _ rfl (fun v => by dsimp only [List.set]; try rfl) (fun u hu hF => ?_) (fun v195 => ?_)
        · have h52_ : v194 = (Iv (ix % A_g.x)) := hF.1
          clear hF
          refine doesG_un rfl ?_
          obtain rfl := h52_
          refine (does_iarith (p := ix % A_g.x) (q := 1) (r := (ix % A_g.x) + 1) (ev rfl) (ev rfl) (.inl ⟨rfl, (in_i64 (by omega) (by omega)).symm⟩)).mono ?_; rintro _ _ ⟨rfl, rfl⟩
          exact ⟨rfl, Ext.refl _⟩
        refine RW_d _ rfl (fun v => by dsimp only [List.set]; try rfl) (fun u hu hF => ?_) (fun v196 => ?_)
        · clear hF
          refine doesG_un rfl ?_
          refine (does_move (u := (Iv 0)) (ev rfl)).mono ?_; rintro _ _ ⟨rfl, rfl⟩
          exact ⟨rfl, Ext.refl _⟩
        refine RW_d _ rfl (fun v => by dsimp only [List.set]; try rfl) (fun u hu hF => ?_) (fun v197 => ?_)
        · have h54_ : v196 = (Iv 0) := hF.1
          clear hF
          refine doesG_un rfl ?_
          obtain rfl := h54_
          refine (does_indexAt_run (r := (Pt b40 0)) (ev rfl) (ev rfl) (fun w => ia55_0 _ _ w)).mono ?_; rintro _ _ ⟨rfl, rfl⟩
          exact ⟨rfl, Ext.refl _⟩
        refine RW_d _ rfl (fun v => by dsimp only [List.set]; try rfl) (fun u hu hF => ?_) (fun v198 => ?_)
        · have h55_ : v197 = (Pt b40 0) := hF.1
          clear hF
          refine doesG_un rfl ?_
          obtain rfl := h55_
          refine (does_load (u := (Iv A_g.x)) (ev rfl) Try.isAgg2 (Cells.at (Blk.cells ((((((((hB54.ext E59).ext E78).wr W90 (Nat.ne_of_lt n88)).kl E117 (ninS (Nat.ne_of_gt n113) nin0)).kl E145 (ninS n140 nin0)).kl E173 (ninS n168 nin0)).ext E189).ext hu)) 0 rfl)).mono ?_; rintro _ _ ⟨rfl, rfl⟩
          exact ⟨rfl, Ext.refl _⟩
        refine RW_d _ rfl (fun v => by dsimp only [List.set]; try rfl) (fun u hu hF => ?_) (fun v199 => ?_)
        · have h53_ : v195 = (Iv ((ix % A_g.x) + 1)) := hF.1
          have h56_ : v198 = (Iv A_g.x) := hF.2.1
          clear hF
          refine doesG_un rfl ?_
          obtain rfl := h53_
          obtain rfl := h56_
          refine (does_icmp (p := (ix % A_g.x) + 1) (q := A_g.x) (.inr (.inr (.inl rfl))) (ev rfl) (ev rfl)).mono ?_; rintro _ _ ⟨rfl, rfl⟩
          exact ⟨(by first | rfl | (show _ = _; simp only [hβ1]; done) | (show _ = _; simp only [hβ1]; rfl)), Ext.refl _⟩
        refine RW_fin ?_; intro w200 E201 hP202
        obtain ⟨⟨⟨⟨⟨⟨⟨⟨-, -⟩, -⟩, -⟩, -⟩, -⟩, -⟩, -⟩, q203⟩ := hP202
        have X204 := Ext.gr X191 E201
        have q203 : v199 = (Bo β1) := q203
        obtain rfl := q203
        show wpList _ _ _ _ (fr [_, _, _, _, _, _, _, _, _, _, _, _, _, _, _, _, _, _, _, _, _, _, _, _, _, _, _, _, _, _, _, _, _, _, _, _, _, _, _, _, _, _, _, _, _, _, _, _, _, _, _, _, _, _, _, _, _, _, _, _, _, _, _, _, _, _, _, _]) _
        refine wpList_nil (hK187 _ _ ?_)
        have n210 : g_b < w200.heap.size := cell_lt (Cells.at (hc_g.ext X204) 0 rfl)
        have n211 : b32 < w200.heap.size := Blk.lt (((((((((hB50.wr W53 (Nat.ne_of_lt n46)).ext E59).ext E78).wr W90 (Nat.ne_of_lt n87)).kl E117 (ninS (Nat.ne_of_gt n112) nin0)).kl E145 (ninS n139 nin0)).kl E173 (ninS n167 nin0)).ext E189).ext E201)
        have n212 : b40 < w200.heap.size := Blk.lt ((((((((hB54.ext E59).ext E78).wr W90 (Nat.ne_of_lt n88)).kl E117 (ninS (Nat.ne_of_gt n113) nin0)).kl E145 (ninS n140 nin0)).kl E173 (ninS n168 nin0)).ext E189).ext E201)
        have n213 : b83 < w200.heap.size := Blk.lt (((((hB91.kl E117 (ninS (Nat.ne_of_gt n114) nin0)).kl E145 (ninS n141 nin0)).kl E173 (ninS n169 nin0)).ext E189).ext E201)
        obtain ⟨gg206, hg207, hg208, hO209⟩ := Own.start' hO174 (Own.same hO174 RI.flat (((Same.refl _ _).ext E189).ext E201) hN164 (Nat.le_trans (Nat.le_trans (Nat.le_trans (Nat.le_trans (Nat.le_trans (Nat.le_trans (Nat.le_trans (Nat.le_trans (Nat.le_trans (Below.size E26) (Below.size E35)) (Below.size E43)) (Nat.le_of_eq (Eq.symm (Wr.size W49)))) (Nat.le_of_eq (Eq.symm (Wr.size W53)))) (Below.size E59)) (Below.size E78)) (Nat.le_of_eq (Eq.symm (Wr.size W90)))) (KpL.size E117)) (KpL.size E145)))
        have hN214 : w20.heap.size ≤ gg206 := by rcases hg207 with h | h; exact h ▸ hN164; exact Nat.le_trans (Nat.le_trans (Nat.le_trans (Nat.le_trans (Nat.le_trans (Nat.le_trans (Nat.le_trans (Nat.le_trans (Nat.le_trans (Nat.le_trans (Below.size E26) (Below.size E35)) (Below.size E43)) (Nat.le_of_eq (Eq.symm (Wr.size W49)))) (Nat.le_of_eq (Eq.symm (Wr.size W53)))) (Below.size E59)) (Below.size E78)) (Nat.le_of_eq (Eq.symm (Wr.size W90)))) (KpL.size E117)) (KpL.size E145)) h
        have g215 : w.heap.size ≤ gg206 := Nat.le_trans (Nat.le_trans (Below.size E16) (Below.size E19)) hN214
        have n216 : g_b ≠ gg206 := hg207.elim (fun h => by rw [h]; exact n166) (fun h => Nat.ne_of_lt (Nat.lt_of_lt_of_le n160 h))
        have n217 : b32 ≠ gg206 := hg207.elim (fun h => by rw [h]; exact n167) (fun h => Nat.ne_of_lt (Nat.lt_of_lt_of_le n161 h))
        have n218 : b40 ≠ gg206 := hg207.elim (fun h => by rw [h]; exact n168) (fun h => Nat.ne_of_lt (Nat.lt_of_lt_of_le n162 h))
        have n219 : b83 ≠ gg206 := hg207.elim (fun h => by rw [h]; exact n169) (fun h => Nat.ne_of_lt (Nat.lt_of_lt_of_le n163 h))
        have hg220 : gg206 < w172.heap.size := by rcases hg208 with h | h; exact h ▸ Nat.lt_of_lt_of_le hg170 (KpL.size E173); exact h
        have hH221 : Hang w20.heap.size w200 (fun u => Sl RI 1 u (.slice p176 ((nbK A_g ix 3).length) q177) (nbK A_g ix 3)) := Own.hang hO209 RI.flat (by decide) hN214 (Nat.le_trans (Nat.le_trans (Nat.le_trans (Nat.le_trans (Nat.le_trans (Nat.le_trans (Nat.le_trans (Nat.le_trans (Nat.le_trans (Nat.le_trans (Nat.le_trans (Nat.le_trans (Below.size E26) (Below.size E35)) (Below.size E43)) (Nat.le_of_eq (Eq.symm (Wr.size W49)))) (Nat.le_of_eq (Eq.symm (Wr.size W53)))) (Below.size E59)) (Below.size E78)) (Nat.le_of_eq (Eq.symm (Wr.size W90)))) (KpL.size E117)) (KpL.size E145)) (KpL.size E173)) (Below.size E189)) (Below.size E201))
        have J185 : ∀ (u205 : Nat → Value) (y7_ : Value) (w222 : World), (KpL [gg206] w200 w222) → (Own RI 1 2 gg206 w200.heap.size w222 y7_ (nbK A_g ix 4)) → K185 (fr [(Pt g_b g_o), (Iv ix), Ud, Ud, (.slice none 0 0), (Pt b32 0), (Pt b40 0), y7_, (Pt b83 0), (Iv (-1)), (Iv 0), (Pt g_b g_o), (Iv ix), (.agg #[(Iv (ix % A_g.x)), (Iv (ix / A_g.x % A_g.y)), (Iv (ix / A_g.x / A_g.y))]), (Pt g_b g_o), (.agg #[(Iv A_g.x), (Iv A_g.y), (Iv A_g.z)]), (.slice (some ⟨b22, 0, none⟩) 0 0), v62, v63, v64, v65, v66, v67, v68, v69, v70, v71, v72, v73, v74, (.agg #[(Iv 1), (Iv A_g.x), (Iv (A_g.x * A_g.y))]), (Iv (-1)), (Bo false), (Iv 0), (Iv (-1)), (Iv 0), (Pt b32 0), (Iv (ix % A_g.x)), (Bo (icmp .gtr (ix % A_g.x) 0)), (u155 39), (u155 40), (u155 41), (u155 42), (u155 43), (u155 44), (u155 45), (u155 46), (Iv 0), (Bo true), (Iv 0), v192, v193, v194, v195, v196, v197, v198, (Bo β1), (u205 58), (u205 59), (u205 60), (u205 61), (u205 62), (u205 63), (u205 64), (u205 65), Ud, Ud]) w222 := by
          intro u205 y7_ w222 E223 hO224
          have X225 := Below.kl X204 E223 (allS g215 all0) (Nat.le_refl _)
          obtain ⟨p226, q227, rfl⟩ := Own.shape hO224
          have hH228 : Hang w20.heap.size w222 (fun u => Sl RI 1 u (.slice p226 ((nbK A_g ix 4).length) q227) (nbK A_g ix 4)) := Own.hang hO224 RI.flat (by decide) hN214 (Nat.le_trans (Nat.le_trans (Nat.le_trans (Nat.le_trans (Nat.le_trans (Nat.le_trans (Nat.le_trans (Nat.le_trans (Nat.le_trans (Nat.le_trans (Nat.le_trans (Nat.le_trans (Below.size E26) (Below.size E35)) (Below.size E43)) (Nat.le_of_eq (Eq.symm (Wr.size W49)))) (Nat.le_of_eq (Eq.symm (Wr.size W53)))) (Below.size E59)) (Below.size E78)) (Nat.le_of_eq (Eq.symm (Wr.size W90)))) (KpL.size E117)) (KpL.size E145)) (KpL.size E173)) (Below.size E189)) (Below.size E201))
          have hnl := nbK_len A_g ix 4
          refine hK185 _ _ ?_
          refine wp_region_lit ?_
          refine q_is rfl rfl (does_iarith (p := 0) (q := 1) (r := (1)) (ev rfl) (ev rfl) (.inl ⟨rfl, rfl⟩)) (by dsimp only [List.set]; try rfl) ?_
          refine q_is rfl rfl (does_move (u := (Iv 1)) (ev rfl)) (by dsimp only [List.set]; try rfl) ?_
          refine wpList_nil ?_
          refine un_step ?_
          refine wp_seq_k fun K229 hK229 => ?_
          refine wp_region_lit ?_
          refine q_is rfl rfl (does_icmp (p := 1) (q := 3) (.inr (.inr (.inl rfl))) (ev rfl) (ev rfl)) (by dsimp only [List.set]; try rfl) ?_
          refine wpList_nil (hK229 _ _ ?_)
          refine wp_seq_k fun K230 hK230 => ?_
          refine wp_cond_true (ev rfl) ?_
          refine wp_skip (hK230 _ _ ?_)
          refine wp_seq_k fun K231 hK231 => ?_
          refine wp_block ?_
          refine wp_seq_k fun K232 hK232 => ?_
          refine wp_region_lit ?_
          refine q_is rfl rfl (does_move (u := (Iv 1)) (ev rfl)) (by dsimp only [List.set]; try rfl) ?_
          refine q_is rfl rfl (does_assign (u := (Iv 1)) (ev rfl)) (by dsimp only [List.set]; try rfl) ?_
          refine wpList_nil (hK232 _ _ ?_)
          refine wp_seq_k fun K233 hK233 => ?_
          obtain ⟨β2, hβ2⟩ : ∃ b : Bool, b = (icmp .lss ((ix / A_g.x % A_g.y) + 1) A_g.y) := ⟨_, rfl⟩
          refine region_draw (
            [Fact.pure [] (fun v => v = (Iv 1)),
    Fact.pure [50] (fun v => v = (Pt b32 1)),
    Fact.pure [51] (fun v => v = (Iv (ix / A_g.x % A_g.y))),
    Fact.pure [52] (fun v => v = (Iv ((ix / A_g.x % A_g.y) + 1))),
    Fact.pure [] (fun v => v = (Iv 1)),
    Fact.pure [54] (fun v => v = (Pt b40 1)),
    Fact.pure [55] (fun v => v = (Iv A_g.y)),
    Fact.pure [53, 56] (fun v => v = (Bo β2))]) mixed (by kernel_rfl) (by intro _ _ d _ _ h; cases d <;> exact h) ?_
          obtain ⟨w234, hw236⟩ : ∃ w', w' = World.drew w222 := ⟨_, rfl⟩; rw [← hw236]; have E235 : Ext w222 w234 := by rw [hw236]; exact Ext.draw _
          clear hw236
          have X237 := Ext.gr X225 E235
          refine RW_d _ rfl (fun v => by dsimp only [List.set]; try rfl) (fun u hu hF => ?_) (fun v238 => ?_)
          · clear hF
            refine doesG_un rfl ?_
            refine (does_move (u := (Iv 1)) (ev rfl)).mono ?_; rintro _ _ ⟨rfl, rfl⟩
            exact ⟨rfl, Ext.refl _⟩
          refine RW_d _ rfl (fun v => by dsimp only [List.set]; try rfl) (fun u hu hF => ?_) (fun v239 => ?_)
          · have h50_ : v238 = (Iv 1) := hF.1
            clear hF
            refine doesG_un rfl ?_
            obtain rfl := h50_
            refine (does_indexAt_run (r := (Pt b32 1)) (ev rfl) (ev rfl) (fun w => ia55_1 _ _ w)).mono ?_; rintro _ _ ⟨rfl, rfl⟩
            exact ⟨rfl, Ext.refl _⟩
          refine RW_d _ rfl (fun v => by dsimp only [List.set]; try rfl) (fun u hu hF => ?_) (fun v240 => ?_)
          · have h51_ : v239 = (Pt b32 1) := hF.1
            clear hF
            refine doesG_un rfl ?_
            obtain rfl := h51_
            refine (does_load (u := (Iv (ix / A_g.x % A_g.y))) (ev rfl) Try.isAgg2 (Cells.at (Blk.cells ((((((((((((hB50.wr W53 (Nat.ne_of_lt n46)).ext E59).ext E78).wr W90 (Nat.ne_of_lt n87)).kl E117 (ninS (Nat.ne_of_gt n112) nin0)).kl E145 (ninS n139 nin0)).kl E173 (ninS n167 nin0)).ext E189).ext E201).kl E223 (ninS n217 nin0)).ext E235).ext hu)) 1 rfl)).mono ?_; rintro _ _ ⟨rfl, rfl⟩
            exact ⟨rfl, Ext.refl _⟩
          refine RW_d _ rfl (fun v => by dsimp only [List.set]; try rfl) (fun u hu hF => ?_) (fun v241 => ?_)
          · have h52_ : v240 = (Iv (ix / A_g.x % A_g.y)) := hF.1
            clear hF
            refine doesG_un rfl ?_
            obtain rfl := h52_
            refine (does_iarith (p := ix / A_g.x % A_g.y) (q := 1) (r := (ix / A_g.x % A_g.y) + 1) (ev rfl) (ev rfl) (.inl ⟨rfl, (in_i64 (by omega) (by omega)).symm⟩)).mono ?_; rintro _ _ ⟨rfl, rfl⟩
            exact ⟨rfl, Ext.refl _⟩
          refine RW_d _ rfl (fun v => by dsimp only [List.set]; try rfl) (fun u hu hF => ?_) (fun v242 => ?_)
          · clear hF
            refine doesG_un rfl ?_
            refine (does_move (u := (Iv 1)) (ev rfl)).mono ?_; rintro _ _ ⟨rfl, rfl⟩
            exact ⟨rfl, Ext.refl _⟩
          refine RW_d _ rfl (fun v => by dsimp only [List.set]; try rfl) (fun u hu hF => ?_) (fun v243 => ?_)
          · have h54_ : v242 = (Iv 1) := hF.1
            clear hF
            refine doesG_un rfl ?_
            obtain rfl := h54_
            refine (does_indexAt_run (r := (Pt b40 1)) (ev rfl) (ev rfl) (fun w => ia55_1 _ _ w)).mono ?_; rintro _ _ ⟨rfl, rfl⟩
            exact ⟨rfl, Ext.refl _⟩
          refine RW_d _ rfl (fun v => by dsimp only [List.set]; try rfl) (fun u hu hF => ?_) (fun v244 => ?_)
          · have h55_ : v243 = (Pt b40 1) := hF.1
            clear hF
            refine doesG_un rfl ?_
            obtain rfl := h55_
            refine (does_load (u := (Iv A_g.y)) (ev rfl) Try.isAgg2 (Cells.at (Blk.cells (((((((((((hB54.ext E59).ext E78).wr W90 (Nat.ne_of_lt n88)).kl E117 (ninS (Nat.ne_of_gt n113) nin0)).kl E145 (ninS n140 nin0)).kl E173 (ninS n168 nin0)).ext E189).ext E201).kl E223 (ninS n218 nin0)).ext E235).ext hu)) 1 rfl)).mono ?_; rintro _ _ ⟨rfl, rfl⟩
            exact ⟨rfl, Ext.refl _⟩
          refine RW_d _ rfl (fun v => by dsimp only [List.set]; try rfl) (fun u hu hF => ?_) (fun v245 => ?_)
          · have h53_ : v241 = (Iv ((ix / A_g.x % A_g.y) + 1)) := hF.1
            have h56_ : v244 = (Iv A_g.y) := hF.2.1
            clear hF
            refine doesG_un rfl ?_
            obtain rfl := h53_
            obtain rfl := h56_
            refine (does_icmp (p := (ix / A_g.x % A_g.y) + 1) (q := A_g.y) (.inr (.inr (.inl rfl))) (ev rfl) (ev rfl)).mono ?_; rintro _ _ ⟨rfl, rfl⟩
            exact ⟨(by first | rfl | (show _ = _; simp only [hβ2]; done) | (show _ = _; simp only [hβ2]; rfl)), Ext.refl _⟩
          refine RW_fin ?_; intro w246 E247 hP248
          obtain ⟨⟨⟨⟨⟨⟨⟨⟨-, -⟩, -⟩, -⟩, -⟩, -⟩, -⟩, -⟩, q249⟩ := hP248
          have X250 := Ext.gr X237 E247
          have q249 : v245 = (Bo β2) := q249
          obtain rfl := q249
          show wpList _ _ _ _ (fr [_, _, _, _, _, _, _, _, _, _, _, _, _, _, _, _, _, _, _, _, _, _, _, _, _, _, _, _, _, _, _, _, _, _, _, _, _, _, _, _, _, _, _, _, _, _, _, _, _, _, _, _, _, _, _, _, _, _, _, _, _, _, _, _, _, _, _, _]) _
          refine wpList_nil (hK233 _ _ ?_)
          have n256 : g_b < w246.heap.size := cell_lt (Cells.at (hc_g.ext X250) 0 rfl)
          have n257 : b32 < w246.heap.size := Blk.lt ((((((((((((hB50.wr W53 (Nat.ne_of_lt n46)).ext E59).ext E78).wr W90 (Nat.ne_of_lt n87)).kl E117 (ninS (Nat.ne_of_gt n112) nin0)).kl E145 (ninS n139 nin0)).kl E173 (ninS n167 nin0)).ext E189).ext E201).kl E223 (ninS n217 nin0)).ext E235).ext E247)
          have n258 : b40 < w246.heap.size := Blk.lt (((((((((((hB54.ext E59).ext E78).wr W90 (Nat.ne_of_lt n88)).kl E117 (ninS (Nat.ne_of_gt n113) nin0)).kl E145 (ninS n140 nin0)).kl E173 (ninS n168 nin0)).ext E189).ext E201).kl E223 (ninS n218 nin0)).ext E235).ext E247)
          have n259 : b83 < w246.heap.size := Blk.lt ((((((((hB91.kl E117 (ninS (Nat.ne_of_gt n114) nin0)).kl E145 (ninS n141 nin0)).kl E173 (ninS n169 nin0)).ext E189).ext E201).kl E223 (ninS n219 nin0)).ext E235).ext E247)
          obtain ⟨gg252, hg253, hg254, hO255⟩ := Own.start' hO224 (Own.same hO224 RI.flat (((Same.refl _ _).ext E235).ext E247) hN214 (Nat.le_trans (Nat.le_trans (Nat.le_trans (Nat.le_trans (Nat.le_trans (Nat.le_trans (Nat.le_trans (Nat.le_trans (Nat.le_trans (Nat.le_trans (Nat.le_trans (Nat.le_trans (Below.size E26) (Below.size E35)) (Below.size E43)) (Nat.le_of_eq (Eq.symm (Wr.size W49)))) (Nat.le_of_eq (Eq.symm (Wr.size W53)))) (Below.size E59)) (Below.size E78)) (Nat.le_of_eq (Eq.symm (Wr.size W90)))) (KpL.size E117)) (KpL.size E145)) (KpL.size E173)) (Below.size E189)) (Below.size E201)))
          have hN260 : w20.heap.size ≤ gg252 := by rcases hg253 with h | h; exact h ▸ hN214; exact Nat.le_trans (Nat.le_trans (Nat.le_trans (Nat.le_trans (Nat.le_trans (Nat.le_trans (Nat.le_trans (Nat.le_trans (Nat.le_trans (Nat.le_trans (Nat.le_trans (Nat.le_trans (Nat.le_trans (Below.size E26) (Below.size E35)) (Below.size E43)) (Nat.le_of_eq (Eq.symm (Wr.size W49)))) (Nat.le_of_eq (Eq.symm (Wr.size W53)))) (Below.size E59)) (Below.size E78)) (Nat.le_of_eq (Eq.symm (Wr.size W90)))) (KpL.size E117)) (KpL.size E145)) (KpL.size E173)) (Below.size E189)) (Below.size E201)) h
          have g261 : w.heap.size ≤ gg252 := Nat.le_trans (Nat.le_trans (Below.size E16) (Below.size E19)) hN260
          have n262 : g_b ≠ gg252 := hg253.elim (fun h => by rw [h]; exact n216) (fun h => Nat.ne_of_lt (Nat.lt_of_lt_of_le n210 h))
          have n263 : b32 ≠ gg252 := hg253.elim (fun h => by rw [h]; exact n217) (fun h => Nat.ne_of_lt (Nat.lt_of_lt_of_le n211 h))
          have n264 : b40 ≠ gg252 := hg253.elim (fun h => by rw [h]; exact n218) (fun h => Nat.ne_of_lt (Nat.lt_of_lt_of_le n212 h))
          have n265 : b83 ≠ gg252 := hg253.elim (fun h => by rw [h]; exact n219) (fun h => Nat.ne_of_lt (Nat.lt_of_lt_of_le n213 h))
          have hg266 : gg252 < w222.heap.size := by rcases hg254 with h | h; exact h ▸ Nat.lt_of_lt_of_le hg220 (Nat.le_trans (Nat.le_trans (Below.size E189) (Below.size E201)) (KpL.size E223)); exact h
          have hH267 : Hang w20.heap.size w246 (fun u => Sl RI 1 u (.slice p226 ((nbK A_g ix 4).length) q227) (nbK A_g ix 4)) := Own.hang hO255 RI.flat (by decide) hN260 (Nat.le_trans (Nat.le_trans (Nat.le_trans (Nat.le_trans (Nat.le_trans (Nat.le_trans (Nat.le_trans (Nat.le_trans (Nat.le_trans (Nat.le_trans (Nat.le_trans (Nat.le_trans (Nat.le_trans (Nat.le_trans (Nat.le_trans (Below.size E26) (Below.size E35)) (Below.size E43)) (Nat.le_of_eq (Eq.symm (Wr.size W49)))) (Nat.le_of_eq (Eq.symm (Wr.size W53)))) (Below.size E59)) (Below.size E78)) (Nat.le_of_eq (Eq.symm (Wr.size W90)))) (KpL.size E117)) (KpL.size E145)) (KpL.size E173)) (Below.size E189)) (Below.size E201)) (KpL.size E223)) (Below.size E235)) (Below.size E247))
          have J231 : ∀ (u251 : Nat → Value) (y7_ : Value) (w268 : World), (KpL [gg252] w246 w268) → (Own RI 1 2 gg252 w246.heap.size w268 y7_ (nbK A_g ix 5)) → K231 (fr [(Pt g_b g_o), (Iv ix), Ud, Ud, (.slice none 0 0), (Pt b32 0), (Pt b40 0), y7_, (Pt b83 0), (Iv (-1)), (Iv 1), (Pt g_b g_o), (Iv ix), (.agg #[(Iv (ix % A_g.x)), (Iv (ix / A_g.x % A_g.y)), (Iv (ix / A_g.x / A_g.y))]), (Pt g_b g_o), (.agg #[(Iv A_g.x), (Iv A_g.y), (Iv A_g.z)]), (.slice (some ⟨b22, 0, none⟩) 0 0), v62, v63, v64, v65, v66, v67, v68, v69, v70, v71, v72, v73, v74, (.agg #[(Iv 1), (Iv A_g.x), (Iv (A_g.x * A_g.y))]), (Iv (-1)), (Bo false), (Iv 0), (Iv (-1)), (Iv 0), (Pt b32 0), (Iv (ix % A_g.x)), (Bo (icmp .gtr (ix % A_g.x) 0)), (u155 39), (u155 40), (u155 41), (u155 42), (u155 43), (u155 44), (u155 45), (u155 46), (Iv 1), (Bo true), (Iv 1), v238, v239, v240, v241, v242, v243, v244, (Bo β2), (u251 58), (u251 59), (u251 60), (u251 61), (u251 62), (u251 63), (u251 64), (u251 65), (Iv 1), Ud]) w268 := by
            intro u251 y7_ w268 E269 hO270
            have X271 := Below.kl X250 E269 (allS g261 all0) (Nat.le_refl _)
            obtain ⟨p272, q273, rfl⟩ := Own.shape hO270
            have hH274 : Hang w20.heap.size w268 (fun u => Sl RI 1 u (.slice p272 ((nbK A_g ix 5).length) q273) (nbK A_g ix 5)) := Own.hang hO270 RI.flat (by decide) hN260 (Nat.le_trans (Nat.le_trans (Nat.le_trans (Nat.le_trans (Nat.le_trans (Nat.le_trans (Nat.le_trans (Nat.le_trans (Nat.le_trans (Nat.le_trans (Nat.le_trans (Nat.le_trans (Nat.le_trans (Nat.le_trans (Nat.le_trans (Below.size E26) (Below.size E35)) (Below.size E43)) (Nat.le_of_eq (Eq.symm (Wr.size W49)))) (Nat.le_of_eq (Eq.symm (Wr.size W53)))) (Below.size E59)) (Below.size E78)) (Nat.le_of_eq (Eq.symm (Wr.size W90)))) (KpL.size E117)) (KpL.size E145)) (KpL.size E173)) (Below.size E189)) (Below.size E201)) (KpL.size E223)) (Below.size E235)) (Below.size E247))
            have hnl := nbK_len A_g ix 5
            refine hK231 _ _ ?_
            refine wp_region_lit ?_
            refine q_is rfl rfl (does_iarith (p := 1) (q := 1) (r := (2)) (ev rfl) (ev rfl) (.inl ⟨rfl, rfl⟩)) (by dsimp only [List.set]; try rfl) ?_
            refine q_is rfl rfl (does_move (u := (Iv 2)) (ev rfl)) (by dsimp only [List.set]; try rfl) ?_
            refine wpList_nil ?_
            refine un_step ?_
            refine wp_seq_k fun K275 hK275 => ?_
            refine wp_region_lit ?_
            refine q_is rfl rfl (does_icmp (p := 2) (q := 3) (.inr (.inr (.inl rfl))) (ev rfl) (ev rfl)) (by dsimp only [List.set]; try rfl) ?_
            refine wpList_nil (hK275 _ _ ?_)
            refine wp_seq_k fun K276 hK276 => ?_
            refine wp_cond_true (ev rfl) ?_
            refine wp_skip (hK276 _ _ ?_)
            refine wp_seq_k fun K277 hK277 => ?_
            refine wp_block ?_
            refine wp_seq_k fun K278 hK278 => ?_
            refine wp_region_lit ?_
            refine q_is rfl rfl (does_move (u := (Iv 2)) (ev rfl)) (by dsimp only [List.set]; try rfl) ?_
            refine q_is rfl rfl (does_assign (u := (Iv 2)) (ev rfl)) (by dsimp only [List.set]; try rfl) ?_
            refine wpList_nil (hK278 _ _ ?_)
            refine wp_seq_k fun K279 hK279 => ?_
            obtain ⟨β3, hβ3⟩ : ∃ b : Bool, b = (icmp .lss ((ix / A_g.x / A_g.y) + 1) A_g.z) := ⟨_, rfl⟩
            refine region_draw (
              [Fact.pure [] (fun v => v = (Iv 2)),
    Fact.pure [50] (fun v => v = (Pt b32 2)),
    Fact.pure [51] (fun v => v = (Iv (ix / A_g.x / A_g.y))),
    Fact.pure [52] (fun v => v = (Iv ((ix / A_g.x / A_g.y) + 1))),
    Fact.pure [] (fun v => v = (Iv 2)),
    Fact.pure [54] (fun v => v = (Pt b40 2)),
    Fact.pure [55] (fun v => v = (Iv A_g.z)),
    Fact.pure [53, 56] (fun v => v = (Bo β3))]) mixed (by kernel_rfl) (by intro _ _ d _ _ h; cases d <;> exact h) ?_
            obtain ⟨w280, hw282⟩ : ∃ w', w' = World.drew w268 := ⟨_, rfl⟩; rw [← hw282]; have E281 : Ext w268 w280 := by rw [hw282]; exact Ext.draw _
            clear hw282
            have X283 := Ext.gr X271 E281
            refine RW_d _ rfl (fun v => by dsimp only [List.set]; try rfl) (fun u hu hF => ?_) (fun v284 => ?_)
            · clear hF
              refine doesG_un rfl ?_
              refine (does_move (u := (Iv 2)) (ev rfl)).mono ?_; rintro _ _ ⟨rfl, rfl⟩
              exact ⟨rfl, Ext.refl _⟩
            refine RW_d _ rfl (fun v => by dsimp only [List.set]; try rfl) (fun u hu hF => ?_) (fun v285 => ?_)
            · have h50_ : v284 = (Iv 2) := hF.1
              clear hF
              refine doesG_un rfl ?_
              obtain rfl := h50_
              refine (does_indexAt_run (r := (Pt b32 2)) (ev rfl) (ev rfl) (fun w => ia55_2 _ _ w)).mono ?_; rintro _ _ ⟨rfl, rfl⟩
              exact ⟨rfl, Ext.refl _⟩
            refine RW_d _ rfl (fun v => by dsimp only [List.set]; try rfl) (fun u hu hF => ?_) (fun v286 => ?_)
            · have h51_ : v285 = (Pt b32 2) := hF.1
              clear hF
              refine doesG_un rfl ?_
              obtain rfl := h51_
              refine (does_load (u := (Iv (ix / A_g.x / A_g.y))) (ev rfl) Try.isAgg2 (Cells.at (Blk.cells (((((((((((((((hB50.wr W53 (Nat.ne_of_lt n46)).ext E59).ext E78).wr W90 (Nat.ne_of_lt n87)).kl E117 (ninS (Nat.ne_of_gt n112) nin0)).kl E145 (ninS n139 nin0)).kl E173 (ninS n167 nin0)).ext E189).ext E201).kl E223 (ninS n217 nin0)).ext E235).ext E247).kl E269 (ninS n263 nin0)).ext E281).ext hu)) 2 rfl)).mono ?_; rintro _ _ ⟨rfl, rfl⟩
              exact ⟨rfl, Ext.refl _⟩
            refine RW_d _ rfl (fun v => by dsimp only [List.set]; try rfl) (fun u hu hF => ?_) (fun v287 => ?_)
            · have h52_ : v286 = (Iv (ix / A_g.x / A_g.y)) := hF.1
              clear hF
              refine doesG_un rfl ?_
              obtain rfl := h52_
              refine (does_iarith (p := ix / A_g.x / A_g.y) (q := 1) (r := (ix / A_g.x / A_g.y) + 1) (ev rfl) (ev rfl) (.inl ⟨rfl, (in_i64 (by omega) (by omega)).symm⟩)).mono ?_; rintro _ _ ⟨rfl, rfl⟩
              exact ⟨rfl, Ext.refl _⟩
            refine RW_d _ rfl (fun v => by dsimp only [List.set]; try rfl) (fun u hu hF => ?_) (fun v288 => ?_)
            · clear hF
              refine doesG_un rfl ?_
              refine (does_move (u := (Iv 2)) (ev rfl)).mono ?_; rintro _ _ ⟨rfl, rfl⟩
              exact ⟨rfl, Ext.refl _⟩
            refine RW_d _ rfl (fun v => by dsimp only [List.set]; try rfl) (fun u hu hF => ?_) (fun v289 => ?_)
            · have h54_ : v288 = (Iv 2) := hF.1
              clear hF
              refine doesG_un rfl ?_
              obtain rfl := h54_
              refine (does_indexAt_run (r := (Pt b40 2)) (ev rfl) (ev rfl) (fun w => ia55_2 _ _ w)).mono ?_; rintro _ _ ⟨rfl, rfl⟩
              exact ⟨rfl, Ext.refl _⟩
            refine RW_d _ rfl (fun v => by dsimp only [List.set]; try rfl) (fun u hu hF => ?_) (fun v290 => ?_)
            · have h55_ : v289 = (Pt b40 2) := hF.1
              clear hF
              refine doesG_un rfl ?_
              obtain rfl := h55_
              refine (does_load (u := (Iv A_g.z)) (ev rfl) Try.isAgg2 (Cells.at (Blk.cells ((((((((((((((hB54.ext E59).ext E78).wr W90 (Nat.ne_of_lt n88)).kl E117 (ninS (Nat.ne_of_gt n113) nin0)).kl E145 (ninS n140 nin0)).kl E173 (ninS n168 nin0)).ext E189).ext E201).kl E223 (ninS n218 nin0)).ext E235).ext E247).kl E269 (ninS n264 nin0)).ext E281).ext hu)) 2 rfl)).mono ?_; rintro _ _ ⟨rfl, rfl⟩
              exact ⟨rfl, Ext.refl _⟩
            refine RW_d _ rfl (fun v => by dsimp only [List.set]; try rfl) (fun u hu hF => ?_) (fun v291 => ?_)
            · have h53_ : v287 = (Iv ((ix / A_g.x / A_g.y) + 1)) := hF.1
              have h56_ : v290 = (Iv A_g.z) := hF.2.1
              clear hF
              refine doesG_un rfl ?_
              obtain rfl := h53_
              obtain rfl := h56_
              refine (does_icmp (p := (ix / A_g.x / A_g.y) + 1) (q := A_g.z) (.inr (.inr (.inl rfl))) (ev rfl) (ev rfl)).mono ?_; rintro _ _ ⟨rfl, rfl⟩
              exact ⟨(by first | rfl | (show _ = _; simp only [hβ3]; done) | (show _ = _; simp only [hβ3]; rfl)), Ext.refl _⟩
            refine RW_fin ?_; intro w292 E293 hP294
            obtain ⟨⟨⟨⟨⟨⟨⟨⟨-, -⟩, -⟩, -⟩, -⟩, -⟩, -⟩, -⟩, q295⟩ := hP294
            have X296 := Ext.gr X283 E293
            have q295 : v291 = (Bo β3) := q295
            obtain rfl := q295
            show wpList _ _ _ _ (fr [_, _, _, _, _, _, _, _, _, _, _, _, _, _, _, _, _, _, _, _, _, _, _, _, _, _, _, _, _, _, _, _, _, _, _, _, _, _, _, _, _, _, _, _, _, _, _, _, _, _, _, _, _, _, _, _, _, _, _, _, _, _, _, _, _, _, _, _]) _
            refine wpList_nil (hK279 _ _ ?_)
            have n302 : g_b < w292.heap.size := cell_lt (Cells.at (hc_g.ext X296) 0 rfl)
            have n303 : b32 < w292.heap.size := Blk.lt (((((((((((((((hB50.wr W53 (Nat.ne_of_lt n46)).ext E59).ext E78).wr W90 (Nat.ne_of_lt n87)).kl E117 (ninS (Nat.ne_of_gt n112) nin0)).kl E145 (ninS n139 nin0)).kl E173 (ninS n167 nin0)).ext E189).ext E201).kl E223 (ninS n217 nin0)).ext E235).ext E247).kl E269 (ninS n263 nin0)).ext E281).ext E293)
            have n304 : b40 < w292.heap.size := Blk.lt ((((((((((((((hB54.ext E59).ext E78).wr W90 (Nat.ne_of_lt n88)).kl E117 (ninS (Nat.ne_of_gt n113) nin0)).kl E145 (ninS n140 nin0)).kl E173 (ninS n168 nin0)).ext E189).ext E201).kl E223 (ninS n218 nin0)).ext E235).ext E247).kl E269 (ninS n264 nin0)).ext E281).ext E293)
            have n305 : b83 < w292.heap.size := Blk.lt (((((((((((hB91.kl E117 (ninS (Nat.ne_of_gt n114) nin0)).kl E145 (ninS n141 nin0)).kl E173 (ninS n169 nin0)).ext E189).ext E201).kl E223 (ninS n219 nin0)).ext E235).ext E247).kl E269 (ninS n265 nin0)).ext E281).ext E293)
            obtain ⟨gg298, hg299, hg300, hO301⟩ := Own.start' hO270 (Own.same hO270 RI.flat (((Same.refl _ _).ext E281).ext E293) hN260 (Nat.le_trans (Nat.le_trans (Nat.le_trans (Nat.le_trans (Nat.le_trans (Nat.le_trans (Nat.le_trans (Nat.le_trans (Nat.le_trans (Nat.le_trans (Nat.le_trans (Nat.le_trans (Nat.le_trans (Nat.le_trans (Nat.le_trans (Below.size E26) (Below.size E35)) (Below.size E43)) (Nat.le_of_eq (Eq.symm (Wr.size W49)))) (Nat.le_of_eq (Eq.symm (Wr.size W53)))) (Below.size E59)) (Below.size E78)) (Nat.le_of_eq (Eq.symm (Wr.size W90)))) (KpL.size E117)) (KpL.size E145)) (KpL.size E173)) (Below.size E189)) (Below.size E201)) (KpL.size E223)) (Below.size E235)) (Below.size E247)))
            have hN306 : w20.heap.size ≤ gg298 := by rcases hg299 with h | h; exact h ▸ hN260; exact Nat.le_trans (Nat.le_trans (Nat.le_trans (Nat.le_trans (Nat.le_trans (Nat.le_trans (Nat.le_trans (Nat.le_trans (Nat.le_trans (Nat.le_trans (Nat.le_trans (Nat.le_trans (Nat.le_trans (Nat.le_trans (Nat.le_trans (Nat.le_trans (Below.size E26) (Below.size E35)) (Below.size E43)) (Nat.le_of_eq (Eq.symm (Wr.size W49)))) (Nat.le_of_eq (Eq.symm (Wr.size W53)))) (Below.size E59)) (Below.size E78)) (Nat.le_of_eq (Eq.symm (Wr.size W90)))) (KpL.size E117)) (KpL.size E145)) (KpL.size E173)) (Below.size E189)) (Below.size E201)) (KpL.size E223)) (Below.size E235)) (Below.size E247)) h
            have g307 : w.heap.size ≤ gg298 := Nat.le_trans (Nat.le_trans (Below.size E16) (Below.size E19)) hN306
            have n308 : g_b ≠ gg298 := hg299.elim (fun h => by rw [h]; exact n262) (fun h => Nat.ne_of_lt (Nat.lt_of_lt_of_le n256 h))
            have n309 : b32 ≠ gg298 := hg299.elim (fun h => by rw [h]; exact n263) (fun h => Nat.ne_of_lt (Nat.lt_of_lt_of_le n257 h))
            have n310 : b40 ≠ gg298 := hg299.elim (fun h => by rw [h]; exact n264) (fun h => Nat.ne_of_lt (Nat.lt_of_lt_of_le n258 h))
            have n311 : b83 ≠ gg298 := hg299.elim (fun h => by rw [h]; exact n265) (fun h => Nat.ne_of_lt (Nat.lt_of_lt_of_le n259 h))
            have hg312 : gg298 < w268.heap.size := by rcases hg300 with h | h; exact h ▸ Nat.lt_of_lt_of_le hg266 (Nat.le_trans (Nat.le_trans (Below.size E235) (Below.size E247)) (KpL.size E269)); exact h
            have hH313 : Hang w20.heap.size w292 (fun u => Sl RI 1 u (.slice p272 ((nbK A_g ix 5).length) q273) (nbK A_g ix 5)) := Own.hang hO301 RI.flat (by decide) hN306 (Nat.le_trans (Nat.le_trans (Nat.le_trans (Nat.le_trans (Nat.le_trans (Nat.le_trans (Nat.le_trans (Nat.le_trans (Nat.le_trans (Nat.le_trans (Nat.le_trans (Nat.le_trans (Nat.le_trans (Nat.le_trans (Nat.le_trans (Nat.le_trans (Nat.le_trans (Nat.le_trans (Below.size E26) (Below.size E35)) (Below.size E43)) (Nat.le_of_eq (Eq.symm (Wr.size W49)))) (Nat.le_of_eq (Eq.symm (Wr.size W53)))) (Below.size E59)) (Below.size E78)) (Nat.le_of_eq (Eq.symm (Wr.size W90)))) (KpL.size E117)) (KpL.size E145)) (KpL.size E173)) (Below.size E189)) (Below.size E201)) (KpL.size E223)) (Below.size E235)) (Below.size E247)) (KpL.size E269)) (Below.size E281)) (Below.size E293))
            have J277 : ∀ (u297 : Nat → Value) (y7_ : Value) (w314 : World), (KpL [gg298] w292 w314) → (Own RI 1 2 gg298 w292.heap.size w314 y7_ (nbK A_g ix 6)) → K277 (fr [(Pt g_b g_o), (Iv ix), Ud, Ud, (.slice none 0 0), (Pt b32 0), (Pt b40 0), y7_, (Pt b83 0), (Iv (-1)), (Iv 2), (Pt g_b g_o), (Iv ix), (.agg #[(Iv (ix % A_g.x)), (Iv (ix / A_g.x % A_g.y)), (Iv (ix / A_g.x / A_g.y))]), (Pt g_b g_o), (.agg #[(Iv A_g.x), (Iv A_g.y), (Iv A_g.z)]), (.slice (some ⟨b22, 0, none⟩) 0 0), v62, v63, v64, v65, v66, v67, v68, v69, v70, v71, v72, v73, v74, (.agg #[(Iv 1), (Iv A_g.x), (Iv (A_g.x * A_g.y))]), (Iv (-1)), (Bo false), (Iv 0), (Iv (-1)), (Iv 0), (Pt b32 0), (Iv (ix % A_g.x)), (Bo (icmp .gtr (ix % A_g.x) 0)), (u155 39), (u155 40), (u155 41), (u155 42), (u155 43), (u155 44), (u155 45), (u155 46), (Iv 2), (Bo true), (Iv 2), v284, v285, v286, v287, v288, v289, v290, (Bo β3), (u297 58), (u297 59), (u297 60), (u297 61), (u297 62), (u297 63), (u297 64), (u297 65), (Iv 2), Ud]) w314 := by
              intro u297 y7_ w314 E315 hO316
              have X317 := Below.kl X296 E315 (allS g307 all0) (Nat.le_refl _)
              obtain ⟨p318, q319, rfl⟩ := Own.shape hO316
              have hH320 : Hang w20.heap.size w314 (fun u => Sl RI 1 u (.slice p318 ((nbK A_g ix 6).length) q319) (nbK A_g ix 6)) := Own.hang hO316 RI.flat (by decide) hN306 (Nat.le_trans (Nat.le_trans (Nat.le_trans (Nat.le_trans (Nat.le_trans (Nat.le_trans (Nat.le_trans (Nat.le_trans (Nat.le_trans (Nat.le_trans (Nat.le_trans (Nat.le_trans (Nat.le_trans (Nat.le_trans (Nat.le_trans (Nat.le_trans (Nat.le_trans (Nat.le_trans (Below.size E26) (Below.size E35)) (Below.size E43)) (Nat.le_of_eq (Eq.symm (Wr.size W49)))) (Nat.le_of_eq (Eq.symm (Wr.size W53)))) (Below.size E59)) (Below.size E78)) (Nat.le_of_eq (Eq.symm (Wr.size W90)))) (KpL.size E117)) (KpL.size E145)) (KpL.size E173)) (Below.size E189)) (Below.size E201)) (KpL.size E223)) (Below.size E235)) (Below.size E247)) (KpL.size E269)) (Below.size E281)) (Below.size E293))
              have hnl := nbK_len A_g ix 6
              refine hK277 _ _ ?_
              refine wp_region_lit ?_
              refine q_is rfl rfl (does_iarith (p := 2) (q := 1) (r := (3)) (ev rfl) (ev rfl) (.inl ⟨rfl, rfl⟩)) (by dsimp only [List.set]; try rfl) ?_
              refine q_is rfl rfl (does_move (u := (Iv 3)) (ev rfl)) (by dsimp only [List.set]; try rfl) ?_
              refine wpList_nil ?_
              refine un_step ?_
              refine wp_seq_k fun K321 hK321 => ?_
              refine wp_region_lit ?_
              refine q_is rfl rfl (does_icmp (p := 3) (q := 3) (.inr (.inr (.inl rfl))) (ev rfl) (ev rfl)) (by dsimp only [List.set]; try rfl) ?_
              refine wpList_nil (hK321 _ _ ?_)
              refine wp_seq_k fun K322 hK322 => ?_
              refine wp_cond_false (ev rfl) ?_
              refine wp_exit ?_
              refine hK181 _ _ ?_
              refine wp_seq_k fun K323 hK323 => ?_
              refine wp_region_lit ?_
              refine q_is rfl rfl (does_move (u := (.slice p318 ((nbK A_g ix 6).length) q319)) (ev rfl)) (by dsimp only [List.set]; try rfl) ?_
              refine q_is rfl rfl (does_assign (u := (.slice p318 ((nbK A_g ix 6).length) q319)) (ev rfl)) (by dsimp only [List.set]; try rfl) ?_
              refine wpList_nil (hK323 _ _ ?_)
              refine wp_ret ?_
              refine ret_val (v := (.slice p318 ((nbK A_g ix 6).length) q319)) (res_T rfl (slot rfl)) X317 ?_
              have x324 : (nbK A_g ix 6) = (nb A_g ix) := by rfl
              exact ⟨(.slice p318 ((nbK A_g ix 6).length) q319), rfl, (Hang.castL (Own.hang hO316 RI.flat (by decide) (Nat.le_trans (Nat.le_trans (Below.size E16) (Below.size E19)) hN306) (Nat.le_trans (Nat.le_trans (Below.size E16) (Below.size E19)) (Nat.le_trans (Nat.le_trans (Nat.le_trans (Nat.le_trans (Nat.le_trans (Nat.le_trans (Nat.le_trans (Nat.le_trans (Nat.le_trans (Nat.le_trans (Nat.le_trans (Nat.le_trans (Nat.le_trans (Nat.le_trans (Nat.le_trans (Nat.le_trans (Nat.le_trans (Nat.le_trans (Below.size E26) (Below.size E35)) (Below.size E43)) (Nat.le_of_eq (Eq.symm (Wr.size W49)))) (Nat.le_of_eq (Eq.symm (Wr.size W53)))) (Below.size E59)) (Below.size E78)) (Nat.le_of_eq (Eq.symm (Wr.size W90)))) (KpL.size E117)) (KpL.size E145)) (KpL.size E173)) (Below.size E189)) (Below.size E201)) (KpL.size E223)) (Below.size E235)) (Below.size E247)) (KpL.size E269)) (Below.size E281)) (Below.size E293)))) x324)⟩
            refine wp_cond_split (t := β3) (ev rfl) (fun c325 => ?_) (fun c325 => ?_)
            · have c325' := c325
              (try simp only [hβ1, hβ2, hβ3] at c325')
              (try simp only [icmp, Bool.and_eq_true, Bool.or_eq_true, Bool.and_eq_false_iff, Bool.or_eq_false_iff, Bool.not_eq_true', Bool.not_eq_false', decide_eq_true_eq, decide_eq_false_iff_not, beq_iff_eq, bne_iff_ne, beq_eq_false_iff_ne, bne_eq_false_iff_eq] at c325')
              refine wp_region_lit ?_
              refine q_is rfl rfl (does_move (u := (.slice p272 ((nbK A_g ix 5).length) q273)) (ev rfl)) (by dsimp only [List.set]; try rfl) ?_
              refine q_is rfl rfl (does_move (u := (Iv ix)) (ev rfl)) (by dsimp only [List.set]; try rfl) ?_
              refine q_is rfl rfl (does_move (u := (Iv 2)) (ev rfl)) (by dsimp only [List.set]; try rfl) ?_
              refine q_is rfl rfl (does_indexAt_run (r := (Pt b83 2)) (ev rfl) (ev rfl) (fun w => ia55_2 _ _ w)) (by dsimp only [List.set]; try rfl) ?_
              refine q_is rfl rfl (does_load (u := (Iv (A_g.x * A_g.y))) (ev rfl) Try.isAgg2 (Cells.at (Blk.cells (((((((((((hB91.kl E117 (ninS (Nat.ne_of_gt n114) nin0)).kl E145 (ninS n141 nin0)).kl E173 (ninS n169 nin0)).ext E189).ext E201).kl E223 (ninS n219 nin0)).ext E235).ext E247).kl E269 (ninS n265 nin0)).ext E281).ext E293)) 2 rfl)) (by dsimp only [List.set]; try rfl) ?_
              refine q_is rfl rfl (does_iarith (p := ix) (q := A_g.x * A_g.y) (r := ix + (A_g.x * A_g.y)) (ev rfl) (ev rfl) (.inl ⟨rfl, (in_i64 (by omega) (by omega)).symm⟩)) (by dsimp only [List.set]; try rfl) ?_
              refine seqd rfl rfl (does_buildSlice (e := 2) (parts' := [(0, (Iv (ix + (A_g.x * A_g.y))))]) (cells := [(Iv (ix + (A_g.x * A_g.y)))]) (evp rfl) (fun _ => by kernel_rfl)) ?_; rintro _ w330 ⟨b326, rfl, hb327, hB328, E329⟩
              have n331 : g_b < b326 := Nat.lt_of_lt_of_le (cell_lt (Cells.at (hc_g.ext X296) 0 rfl)) hb327
              have n332 : b32 < b326 := Nat.lt_of_lt_of_le (Blk.lt (((((((((((((((hB50.wr W53 (Nat.ne_of_lt n46)).ext E59).ext E78).wr W90 (Nat.ne_of_lt n87)).kl E117 (ninS (Nat.ne_of_gt n112) nin0)).kl E145 (ninS n139 nin0)).kl E173 (ninS n167 nin0)).ext E189).ext E201).kl E223 (ninS n217 nin0)).ext E235).ext E247).kl E269 (ninS n263 nin0)).ext E281).ext E293)) hb327
              have n333 : b40 < b326 := Nat.lt_of_lt_of_le (Blk.lt ((((((((((((((hB54.ext E59).ext E78).wr W90 (Nat.ne_of_lt n88)).kl E117 (ninS (Nat.ne_of_gt n113) nin0)).kl E145 (ninS n140 nin0)).kl E173 (ninS n168 nin0)).ext E189).ext E201).kl E223 (ninS n218 nin0)).ext E235).ext E247).kl E269 (ninS n264 nin0)).ext E281).ext E293)) hb327
              have n334 : b83 < b326 := Nat.lt_of_lt_of_le (Blk.lt (((((((((((hB91.kl E117 (ninS (Nat.ne_of_gt n114) nin0)).kl E145 (ninS n141 nin0)).kl E173 (ninS n169 nin0)).ext E189).ext E201).kl E223 (ninS n219 nin0)).ext E235).ext E247).kl E269 (ninS n265 nin0)).ext E281).ext E293)) hb327
              have g335 : w.heap.size ≤ b326 := Nat.le_trans (Below.size X296) hb327
              have X336 := Ext.gr X296 E329
              show wpList _ _ _ _ (fr [_, _, _, _, _, _, _, _, _, _, _, _, _, _, _, _, _, _, _, _, _, _, _, _, _, _, _, _, _, _, _, _, _, _, _, _, _, _, _, _, _, _, _, _, _, _, _, _, _, _, _, _, _, _, _, _, _, _, _, _, _, _, _, _, _, _, _, _]) _
              refine seqd rfl rfl (does_append (R := RI) (k := 1) (g0 := gg298) (B := w292.heap.size) (xs := (nbK A_g ix 5)) (ys := [ix + (A_g.x * A_g.y)]) Try.underlying38 inf2 rfl (by decide) (ev rfl) (ev rfl) (Own.same hO301 RI.flat ((Same.refl _ _).ext E329) hN306 (Nat.le_trans (Nat.le_trans (Nat.le_trans (Nat.le_trans (Nat.le_trans (Nat.le_trans (Nat.le_trans (Nat.le_trans (Nat.le_trans (Nat.le_trans (Nat.le_trans (Nat.le_trans (Nat.le_trans (Nat.le_trans (Nat.le_trans (Nat.le_trans (Nat.le_trans (Nat.le_trans (Below.size E26) (Below.size E35)) (Below.size E43)) (Nat.le_of_eq (Eq.symm (Wr.size W49)))) (Nat.le_of_eq (Eq.symm (Wr.size W53)))) (Below.size E59)) (Below.size E78)) (Nat.le_of_eq (Eq.symm (Wr.size W90)))) (KpL.size E117)) (KpL.size E145)) (KpL.size E173)) (Below.size E189)) (Below.size E201)) (KpL.size E223)) (Below.size E235)) (Below.size E247)) (KpL.size E269)) (Below.size E281)) (Below.size E293))) RI.flat hB328 rfl rfl rfl (fun i x hi => lit1 (R := RI) (cs := [(Iv (ix + (A_g.x * A_g.y)))]) (y := ix + (A_g.x * A_g.y))  rfl i x hi) (by first | (simp only [List.length_append, List.length_cons, List.length_nil]; omega) | omega) (Below.size E329)) ?_; rintro y' w337 ⟨gg338, hg339, K340, hO341⟩
              have hN342 : w20.heap.size ≤ gg338 := by rcases hg339 with h | h; exact h ▸ hN306; exact Nat.le_trans (Nat.le_trans (Nat.le_trans (Nat.le_trans (Nat.le_trans (Nat.le_trans (Nat.le_trans (Nat.le_trans (Nat.le_trans (Nat.le_trans (Nat.le_trans (Nat.le_trans (Nat.le_trans (Nat.le_trans (Nat.le_trans (Nat.le_trans (Nat.le_trans (Nat.le_trans (Nat.le_trans (Below.size E26) (Below.size E35)) (Below.size E43)) (Nat.le_of_eq (Eq.symm (Wr.size W49)))) (Nat.le_of_eq (Eq.symm (Wr.size W53)))) (Below.size E59)) (Below.size E78)) (Nat.le_of_eq (Eq.symm (Wr.size W90)))) (KpL.size E117)) (KpL.size E145)) (KpL.size E173)) (Below.size E189)) (Below.size E201)) (KpL.size E223)) (Below.size E235)) (Below.size E247)) (KpL.size E269)) (Below.size E281)) (Below.size E293)) h
              have g343 : w.heap.size ≤ gg338 := Nat.le_trans (Nat.le_trans (Below.size E16) (Below.size E19)) hN342
              have n344 : g_b ≠ gg338 := hg339.elim (fun h => by rw [h]; exact n308) (fun h => Nat.ne_of_lt (Nat.lt_of_lt_of_le n302 h))
              have n345 : b32 ≠ gg338 := hg339.elim (fun h => by rw [h]; exact n309) (fun h => Nat.ne_of_lt (Nat.lt_of_lt_of_le n303 h))
              have n346 : b40 ≠ gg338 := hg339.elim (fun h => by rw [h]; exact n310) (fun h => Nat.ne_of_lt (Nat.lt_of_lt_of_le n304 h))
              have n347 : b83 ≠ gg338 := hg339.elim (fun h => by rw [h]; exact n311) (fun h => Nat.ne_of_lt (Nat.lt_of_lt_of_le n305 h))
              have X348 := Below.kl X336 K340 (allS g343 all0) (Nat.le_refl _)
              obtain ⟨p349, q350, rfl⟩ := Own.shape hO341
              have hH351 : Hang w20.heap.size w337 (fun u => Sl RI 1 u (.slice p349 (((nbK A_g ix 5) ++ [ix + (A_g.x * A_g.y)]).length) q350) ((nbK A_g ix 5) ++ [ix + (A_g.x * A_g.y)])) := Own.hang hO341 RI.flat (by decide) hN306 (Nat.le_trans (Nat.le_trans (Nat.le_trans (Nat.le_trans (Nat.le_trans (Nat.le_trans (Nat.le_trans (Nat.le_trans (Nat.le_trans (Nat.le_trans (Nat.le_trans (Nat.le_trans (Nat.le_trans (Nat.le_trans (Nat.le_trans (Nat.le_trans (Nat.le_trans (Nat.le_trans (Below.size E26) (Below.size E35)) (Below.size E43)) (Nat.le_of_eq (Eq.symm (Wr.size W49)))) (Nat.le_of_eq (Eq.symm (Wr.size W53)))) (Below.size E59)) (Below.size E78)) (Nat.le_of_eq (Eq.symm (Wr.size W90)))) (KpL.size E117)) (KpL.size E145)) (KpL.size E173)) (Below.size E189)) (Below.size E201)) (KpL.size E223)) (Below.size E235)) (Below.size E247)) (KpL.size E269)) (Below.size E281)) (Below.size E293))
              show wpList _ _ _ _ (fr [_, _, _, _, _, _, _, _, _, _, _, _, _, _, _, _, _, _, _, _, _, _, _, _, _, _, _, _, _, _, _, _, _, _, _, _, _, _, _, _, _, _, _, _, _, _, _, _, _, _, _, _, _, _, _, _, _, _, _, _, _, _, _, _, _, _, _, _]) _
              refine q_is rfl rfl (does_assign (u := (.slice p349 (((nbK A_g ix 5) ++ [ix + (A_g.x * A_g.y)]).length) q350)) (ev rfl)) (by dsimp only [List.set]; try rfl) ?_
              have hO352 := Own.cast (ys := nbK A_g ix 6) hO341 (by first | exact nb_f0 (if_neg (by omega)) | exact nb_t0 (if_pos (by omega)) | exact nb_t (if_pos (by omega)) | exact nb_f (if_neg (by omega)))
              exact wpList_nil (J277 (fun t => (([(Pt g_b g_o), (Iv ix), Ud, Ud, (.slice none 0 0), (Pt b32 0), (Pt b40 0), (.slice p349 (((nbK A_g ix 5) ++ [ix + (A_g.x * A_g.y)]).length) q350), (Pt b83 0), (Iv (-1)), (Iv 2), (Pt g_b g_o), (Iv ix), (.agg #[(Iv (ix % A_g.x)), (Iv (ix / A_g.x % A_g.y)), (Iv (ix / A_g.x / A_g.y))]), (Pt g_b g_o), (.agg #[(Iv A_g.x), (Iv A_g.y), (Iv A_g.z)]), (.slice (some ⟨b22, 0, none⟩) 0 0), v62, v63, v64, v65, v66, v67, v68, v69, v70, v71, v72, v73, v74, (.agg #[(Iv 1), (Iv A_g.x), (Iv (A_g.x * A_g.y))]), (Iv (-1)), (Bo false), (Iv 0), (Iv (-1)), (Iv 0), (Pt b32 0), (Iv (ix % A_g.x)), (Bo (icmp .gtr (ix % A_g.x) 0)), (u155 39), (u155 40), (u155 41), (u155 42), (u155 43), (u155 44), (u155 45), (u155 46), (Iv 2), (Bo true), (Iv 2), v284, v285, v286, v287, v288, v289, v290, (Bo β3), (.slice p272 ((nbK A_g ix 5).length) q273), (Iv ix), (Iv 2), (Pt b83 2), (Iv (A_g.x * A_g.y)), (Iv (ix + (A_g.x * A_g.y))), (.slice (some ⟨b326, 0, none⟩) 1 1), (.slice p349 (((nbK A_g ix 5) ++ [ix + (A_g.x * A_g.y)]).length) q350), (Iv 2), Ud] : List Value)[t]?).getD undef) (.slice p349 (((nbK A_g ix 5) ++ [ix + (A_g.x * A_g.y)]).length) q350) _ (KpL.more (KpL.ext (KpL.refl _ _) E329) K340 (allS (hg339.imp (fun h => by simp [h]) id) all0)) hO352)
            have c325' := c325
            (try simp only [hβ1, hβ2, hβ3] at c325')
            (try simp only [icmp, Bool.and_eq_true, Bool.or_eq_true, Bool.and_eq_false_iff, Bool.or_eq_false_iff, Bool.not_eq_true', Bool.not_eq_false', decide_eq_true_eq, decide_eq_false_iff_not, beq_iff_eq, bne_iff_ne, beq_eq_false_iff_ne, bne_eq_false_iff_eq] at c325')
            have hO353 := Own.cast (ys := nbK A_g ix 6) hO301 (by first | exact nb_f0 (if_neg (by omega)) | exact nb_t0 (if_pos (by omega)) | exact nb_t (if_pos (by omega)) | exact nb_f (if_neg (by omega)))
            exact wp_skip (J277 (fun t => (([(Pt g_b g_o), (Iv ix), Ud, Ud, (.slice none 0 0), (Pt b32 0), (Pt b40 0), (.slice p272 ((nbK A_g ix 5).length) q273), (Pt b83 0), (Iv (-1)), (Iv 2), (Pt g_b g_o), (Iv ix), (.agg #[(Iv (ix % A_g.x)), (Iv (ix / A_g.x % A_g.y)), (Iv (ix / A_g.x / A_g.y))]), (Pt g_b g_o), (.agg #[(Iv A_g.x), (Iv A_g.y), (Iv A_g.z)]), (.slice (some ⟨b22, 0, none⟩) 0 0), v62, v63, v64, v65, v66, v67, v68, v69, v70, v71, v72, v73, v74, (.agg #[(Iv 1), (Iv A_g.x), (Iv (A_g.x * A_g.y))]), (Iv (-1)), (Bo false), (Iv 0), (Iv (-1)), (Iv 0), (Pt b32 0), (Iv (ix % A_g.x)), (Bo (icmp .gtr (ix % A_g.x) 0)), (u155 39), (u155 40), (u155 41), (u155 42), (u155 43), (u155 44), (u155 45), (u155 46), (Iv 2), (Bo true), (Iv 2), v284, v285, v286, v287, v288, v289, v290, (Bo β3), (u251 58), (u251 59), (u251 60), (u251 61), (u251 62), (u251 63), (u251 64), (u251 65), (Iv 2), Ud] : List Value)[t]?).getD undef) (.slice p272 ((nbK A_g ix 5).length) q273) _ (KpL.refl _ _) hO353)
          refine wp_cond_split (t := β2) (ev rfl) (fun c354 => ?_) (fun c354 => ?_)
          · have c354' := c354
            (try simp only [hβ1, hβ2] at c354')
            (try simp only [icmp, Bool.and_eq_true, Bool.or_eq_true, Bool.and_eq_false_iff, Bool.or_eq_false_iff, Bool.not_eq_true', Bool.not_eq_false', decide_eq_true_eq, decide_eq_false_iff_not, beq_iff_eq, bne_iff_ne, beq_eq_false_iff_ne, bne_eq_false_iff_eq] at c354')
            refine wp_region_lit ?_
            refine q_is rfl rfl (does_move (u := (.slice p226 ((nbK A_g ix 4).length) q227)) (ev rfl)) (by dsimp only [List.set]; try rfl) ?_
            refine q_is rfl rfl (does_move (u := (Iv ix)) (ev rfl)) (by dsimp only [List.set]; try rfl) ?_
            refine q_is rfl rfl (does_move (u := (Iv 1)) (ev rfl)) (by dsimp only [List.set]; try rfl) ?_
            refine q_is rfl rfl (does_indexAt_run (r := (Pt b83 1)) (ev rfl) (ev rfl) (fun w => ia55_1 _ _ w)) (by dsimp only [List.set]; try rfl) ?_
            refine q_is rfl rfl (does_load (u := (Iv A_g.x)) (ev rfl) Try.isAgg2 (Cells.at (Blk.cells ((((((((hB91.kl E117 (ninS (Nat.ne_of_gt n114) nin0)).kl E145 (ninS n141 nin0)).kl E173 (ninS n169 nin0)).ext E189).ext E201).kl E223 (ninS n219 nin0)).ext E235).ext E247)) 1 rfl)) (by dsimp only [List.set]; try rfl) ?_
            refine q_is rfl rfl (does_iarith (p := ix) (q := A_g.x) (r := ix + A_g.x) (ev rfl) (ev rfl) (.inl ⟨rfl, (in_i64 (by omega) (by omega)).symm⟩)) (by dsimp only [List.set]; try rfl) ?_
            refine seqd rfl rfl (does_buildSlice (e := 2) (parts' := [(0, (Iv (ix + A_g.x)))]) (cells := [(Iv (ix + A_g.x))]) (evp rfl) (fun _ => by kernel_rfl)) ?_; rintro _ w359 ⟨b355, rfl, hb356, hB357, E358⟩
            have n360 : g_b < b355 := Nat.lt_of_lt_of_le (cell_lt (Cells.at (hc_g.ext X250) 0 rfl)) hb356
            have n361 : b32 < b355 := Nat.lt_of_lt_of_le (Blk.lt ((((((((((((hB50.wr W53 (Nat.ne_of_lt n46)).ext E59).ext E78).wr W90 (Nat.ne_of_lt n87)).kl E117 (ninS (Nat.ne_of_gt n112) nin0)).kl E145 (ninS n139 nin0)).kl E173 (ninS n167 nin0)).ext E189).ext E201).kl E223 (ninS n217 nin0)).ext E235).ext E247)) hb356
            have n362 : b40 < b355 := Nat.lt_of_lt_of_le (Blk.lt (((((((((((hB54.ext E59).ext E78).wr W90 (Nat.ne_of_lt n88)).kl E117 (ninS (Nat.ne_of_gt n113) nin0)).kl E145 (ninS n140 nin0)).kl E173 (ninS n168 nin0)).ext E189).ext E201).kl E223 (ninS n218 nin0)).ext E235).ext E247)) hb356
            have n363 : b83 < b355 := Nat.lt_of_lt_of_le (Blk.lt ((((((((hB91.kl E117 (ninS (Nat.ne_of_gt n114) nin0)).kl E145 (ninS n141 nin0)).kl E173 (ninS n169 nin0)).ext E189).ext E201).kl E223 (ninS n219 nin0)).ext E235).ext E247)) hb356
            have g364 : w.heap.size ≤ b355 := Nat.le_trans (Below.size X250) hb356
            have X365 := Ext.gr X250 E358
            show wpList _ _ _ _ (fr [_, _, _, _, _, _, _, _, _, _, _, _, _, _, _, _, _, _, _, _, _, _, _, _, _, _, _, _, _, _, _, _, _, _, _, _, _, _, _, _, _, _, _, _, _, _, _, _, _, _, _, _, _, _, _, _, _, _, _, _, _, _, _, _, _, _, _, _]) _
            refine seqd rfl rfl (does_append (R := RI) (k := 1) (g0 := gg252) (B := w246.heap.size) (xs := (nbK A_g ix 4)) (ys := [ix + A_g.x]) Try.underlying38 inf2 rfl (by decide) (ev rfl) (ev rfl) (Own.same hO255 RI.flat ((Same.refl _ _).ext E358) hN260 (Nat.le_trans (Nat.le_trans (Nat.le_trans (Nat.le_trans (Nat.le_trans (Nat.le_trans (Nat.le_trans (Nat.le_trans (Nat.le_trans (Nat.le_trans (Nat.le_trans (Nat.le_trans (Nat.le_trans (Nat.le_trans (Nat.le_trans (Below.size E26) (Below.size E35)) (Below.size E43)) (Nat.le_of_eq (Eq.symm (Wr.size W49)))) (Nat.le_of_eq (Eq.symm (Wr.size W53)))) (Below.size E59)) (Below.size E78)) (Nat.le_of_eq (Eq.symm (Wr.size W90)))) (KpL.size E117)) (KpL.size E145)) (KpL.size E173)) (Below.size E189)) (Below.size E201)) (KpL.size E223)) (Below.size E235)) (Below.size E247))) RI.flat hB357 rfl rfl rfl (fun i x hi => lit1 (R := RI) (cs := [(Iv (ix + A_g.x))]) (y := ix + A_g.x)  rfl i x hi) (by first | (simp only [List.length_append, List.length_cons, List.length_nil]; omega) | omega) (Below.size E358)) ?_; rintro y' w366 ⟨gg367, hg368, K369, hO370⟩
            have hN371 : w20.heap.size ≤ gg367 := by rcases hg368 with h | h; exact h ▸ hN260; exact Nat.le_trans (Nat.le_trans (Nat.le_trans (Nat.le_trans (Nat.le_trans (Nat.le_trans (Nat.le_trans (Nat.le_trans (Nat.le_trans (Nat.le_trans (Nat.le_trans (Nat.le_trans (Nat.le_trans (Nat.le_trans (Nat.le_trans (Nat.le_trans (Below.size E26) (Below.size E35)) (Below.size E43)) (Nat.le_of_eq (Eq.symm (Wr.size W49)))) (Nat.le_of_eq (Eq.symm (Wr.size W53)))) (Below.size E59)) (Below.size E78)) (Nat.le_of_eq (Eq.symm (Wr.size W90)))) (KpL.size E117)) (KpL.size E145)) (KpL.size E173)) (Below.size E189)) (Below.size E201)) (KpL.size E223)) (Below.size E235)) (Below.size E247)) h
            have g372 : w.heap.size ≤ gg367 := Nat.le_trans (Nat.le_trans (Below.size E16) (Below.size E19)) hN371
            have n373 : g_b ≠ gg367 := hg368.elim (fun h => by rw [h]; exact n262) (fun h => Nat.ne_of_lt (Nat.lt_of_lt_of_le n256 h))
            have n374 : b32 ≠ gg367 := hg368.elim (fun h => by rw [h]; exact n263) (fun h => Nat.ne_of_lt (Nat.lt_of_lt_of_le n257 h))
            have n375 : b40 ≠ gg367 := hg368.elim (fun h => by rw [h]; exact n264) (fun h => Nat.ne_of_lt (Nat.lt_of_lt_of_le n258 h))
            have n376 : b83 ≠ gg367 := hg368.elim (fun h => by rw [h]; exact n265) (fun h => Nat.ne_of_lt (Nat.lt_of_lt_of_le n259 h))
            have X377 := Below.kl X365 K369 (allS g372 all0) (Nat.le_refl _)
            obtain ⟨p378, q379, rfl⟩ := Own.shape hO370
            have hH380 : Hang w20.heap.size w366 (fun u => Sl RI 1 u (.slice p378 (((nbK A_g ix 4) ++ [ix + A_g.x]).length) q379) ((nbK A_g ix 4) ++ [ix + A_g.x])) := Own.hang hO370 RI.flat (by decide) hN260 (Nat.le_trans (Nat.le_trans (Nat.le_trans (Nat.le_trans (Nat.le_trans (Nat.le_trans (Nat.le_trans (Nat.le_trans (Nat.le_trans (Nat.le_trans (Nat.le_trans (Nat.le_trans (Nat.le_trans (Nat.le_trans (Nat.le_trans (Below.size E26) (Below.size E35)) (Below.size E43)) (Nat.le_of_eq (Eq.symm (Wr.size W49)))) (Nat.le_of_eq (Eq.symm (Wr.size W53)))) (Below.size E59)) (Below.size E78)) (Nat.le_of_eq (Eq.symm (Wr.size W90)))) (KpL.size E117)) (KpL.size E145)) (KpL.size E173)) (Below.size E189)) (Below.size E201)) (KpL.size E223)) (Below.size E235)) (Below.size E247))
            show wpList _ _ _ _ (fr [_, _, _, _, _, _, _, _, _, _, _, _, _, _, _, _, _, _, _, _, _, _, _, _, _, _, _, _, _, _, _, _, _, _, _, _, _, _, _, _, _, _, _, _, _, _, _, _, _, _, _, _, _, _, _, _, _, _, _, _, _, _, _, _, _, _, _, _]) _
            refine q_is rfl rfl (does_assign (u := (.slice p378 (((nbK A_g ix 4) ++ [ix + A_g.x]).length) q379)) (ev rfl)) (by dsimp only [List.set]; try rfl) ?_
            have hO381 := Own.cast (ys := nbK A_g ix 5) hO370 (by first | exact nb_f0 (if_neg (by omega)) | exact nb_t0 (if_pos (by omega)) | exact nb_t (if_pos (by omega)) | exact nb_f (if_neg (by omega)))
            exact wpList_nil (J231 (fun t => (([(Pt g_b g_o), (Iv ix), Ud, Ud, (.slice none 0 0), (Pt b32 0), (Pt b40 0), (.slice p378 (((nbK A_g ix 4) ++ [ix + A_g.x]).length) q379), (Pt b83 0), (Iv (-1)), (Iv 1), (Pt g_b g_o), (Iv ix), (.agg #[(Iv (ix % A_g.x)), (Iv (ix / A_g.x % A_g.y)), (Iv (ix / A_g.x / A_g.y))]), (Pt g_b g_o), (.agg #[(Iv A_g.x), (Iv A_g.y), (Iv A_g.z)]), (.slice (some ⟨b22, 0, none⟩) 0 0), v62, v63, v64, v65, v66, v67, v68, v69, v70, v71, v72, v73, v74, (.agg #[(Iv 1), (Iv A_g.x), (Iv (A_g.x * A_g.y))]), (Iv (-1)), (Bo false), (Iv 0), (Iv (-1)), (Iv 0), (Pt b32 0), (Iv (ix % A_g.x)), (Bo (icmp .gtr (ix % A_g.x) 0)), (u155 39), (u155 40), (u155 41), (u155 42), (u155 43), (u155 44), (u155 45), (u155 46), (Iv 1), (Bo true), (Iv 1), v238, v239, v240, v241, v242, v243, v244, (Bo β2), (.slice p226 ((nbK A_g ix 4).length) q227), (Iv ix), (Iv 1), (Pt b83 1), (Iv A_g.x), (Iv (ix + A_g.x)), (.slice (some ⟨b355, 0, none⟩) 1 1), (.slice p378 (((nbK A_g ix 4) ++ [ix + A_g.x]).length) q379), (Iv 1), Ud] : List Value)[t]?).getD undef) (.slice p378 (((nbK A_g ix 4) ++ [ix + A_g.x]).length) q379) _ (KpL.more (KpL.ext (KpL.refl _ _) E358) K369 (allS (hg368.imp (fun h => by simp [h]) id) all0)) hO381)
          have c354' := c354
          (try simp only [hβ1, hβ2] at c354')
          (try simp only [icmp, Bool.and_eq_true, Bool.or_eq_true, Bool.and_eq_false_iff, Bool.or_eq_false_iff, Bool.not_eq_true', Bool.not_eq_false', decide_eq_true_eq, decide_eq_false_iff_not, beq_iff_eq, bne_iff_ne, beq_eq_false_iff_ne, bne_eq_false_iff_eq] at c354')
          have hO382 := Own.cast (ys := nbK A_g ix 5) hO255 (by first | exact nb_f0 (if_neg (by omega)) | exact nb_t0 (if_pos (by omega)) | exact nb_t (if_pos (by omega)) | exact nb_f (if_neg (by omega)))
          exact wp_skip (J231 (fun t => (([(Pt g_b g_o), (Iv ix), Ud, Ud, (.slice none 0 0), (Pt b32 0), (Pt b40 0), (.slice p226 ((nbK A_g ix 4).length) q227), (Pt b83 0), (Iv (-1)), (Iv 1), (Pt g_b g_o), (Iv ix), (.agg #[(Iv (ix % A_g.x)), (Iv (ix / A_g.x % A_g.y)), (Iv (ix / A_g.x / A_g.y))]), (Pt g_b g_o), (.agg #[(Iv A_g.x), (Iv A_g.y), (Iv A_g.z)]), (.slice (some ⟨b22, 0, none⟩) 0 0), v62, v63, v64, v65, v66, v67, v68, v69, v70, v71, v72, v73, v74, (.agg #[(Iv 1), (Iv A_g.x), (Iv (A_g.x * A_g.y))]), (Iv (-1)), (Bo false), (Iv 0), (Iv (-1)), (Iv 0), (Pt b32 0), (Iv (ix % A_g.x)), (Bo (icmp .gtr (ix % A_g.x) 0)), (u155 39), (u155 40), (u155 41), (u155 42), (u155 43), (u155 44), (u155 45), (u155 46), (Iv 1), (Bo true), (Iv 1), v238, v239, v240, v241, v242, v243, v244, (Bo β2), (u205 58), (u205 59), (u205 60), (u205 61), (u205 62), (u205 63), (u205 64), (u205 65), (Iv 1), Ud] : List Value)[t]?).getD undef) (.slice p226 ((nbK A_g ix 4).length) q227) _ (KpL.refl _ _) hO382)
        refine wp_cond_split (t := β1) (ev rfl) (fun c383 => ?_) (fun c383 => ?_)
        · have c383' := c383
          (try simp only [hβ1] at c383')
          (try simp only [icmp, Bool.and_eq_true, Bool.or_eq_true, Bool.and_eq_false_iff, Bool.or_eq_false_iff, Bool.not_eq_true', Bool.not_eq_false', decide_eq_true_eq, decide_eq_false_iff_not, beq_iff_eq, bne_iff_ne, beq_eq_false_iff_ne, bne_eq_false_iff_eq] at c383')
          refine wp_region_lit ?_
          refine q_is rfl rfl (does_move (u := (.slice p176 ((nbK A_g ix 3).length) q177)) (ev rfl)) (by dsimp only [List.set]; try rfl) ?_
          refine q_is rfl rfl (does_move (u := (Iv ix)) (ev rfl)) (by dsimp only [List.set]; try rfl) ?_
          refine q_is rfl rfl (does_move (u := (Iv 0)) (ev rfl)) (by dsimp only [List.set]; try rfl) ?_
          refine q_is rfl rfl (does_indexAt_run (r := (Pt b83 0)) (ev rfl) (ev rfl) (fun w => ia55_0 _ _ w)) (by dsimp only [List.set]; try rfl) ?_
          refine q_is rfl rfl (does_load (u := (Iv 1)) (ev rfl) Try.isAgg2 (Cells.at (Blk.cells (((((hB91.kl E117 (ninS (Nat.ne_of_gt n114) nin0)).kl E145 (ninS n141 nin0)).kl E173 (ninS n169 nin0)).ext E189).ext E201)) 0 rfl)) (by dsimp only [List.set]; try rfl) ?_
          refine q_is rfl rfl (does_iarith (p := ix) (q := 1) (r := ix + 1) (ev rfl) (ev rfl) (.inl ⟨rfl, (in_i64 (by omega) (by omega)).symm⟩)) (by dsimp only [List.set]; try rfl) ?_
          refine seqd rfl rfl (does_buildSlice (e := 2) (parts' := [(0, (Iv (ix + 1)))]) (cells := [(Iv (ix + 1))]) (evp rfl) (fun _ => by kernel_rfl)) ?_; rintro _ w388 ⟨b384, rfl, hb385, hB386, E387⟩
          have n389 : g_b < b384 := Nat.lt_of_lt_of_le (cell_lt (Cells.at (hc_g.ext X204) 0 rfl)) hb385
          have n390 : b32 < b384 := Nat.lt_of_lt_of_le (Blk.lt (((((((((hB50.wr W53 (Nat.ne_of_lt n46)).ext E59).ext E78).wr W90 (Nat.ne_of_lt n87)).kl E117 (ninS (Nat.ne_of_gt n112) nin0)).kl E145 (ninS n139 nin0)).kl E173 (ninS n167 nin0)).ext E189).ext E201)) hb385
          have n391 : b40 < b384 := Nat.lt_of_lt_of_le (Blk.lt ((((((((hB54.ext E59).ext E78).wr W90 (Nat.ne_of_lt n88)).kl E117 (ninS (Nat.ne_of_gt n113) nin0)).kl E145 (ninS n140 nin0)).kl E173 (ninS n168 nin0)).ext E189).ext E201)) hb385
          have n392 : b83 < b384 := Nat.lt_of_lt_of_le (Blk.lt (((((hB91.kl E117 (ninS (Nat.ne_of_gt n114) nin0)).kl E145 (ninS n141 nin0)).kl E173 (ninS n169 nin0)).ext E189).ext E201)) hb385
          have g393 : w.heap.size ≤ b384 := Nat.le_trans (Below.size X204) hb385
          have X394 := Ext.gr X204 E387
          show wpList _ _ _ _ (fr [_, _, _, _, _, _, _, _, _, _, _, _, _, _, _, _, _, _, _, _, _, _, _, _, _, _, _, _, _, _, _, _, _, _, _, _, _, _, _, _, _, _, _, _, _, _, _, _, _, _, _, _, _, _, _, _, _, _, _, _, _, _, _, _, _, _, _, _]) _
          refine seqd rfl rfl (does_append (R := RI) (k := 1) (g0 := gg206) (B := w200.heap.size) (xs := (nbK A_g ix 3)) (ys := [ix + 1]) Try.underlying38 inf2 rfl (by decide) (ev rfl) (ev rfl) (Own.same hO209 RI.flat ((Same.refl _ _).ext E387) hN214 (Nat.le_trans (Nat.le_trans (Nat.le_trans (Nat.le_trans (Nat.le_trans (Nat.le_trans (Nat.le_trans (Nat.le_trans (Nat.le_trans (Nat.le_trans (Nat.le_trans (Nat.le_trans (Below.size E26) (Below.size E35)) (Below.size E43)) (Nat.le_of_eq (Eq.symm (Wr.size W49)))) (Nat.le_of_eq (Eq.symm (Wr.size W53)))) (Below.size E59)) (Below.size E78)) (Nat.le_of_eq (Eq.symm (Wr.size W90)))) (KpL.size E117)) (KpL.size E145)) (KpL.size E173)) (Below.size E189)) (Below.size E201))) RI.flat hB386 rfl rfl rfl (fun i x hi => lit1 (R := RI) (cs := [(Iv (ix + 1))]) (y := ix + 1)  rfl i x hi) (by first | (simp only [List.length_append, List.length_cons, List.length_nil]; omega) | omega) (Below.size E387)) ?_; rintro y' w395 ⟨gg396, hg397, K398, hO399⟩
          have hN400 : w20.heap.size ≤ gg396 := by rcases hg397 with h | h; exact h ▸ hN214; exact Nat.le_trans (Nat.le_trans (Nat.le_trans (Nat.le_trans (Nat.le_trans (Nat.le_trans (Nat.le_trans (Nat.le_trans (Nat.le_trans (Nat.le_trans (Nat.le_trans (Nat.le_trans (Nat.le_trans (Below.size E26) (Below.size E35)) (Below.size E43)) (Nat.le_of_eq (Eq.symm (Wr.size W49)))) (Nat.le_of_eq (Eq.symm (Wr.size W53)))) (Below.size E59)) (Below.size E78)) (Nat.le_of_eq (Eq.symm (Wr.size W90)))) (KpL.size E117)) (KpL.size E145)) (KpL.size E173)) (Below.size E189)) (Below.size E201)) h
          have g401 : w.heap.size ≤ gg396 := Nat.le_trans (Nat.le_trans (Below.size E16) (Below.size E19)) hN400
          have n402 : g_b ≠ gg396 := hg397.elim (fun h => by rw [h]; exact n216) (fun h => Nat.ne_of_lt (Nat.lt_of_lt_of_le n210 h))
          have n403 : b32 ≠ gg396 := hg397.elim (fun h => by rw [h]; exact n217) (fun h => Nat.ne_of_lt (Nat.lt_of_lt_of_le n211 h))
          have n404 : b40 ≠ gg396 := hg397.elim (fun h => by rw [h]; exact n218) (fun h => Nat.ne_of_lt (Nat.lt_of_lt_of_le n212 h))
          have n405 : b83 ≠ gg396 := hg397.elim (fun h => by rw [h]; exact n219) (fun h => Nat.ne_of_lt (Nat.lt_of_lt_of_le n213 h))
          have X406 := Below.kl X394 K398 (allS g401 all0) (Nat.le_refl _)
          obtain ⟨p407, q408, rfl⟩ := Own.shape hO399
          have hH409 : Hang w20.heap.size w395 (fun u => Sl RI 1 u (.slice p407 (((nbK A_g ix 3) ++ [ix + 1]).length) q408) ((nbK A_g ix 3) ++ [ix + 1])) := Own.hang hO399 RI.flat (by decide) hN214 (Nat.le_trans (Nat.le_trans (Nat.le_trans (Nat.le_trans (Nat.le_trans (Nat.le_trans (Nat.le_trans (Nat.le_trans (Nat.le_trans (Nat.le_trans (Nat.le_trans (Nat.le_trans (Below.size E26) (Below.size E35)) (Below.size E43)) (Nat.le_of_eq (Eq.symm (Wr.size W49)))) (Nat.le_of_eq (Eq.symm (Wr.size W53)))) (Below.size E59)) (Below.size E78)) (Nat.le_of_eq (Eq.symm (Wr.size W90)))) (KpL.size E117)) (KpL.size E145)) (KpL.size E173)) (Below.size E189)) (Below.size E201))
          show wpList _ _ _ _ (fr [_, _, _, _, _, _, _, _, _, _, _, _, _, _, _, _, _, _, _, _, _, _, _, _, _, _, _, _, _, _, _, _, _, _, _, _, _, _, _, _, _, _, _, _, _, _, _, _, _, _, _, _, _, _, _, _, _, _, _, _, _, _, _, _, _, _, _, _]) _
          refine q_is rfl rfl (does_assign (u := (.slice p407 (((nbK A_g ix 3) ++ [ix + 1]).length) q408)) (ev rfl)) (by dsimp only [List.set]; try rfl) ?_
          have hO410 := Own.cast (ys := nbK A_g ix 4) hO399 (by first | exact nb_f0 (if_neg (by omega)) | exact nb_t0 (if_pos (by omega)) | exact nb_t (if_pos (by omega)) | exact nb_f (if_neg (by omega)))
          exact wpList_nil (J185 (fun t => (([(Pt g_b g_o), (Iv ix), Ud, Ud, (.slice none 0 0), (Pt b32 0), (Pt b40 0), (.slice p407 (((nbK A_g ix 3) ++ [ix + 1]).length) q408), (Pt b83 0), (Iv (-1)), (Iv 0), (Pt g_b g_o), (Iv ix), (.agg #[(Iv (ix % A_g.x)), (Iv (ix / A_g.x % A_g.y)), (Iv (ix / A_g.x / A_g.y))]), (Pt g_b g_o), (.agg #[(Iv A_g.x), (Iv A_g.y), (Iv A_g.z)]), (.slice (some ⟨b22, 0, none⟩) 0 0), v62, v63, v64, v65, v66, v67, v68, v69, v70, v71, v72, v73, v74, (.agg #[(Iv 1), (Iv A_g.x), (Iv (A_g.x * A_g.y))]), (Iv (-1)), (Bo false), (Iv 0), (Iv (-1)), (Iv 0), (Pt b32 0), (Iv (ix % A_g.x)), (Bo (icmp .gtr (ix % A_g.x) 0)), (u155 39), (u155 40), (u155 41), (u155 42), (u155 43), (u155 44), (u155 45), (u155 46), (Iv 0), (Bo true), (Iv 0), v192, v193, v194, v195, v196, v197, v198, (Bo β1), (.slice p176 ((nbK A_g ix 3).length) q177), (Iv ix), (Iv 0), (Pt b83 0), (Iv 1), (Iv (ix + 1)), (.slice (some ⟨b384, 0, none⟩) 1 1), (.slice p407 (((nbK A_g ix 3) ++ [ix + 1]).length) q408), Ud, Ud] : List Value)[t]?).getD undef) (.slice p407 (((nbK A_g ix 3) ++ [ix + 1]).length) q408) _ (KpL.more (KpL.ext (KpL.refl _ _) E387) K398 (allS (hg397.imp (fun h => by simp [h]) id) all0)) hO410)
        have c383' := c383
        (try simp only [hβ1] at c383')
        (try simp only [icmp, Bool.and_eq_true, Bool.or_eq_true, Bool.and_eq_false_iff, Bool.or_eq_false_iff, Bool.not_eq_true', Bool.not_eq_false', decide_eq_true_eq, decide_eq_false_iff_not, beq_iff_eq, bne_iff_ne, beq_eq_false_iff_ne, bne_eq_false_iff_eq] at c383')
        have hO411 := Own.cast (ys := nbK A_g ix 4) hO209 (by first | exact nb_f0 (if_neg (by omega)) | exact nb_t0 (if_pos (by omega)) | exact nb_t (if_pos (by omega)) | exact nb_f (if_neg (by omega)))
        exact wp_skip (J185 (fun t => (([(Pt g_b g_o), (Iv ix), Ud, Ud, (.slice none 0 0), (Pt b32 0), (Pt b40 0), (.slice p176 ((nbK A_g ix 3).length) q177), (Pt b83 0), (Iv (-1)), (Iv 0), (Pt g_b g_o), (Iv ix), (.agg #[(Iv (ix % A_g.x)), (Iv (ix / A_g.x % A_g.y)), (Iv (ix / A_g.x / A_g.y))]), (Pt g_b g_o), (.agg #[(Iv A_g.x), (Iv A_g.y), (Iv A_g.z)]), (.slice (some ⟨b22, 0, none⟩) 0 0), v62, v63, v64, v65, v66, v67, v68, v69, v70, v71, v72, v73, v74, (.agg #[(Iv 1), (Iv A_g.x), (Iv (A_g.x * A_g.y))]), (Iv (-1)), (Bo false), (Iv 0), (Iv (-1)), (Iv 0), (Pt b32 0), (Iv (ix % A_g.x)), (Bo (icmp .gtr (ix % A_g.x) 0)), (u155 39), (u155 40), (u155 41), (u155 42), (u155 43), (u155 44), (u155 45), (u155 46), (Iv 0), (Bo true), (Iv 0), v192, v193, v194, v195, v196, v197, v198, (Bo β1), Ud, Ud, Ud, Ud, Ud, Ud, Ud, Ud, Ud, Ud] : List Value)[t]?).getD undef) (.slice p176 ((nbK A_g ix 3).length) q177) _ (KpL.refl _ _) hO411)
      refine wp_cond_split (t := icmp .gtr (ix % A_g.x) 0) (ev rfl) (fun c412 => ?_) (fun c412 => ?_)
      · have c412' := c412
        (try simp only [icmp, Bool.and_eq_true, Bool.or_eq_true, Bool.and_eq_false_iff, Bool.or_eq_false_iff, Bool.not_eq_true', Bool.not_eq_false', decide_eq_true_eq, decide_eq_false_iff_not, beq_iff_eq, bne_iff_ne, beq_eq_false_iff_ne, bne_eq_false_iff_eq] at c412')
        refine wp_region_lit ?_
        refine q_is rfl rfl (does_move (u := (.slice p148 ((nbK A_g ix 2).length) q149)) (ev rfl)) (by dsimp only [List.set]; try rfl) ?_
        refine q_is rfl rfl (does_move (u := (Iv ix)) (ev rfl)) (by dsimp only [List.set]; try rfl) ?_
        refine q_is rfl rfl (does_move (u := (Iv 0)) (ev rfl)) (by dsimp only [List.set]; try rfl) ?_
        refine q_is rfl rfl (does_indexAt_run (r := (Pt b83 0)) (ev rfl) (ev rfl) (fun w => ia55_0 _ _ w)) (by dsimp only [List.set]; try rfl) ?_
        refine q_is rfl rfl (does_load (u := (Iv 1)) (ev rfl) Try.isAgg2 (Cells.at (Blk.cells ((hB91.kl E117 (ninS (Nat.ne_of_gt n114) nin0)).kl E145 (ninS n141 nin0))) 0 rfl)) (by dsimp only [List.set]; try rfl) ?_
        refine q_is rfl rfl (does_iarith (p := ix) (q := 1) (r := ix - 1) (ev rfl) (ev rfl) (.inr (.inl ⟨rfl, (in_i64 (by omega) (by omega)).symm⟩))) (by dsimp only [List.set]; try rfl) ?_
        refine seqd rfl rfl (does_buildSlice (e := 2) (parts' := [(0, (Iv (ix - 1)))]) (cells := [(Iv (ix - 1))]) (evp rfl) (fun _ => by kernel_rfl)) ?_; rintro _ w417 ⟨b413, rfl, hb414, hB415, E416⟩
        have n418 : g_b < b413 := Nat.lt_of_lt_of_le (cell_lt (Cells.at (hc_g.ext X147) 0 rfl)) hb414
        have n419 : b32 < b413 := Nat.lt_of_lt_of_le (Blk.lt ((((((hB50.wr W53 (Nat.ne_of_lt n46)).ext E59).ext E78).wr W90 (Nat.ne_of_lt n87)).kl E117 (ninS (Nat.ne_of_gt n112) nin0)).kl E145 (ninS n139 nin0))) hb414
        have n420 : b40 < b413 := Nat.lt_of_lt_of_le (Blk.lt (((((hB54.ext E59).ext E78).wr W90 (Nat.ne_of_lt n88)).kl E117 (ninS (Nat.ne_of_gt n113) nin0)).kl E145 (ninS n140 nin0))) hb414
        have n421 : b83 < b413 := Nat.lt_of_lt_of_le (Blk.lt ((hB91.kl E117 (ninS (Nat.ne_of_gt n114) nin0)).kl E145 (ninS n141 nin0))) hb414
        have g422 : w.heap.size ≤ b413 := Nat.le_trans (Below.size X147) hb414
        have X423 := Ext.gr X147 E416
        show wpList _ _ _ _ (fr [_, _, _, _, _, _, _, _, _, _, _, _, _, _, _, _, _, _, _, _, _, _, _, _, _, _, _, _, _, _, _, _, _, _, _, _, _, _, _, _, _, _, _, _, _, _, _, _, _, _, _, _, _, _, _, _, _, _, _, _, _, _, _, _, _, _, _, _]) _
        refine seqd rfl rfl (does_append (R := RI) (k := 1) (g0 := gg156) (B := w144.heap.size) (xs := (nbK A_g ix 2)) (ys := [ix - 1]) Try.underlying38 inf2 rfl (by decide) (ev rfl) (ev rfl) (Own.same hO159 RI.flat ((Same.refl _ _).ext E416) hN164 (Nat.le_trans (Nat.le_trans (Nat.le_trans (Nat.le_trans (Nat.le_trans (Nat.le_trans (Nat.le_trans (Nat.le_trans (Nat.le_trans (Below.size E26) (Below.size E35)) (Below.size E43)) (Nat.le_of_eq (Eq.symm (Wr.size W49)))) (Nat.le_of_eq (Eq.symm (Wr.size W53)))) (Below.size E59)) (Below.size E78)) (Nat.le_of_eq (Eq.symm (Wr.size W90)))) (KpL.size E117)) (KpL.size E145))) RI.flat hB415 rfl rfl rfl (fun i x hi => lit1 (R := RI) (cs := [(Iv (ix - 1))]) (y := ix - 1)  rfl i x hi) (by first | (simp only [List.length_append, List.length_cons, List.length_nil]; omega) | omega) (Below.size E416)) ?_; rintro y' w424 ⟨gg425, hg426, K427, hO428⟩
        have hN429 : w20.heap.size ≤ gg425 := by rcases hg426 with h | h; exact h ▸ hN164; exact Nat.le_trans (Nat.le_trans (Nat.le_trans (Nat.le_trans (Nat.le_trans (Nat.le_trans (Nat.le_trans (Nat.le_trans (Nat.le_trans (Nat.le_trans (Below.size E26) (Below.size E35)) (Below.size E43)) (Nat.le_of_eq (Eq.symm (Wr.size W49)))) (Nat.le_of_eq (Eq.symm (Wr.size W53)))) (Below.size E59)) (Below.size E78)) (Nat.le_of_eq (Eq.symm (Wr.size W90)))) (KpL.size E117)) (KpL.size E145)) h
        have g430 : w.heap.size ≤ gg425 := Nat.le_trans (Nat.le_trans (Below.size E16) (Below.size E19)) hN429
        have n431 : g_b ≠ gg425 := hg426.elim (fun h => by rw [h]; exact n166) (fun h => Nat.ne_of_lt (Nat.lt_of_lt_of_le n160 h))
        have n432 : b32 ≠ gg425 := hg426.elim (fun h => by rw [h]; exact n167) (fun h => Nat.ne_of_lt (Nat.lt_of_lt_of_le n161 h))
        have n433 : b40 ≠ gg425 := hg426.elim (fun h => by rw [h]; exact n168) (fun h => Nat.ne_of_lt (Nat.lt_of_lt_of_le n162 h))
        have n434 : b83 ≠ gg425 := hg426.elim (fun h => by rw [h]; exact n169) (fun h => Nat.ne_of_lt (Nat.lt_of_lt_of_le n163 h))
        have X435 := Below.kl X423 K427 (allS g430 all0) (Nat.le_refl _)
        obtain ⟨p436, q437, rfl⟩ := Own.shape hO428
        have hH438 : Hang w20.heap.size w424 (fun u => Sl RI 1 u (.slice p436 (((nbK A_g ix 2) ++ [ix - 1]).length) q437) ((nbK A_g ix 2) ++ [ix - 1])) := Own.hang hO428 RI.flat (by decide) hN164 (Nat.le_trans (Nat.le_trans (Nat.le_trans (Nat.le_trans (Nat.le_trans (Nat.le_trans (Nat.le_trans (Nat.le_trans (Nat.le_trans (Below.size E26) (Below.size E35)) (Below.size E43)) (Nat.le_of_eq (Eq.symm (Wr.size W49)))) (Nat.le_of_eq (Eq.symm (Wr.size W53)))) (Below.size E59)) (Below.size E78)) (Nat.le_of_eq (Eq.symm (Wr.size W90)))) (KpL.size E117)) (KpL.size E145))
        show wpList _ _ _ _ (fr [_, _, _, _, _, _, _, _, _, _, _, _, _, _, _, _, _, _, _, _, _, _, _, _, _, _, _, _, _, _, _, _, _, _, _, _, _, _, _, _, _, _, _, _, _, _, _, _, _, _, _, _, _, _, _, _, _, _, _, _, _, _, _, _, _, _, _, _]) _
        refine q_is rfl rfl (does_assign (u := (.slice p436 (((nbK A_g ix 2) ++ [ix - 1]).length) q437)) (ev rfl)) (by dsimp only [List.set]; try rfl) ?_
        have hO439 := Own.cast (ys := nbK A_g ix 3) hO428 (by first | exact nb_f0 (if_neg (by omega)) | exact nb_t0 (if_pos (by omega)) | exact nb_t (if_pos (by omega)) | exact nb_f (if_neg (by omega)))
        exact wpList_nil (J153 (fun t => (([(Pt g_b g_o), (Iv ix), Ud, Ud, (.slice none 0 0), (Pt b32 0), (Pt b40 0), (.slice p436 (((nbK A_g ix 2) ++ [ix - 1]).length) q437), (Pt b83 0), (Iv 0), Ud, (Pt g_b g_o), (Iv ix), (.agg #[(Iv (ix % A_g.x)), (Iv (ix / A_g.x % A_g.y)), (Iv (ix / A_g.x / A_g.y))]), (Pt g_b g_o), (.agg #[(Iv A_g.x), (Iv A_g.y), (Iv A_g.z)]), (.slice (some ⟨b22, 0, none⟩) 0 0), v62, v63, v64, v65, v66, v67, v68, v69, v70, v71, v72, v73, v74, (.agg #[(Iv 1), (Iv A_g.x), (Iv (A_g.x * A_g.y))]), (Iv 0), (Bo true), (Iv 1), (Iv 0), (Iv 0), (Pt b32 0), (Iv (ix % A_g.x)), (Bo (icmp .gtr (ix % A_g.x) 0)), (.slice p148 ((nbK A_g ix 2).length) q149), (Iv ix), (Iv 0), (Pt b83 0), (Iv 1), (Iv (ix - 1)), (.slice (some ⟨b413, 0, none⟩) 1 1), (.slice p436 (((nbK A_g ix 2) ++ [ix - 1]).length) q437), Ud, Ud, Ud, Ud, Ud, Ud, Ud, Ud, Ud, Ud, Ud, Ud, Ud, Ud, Ud, Ud, Ud, Ud, Ud, Ud, Ud] : List Value)[t]?).getD undef) (.slice p436 (((nbK A_g ix 2) ++ [ix - 1]).length) q437) _ (KpL.more (KpL.ext (KpL.refl _ _) E416) K427 (allS (hg426.imp (fun h => by simp [h]) id) all0)) hO439)
      have c412' := c412
      (try simp only [icmp, Bool.and_eq_true, Bool.or_eq_true, Bool.and_eq_false_iff, Bool.or_eq_false_iff, Bool.not_eq_true', Bool.not_eq_false', decide_eq_true_eq, decide_eq_false_iff_not, beq_iff_eq, bne_iff_ne, beq_eq_false_iff_ne, bne_eq_false_iff_eq] at c412')
      have hO440 := Own.cast (ys := nbK A_g ix 3) hO159 (by first | exact nb_f0 (if_neg (by omega)) | exact nb_t0 (if_pos (by omega)) | exact nb_t (if_pos (by omega)) | exact nb_f (if_neg (by omega)))
      exact wp_skip (J153 (fun t => (([(Pt g_b g_o), (Iv ix), Ud, Ud, (.slice none 0 0), (Pt b32 0), (Pt b40 0), (.slice p148 ((nbK A_g ix 2).length) q149), (Pt b83 0), (Iv 0), Ud, (Pt g_b g_o), (Iv ix), (.agg #[(Iv (ix % A_g.x)), (Iv (ix / A_g.x % A_g.y)), (Iv (ix / A_g.x / A_g.y))]), (Pt g_b g_o), (.agg #[(Iv A_g.x), (Iv A_g.y), (Iv A_g.z)]), (.slice (some ⟨b22, 0, none⟩) 0 0), v62, v63, v64, v65, v66, v67, v68, v69, v70, v71, v72, v73, v74, (.agg #[(Iv 1), (Iv A_g.x), (Iv (A_g.x * A_g.y))]), (Iv 0), (Bo true), (Iv 1), (Iv 0), (Iv 0), (Pt b32 0), (Iv (ix % A_g.x)), (Bo (icmp .gtr (ix % A_g.x) 0)), (u127 39), (u127 40), (u127 41), (u127 42), (u127 43), (u127 44), (u127 45), (u127 46), Ud, Ud, Ud, Ud, Ud, Ud, Ud, Ud, Ud, Ud, Ud, Ud, Ud, Ud, Ud, Ud, Ud, Ud, Ud, Ud, Ud] : List Value)[t]?).getD undef) (.slice p148 ((nbK A_g ix 2).length) q149) _ (KpL.refl _ _) hO440)
    refine wp_cond_split (t := icmp .gtr (ix / A_g.x % A_g.y) 0) (ev rfl) (fun c441 => ?_) (fun c441 => ?_)
    · have c441' := c441
      (try simp only [icmp, Bool.and_eq_true, Bool.or_eq_true, Bool.and_eq_false_iff, Bool.or_eq_false_iff, Bool.not_eq_true', Bool.not_eq_false', decide_eq_true_eq, decide_eq_false_iff_not, beq_iff_eq, bne_iff_ne, beq_eq_false_iff_ne, bne_eq_false_iff_eq] at c441')
      refine wp_region_lit ?_
      refine q_is rfl rfl (does_move (u := (.slice p120 ((nbK A_g ix 1).length) q121)) (ev rfl)) (by dsimp only [List.set]; try rfl) ?_
      refine q_is rfl rfl (does_move (u := (Iv ix)) (ev rfl)) (by dsimp only [List.set]; try rfl) ?_
      refine q_is rfl rfl (does_move (u := (Iv 1)) (ev rfl)) (by dsimp only [List.set]; try rfl) ?_
      refine q_is rfl rfl (does_indexAt_run (r := (Pt b83 1)) (ev rfl) (ev rfl) (fun w => ia55_1 _ _ w)) (by dsimp only [List.set]; try rfl) ?_
      refine q_is rfl rfl (does_load (u := (Iv A_g.x)) (ev rfl) Try.isAgg2 (Cells.at (Blk.cells (hB91.kl E117 (ninS (Nat.ne_of_gt n114) nin0))) 1 rfl)) (by dsimp only [List.set]; try rfl) ?_
      refine q_is rfl rfl (does_iarith (p := ix) (q := A_g.x) (r := ix - A_g.x) (ev rfl) (ev rfl) (.inr (.inl ⟨rfl, (in_i64 (by omega) (by omega)).symm⟩))) (by dsimp only [List.set]; try rfl) ?_
      refine seqd rfl rfl (does_buildSlice (e := 2) (parts' := [(0, (Iv (ix - A_g.x)))]) (cells := [(Iv (ix - A_g.x))]) (evp rfl) (fun _ => by kernel_rfl)) ?_; rintro _ w446 ⟨b442, rfl, hb443, hB444, E445⟩
      have n447 : g_b < b442 := Nat.lt_of_lt_of_le (cell_lt (Cells.at (hc_g.ext X119) 0 rfl)) hb443
      have n448 : b32 < b442 := Nat.lt_of_lt_of_le (Blk.lt (((((hB50.wr W53 (Nat.ne_of_lt n46)).ext E59).ext E78).wr W90 (Nat.ne_of_lt n87)).kl E117 (ninS (Nat.ne_of_gt n112) nin0))) hb443
      have n449 : b40 < b442 := Nat.lt_of_lt_of_le (Blk.lt ((((hB54.ext E59).ext E78).wr W90 (Nat.ne_of_lt n88)).kl E117 (ninS (Nat.ne_of_gt n113) nin0))) hb443
      have n450 : b83 < b442 := Nat.lt_of_lt_of_le (Blk.lt (hB91.kl E117 (ninS (Nat.ne_of_gt n114) nin0))) hb443
      have g451 : w.heap.size ≤ b442 := Nat.le_trans (Below.size X119) hb443
      have X452 := Ext.gr X119 E445
      show wpList _ _ _ _ (fr [_, _, _, _, _, _, _, _, _, _, _, _, _, _, _, _, _, _, _, _, _, _, _, _, _, _, _, _, _, _, _, _, _, _, _, _, _, _, _, _, _, _, _, _, _, _, _, _, _, _, _, _, _, _, _, _, _, _, _, _, _, _, _, _, _, _, _, _]) _
      refine seqd rfl rfl (does_append (R := RI) (k := 1) (g0 := gg128) (B := w116.heap.size) (xs := (nbK A_g ix 1)) (ys := [ix - A_g.x]) Try.underlying38 inf2 rfl (by decide) (ev rfl) (ev rfl) (Own.same hO131 RI.flat ((Same.refl _ _).ext E445) hN136 (Nat.le_trans (Nat.le_trans (Nat.le_trans (Nat.le_trans (Nat.le_trans (Nat.le_trans (Nat.le_trans (Nat.le_trans (Below.size E26) (Below.size E35)) (Below.size E43)) (Nat.le_of_eq (Eq.symm (Wr.size W49)))) (Nat.le_of_eq (Eq.symm (Wr.size W53)))) (Below.size E59)) (Below.size E78)) (Nat.le_of_eq (Eq.symm (Wr.size W90)))) (KpL.size E117))) RI.flat hB444 rfl rfl rfl (fun i x hi => lit1 (R := RI) (cs := [(Iv (ix - A_g.x))]) (y := ix - A_g.x)  rfl i x hi) (by first | (simp only [List.length_append, List.length_cons, List.length_nil]; omega) | omega) (Below.size E445)) ?_; rintro y' w453 ⟨gg454, hg455, K456, hO457⟩
      have hN458 : w20.heap.size ≤ gg454 := by rcases hg455 with h | h; exact h ▸ hN136; exact Nat.le_trans (Nat.le_trans (Nat.le_trans (Nat.le_trans (Nat.le_trans (Nat.le_trans (Nat.le_trans (Nat.le_trans (Nat.le_trans (Below.size E26) (Below.size E35)) (Below.size E43)) (Nat.le_of_eq (Eq.symm (Wr.size W49)))) (Nat.le_of_eq (Eq.symm (Wr.size W53)))) (Below.size E59)) (Below.size E78)) (Nat.le_of_eq (Eq.symm (Wr.size W90)))) (KpL.size E117)) h
      have g459 : w.heap.size ≤ gg454 := Nat.le_trans (Nat.le_trans (Below.size E16) (Below.size E19)) hN458
      have n460 : g_b ≠ gg454 := hg455.elim (fun h => by rw [h]; exact n138) (fun h => Nat.ne_of_lt (Nat.lt_of_lt_of_le n132 h))
      have n461 : b32 ≠ gg454 := hg455.elim (fun h => by rw [h]; exact n139) (fun h => Nat.ne_of_lt (Nat.lt_of_lt_of_le n133 h))
      have n462 : b40 ≠ gg454 := hg455.elim (fun h => by rw [h]; exact n140) (fun h => Nat.ne_of_lt (Nat.lt_of_lt_of_le n134 h))
      have n463 : b83 ≠ gg454 := hg455.elim (fun h => by rw [h]; exact n141) (fun h => Nat.ne_of_lt (Nat.lt_of_lt_of_le n135 h))
      have X464 := Below.kl X452 K456 (allS g459 all0) (Nat.le_refl _)
      obtain ⟨p465, q466, rfl⟩ := Own.shape hO457
      have hH467 : Hang w20.heap.size w453 (fun u => Sl RI 1 u (.slice p465 (((nbK A_g ix 1) ++ [ix - A_g.x]).length) q466) ((nbK A_g ix 1) ++ [ix - A_g.x])) := Own.hang hO457 RI.flat (by decide) hN136 (Nat.le_trans (Nat.le_trans (Nat.le_trans (Nat.le_trans (Nat.le_trans (Nat.le_trans (Nat.le_trans (Nat.le_trans (Below.size E26) (Below.size E35)) (Below.size E43)) (Nat.le_of_eq (Eq.symm (Wr.size W49)))) (Nat.le_of_eq (Eq.symm (Wr.size W53)))) (Below.size E59)) (Below.size E78)) (Nat.le_of_eq (Eq.symm (Wr.size W90)))) (KpL.size E117))
      show wpList _ _ _ _ (fr [_, _, _, _, _, _, _, _, _, _, _, _, _, _, _, _, _, _, _, _, _, _, _, _, _, _, _, _, _, _, _, _, _, _, _, _, _, _, _, _, _, _, _, _, _, _, _, _, _, _, _, _, _, _, _, _, _, _, _, _, _, _, _, _, _, _, _, _]) _
      refine q_is rfl rfl (does_assign (u := (.slice p465 (((nbK A_g ix 1) ++ [ix - A_g.x]).length) q466)) (ev rfl)) (by dsimp only [List.set]; try rfl) ?_
      have hO468 := Own.cast (ys := nbK A_g ix 2) hO457 (by first | exact nb_f0 (if_neg (by omega)) | exact nb_t0 (if_pos (by omega)) | exact nb_t (if_pos (by omega)) | exact nb_f (if_neg (by omega)))
      exact wpList_nil (J125 (fun t => (([(Pt g_b g_o), (Iv ix), Ud, Ud, (.slice none 0 0), (Pt b32 0), (Pt b40 0), (.slice p465 (((nbK A_g ix 1) ++ [ix - A_g.x]).length) q466), (Pt b83 0), (Iv 1), Ud, (Pt g_b g_o), (Iv ix), (.agg #[(Iv (ix % A_g.x)), (Iv (ix / A_g.x % A_g.y)), (Iv (ix / A_g.x / A_g.y))]), (Pt g_b g_o), (.agg #[(Iv A_g.x), (Iv A_g.y), (Iv A_g.z)]), (.slice (some ⟨b22, 0, none⟩) 0 0), v62, v63, v64, v65, v66, v67, v68, v69, v70, v71, v72, v73, v74, (.agg #[(Iv 1), (Iv A_g.x), (Iv (A_g.x * A_g.y))]), (Iv 1), (Bo true), (Iv 2), (Iv 1), (Iv 1), (Pt b32 1), (Iv (ix / A_g.x % A_g.y)), (Bo (icmp .gtr (ix / A_g.x % A_g.y) 0)), (.slice p120 ((nbK A_g ix 1).length) q121), (Iv ix), (Iv 1), (Pt b83 1), (Iv A_g.x), (Iv (ix - A_g.x)), (.slice (some ⟨b442, 0, none⟩) 1 1), (.slice p465 (((nbK A_g ix 1) ++ [ix - A_g.x]).length) q466), Ud, Ud, Ud, Ud, Ud, Ud, Ud, Ud, Ud, Ud, Ud, Ud, Ud, Ud, Ud, Ud, Ud, Ud, Ud, Ud, Ud] : List Value)[t]?).getD undef) (.slice p465 (((nbK A_g ix 1) ++ [ix - A_g.x]).length) q466) _ (KpL.more (KpL.ext (KpL.refl _ _) E445) K456 (allS (hg455.imp (fun h => by simp [h]) id) all0)) hO468)
    have c441' := c441
    (try simp only [icmp, Bool.and_eq_true, Bool.or_eq_true, Bool.and_eq_false_iff, Bool.or_eq_false_iff, Bool.not_eq_true', Bool.not_eq_false', decide_eq_true_eq, decide_eq_false_iff_not, beq_iff_eq, bne_iff_ne, beq_eq_false_iff_ne, bne_eq_false_iff_eq] at c441')
    have hO469 := Own.cast (ys := nbK A_g ix 2) hO131 (by first | exact nb_f0 (if_neg (by omega)) | exact nb_t0 (if_pos (by omega)) | exact nb_t (if_pos (by omega)) | exact nb_f (if_neg (by omega)))
    exact wp_skip (J125 (fun t => (([(Pt g_b g_o), (Iv ix), Ud, Ud, (.slice none 0 0), (Pt b32 0), (Pt b40 0), (.slice p120 ((nbK A_g ix 1).length) q121), (Pt b83 0), (Iv 1), Ud, (Pt g_b g_o), (Iv ix), (.agg #[(Iv (ix % A_g.x)), (Iv (ix / A_g.x % A_g.y)), (Iv (ix / A_g.x / A_g.y))]), (Pt g_b g_o), (.agg #[(Iv A_g.x), (Iv A_g.y), (Iv A_g.z)]), (.slice (some ⟨b22, 0, none⟩) 0 0), v62, v63, v64, v65, v66, v67, v68, v69, v70, v71, v72, v73, v74, (.agg #[(Iv 1), (Iv A_g.x), (Iv (A_g.x * A_g.y))]), (Iv 1), (Bo true), (Iv 2), (Iv 1), (Iv 1), (Pt b32 1), (Iv (ix / A_g.x % A_g.y)), (Bo (icmp .gtr (ix / A_g.x % A_g.y) 0)), (u100 39), (u100 40), (u100 41), (u100 42), (u100 43), (u100 44), (u100 45), (u100 46), Ud, Ud, Ud, Ud, Ud, Ud, Ud, Ud, Ud, Ud, Ud, Ud, Ud, Ud, Ud, Ud, Ud, Ud, Ud, Ud, Ud] : List Value)[t]?).getD undef) (.slice p120 ((nbK A_g ix 1).length) q121) _ (KpL.refl _ _) hO469)
  refine wp_cond_split (t := icmp .gtr (ix / A_g.x / A_g.y) 0) (ev rfl) (fun c470 => ?_) (fun c470 => ?_)
  · have c470' := c470
    (try simp only [icmp, Bool.and_eq_true, Bool.or_eq_true, Bool.and_eq_false_iff, Bool.or_eq_false_iff, Bool.not_eq_true', Bool.not_eq_false', decide_eq_true_eq, decide_eq_false_iff_not, beq_iff_eq, bne_iff_ne, beq_eq_false_iff_ne, bne_eq_false_iff_eq] at c470')
    refine wp_region_lit ?_
    refine q_is rfl rfl (does_move (u := (.slice (some ⟨b22, 0, none⟩) 0 0)) (ev rfl)) (by dsimp only [List.set]; try rfl) ?_
    refine q_is rfl rfl (does_move (u := (Iv ix)) (ev rfl)) (by dsimp only [List.set]; try rfl) ?_
    refine q_is rfl rfl (does_move (u := (Iv 2)) (ev rfl)) (by dsimp only [List.set]; try rfl) ?_
    refine q_is rfl rfl (does_indexAt_run (r := (Pt b83 2)) (ev rfl) (ev rfl) (fun w => ia55_2 _ _ w)) (by dsimp only [List.set]; try rfl) ?_
    refine q_is rfl rfl (does_load (u := (Iv (A_g.x * A_g.y))) (ev rfl) Try.isAgg2 (Cells.at (Blk.cells hB91) 2 rfl)) (by dsimp only [List.set]; try rfl) ?_
    refine q_is rfl rfl (does_iarith (p := ix) (q := A_g.x * A_g.y) (r := ix - (A_g.x * A_g.y)) (ev rfl) (ev rfl) (.inr (.inl ⟨rfl, (in_i64 (by omega) (by omega)).symm⟩))) (by dsimp only [List.set]; try rfl) ?_
    refine seqd rfl rfl (does_buildSlice (e := 2) (parts' := [(0, (Iv (ix - (A_g.x * A_g.y))))]) (cells := [(Iv (ix - (A_g.x * A_g.y)))]) (evp rfl) (fun _ => by kernel_rfl)) ?_; rintro _ w475 ⟨b471, rfl, hb472, hB473, E474⟩
    have n476 : g_b < b471 := Nat.lt_of_lt_of_le (cell_lt (Cells.at (hc_g.ext X93) 0 rfl)) hb472
    have n477 : b32 < b471 := Nat.lt_of_lt_of_le (Blk.lt ((((hB50.wr W53 (Nat.ne_of_lt n46)).ext E59).ext E78).wr W90 (Nat.ne_of_lt n87))) hb472
    have n478 : b40 < b471 := Nat.lt_of_lt_of_le (Blk.lt (((hB54.ext E59).ext E78).wr W90 (Nat.ne_of_lt n88))) hb472
    have n479 : b83 < b471 := Nat.lt_of_lt_of_le (Blk.lt hB91) hb472
    have g480 : w.heap.size ≤ b471 := Nat.le_trans (Below.size X93) hb472
    have X481 := Ext.gr X93 E474
    show wpList _ _ _ _ (fr [_, _, _, _, _, _, _, _, _, _, _, _, _, _, _, _, _, _, _, _, _, _, _, _, _, _, _, _, _, _, _, _, _, _, _, _, _, _, _, _, _, _, _, _, _, _, _, _, _, _, _, _, _, _, _, _, _, _, _, _, _, _, _, _, _, _, _, _]) _
    refine seqd rfl rfl (does_append (R := RI) (k := 1) (g0 := gg101) (B := w92.heap.size) (xs := ([])) (ys := [ix - (A_g.x * A_g.y)]) Try.underlying38 inf2 rfl (by decide) (ev rfl) (ev rfl) (Own.same hO104 RI.flat ((Same.refl _ _).ext E474) hN109 (Nat.le_trans (Nat.le_trans (Nat.le_trans (Nat.le_trans (Nat.le_trans (Nat.le_trans (Nat.le_trans (Below.size E26) (Below.size E35)) (Below.size E43)) (Nat.le_of_eq (Eq.symm (Wr.size W49)))) (Nat.le_of_eq (Eq.symm (Wr.size W53)))) (Below.size E59)) (Below.size E78)) (Nat.le_of_eq (Eq.symm (Wr.size W90))))) RI.flat hB473 rfl rfl rfl (fun i x hi => lit1 (R := RI) (cs := [(Iv (ix - (A_g.x * A_g.y)))]) (y := ix - (A_g.x * A_g.y))  rfl i x hi) (by first | (simp only [List.length_append, List.length_cons, List.length_nil]; omega) | omega) (Below.size E474)) ?_; rintro y' w482 ⟨gg483, hg484, K485, hO486⟩
    have hN487 : w20.heap.size ≤ gg483 := by rcases hg484 with h | h; exact h ▸ hN109; exact Nat.le_trans (Nat.le_trans (Nat.le_trans (Nat.le_trans (Nat.le_trans (Nat.le_trans (Nat.le_trans (Nat.le_trans (Below.size E26) (Below.size E35)) (Below.size E43)) (Nat.le_of_eq (Eq.symm (Wr.size W49)))) (Nat.le_of_eq (Eq.symm (Wr.size W53)))) (Below.size E59)) (Below.size E78)) (Nat.le_of_eq (Eq.symm (Wr.size W90)))) h
    have g488 : w.heap.size ≤ gg483 := Nat.le_trans (Nat.le_trans (Below.size E16) (Below.size E19)) hN487
    have n489 : g_b ≠ gg483 := hg484.elim (fun h => by rw [h]; exact (Nat.ne_of_lt (Nat.lt_of_lt_of_le n28 hN109))) (fun h => Nat.ne_of_lt (Nat.lt_of_lt_of_le n105 h))
    have n490 : b32 ≠ gg483 := hg484.elim (fun h => by rw [h]; exact (Nat.ne_of_gt n112)) (fun h => Nat.ne_of_lt (Nat.lt_of_lt_of_le n106 h))
    have n491 : b40 ≠ gg483 := hg484.elim (fun h => by rw [h]; exact (Nat.ne_of_gt n113)) (fun h => Nat.ne_of_lt (Nat.lt_of_lt_of_le n107 h))
    have n492 : b83 ≠ gg483 := hg484.elim (fun h => by rw [h]; exact (Nat.ne_of_gt n114)) (fun h => Nat.ne_of_lt (Nat.lt_of_lt_of_le n108 h))
    have X493 := Below.kl X481 K485 (allS g488 all0) (Nat.le_refl _)
    replace hO486 := hO486.cast (List.nil_append _)
    obtain ⟨p494, q495, rfl⟩ := Own.shape hO486
    have hH496 : Hang w20.heap.size w482 (fun u => Sl RI 1 u (.slice p494 (([ix - (A_g.x * A_g.y)]).length) q495) ([ix - (A_g.x * A_g.y)])) := Own.hang hO486 RI.flat (by decide) hN109 (Nat.le_trans (Nat.le_trans (Nat.le_trans (Nat.le_trans (Nat.le_trans (Nat.le_trans (Nat.le_trans (Below.size E26) (Below.size E35)) (Below.size E43)) (Nat.le_of_eq (Eq.symm (Wr.size W49)))) (Nat.le_of_eq (Eq.symm (Wr.size W53)))) (Below.size E59)) (Below.size E78)) (Nat.le_of_eq (Eq.symm (Wr.size W90))))
    show wpList _ _ _ _ (fr [_, _, _, _, _, _, _, _, _, _, _, _, _, _, _, _, _, _, _, _, _, _, _, _, _, _, _, _, _, _, _, _, _, _, _, _, _, _, _, _, _, _, _, _, _, _, _, _, _, _, _, _, _, _, _, _, _, _, _, _, _, _, _, _, _, _, _, _]) _
    refine q_is rfl rfl (does_assign (u := (.slice p494 (([ix - (A_g.x * A_g.y)]).length) q495)) (ev rfl)) (by dsimp only [List.set]; try rfl) ?_
    have hO497 := Own.cast (ys := nbK A_g ix 1) hO486 (by first | exact nb_f0 (if_neg (by omega)) | exact nb_t0 (if_pos (by omega)) | exact nb_t (if_pos (by omega)) | exact nb_f (if_neg (by omega)))
    exact wpList_nil (J98 (fun t => (([(Pt g_b g_o), (Iv ix), Ud, Ud, (.slice none 0 0), (Pt b32 0), (Pt b40 0), (.slice p494 (([ix - (A_g.x * A_g.y)]).length) q495), (Pt b83 0), (Iv 2), Ud, (Pt g_b g_o), (Iv ix), (.agg #[(Iv (ix % A_g.x)), (Iv (ix / A_g.x % A_g.y)), (Iv (ix / A_g.x / A_g.y))]), (Pt g_b g_o), (.agg #[(Iv A_g.x), (Iv A_g.y), (Iv A_g.z)]), (.slice (some ⟨b22, 0, none⟩) 0 0), v62, v63, v64, v65, v66, v67, v68, v69, v70, v71, v72, v73, v74, (.agg #[(Iv 1), (Iv A_g.x), (Iv (A_g.x * A_g.y))]), (Iv 2), (Bo true), Ud, Ud, (Iv 2), (Pt b32 2), (Iv (ix / A_g.x / A_g.y)), (Bo (icmp .gtr (ix / A_g.x / A_g.y) 0)), (.slice (some ⟨b22, 0, none⟩) 0 0), (Iv ix), (Iv 2), (Pt b83 2), (Iv (A_g.x * A_g.y)), (Iv (ix - (A_g.x * A_g.y))), (.slice (some ⟨b471, 0, none⟩) 1 1), (.slice p494 (([ix - (A_g.x * A_g.y)]).length) q495), Ud, Ud, Ud, Ud, Ud, Ud, Ud, Ud, Ud, Ud, Ud, Ud, Ud, Ud, Ud, Ud, Ud, Ud, Ud, Ud, Ud] : List Value)[t]?).getD undef) (.slice p494 (([ix - (A_g.x * A_g.y)]).length) q495) _ (KpL.more (KpL.ext (KpL.refl _ _) E474) K485 (allS (hg484.imp (fun h => by simp [h]) id) all0)) hO497)
  have c470' := c470
  (try simp only [icmp, Bool.and_eq_true, Bool.or_eq_true, Bool.and_eq_false_iff, Bool.or_eq_false_iff, Bool.not_eq_true', Bool.not_eq_false', decide_eq_true_eq, decide_eq_false_iff_not, beq_iff_eq, bne_iff_ne, beq_eq_false_iff_ne, bne_eq_false_iff_eq] at c470')
  have hO498 := Own.cast (ys := nbK A_g ix 1) hO104 (by first | exact nb_f0 (if_neg (by omega)) | exact nb_t0 (if_pos (by omega)) | exact nb_t (if_pos (by omega)) | exact nb_f (if_neg (by omega)))
  exact wp_skip (J98 (fun t => (([(Pt g_b g_o), (Iv ix), Ud, Ud, (.slice none 0 0), (Pt b32 0), (Pt b40 0), (.slice (some ⟨b22, 0, none⟩) 0 0), (Pt b83 0), (Iv 2), Ud, (Pt g_b g_o), (Iv ix), (.agg #[(Iv (ix % A_g.x)), (Iv (ix / A_g.x % A_g.y)), (Iv (ix / A_g.x / A_g.y))]), (Pt g_b g_o), (.agg #[(Iv A_g.x), (Iv A_g.y), (Iv A_g.z)]), (.slice (some ⟨b22, 0, none⟩) 0 0), v62, v63, v64, v65, v66, v67, v68, v69, v70, v71, v72, v73, v74, (.agg #[(Iv 1), (Iv A_g.x), (Iv (A_g.x * A_g.y))]), (Iv 2), (Bo true), Ud, Ud, (Iv 2), (Pt b32 2), (Iv (ix / A_g.x / A_g.y)), (Bo (icmp .gtr (ix / A_g.x / A_g.y) 0)), Ud, Ud, Ud, Ud, Ud, Ud, Ud, Ud, Ud, Ud, Ud, Ud, Ud, Ud, Ud, Ud, Ud, Ud, Ud, Ud, Ud, Ud, Ud, Ud, Ud, Ud, Ud, Ud, Ud] : List Value)[t]?).getD undef) (.slice (some ⟨b22, 0, none⟩) 0 0) _ (KpL.refl _ _) hO498)

/- (*impl.Grid).sweep -/
theorem c_impl_Grid_sweep (g_b : Nat) (g_o : Nat) (g_g : Nat) (g_c : Nat) (g : List Value) (A_g : GridT) (bf_ : Int) (w : World) (hc_g : Cells w g_b g_o g) (hv_g : RGridT w A_g g) (hr_g : g[7]? = some (.slice (some ⟨g_g, 0, none⟩) A_g.vals.length g_c)) (hrow_g : RowF w g_g A_g.vals) (hcap_g : A_g.vals.length ≤ g_c) (hne_g : g_b ≠ g_g) (hgr : isGrid A_g = true) (hbf : 0 ≤ bf_ ∧ bf_ ≤ 9223372036854775807) : GivesK [g_g] Try.prog 46 #[(Pt g_b g_o), (Iv bf_)] w (fun v w' => v = (Bo ((sweepG A_g (icmp .eql (bf_ % 2) 1)).2)) ∧ RowF w' g_g ((sweepG A_g (icmp .eql (bf_ % 2) 1)).1)) := by
  obtain ⟨r1, r3, r5, r7, y9, rfl, h2, h4, h6, h8, h10⟩ := hv_g
  have hy_g : y9 = .slice (some ⟨g_g, 0, none⟩) A_g.vals.length g_c := Option.some.inj hr_g; have hlen_g := Sl.len h10; subst hy_g; clear h10
  obtain ⟨bk, hbk⟩ : ∃ b, b = icmp .eql (bf_ % 2) 1 := ⟨_, rfl⟩
  refine enterK [(Pt g_b g_o), (Iv bf_), Ud, Ud, Ud, Ud, Ud, Ud, Ud, Ud, Ud, Ud, Ud, Ud, Ud, Ud, Ud, Ud, Ud, Ud, Ud, Ud, Ud, Ud, Ud, Ud, Ud, Ud, Ud, Ud, Ud, Ud, Ud, Ud, Ud, Ud, Ud, Ud, Ud, Ud, Ud, Ud, Ud, Ud, Ud, Ud, Ud, Ud, Ud, Ud, Ud, Ud, Ud, Ud, Ud, Ud, Ud, Ud, Ud, Ud, Ud, Ud, Ud, Ud, Ud, Ud, Ud, Ud] Try.func46 rfl Try.ntmps46 rfl ?_
  refine wp_seq_k fun K11 hK11 => ?_
  refine wp_region_lit ?_
  refine q_is rfl rfl (does_assign (u := (Bo false)) (ev rfl)) (by dsimp only [List.set]; try rfl) ?_
  refine wpList_nil (hK11 _ _ ?_)
  refine wp_seq_k fun K12 hK12 => ?_
  refine region_any2 [] [0, 1, 3, 7, 15, 0, 63] [] (
    [FactW.pure [] [] [] true (fun v => v = (Pt g_b g_o)),
      FactW.pure [0] [] [] true (fun v => v = (Pt g_b g_o)),
      FactW.pure [1] [] [] true (fun v => v = (Pt g_b (g_o + 7))),
      FactW.pure [2] [] [] true (fun v => v = (.slice (some ⟨g_g, 0, none⟩) A_g.vals.length g_c)),
      FactW.pure [3] [] [] true (fun v => v = (Iv (A_g.vals.length : Int))),
      FactW.pure [] [] [] true (fun v => v = (Bo false))]) mixed (by kernel_rfl) ?_
  obtain ⟨w13, hw15⟩ : ∃ w', w' = World.drew w := ⟨_, rfl⟩; rw [← hw15]; have E14 : Ext w w13 := by rw [hw15]; exact Ext.draw _
  clear hw15
  have X16 := KpL.ext (KpL.refl [g_g] w) E14
  refine RW2_d _ rfl (fun v => by dsimp only [List.set]; try rfl) (fun u hu hF => ?_) (fun v17 => ?_)
  · replace hu : KpL [] _ _ := hu
    clear hF
    refine doesG_un rfl ?_
    refine (does_move (u := (Pt g_b g_o)) (ev rfl)).mono ?_; rintro _ _ ⟨rfl, rfl⟩
    exact ⟨rfl, KpL.refl _ _⟩
  refine RW2_d _ rfl (fun v => by dsimp only [List.set]; try rfl) (fun u hu hF => ?_) (fun v18 => ?_)
  · replace hu : KpL [] _ _ := hu
    have h12_ : v17 = (Pt g_b g_o) := hF.1
    clear hF
    refine doesG_un rfl ?_
    obtain rfl := h12_
    refine (does_nilCheck (ev rfl)).mono ?_; rintro _ _ ⟨rfl, rfl⟩
    exact ⟨rfl, KpL.refl _ _⟩
  refine RW2_d _ rfl (fun v => by dsimp only [List.set]; try rfl) (fun u hu hF => ?_) (fun v19 => ?_)
  · replace hu : KpL [] _ _ := hu
    have h13_ : v18 = (Pt g_b g_o) := hF.1
    clear hF
    refine doesG_un rfl ?_
    obtain rfl := h13_
    refine (does_fieldAddr (ev rfl) fa31_5).mono ?_; rintro _ _ ⟨rfl, rfl⟩
    exact ⟨rfl, KpL.refl _ _⟩
  refine RW2_d _ rfl (fun v => by dsimp only [List.set]; try rfl) (fun u hu hF => ?_) (fun v20 => ?_)
  · replace hu : KpL [] _ _ := hu
    have h14_ : v19 = (Pt g_b (g_o + 7)) := hF.1
    clear hF
    refine doesG_un rfl ?_
    obtain rfl := h14_
    refine (does_load (u := (.slice (some ⟨g_g, 0, none⟩) A_g.vals.length g_c)) (ev rfl) Try.isAgg25 (Cells.at ((hc_g.ext E14).ext (KpL.toExt hu)) 7 rfl)).mono ?_; rintro _ _ ⟨rfl, rfl⟩
    exact ⟨rfl, KpL.refl _ _⟩
  refine RW2_d _ rfl (fun v => by dsimp only [List.set]; try rfl) (fun u hu hF => ?_) (fun v21 => ?_)
  · replace hu : KpL [] _ _ := hu
    have h15_ : v20 = (.slice (some ⟨g_g, 0, none⟩) A_g.vals.length g_c) := hF.1
    clear hF
    refine doesG_un rfl ?_
    obtain rfl := h15_
    refine (does_len_slice Try.underlying25 (ev rfl)).mono ?_; rintro _ _ ⟨rfl, rfl⟩
    exact ⟨rfl, KpL.refl _ _⟩
  refine RW2_d _ rfl (fun v => by dsimp only [List.set]; try rfl) (fun u hu hF => ?_) (fun v22 => ?_)
  · replace hu : KpL [] _ _ := hu
    clear hF
    refine doesG_un rfl ?_
    refine (does_assign (u := (Bo false)) (ev rfl)).mono ?_; rintro _ _ ⟨rfl, rfl⟩
    exact ⟨rfl, KpL.refl _ _⟩
  refine RW2_fin ?_; intro w23 E24 hP25; replace E24 : KpL [] _ _ := E24
  obtain ⟨⟨⟨⟨⟨⟨-, -⟩, -⟩, -⟩, -⟩, q26⟩, q27⟩ := hP25
  have X28 := KpL.more X16 E24 all0
  have q26 : v21 = (Iv (A_g.vals.length : Int)) := q26 rfl
  obtain rfl := q26
  have q27 : v22 = (Bo false) := q27 rfl
  obtain rfl := q27
  show wpList _ _ _ _ (fr [_, _, _, _, _, _, _, _, _, _, _, _, _, _, _, _, _, _, _, _, _, _, _, _, _, _, _, _, _, _, _, _, _, _, _, _, _, _, _, _, _, _, _, _, _, _, _, _, _, _, _, _, _, _, _, _, _, _, _, _, _, _, _, _, _, _, _, _]) _
  refine q_is rfl rfl (does_assign (u := (Iv (A_g.vals.length : Int))) (ev rfl)) (by dsimp only [List.set]; try rfl) ?_
  refine wpList_nil (hK12 _ _ ?_)
  refine wp_seq_k fun K29 hK29 => ?_
  refine wp_seq_k fun K30 hK30 => ?_
  refine wp_region_lit ?_
  refine q_is rfl rfl (does_move (u := (Iv (A_g.vals.length : Int))) (ev rfl)) (by dsimp only [List.set]; try rfl) ?_
  refine q_is rfl rfl (does_move (u := (Iv 0)) (ev rfl)) (by dsimp only [List.set]; try rfl) ?_
  refine wpList_nil (hK30 _ _ ?_)
  refine wp_block ?_
  refine loop_ghost (σ := Nat) (fun k a w' => ∃ u31 : Nat → Value, a = fr [(Pt g_b g_o), (Iv bf_), Ud, Ud, (Bo false), (Bo ((sweepTo A_g bk k).2)), (Iv (A_g.vals.length : Int)), (u31 7), (u31 8), Ud, (u31 10), (u31 11), v17, v18, v19, v20, (Iv (A_g.vals.length : Int)), (Iv (A_g.vals.length : Int)), (Iv (k : Int)), (u31 19), (u31 20), (u31 21), (u31 22), (u31 23), (u31 24), (u31 25), (u31 26), (u31 27), (u31 28), (u31 29), (u31 30), (u31 31), (u31 32), (u31 33), (u31 34), (u31 35), (u31 36), (u31 37), (u31 38), (u31 39), (u31 40), (u31 41), (u31 42), (u31 43), (u31 44), (u31 45), (u31 46), (u31 47), (u31 48), (u31 49), (u31 50), (u31 51), (u31 52), (u31 53), (u31 54), (u31 55), (u31 56), (u31 57), (u31 58), (u31 59), (u31 60), (u31 61), (u31 62), (u31 63), (u31 64), (u31 65), (u31 66), Ud] ∧ KpL [g_g] w23 w' ∧ RowF w' g_g ((sweepTo A_g bk k).1) ∧ (k ≤ A_g.vals.length)) (fun k => A_g.vals.length - k) 0 ?_ ?_
  · refine ⟨fun t => (([(Pt g_b g_o), (Iv bf_), Ud, Ud, (Bo false), (Bo false), (Iv (A_g.vals.length : Int)), Ud, Ud, Ud, Ud, Ud, v17, v18, v19, v20, (Iv (A_g.vals.length : Int)), (Iv (A_g.vals.length : Int)), (Iv 0), Ud, Ud, Ud, Ud, Ud, Ud, Ud, Ud, Ud, Ud, Ud, Ud, Ud, Ud, Ud, Ud, Ud, Ud, Ud, Ud, Ud, Ud, Ud, Ud, Ud, Ud, Ud, Ud, Ud, Ud, Ud, Ud, Ud, Ud, Ud, Ud, Ud, Ud, Ud, Ud, Ud, Ud, Ud, Ud, Ud, Ud, Ud, Ud, Ud] : List Value)[t]?).getD undef, rfl, KpL.refl _ _, (RowF.cast ((hrow_g.ext E14).kl E24 nin0) (by rfl)), ?_⟩
    exact Nat.zero_le _
  · rintro k a w32 ⟨u31, rfl, E33, hRw, hk⟩
    have X35 := KpL.more X28 E33 (allS (.inl (by simp)) all0)
    have hR36 := hRw; clear hRw
    have hgc := isGrid_cnt hgr
    have hsl := sweepTo_len A_g bk k
    have hgv := isGrid_vals hgr hsl
    refine wp_seq_k fun K37 hK37 => ?_
    refine wp_region_lit ?_
    refine q_is rfl rfl (does_icmp (p := (k : Int)) (q := (A_g.vals.length : Int)) (.inr (.inr (.inl rfl))) (ev rfl) (ev rfl)) (by dsimp only [List.set]; try rfl) ?_
    refine wpList_nil (hK37 _ _ ?_)
    refine wp_seq_k fun K38 hK38 => ?_
    refine wp_cond_split (t := icmp .lss (k : Int) (A_g.vals.length : Int)) (ev rfl) (fun c39 => ?_) (fun c39 => ?_)
    · have c39' := c39
      (try simp only [icmp, Bool.and_eq_true, Bool.or_eq_true, Bool.and_eq_false_iff, Bool.or_eq_false_iff, Bool.not_eq_true', Bool.not_eq_false', decide_eq_true_eq, decide_eq_false_iff_not, beq_iff_eq, bne_iff_ne, beq_eq_false_iff_ne, bne_eq_false_iff_eq] at c39')
      refine wp_skip (hK38 _ _ ?_)
      refine wp_seq_k fun K40 hK40 => ?_
      refine wp_block ?_
      refine wp_seq_k fun K41 hK41 => ?_
      refine wp_region_lit ?_
      refine q_is rfl rfl (does_move (u := (Iv (k : Int))) (ev rfl)) (by dsimp only [List.set]; try rfl) ?_
      refine q_is rfl rfl (does_assign (u := (Iv (k : Int))) (ev rfl)) (by dsimp only [List.set]; try rfl) ?_
      refine wpList_nil (hK41 _ _ ?_)
      refine wp_seq_k fun K42 hK42 => ?_
      refine wp_region_lit ?_
      refine q_is rfl rfl (does_move (u := (Iv (k : Int))) (ev rfl)) (by dsimp only [List.set]; try rfl) ?_
      refine q_is rfl rfl (does_assign (u := (Iv (k : Int))) (ev rfl)) (by dsimp only [List.set]; try rfl) ?_
      refine wpList_nil (hK42 _ _ ?_)
      refine wp_seq_k fun K43 hK43 => ?_
      refine wp_seq_k fun K44 hK44 => ?_
      refine wp_region_lit ?_
      refine q_is rfl rfl (does_move (u := (Iv bf_)) (ev rfl)) (by dsimp only [List.set]; try rfl) ?_
      refine q_is rfl rfl (does_irem (p := bf_) (q := 2) (ev rfl) (ev rfl) (by first | omega | assumption) (by first | omega | assumption) (by first | omega | assumption)) (by dsimp only [List.set]; try rfl) ?_
      refine q_is rfl rfl (does_icmp (p := bf_ % 2) (q := 1) (.inl rfl) (ev rfl) (ev rfl)) (by dsimp only [List.set]; try rfl) ?_
      refine wpList_nil (hK44 _ _ ?_)
      refine wp_cond_split (t := icmp .eql (bf_ % 2) 1) (ev rfl) (fun c45 => ?_) (fun c45 => ?_)
      · have c45' := c45
        (try simp only [icmp, Bool.and_eq_true, Bool.or_eq_true, Bool.and_eq_false_iff, Bool.or_eq_false_iff, Bool.not_eq_true', Bool.not_eq_false', decide_eq_true_eq, decide_eq_false_iff_not, beq_iff_eq, bne_iff_ne, beq_eq_false_iff_ne, bne_eq_false_iff_eq] at c45')
        refine wp_region_lit ?_
        refine q_is rfl rfl (does_move (u := (Iv (A_g.vals.length : Int))) (ev rfl)) (by dsimp only [List.set]; try rfl) ?_
        refine q_is rfl rfl (does_iarith (p := (A_g.vals.length : Int)) (q := 1) (r := (A_g.vals.length : Int) - 1) (ev rfl) (ev rfl) (.inr (.inl ⟨rfl, (in_i64 (by omega) (by omega)).symm⟩))) (by dsimp only [List.set]; try rfl) ?_
        refine q_is rfl rfl (does_move (u := (Iv (k : Int))) (ev rfl)) (by dsimp only [List.set]; try rfl) ?_
        refine q_is rfl rfl (does_iarith (p := (A_g.vals.length : Int) - 1) (q := (k : Int)) (r := ((A_g.vals.length : Int) - 1) - (k : Int)) (ev rfl) (ev rfl) (.inr (.inl ⟨rfl, (in_i64 (by omega) (by omega)).symm⟩))) (by dsimp only [List.set]; try rfl) ?_
        refine q_is rfl rfl (does_assign (u := (Iv (((A_g.vals.length : Int) - 1) - (k : Int)))) (ev rfl)) (by dsimp only [List.set]; try rfl) ?_
        refine wpList_nil (hK43 _ _ ?_)
        refine wp_seq_k fun K46 hK46 => ?_
        refine wp_region_lit ?_
        refine q_is rfl rfl (does_move (u := (Pt g_b g_o)) (ev rfl)) (by dsimp only [List.set]; try rfl) ?_
        refine q_is rfl rfl (does_move (u := (Iv (((A_g.vals.length : Int) - 1) - (k : Int)))) (ev rfl)) (by dsimp only [List.set]; try rfl) ?_
        refine seqd rfl rfl (does_call (args := #[(Pt g_b g_o), (Iv (((A_g.vals.length : Int) - 1) - (k : Int)))]) cal58 (evs rfl) (c_impl_Grid_neighbours g_b g_o [(Fl r1), (Fl r3), (Fl r5), (Fl r7), (Iv A_g.x), (Iv A_g.y), (Iv A_g.z), (.slice (some ⟨g_g, 0, none⟩) A_g.vals.length g_c)] (GridT.mk A_g.low A_g.step A_g.x A_g.y A_g.z ((sweepTo A_g bk k).1)) (((A_g.vals.length : Int) - 1) - (k : Int)) _ (((hc_g.ext E14).kl E24 nin0).kl E33 (ninS hne_g nin0)) ⟨r1, r3, r5, r7, (.slice (some ⟨g_g, 0, none⟩) A_g.vals.length g_c), rfl, h2, h4, h6, h8, (RowF.sl hR36 (by first | assumption | (simp only [sweepG_len, sweepTo_len, rowS_len, swN_len, List.length_set]; done) | omega | (simp only [sweepG_len, sweepTo_len, rowS_len, swN_len, List.length_set]; omega) | rfl) hcap_g (by omega))⟩ (by exact hgv) (by (try dsimp only); omega))) ?_; rintro _ w48 ⟨E47, ⟨y50, rfl, hh49⟩⟩
        have X51 := KpL.ext X35 E47
        have n52 : g_g < w32.heap.size := RowF.lt hR36
        obtain ⟨p53, q54, rfl⟩ := Sl.shape hh49.get
        show wpList _ _ _ _ (fr [_, _, _, _, _, _, _, _, _, _, _, _, _, _, _, _, _, _, _, _, _, _, _, _, _, _, _, _, _, _, _, _, _, _, _, _, _, _, _, _, _, _, _, _, _, _, _, _, _, _, _, _, _, _, _, _, _, _, _, _, _, _, _, _, _, _, _, _]) _
        refine q_is rfl rfl (does_len_slice Try.underlying38 (ev rfl)) (by dsimp only [List.set]; try rfl) ?_
        refine q_is rfl rfl (does_move (u := (Iv 0)) (ev rfl)) (by dsimp only [List.set]; try rfl) ?_
        refine wpList_nil (hK46 _ _ ?_)
        refine wp_block ?_
        refine loop_ghost (σ := Nat) (fun m a w' => ∃ u55 : Nat → Value, a = fr [(Pt g_b g_o), (Iv bf_), Ud, Ud, (Bo false), (Bo ((rowS A_g (((A_g.vals.length : Int) - 1) - (k : Int)) (sweepTo A_g bk k) m).2)), (Iv (A_g.vals.length : Int)), (Iv (k : Int)), (Iv (((A_g.vals.length : Int) - 1) - (k : Int))), Ud, (u55 10), (u55 11), v17, v18, v19, v20, (Iv (A_g.vals.length : Int)), (Iv (A_g.vals.length : Int)), (Iv (k : Int)), (Bo (icmp .lss (k : Int) (A_g.vals.length : Int))), (Iv (k : Int)), (Iv (k : Int)), (Iv bf_), (Iv (bf_ % 2)), (Bo (icmp .eql (bf_ % 2) 1)), (Iv (A_g.vals.length : Int)), (Iv ((A_g.vals.length : Int) - 1)), (Iv (k : Int)), (Iv (((A_g.vals.length : Int) - 1) - (k : Int))), (Pt g_b g_o), (Iv (((A_g.vals.length : Int) - 1) - (k : Int))), (.slice p53 ((nb (GridT.mk A_g.low A_g.step A_g.x A_g.y A_g.z ((sweepTo A_g bk k).1)) (((A_g.vals.length : Int) - 1) - (k : Int))).length) q54), (Iv (((nb (GridT.mk A_g.low A_g.step A_g.x A_g.y A_g.z ((sweepTo A_g bk k).1)) (((A_g.vals.length : Int) - 1) - (k : Int))).length) : Int)), (Iv (m : Int)), (u55 34), (u55 35), (u55 36), (u55 37), (u55 38), (u55 39), (u55 40), (u55 41), (u55 42), (u55 43), (u55 44), (u55 45), (u55 46), (u55 47), (u55 48), (u55 49), (u55 50), (u55 51), (u55 52), (u55 53), (u55 54), (u55 55), (u55 56), (u55 57), (u55 58), (u55 59), (u55 60), (u55 61), (u55 62), (u55 63), (u55 64), (u55 65), (u31 66), Ud] ∧ KpL [g_g] w48 w' ∧ RowF w' g_g ((rowS A_g (((A_g.vals.length : Int) - 1) - (k : Int)) (sweepTo A_g bk k) m).1) ∧ (m ≤ (nb A_g (((A_g.vals.length : Int) - 1) - (k : Int))).length)) (fun m => (nb A_g (((A_g.vals.length : Int) - 1) - (k : Int))).length - m) 0 ?_ ?_
        · refine ⟨fun t => (([(Pt g_b g_o), (Iv bf_), Ud, Ud, (Bo false), (Bo ((sweepTo A_g bk k).2)), (Iv (A_g.vals.length : Int)), (Iv (k : Int)), (Iv (((A_g.vals.length : Int) - 1) - (k : Int))), Ud, (u31 10), (u31 11), v17, v18, v19, v20, (Iv (A_g.vals.length : Int)), (Iv (A_g.vals.length : Int)), (Iv (k : Int)), (Bo (icmp .lss (k : Int) (A_g.vals.length : Int))), (Iv (k : Int)), (Iv (k : Int)), (Iv bf_), (Iv (bf_ % 2)), (Bo (icmp .eql (bf_ % 2) 1)), (Iv (A_g.vals.length : Int)), (Iv ((A_g.vals.length : Int) - 1)), (Iv (k : Int)), (Iv (((A_g.vals.length : Int) - 1) - (k : Int))), (Pt g_b g_o), (Iv (((A_g.vals.length : Int) - 1) - (k : Int))), (.slice p53 ((nb (GridT.mk A_g.low A_g.step A_g.x A_g.y A_g.z ((sweepTo A_g bk k).1)) (((A_g.vals.length : Int) - 1) - (k : Int))).length) q54), (Iv (((nb (GridT.mk A_g.low A_g.step A_g.x A_g.y A_g.z ((sweepTo A_g bk k).1)) (((A_g.vals.length : Int) - 1) - (k : Int))).length) : Int)), (Iv 0), (u31 34), (u31 35), (u31 36), (u31 37), (u31 38), (u31 39), (u31 40), (u31 41), (u31 42), (u31 43), (u31 44), (u31 45), (u31 46), (u31 47), (u31 48), (u31 49), (u31 50), (u31 51), (u31 52), (u31 53), (u31 54), (u31 55), (u31 56), (u31 57), (u31 58), (u31 59), (u31 60), (u31 61), (u31 62), (u31 63), (u31 64), (u31 65), (u31 66), Ud] : List Value)[t]?).getD undef, rfl, KpL.refl _ _, (RowF.cast (hR36.ext E47) (by rfl)), ?_⟩
          exact Nat.zero_le _
        · rintro m a w56 ⟨u55, rfl, E57, hRw, hm⟩
          have X59 := KpL.more X51 E57 (allS (.inl (by simp)) all0)
          have hR60 := hRw; clear hRw
          have hnl : ((nb (GridT.mk A_g.low A_g.step A_g.x A_g.y A_g.z ((sweepTo A_g bk k).1)) (((A_g.vals.length : Int) - 1) - (k : Int)))).length = (nb A_g (((A_g.vals.length : Int) - 1) - (k : Int))).length := congrArg List.length (nb_vals A_g _ _)
          have hrl := (rowS_len A_g (((A_g.vals.length : Int) - 1) - (k : Int)) (sweepTo A_g bk k) m).trans hsl
          have hn6 : (nb A_g (((A_g.vals.length : Int) - 1) - (k : Int))).length ≤ 6 := nbK_len A_g (((A_g.vals.length : Int) - 1) - (k : Int)) 6
          refine wp_seq_k fun K61 hK61 => ?_
          refine wp_region_lit ?_
          refine q_is rfl rfl (does_icmp (p := (m : Int)) (q := (((nb (GridT.mk A_g.low A_g.step A_g.x A_g.y A_g.z ((sweepTo A_g bk k).1)) (((A_g.vals.length : Int) - 1) - (k : Int))).length) : Int)) (.inr (.inr (.inl rfl))) (ev rfl) (ev rfl)) (by dsimp only [List.set]; try rfl) ?_
          refine wpList_nil (hK61 _ _ ?_)
          refine wp_seq_k fun K62 hK62 => ?_
          refine wp_cond_split (t := icmp .lss (m : Int) (((nb (GridT.mk A_g.low A_g.step A_g.x A_g.y A_g.z ((sweepTo A_g bk k).1)) (((A_g.vals.length : Int) - 1) - (k : Int))).length) : Int)) (ev rfl) (fun c63 => ?_) (fun c63 => ?_)
          · have c63' := c63
            (try simp only [icmp, Bool.and_eq_true, Bool.or_eq_true, Bool.and_eq_false_iff, Bool.or_eq_false_iff, Bool.not_eq_true', Bool.not_eq_false', decide_eq_true_eq, decide_eq_false_iff_not, beq_iff_eq, bne_iff_ne, beq_eq_false_iff_ne, bne_eq_false_iff_eq] at c63')
            have hnm := fun (x : Int) (hx : x ∈ nb (GridT.mk A_g.low A_g.step A_g.x A_g.y A_g.z (sweepTo A_g bk k).1) (((A_g.vals.length : Int) - 1) - (k : Int))) => nb_mem (g := GridT.mk A_g.low A_g.step A_g.x A_g.y A_g.z (sweepTo A_g bk k).1) hgv (i := (((A_g.vals.length : Int) - 1) - (k : Int))) (by (try dsimp only); omega) hx
            refine wp_skip (hK62 _ _ ?_)
            refine wp_seq_k fun K64 hK64 => ?_
            refine wp_block ?_
            refine wp_seq_k fun K65 hK65 => ?_
            refine wp_region_lit ?_
            obtain ⟨el1, hel1⟩ : ∃ e, (nb (GridT.mk A_g.low A_g.step A_g.x A_g.y A_g.z ((sweepTo A_g bk k).1)) (((A_g.vals.length : Int) - 1) - (k : Int)))[m]? = some e := ⟨_, List.getElem?_eq_getElem (by omega)⟩
            refine seqd rfl rfl (does_indexSl (R := RI) (i := (m : Int)) (xs := (nb (GridT.mk A_g.low A_g.step A_g.x A_g.y A_g.z ((sweepTo A_g bk k).1)) (((A_g.vals.length : Int) - 1) - (k : Int)))) (e := el1) Try.underlying38 Try.sizeOf2 (ev rfl) (ev rfl) (hh49 _ ((Same.refl _ _).kl E57 (allS (.inl n52) all0))) (by omega) hel1) ?_; rintro _ w56 ⟨b66, o67, _, rfl, hc69, rfl, rfl⟩
            show wpList _ _ _ _ (fr [_, _, _, _, _, _, _, _, _, _, _, _, _, _, _, _, _, _, _, _, _, _, _, _, _, _, _, _, _, _, _, _, _, _, _, _, _, _, _, _, _, _, _, _, _, _, _, _, _, _, _, _, _, _, _, _, _, _, _, _, _, _, _, _, _, _, _, _]) _
            refine q_is rfl rfl (does_load (u := (Iv el1)) (ev rfl) Try.isAgg2 (Cells.at hc69 0 rfl)) (by dsimp only [List.set]; try rfl) ?_
            refine q_is rfl rfl (does_assign (u := (Iv el1)) (ev rfl)) (by dsimp only [List.set]; try rfl) ?_
            refine wpList_nil (hK65 _ _ ?_)
            refine wp_seq_k fun K70 hK70 => ?_
            have hj := hnm _ (List.mem_of_getElem? (by assumption))
            dsimp only at hj
            obtain ⟨el2, hel2⟩ : ∃ e, ((rowS A_g (((A_g.vals.length : Int) - 1) - (k : Int)) (sweepTo A_g bk k) m).1)[el1.toNat]? = some e := ⟨_, List.getElem?_eq_getElem (by first | assumption | (simp only [sweepG_len, sweepTo_len, rowS_len, swN_len, List.length_set]; done) | omega | (simp only [sweepG_len, sweepTo_len, rowS_len, swN_len, List.length_set]; omega) | rfl)⟩
            refine region_draw (
              [Fact.pure [] (fun v => v = (Pt g_b g_o)),
    Fact.pure [37] (fun v => v = (Pt g_b g_o)),
    Fact.pure [38] (fun v => v = (Pt g_b (g_o + 7))),
    Fact.pure [39] (fun v => v = (.slice (some ⟨g_g, 0, none⟩) A_g.vals.length g_c)),
    Fact.pure [] (fun v => v = (Iv el1)),
    Fact.pure [40, 41] (fun v => v = (Pt g_g (el1.toNat * 1))),
    Fact.pure [42] (fun v => ∃ r_1 : Nat, v = (Fl r_1) ∧ cf .f32 r_1 = el2),
    Fact.pure [] (fun v => v = (Pt g_b g_o)),
    Fact.pure [44] (fun v => v = (Pt g_b g_o)),
    Fact.pure [45] (fun v => v = (Pt g_b (g_o + 3))),
    Fact.pure [46] (fun v => v = (Fl r7)),
    Fact.pure [43, 47] (fun v => ∃ r_1 : Nat, v = (Fl r_1) ∧ cf .f32 r_1 = fop .add .f32 el2 (cf .f32 r7))]) mixed (by kernel_rfl) (by intro _ _ d _ _ h; cases d <;> exact h) ?_
            obtain ⟨w71, hw73⟩ : ∃ w', w' = World.drew w56 := ⟨_, rfl⟩; rw [← hw73]; have E72 : Ext w56 w71 := by rw [hw73]; exact Ext.draw _
            clear hw73
            have X74 := KpL.ext X59 E72
            refine RW_d _ rfl (fun v => by dsimp only [List.set]; try rfl) (fun u hu hF => ?_) (fun v75 => ?_)
            · clear hF
              refine doesG_un rfl ?_
              refine (does_move (u := (Pt g_b g_o)) (ev rfl)).mono ?_; rintro _ _ ⟨rfl, rfl⟩
              exact ⟨rfl, Ext.refl _⟩
            refine RW_d _ rfl (fun v => by dsimp only [List.set]; try rfl) (fun u hu hF => ?_) (fun v76 => ?_)
            · have h37_ : v75 = (Pt g_b g_o) := hF.1
              clear hF
              refine doesG_un rfl ?_
              obtain rfl := h37_
              refine (does_nilCheck (ev rfl)).mono ?_; rintro _ _ ⟨rfl, rfl⟩
              exact ⟨rfl, Ext.refl _⟩
            refine RW_d _ rfl (fun v => by dsimp only [List.set]; try rfl) (fun u hu hF => ?_) (fun v77 => ?_)
            · have h38_ : v76 = (Pt g_b g_o) := hF.1
              clear hF
              refine doesG_un rfl ?_
              obtain rfl := h38_
              refine (does_fieldAddr (ev rfl) fa31_5).mono ?_; rintro _ _ ⟨rfl, rfl⟩
              exact ⟨rfl, Ext.refl _⟩
            refine RW_d _ rfl (fun v => by dsimp only [List.set]; try rfl) (fun u hu hF => ?_) (fun v78 => ?_)
            · have h39_ : v77 = (Pt g_b (g_o + 7)) := hF.1
              clear hF
              refine doesG_un rfl ?_
              obtain rfl := h39_
              refine (does_load (u := (.slice (some ⟨g_g, 0, none⟩) A_g.vals.length g_c)) (ev rfl) Try.isAgg25 (Cells.at (((((((hc_g.ext E14).kl E24 nin0).kl E33 (ninS hne_g nin0)).ext E47).kl E57 (ninS hne_g nin0)).ext E72).ext hu) 7 rfl)).mono ?_; rintro _ _ ⟨rfl, rfl⟩
              exact ⟨rfl, Ext.refl _⟩
            refine RW_d _ rfl (fun v => by dsimp only [List.set]; try rfl) (fun u hu hF => ?_) (fun v79 => ?_)
            · clear hF
              refine doesG_un rfl ?_
              refine (does_move (u := (Iv el1)) (ev rfl)).mono ?_; rintro _ _ ⟨rfl, rfl⟩
              exact ⟨rfl, Ext.refl _⟩
            refine RW_d _ rfl (fun v => by dsimp only [List.set]; try rfl) (fun u hu hF => ?_) (fun v80 => ?_)
            · have h40_ : v78 = (.slice (some ⟨g_g, 0, none⟩) A_g.vals.length g_c) := hF.1
              have h41_ : v79 = (Iv el1) := hF.2.1
              clear hF
              refine doesG_un rfl ?_
              obtain rfl := h40_
              obtain rfl := h41_
              refine (does_indexOwn (b := g_g) (n := A_g.vals.length) (i := el1) Try.underlying25 Try.sizeOf22 (ev rfl) (ev rfl) (by omega) (by omega)).mono ?_; rintro _ _ ⟨rfl, rfl⟩
              exact ⟨rfl, Ext.refl _⟩
            refine RW_d _ rfl (fun v => by dsimp only [List.set]; try rfl) (fun u hu hF => ?_) (fun v81 => ?_)
            · have h42_ : v80 = (Pt g_g (el1.toNat * 1)) := hF.1
              clear hF
              refine doesG_un rfl ?_
              obtain rfl := h42_
              refine (does_loadRow (xs := ((rowS A_g (((A_g.vals.length : Int) - 1) - (k : Int)) (sweepTo A_g bk k) m).1)) (i := el1.toNat) (e := el2) (ev rfl) Try.isAgg22 (RowF.ext (hR60.ext E72) hu) (by omega) hel2).mono ?_; rintro _ _ ⟨r, rfl, hr, rfl⟩
              exact ⟨⟨r, rfl, (by simp only [hr])⟩, Ext.refl _⟩
            refine RW_d _ rfl (fun v => by dsimp only [List.set]; try rfl) (fun u hu hF => ?_) (fun v82 => ?_)
            · clear hF
              refine doesG_un rfl ?_
              refine (does_move (u := (Pt g_b g_o)) (ev rfl)).mono ?_; rintro _ _ ⟨rfl, rfl⟩
              exact ⟨rfl, Ext.refl _⟩
            refine RW_d _ rfl (fun v => by dsimp only [List.set]; try rfl) (fun u hu hF => ?_) (fun v83 => ?_)
            · have h44_ : v82 = (Pt g_b g_o) := hF.1
              clear hF
              refine doesG_un rfl ?_
              obtain rfl := h44_
              refine (does_nilCheck (ev rfl)).mono ?_; rintro _ _ ⟨rfl, rfl⟩
              exact ⟨rfl, Ext.refl _⟩
            refine RW_d _ rfl (fun v => by dsimp only [List.set]; try rfl) (fun u hu hF => ?_) (fun v84 => ?_)
            · have h45_ : v83 = (Pt g_b g_o) := hF.1
              clear hF
              refine doesG_un rfl ?_
              obtain rfl := h45_
              refine (does_fieldAddr (ev rfl) fa31_1).mono ?_; rintro _ _ ⟨rfl, rfl⟩
              exact ⟨rfl, Ext.refl _⟩
            refine RW_d _ rfl (fun v => by dsimp only [List.set]; try rfl) (fun u hu hF => ?_) (fun v85 => ?_)
            · have h46_ : v84 = (Pt g_b (g_o + 3)) := hF.1
              clear hF
              refine doesG_un rfl ?_
              obtain rfl := h46_
              refine (does_load (u := (Fl r7)) (ev rfl) Try.isAgg22 (Cells.at (((((((hc_g.ext E14).kl E24 nin0).kl E33 (ninS hne_g nin0)).ext E47).kl E57 (ninS hne_g nin0)).ext E72).ext hu) 3 rfl)).mono ?_; rintro _ _ ⟨rfl, rfl⟩
              exact ⟨rfl, Ext.refl _⟩
            refine RW_d _ rfl (fun v => by dsimp only [List.set]; try rfl) (fun u hu hF => ?_) (fun v86 => ?_)
            · have h43_ : ∃ r_1 : Nat, v81 = (Fl r_1) ∧ cf .f32 r_1 = el2 := hF.1
              have h47_ : v85 = (Fl r7) := hF.2.1
              clear hF
              refine doesG_un rfl ?_
              obtain ⟨r43_1, rfl, h43_2⟩ := h43_
              obtain rfl := h47_
              refine (does_float (.inl rfl) (ev rfl) (ev rfl)).mono ?_; rintro _ _ ⟨r, rfl, hr, hx⟩
              exact ⟨⟨r, rfl, (by simp only [hr, h43_2])⟩, hx⟩
            refine RW_fin ?_; intro w87 E88 hP89
            obtain ⟨⟨⟨⟨⟨⟨⟨⟨⟨⟨⟨⟨-, -⟩, -⟩, -⟩, -⟩, -⟩, -⟩, -⟩, -⟩, -⟩, -⟩, -⟩, q90⟩ := hP89
            have X91 := KpL.ext X74 E88
            have q90 : ∃ r_1 : Nat, v86 = (Fl r_1) ∧ cf .f32 r_1 = fop .add .f32 el2 (cf .f32 r7) := q90
            obtain ⟨r92, rfl, h93⟩ := q90
            show wpList _ _ _ _ (fr [_, _, _, _, _, _, _, _, _, _, _, _, _, _, _, _, _, _, _, _, _, _, _, _, _, _, _, _, _, _, _, _, _, _, _, _, _, _, _, _, _, _, _, _, _, _, _, _, _, _, _, _, _, _, _, _, _, _, _, _, _, _, _, _, _, _, _, _]) _
            refine q_is rfl rfl (does_assign (u := (Fl r92)) (ev rfl)) (by dsimp only [List.set]; try rfl) ?_
            refine wpList_nil (hK70 _ _ ?_)
            refine wp_seq_k fun K94 hK94 => ?_
            refine wp_region_lit ?_
            refine q_is rfl rfl (does_move (u := (Fl r92)) (ev rfl)) (by dsimp only [List.set]; try rfl) ?_
            refine q_is rfl rfl (does_move (u := (Pt g_b g_o)) (ev rfl)) (by dsimp only [List.set]; try rfl) ?_
            refine q_is rfl rfl (does_nilCheck (ev rfl)) (by dsimp only [List.set]; try rfl) ?_
            refine q_is rfl rfl (does_fieldAddr (ev rfl) fa31_5) (by dsimp only [List.set]; try rfl) ?_
            refine q_is rfl rfl (does_load (u := (.slice (some ⟨g_g, 0, none⟩) A_g.vals.length g_c)) (ev rfl) Try.isAgg25 (Cells.at (((((((hc_g.ext E14).kl E24 nin0).kl E33 (ninS hne_g nin0)).ext E47).kl E57 (ninS hne_g nin0)).ext E72).ext E88) 7 rfl)) (by dsimp only [List.set]; try rfl) ?_
            refine q_is rfl rfl (does_move (u := (Iv (((A_g.vals.length : Int) - 1) - (k : Int)))) (ev rfl)) (by dsimp only [List.set]; try rfl) ?_
            refine q_is rfl rfl (does_indexOwn (b := g_g) (n := A_g.vals.length) (i := ((A_g.vals.length : Int) - 1) - (k : Int)) Try.underlying25 Try.sizeOf22 (ev rfl) (ev rfl) (by omega) (by omega)) (by dsimp only [List.set]; try rfl) ?_
            obtain ⟨el3, hel3⟩ : ∃ e, ((rowS A_g (((A_g.vals.length : Int) - 1) - (k : Int)) (sweepTo A_g bk k) m).1)[((((A_g.vals.length : Int) - 1) - (k : Int)).toNat)]? = some e := ⟨_, List.getElem?_eq_getElem (by first | assumption | (simp only [sweepG_len, sweepTo_len, rowS_len, swN_len, List.length_set]; done) | omega | (simp only [sweepG_len, sweepTo_len, rowS_len, swN_len, List.length_set]; omega) | rfl)⟩
            refine seqd rfl rfl (does_loadRow (xs := ((rowS A_g (((A_g.vals.length : Int) - 1) - (k : Int)) (sweepTo A_g bk k) m).1)) (i := ((((A_g.vals.length : Int) - 1) - (k : Int)).toNat)) (e := el3) (ev rfl) Try.isAgg22 ((hR60.ext E72).ext E88) (by omega) hel3) ?_; rintro _ w87 ⟨r95, rfl, h96, rfl⟩
            show wpList _ _ _ _ (fr [_, _, _, _, _, _, _, _, _, _, _, _, _, _, _, _, _, _, _, _, _, _, _, _, _, _, _, _, _, _, _, _, _, _, _, _, _, _, _, _, _, _, _, _, _, _, _, _, _, _, _, _, _, _, _, _, _, _, _, _, _, _, _, _, _, _, _, _]) _
            refine q_is rfl rfl (does_fcmp (.inr (.inr (.inl rfl))) (ev rfl) (ev rfl)) (by dsimp only [List.set]; try rfl) ?_
            refine wpList_nil (hK94 _ _ ?_)
            refine wp_cond_split (t := fcmp .lss (ford .f32 (cf .f32 r92) (cf .f32 r95))) (ev rfl) (fun c97 => ?_) (fun c97 => ?_)
            · have c97' := c97
              simp only [h2, h4, h6, h8, hel1, hel2, h93, h96] at c97
              have hst := (rowS_succ (g := A_g) (s := (sweepTo A_g bk k)) (nb_get (by assumption))).trans (relax_t (by assumption) (by assumption) c97)
              refine wp_region_lit ?_
              refine q_is rfl rfl (does_move (u := (Pt g_b g_o)) (ev rfl)) (by dsimp only [List.set]; try rfl) ?_
              refine q_is rfl rfl (does_nilCheck (ev rfl)) (by dsimp only [List.set]; try rfl) ?_
              refine q_is rfl rfl (does_fieldAddr (ev rfl) fa31_5) (by dsimp only [List.set]; try rfl) ?_
              refine q_is rfl rfl (does_load (u := (.slice (some ⟨g_g, 0, none⟩) A_g.vals.length g_c)) (ev rfl) Try.isAgg25 (Cells.at (((((((hc_g.ext E14).kl E24 nin0).kl E33 (ninS hne_g nin0)).ext E47).kl E57 (ninS hne_g nin0)).ext E72).ext E88) 7 rfl)) (by dsimp only [List.set]; try rfl) ?_
              refine q_is rfl rfl (does_move (u := (Iv (((A_g.vals.length : Int) - 1) - (k : Int)))) (ev rfl)) (by dsimp only [List.set]; try rfl) ?_
              refine q_is rfl rfl (does_move (u := (Fl r92)) (ev rfl)) (by dsimp only [List.set]; try rfl) ?_
              refine q_is rfl rfl (does_indexOwn (b := g_g) (n := A_g.vals.length) (i := ((A_g.vals.length : Int) - 1) - (k : Int)) Try.underlying25 Try.sizeOf22 (ev rfl) (ev rfl) (by omega) (by omega)) (by dsimp only [List.set]; try rfl) ?_
              refine seqn rfl rfl (does_storeRow (xs := ((rowS A_g (((A_g.vals.length : Int) - 1) - (k : Int)) (sweepTo A_g bk k) m).1)) (i := ((((A_g.vals.length : Int) - 1) - (k : Int)).toNat)) (r := r92) (ev rfl) (ev rfl) Try.sizeOf22 ((hR60.ext E72).ext E88) (by omega) (by first | assumption | (simp only [sweepG_len, sweepTo_len, rowS_len, swN_len, List.length_set]; done) | omega | (simp only [sweepG_len, sweepTo_len, rowS_len, swN_len, List.length_set]; omega) | rfl)) ?_; rintro _ w100 ⟨rfl, W98, hR99⟩
              have X101 := KpL.more X91 (KpL.of_wr W98) (allS (.inl (by simp)) all0)
              refine q_is rfl rfl (does_assign (u := (Bo true)) (ev rfl)) (by dsimp only [List.set]; try rfl) ?_
              refine wpList_nil (hK64 _ _ ?_)
              refine wp_region_lit ?_
              refine q_is rfl rfl (does_iarith (p := (m : Int)) (q := 1) (r := (m : Int) + 1) (ev rfl) (ev rfl) (.inl ⟨rfl, (in_i64 (by omega) (by omega)).symm⟩)) (by dsimp only [List.set]; try rfl) ?_
              refine q_is rfl rfl (does_move (u := (Iv ((m : Int) + 1))) (ev rfl)) (by dsimp only [List.set]; try rfl) ?_
              refine wpList_nil ?_
              have hR102 := RowF.cast (ys := ((fun (m : Nat) => (rowS A_g (((A_g.vals.length : Int) - 1) - (k : Int)) (sweepTo A_g bk k) m).1) (m + 1))) hR99 (by (try dsimp only); rw [hst]; (try simp only [h2, h4, h6, h8, hel1, hel2, h93, h96]))
              refine ⟨m + 1, ⟨fun t => (([(Pt g_b g_o), (Iv bf_), Ud, Ud, (Bo false), (Bo true), (Iv (A_g.vals.length : Int)), (Iv (k : Int)), (Iv (((A_g.vals.length : Int) - 1) - (k : Int))), Ud, (Iv el1), (Fl r92), v17, v18, v19, v20, (Iv (A_g.vals.length : Int)), (Iv (A_g.vals.length : Int)), (Iv (k : Int)), (Bo (icmp .lss (k : Int) (A_g.vals.length : Int))), (Iv (k : Int)), (Iv (k : Int)), (Iv bf_), (Iv (bf_ % 2)), (Bo (icmp .eql (bf_ % 2) 1)), (Iv (A_g.vals.length : Int)), (Iv ((A_g.vals.length : Int) - 1)), (Iv (k : Int)), (Iv (((A_g.vals.length : Int) - 1) - (k : Int))), (Pt g_b g_o), (Iv (((A_g.vals.length : Int) - 1) - (k : Int))), (.slice p53 ((nb (GridT.mk A_g.low A_g.step A_g.x A_g.y A_g.z ((sweepTo A_g bk k).1)) (((A_g.vals.length : Int) - 1) - (k : Int))).length) q54), (Iv (((nb (GridT.mk A_g.low A_g.step A_g.x A_g.y A_g.z ((sweepTo A_g bk k).1)) (((A_g.vals.length : Int) - 1) - (k : Int))).length) : Int)), (Iv ((m : Int) + 1)), (Bo (icmp .lss (m : Int) (((nb (GridT.mk A_g.low A_g.step A_g.x A_g.y A_g.z ((sweepTo A_g bk k).1)) (((A_g.vals.length : Int) - 1) - (k : Int))).length) : Int))), (Pt b66 o67), (Iv el1), v75, v76, v77, v78, v79, v80, v81, v82, v83, v84, v85, (Fl r92), (Fl r92), (Pt g_b g_o), (Pt g_b g_o), (Pt g_b (g_o + 7)), (.slice (some ⟨g_g, 0, none⟩) A_g.vals.length g_c), (Iv (((A_g.vals.length : Int) - 1) - (k : Int))), (Pt g_g (((((A_g.vals.length : Int) - 1) - (k : Int)).toNat) * 1)), (Fl r95), (Bo (fcmp .lss (ford .f32 (cf .f32 r92) (cf .f32 r95)))), (Pt g_b g_o), (Pt g_b g_o), (Pt g_b (g_o + 7)), (.slice (some ⟨g_g, 0, none⟩) A_g.vals.length g_c), (Iv (((A_g.vals.length : Int) - 1) - (k : Int))), (Fl r92), (Pt g_g (((((A_g.vals.length : Int) - 1) - (k : Int)).toNat) * 1)), (Iv ((m : Int) + 1)), (u31 66), Ud] : List Value)[t]?).getD undef, ?_, (KpL.more (KpL.ext (KpL.ext E57 E72) E88) (KpL.of_wr W98) (allS (.inl (by simp)) all0)), hR102, ?_⟩, ?_⟩
              · first | rfl | (rw [hst]; rfl) | (simp only [hst, Nat.cast_add, Nat.cast_one, Int.natCast_add, Int.natCast_one]; rfl)
              · (try dsimp only); (try dsimp only); omega
              · (try dsimp only); omega
            have c97' := c97
            simp only [h2, h4, h6, h8, hel1, hel2, h93, h96] at c97
            have hst := (rowS_succ (g := A_g) (s := (sweepTo A_g bk k)) (nb_get (by assumption))).trans (relax_f (by assumption) (by assumption) c97)
            refine wp_skip (hK64 _ _ ?_)
            refine wp_region_lit ?_
            refine q_is rfl rfl (does_iarith (p := (m : Int)) (q := 1) (r := (m : Int) + 1) (ev rfl) (ev rfl) (.inl ⟨rfl, (in_i64 (by omega) (by omega)).symm⟩)) (by dsimp only [List.set]; try rfl) ?_
            refine q_is rfl rfl (does_move (u := (Iv ((m : Int) + 1))) (ev rfl)) (by dsimp only [List.set]; try rfl) ?_
            refine wpList_nil ?_
            have hR103 := RowF.cast (ys := ((fun (m : Nat) => (rowS A_g (((A_g.vals.length : Int) - 1) - (k : Int)) (sweepTo A_g bk k) m).1) (m + 1))) ((hR60.ext E72).ext E88) (by (try dsimp only); rw [hst]; (try simp only [h2, h4, h6, h8, hel1, hel2, h93, h96]))
            refine ⟨m + 1, ⟨fun t => (([(Pt g_b g_o), (Iv bf_), Ud, Ud, (Bo false), (Bo ((rowS A_g (((A_g.vals.length : Int) - 1) - (k : Int)) (sweepTo A_g bk k) m).2)), (Iv (A_g.vals.length : Int)), (Iv (k : Int)), (Iv (((A_g.vals.length : Int) - 1) - (k : Int))), Ud, (Iv el1), (Fl r92), v17, v18, v19, v20, (Iv (A_g.vals.length : Int)), (Iv (A_g.vals.length : Int)), (Iv (k : Int)), (Bo (icmp .lss (k : Int) (A_g.vals.length : Int))), (Iv (k : Int)), (Iv (k : Int)), (Iv bf_), (Iv (bf_ % 2)), (Bo (icmp .eql (bf_ % 2) 1)), (Iv (A_g.vals.length : Int)), (Iv ((A_g.vals.length : Int) - 1)), (Iv (k : Int)), (Iv (((A_g.vals.length : Int) - 1) - (k : Int))), (Pt g_b g_o), (Iv (((A_g.vals.length : Int) - 1) - (k : Int))), (.slice p53 ((nb (GridT.mk A_g.low A_g.step A_g.x A_g.y A_g.z ((sweepTo A_g bk k).1)) (((A_g.vals.length : Int) - 1) - (k : Int))).length) q54), (Iv (((nb (GridT.mk A_g.low A_g.step A_g.x A_g.y A_g.z ((sweepTo A_g bk k).1)) (((A_g.vals.length : Int) - 1) - (k : Int))).length) : Int)), (Iv ((m : Int) + 1)), (Bo (icmp .lss (m : Int) (((nb (GridT.mk A_g.low A_g.step A_g.x A_g.y A_g.z ((sweepTo A_g bk k).1)) (((A_g.vals.length : Int) - 1) - (k : Int))).length) : Int))), (Pt b66 o67), (Iv el1), v75, v76, v77, v78, v79, v80, v81, v82, v83, v84, v85, (Fl r92), (Fl r92), (Pt g_b g_o), (Pt g_b g_o), (Pt g_b (g_o + 7)), (.slice (some ⟨g_g, 0, none⟩) A_g.vals.length g_c), (Iv (((A_g.vals.length : Int) - 1) - (k : Int))), (Pt g_g (((((A_g.vals.length : Int) - 1) - (k : Int)).toNat) * 1)), (Fl r95), (Bo (fcmp .lss (ford .f32 (cf .f32 r92) (cf .f32 r95)))), (u55 58), (u55 59), (u55 60), (u55 61), (u55 62), (u55 63), (u55 64), (Iv ((m : Int) + 1)), (u31 66), Ud] : List Value)[t]?).getD undef, ?_, (KpL.ext (KpL.ext E57 E72) E88), hR103, ?_⟩, ?_⟩
            · first | rfl | (rw [hst]; rfl) | (simp only [hst, Nat.cast_add, Nat.cast_one, Int.natCast_add, Int.natCast_one]; rfl)
            · (try dsimp only); (try dsimp only); omega
            · (try dsimp only); omega
          have c63' := c63
          (try simp only [icmp, Bool.and_eq_true, Bool.or_eq_true, Bool.and_eq_false_iff, Bool.or_eq_false_iff, Bool.not_eq_true', Bool.not_eq_false', decide_eq_true_eq, decide_eq_false_iff_not, beq_iff_eq, bne_iff_ne, beq_eq_false_iff_ne, bne_eq_false_iff_eq] at c63')
          have hsw := sweepTo_step (g := A_g) (back := bk) (k := k) (m := m) (i := (((A_g.vals.length : Int) - 1) - (k : Int))) (by first | exact swI_t (by assumption) | exact swI_f (by assumption) | exact swI_t (hbk.trans (by assumption)) | exact swI_f (hbk.trans (by assumption))) (by omega) (by omega)
          refine wp_exit ?_
          refine hK40 _ _ ?_
          refine wp_region_lit ?_
          refine q_is rfl rfl (does_iarith (p := (k : Int)) (q := 1) (r := (k : Int) + 1) (ev rfl) (ev rfl) (.inl ⟨rfl, (in_i64 (by omega) (by omega)).symm⟩)) (by dsimp only [List.set]; try rfl) ?_
          refine q_is rfl rfl (does_move (u := (Iv ((k : Int) + 1))) (ev rfl)) (by dsimp only [List.set]; try rfl) ?_
          refine wpList_nil ?_
          have hR104 := RowF.cast (ys := ((fun (k : Nat) => (sweepTo A_g bk k).1) (k + 1))) hR60 (by (try dsimp only); rw [hsw])
          refine ⟨k + 1, ⟨fun t => (([(Pt g_b g_o), (Iv bf_), Ud, Ud, (Bo false), (Bo ((rowS A_g (((A_g.vals.length : Int) - 1) - (k : Int)) (sweepTo A_g bk k) m).2)), (Iv (A_g.vals.length : Int)), (Iv (k : Int)), (Iv (((A_g.vals.length : Int) - 1) - (k : Int))), Ud, (u55 10), (u55 11), v17, v18, v19, v20, (Iv (A_g.vals.length : Int)), (Iv (A_g.vals.length : Int)), (Iv ((k : Int) + 1)), (Bo (icmp .lss (k : Int) (A_g.vals.length : Int))), (Iv (k : Int)), (Iv (k : Int)), (Iv bf_), (Iv (bf_ % 2)), (Bo (icmp .eql (bf_ % 2) 1)), (Iv (A_g.vals.length : Int)), (Iv ((A_g.vals.length : Int) - 1)), (Iv (k : Int)), (Iv (((A_g.vals.length : Int) - 1) - (k : Int))), (Pt g_b g_o), (Iv (((A_g.vals.length : Int) - 1) - (k : Int))), (.slice p53 ((nb (GridT.mk A_g.low A_g.step A_g.x A_g.y A_g.z ((sweepTo A_g bk k).1)) (((A_g.vals.length : Int) - 1) - (k : Int))).length) q54), (Iv (((nb (GridT.mk A_g.low A_g.step A_g.x A_g.y A_g.z ((sweepTo A_g bk k).1)) (((A_g.vals.length : Int) - 1) - (k : Int))).length) : Int)), (Iv (m : Int)), (Bo (icmp .lss (m : Int) (((nb (GridT.mk A_g.low A_g.step A_g.x A_g.y A_g.z ((sweepTo A_g bk k).1)) (((A_g.vals.length : Int) - 1) - (k : Int))).length) : Int))), (u55 35), (u55 36), (u55 37), (u55 38), (u55 39), (u55 40), (u55 41), (u55 42), (u55 43), (u55 44), (u55 45), (u55 46), (u55 47), (u55 48), (u55 49), (u55 50), (u55 51), (u55 52), (u55 53), (u55 54), (u55 55), (u55 56), (u55 57), (u55 58), (u55 59), (u55 60), (u55 61), (u55 62), (u55 63), (u55 64), (u55 65), (Iv ((k : Int) + 1)), Ud] : List Value)[t]?).getD undef, ?_, (KpL.more (KpL.ext E33 E47) E57 (allS (.inl (by simp)) all0)), hR104, ?_⟩, ?_⟩
          · first | rfl | (rw [hsw]; rfl) | (simp only [hsw, Nat.cast_add, Nat.cast_one, Int.natCast_add, Int.natCast_one]; rfl)
          · omega
          · omega
      have c45' := c45
      (try simp only [icmp, Bool.and_eq_true, Bool.or_eq_true, Bool.and_eq_false_iff, Bool.or_eq_false_iff, Bool.not_eq_true', Bool.not_eq_false', decide_eq_true_eq, decide_eq_false_iff_not, beq_iff_eq, bne_iff_ne, beq_eq_false_iff_ne, bne_eq_false_iff_eq] at c45')
      refine wp_skip (hK43 _ _ ?_)
      refine wp_seq_k fun K105 hK105 => ?_
      refine wp_region_lit ?_
      refine q_is rfl rfl (does_move (u := (Pt g_b g_o)) (ev rfl)) (by dsimp only [List.set]; try rfl) ?_
      refine q_is rfl rfl (does_move (u := (Iv (k : Int))) (ev rfl)) (by dsimp only [List.set]; try rfl) ?_
      refine seqd rfl rfl (does_call (args := #[(Pt g_b g_o), (Iv (k : Int))]) cal58 (evs rfl) (c_impl_Grid_neighbours g_b g_o [(Fl r1), (Fl r3), (Fl r5), (Fl r7), (Iv A_g.x), (Iv A_g.y), (Iv A_g.z), (.slice (some ⟨g_g, 0, none⟩) A_g.vals.length g_c)] (GridT.mk A_g.low A_g.step A_g.x A_g.y A_g.z ((sweepTo A_g bk k).1)) (k : Int) _ (((hc_g.ext E14).kl E24 nin0).kl E33 (ninS hne_g nin0)) ⟨r1, r3, r5, r7, (.slice (some ⟨g_g, 0, none⟩) A_g.vals.length g_c), rfl, h2, h4, h6, h8, (RowF.sl hR36 (by first | assumption | (simp only [sweepG_len, sweepTo_len, rowS_len, swN_len, List.length_set]; done) | omega | (simp only [sweepG_len, sweepTo_len, rowS_len, swN_len, List.length_set]; omega) | rfl) hcap_g (by omega))⟩ (by exact hgv) (by (try dsimp only); omega))) ?_; rintro _ w107 ⟨E106, ⟨y109, rfl, hh108⟩⟩
      have X110 := KpL.ext X35 E106
      have n111 : g_g < w32.heap.size := RowF.lt hR36
      obtain ⟨p112, q113, rfl⟩ := Sl.shape hh108.get
      show wpList _ _ _ _ (fr [_, _, _, _, _, _, _, _, _, _, _, _, _, _, _, _, _, _, _, _, _, _, _, _, _, _, _, _, _, _, _, _, _, _, _, _, _, _, _, _, _, _, _, _, _, _, _, _, _, _, _, _, _, _, _, _, _, _, _, _, _, _, _, _, _, _, _, _]) _
      refine q_is rfl rfl (does_len_slice Try.underlying38 (ev rfl)) (by dsimp only [List.set]; try rfl) ?_
      refine q_is rfl rfl (does_move (u := (Iv 0)) (ev rfl)) (by dsimp only [List.set]; try rfl) ?_
      refine wpList_nil (hK105 _ _ ?_)
      refine wp_block ?_
      refine loop_ghost (σ := Nat) (fun m a w' => ∃ u114 : Nat → Value, a = fr [(Pt g_b g_o), (Iv bf_), Ud, Ud, (Bo false), (Bo ((rowS A_g (k : Int) (sweepTo A_g bk k) m).2)), (Iv (A_g.vals.length : Int)), (Iv (k : Int)), (Iv (k : Int)), Ud, (u114 10), (u114 11), v17, v18, v19, v20, (Iv (A_g.vals.length : Int)), (Iv (A_g.vals.length : Int)), (Iv (k : Int)), (Bo (icmp .lss (k : Int) (A_g.vals.length : Int))), (Iv (k : Int)), (Iv (k : Int)), (Iv bf_), (Iv (bf_ % 2)), (Bo (icmp .eql (bf_ % 2) 1)), (u31 25), (u31 26), (u31 27), (u31 28), (Pt g_b g_o), (Iv (k : Int)), (.slice p112 ((nb (GridT.mk A_g.low A_g.step A_g.x A_g.y A_g.z ((sweepTo A_g bk k).1)) (k : Int)).length) q113), (Iv (((nb (GridT.mk A_g.low A_g.step A_g.x A_g.y A_g.z ((sweepTo A_g bk k).1)) (k : Int)).length) : Int)), (Iv (m : Int)), (u114 34), (u114 35), (u114 36), (u114 37), (u114 38), (u114 39), (u114 40), (u114 41), (u114 42), (u114 43), (u114 44), (u114 45), (u114 46), (u114 47), (u114 48), (u114 49), (u114 50), (u114 51), (u114 52), (u114 53), (u114 54), (u114 55), (u114 56), (u114 57), (u114 58), (u114 59), (u114 60), (u114 61), (u114 62), (u114 63), (u114 64), (u114 65), (u31 66), Ud] ∧ KpL [g_g] w107 w' ∧ RowF w' g_g ((rowS A_g (k : Int) (sweepTo A_g bk k) m).1) ∧ (m ≤ (nb A_g (k : Int)).length)) (fun m => (nb A_g (k : Int)).length - m) 0 ?_ ?_
      · refine ⟨fun t => (([(Pt g_b g_o), (Iv bf_), Ud, Ud, (Bo false), (Bo ((sweepTo A_g bk k).2)), (Iv (A_g.vals.length : Int)), (Iv (k : Int)), (Iv (k : Int)), Ud, (u31 10), (u31 11), v17, v18, v19, v20, (Iv (A_g.vals.length : Int)), (Iv (A_g.vals.length : Int)), (Iv (k : Int)), (Bo (icmp .lss (k : Int) (A_g.vals.length : Int))), (Iv (k : Int)), (Iv (k : Int)), (Iv bf_), (Iv (bf_ % 2)), (Bo (icmp .eql (bf_ % 2) 1)), (u31 25), (u31 26), (u31 27), (u31 28), (Pt g_b g_o), (Iv (k : Int)), (.slice p112 ((nb (GridT.mk A_g.low A_g.step A_g.x A_g.y A_g.z ((sweepTo A_g bk k).1)) (k : Int)).length) q113), (Iv (((nb (GridT.mk A_g.low A_g.step A_g.x A_g.y A_g.z ((sweepTo A_g bk k).1)) (k : Int)).length) : Int)), (Iv 0), (u31 34), (u31 35), (u31 36), (u31 37), (u31 38), (u31 39), (u31 40), (u31 41), (u31 42), (u31 43), (u31 44), (u31 45), (u31 46), (u31 47), (u31 48), (u31 49), (u31 50), (u31 51), (u31 52), (u31 53), (u31 54), (u31 55), (u31 56), (u31 57), (u31 58), (u31 59), (u31 60), (u31 61), (u31 62), (u31 63), (u31 64), (u31 65), (u31 66), Ud] : List Value)[t]?).getD undef, rfl, KpL.refl _ _, (RowF.cast (hR36.ext E106) (by rfl)), ?_⟩
        exact Nat.zero_le _
      · rintro m a w115 ⟨u114, rfl, E116, hRw, hm⟩
        have X118 := KpL.more X110 E116 (allS (.inl (by simp)) all0)
        have hR119 := hRw; clear hRw
        have hnl : ((nb (GridT.mk A_g.low A_g.step A_g.x A_g.y A_g.z ((sweepTo A_g bk k).1)) (k : Int))).length = (nb A_g (k : Int)).length := congrArg List.length (nb_vals A_g _ _)
        have hrl := (rowS_len A_g (k : Int) (sweepTo A_g bk k) m).trans hsl
        have hn6 : (nb A_g (k : Int)).length ≤ 6 := nbK_len A_g (k : Int) 6
        refine wp_seq_k fun K120 hK120 => ?_
        refine wp_region_lit ?_
        refine q_is rfl rfl (does_icmp (p := (m : Int)) (q := (((nb (GridT.mk A_g.low A_g.step A_g.x A_g.y A_g.z ((sweepTo A_g bk k).1)) (k : Int)).length) : Int)) (.inr (.inr (.inl rfl))) (ev rfl) (ev rfl)) (by dsimp only [List.set]; try rfl) ?_
        refine wpList_nil (hK120 _ _ ?_)
        refine wp_seq_k fun K121 hK121 => ?_
        refine wp_cond_split (t := icmp .lss (m : Int) (((nb (GridT.mk A_g.low A_g.step A_g.x A_g.y A_g.z ((sweepTo A_g bk k).1)) (k : Int)).length) : Int)) (ev rfl) (fun c122 => ?_) (fun c122 => ?_)
        · have c122' := c122
          (try simp only [icmp, Bool.and_eq_true, Bool.or_eq_true, Bool.and_eq_false_iff, Bool.or_eq_false_iff, Bool.not_eq_true', Bool.not_eq_false', decide_eq_true_eq, decide_eq_false_iff_not, beq_iff_eq, bne_iff_ne, beq_eq_false_iff_ne, bne_eq_false_iff_eq] at c122')
          have hnm := fun (x : Int) (hx : x ∈ nb (GridT.mk A_g.low A_g.step A_g.x A_g.y A_g.z (sweepTo A_g bk k).1) (k : Int)) => nb_mem (g := GridT.mk A_g.low A_g.step A_g.x A_g.y A_g.z (sweepTo A_g bk k).1) hgv (i := (k : Int)) (by (try dsimp only); omega) hx
          refine wp_skip (hK121 _ _ ?_)
          refine wp_seq_k fun K123 hK123 => ?_
          refine wp_block ?_
          refine wp_seq_k fun K124 hK124 => ?_
          refine wp_region_lit ?_
          obtain ⟨el4, hel4⟩ : ∃ e, (nb (GridT.mk A_g.low A_g.step A_g.x A_g.y A_g.z ((sweepTo A_g bk k).1)) (k : Int))[m]? = some e := ⟨_, List.getElem?_eq_getElem (by omega)⟩
          refine seqd rfl rfl (does_indexSl (R := RI) (i := (m : Int)) (xs := (nb (GridT.mk A_g.low A_g.step A_g.x A_g.y A_g.z ((sweepTo A_g bk k).1)) (k : Int))) (e := el4) Try.underlying38 Try.sizeOf2 (ev rfl) (ev rfl) (hh108 _ ((Same.refl _ _).kl E116 (allS (.inl n111) all0))) (by omega) hel4) ?_; rintro _ w115 ⟨b125, o126, _, rfl, hc128, rfl, rfl⟩
          show wpList _ _ _ _ (fr [_, _, _, _, _, _, _, _, _, _, _, _, _, _, _, _, _, _, _, _, _, _, _, _, _, _, _, _, _, _, _, _, _, _, _, _, _, _, _, _, _, _, _, _, _, _, _, _, _, _, _, _, _, _, _, _, _, _, _, _, _, _, _, _, _, _, _, _]) _
          refine q_is rfl rfl (does_load (u := (Iv el4)) (ev rfl) Try.isAgg2 (Cells.at hc128 0 rfl)) (by dsimp only [List.set]; try rfl) ?_
          refine q_is rfl rfl (does_assign (u := (Iv el4)) (ev rfl)) (by dsimp only [List.set]; try rfl) ?_
          refine wpList_nil (hK124 _ _ ?_)
          refine wp_seq_k fun K129 hK129 => ?_
          have hj := hnm _ (List.mem_of_getElem? (by assumption))
          dsimp only at hj
          obtain ⟨el5, hel5⟩ : ∃ e, ((rowS A_g (k : Int) (sweepTo A_g bk k) m).1)[el4.toNat]? = some e := ⟨_, List.getElem?_eq_getElem (by first | assumption | (simp only [sweepG_len, sweepTo_len, rowS_len, swN_len, List.length_set]; done) | omega | (simp only [sweepG_len, sweepTo_len, rowS_len, swN_len, List.length_set]; omega) | rfl)⟩
          refine region_draw (
            [Fact.pure [] (fun v => v = (Pt g_b g_o)),
    Fact.pure [37] (fun v => v = (Pt g_b g_o)),
    Fact.pure [38] (fun v => v = (Pt g_b (g_o + 7))),
    Fact.pure [39] (fun v => v = (.slice (some ⟨g_g, 0, none⟩) A_g.vals.length g_c)),
    Fact.pure [] (fun v => v = (Iv el4)),
    Fact.pure [40, 41] (fun v => v = (Pt g_g (el4.toNat * 1))),
    Fact.pure [42] (fun v => ∃ r_1 : Nat, v = (Fl r_1) ∧ cf .f32 r_1 = el5),
    Fact.pure [] (fun v => v = (Pt g_b g_o)),
    Fact.pure [44] (fun v => v = (Pt g_b g_o)),
    Fact.pure [45] (fun v => v = (Pt g_b (g_o + 3))),
    Fact.pure [46] (fun v => v = (Fl r7)),
    Fact.pure [43, 47] (fun v => ∃ r_1 : Nat, v = (Fl r_1) ∧ cf .f32 r_1 = fop .add .f32 el5 (cf .f32 r7))]) mixed (by kernel_rfl) (by intro _ _ d _ _ h; cases d <;> exact h) ?_
          obtain ⟨w130, hw132⟩ : ∃ w', w' = World.drew w115 := ⟨_, rfl⟩; rw [← hw132]; have E131 : Ext w115 w130 := by rw [hw132]; exact Ext.draw _
          clear hw132
          have X133 := KpL.ext X118 E131
          refine RW_d _ rfl (fun v => by dsimp only [List.set]; try rfl) (fun u hu hF => ?_) (fun v134 => ?_)
          · clear hF
            refine doesG_un rfl ?_
            refine (does_move (u := (Pt g_b g_o)) (ev rfl)).mono ?_; rintro _ _ ⟨rfl, rfl⟩
            exact ⟨rfl, Ext.refl _⟩
          refine RW_d _ rfl (fun v => by dsimp only [List.set]; try rfl) (fun u hu hF => ?_) (fun v135 => ?_)
          · have h37_ : v134 = (Pt g_b g_o) := hF.1
            clear hF
            refine doesG_un rfl ?_
            obtain rfl := h37_
            refine (does_nilCheck (ev rfl)).mono ?_; rintro _ _ ⟨rfl, rfl⟩
            exact ⟨rfl, Ext.refl _⟩
          refine RW_d _ rfl (fun v => by dsimp only [List.set]; try rfl) (fun u hu hF => ?_) (fun v136 => ?_)
          · have h38_ : v135 = (Pt g_b g_o) := hF.1
            clear hF
            refine doesG_un rfl ?_
            obtain rfl := h38_
            refine (does_fieldAddr (ev rfl) fa31_5).mono ?_; rintro _ _ ⟨rfl, rfl⟩
            exact ⟨rfl, Ext.refl _⟩
          refine RW_d _ rfl (fun v => by dsimp only [List.set]; try rfl) (fun u hu hF => ?_) (fun v137 => ?_)
          · have h39_ : v136 = (Pt g_b (g_o + 7)) := hF.1
            clear hF
            refine doesG_un rfl ?_
            obtain rfl := h39_
            refine (does_load (u := (.slice (some ⟨g_g, 0, none⟩) A_g.vals.length g_c)) (ev rfl) Try.isAgg25 (Cells.at (((((((hc_g.ext E14).kl E24 nin0).kl E33 (ninS hne_g nin0)).ext E106).kl E116 (ninS hne_g nin0)).ext E131).ext hu) 7 rfl)).mono ?_; rintro _ _ ⟨rfl, rfl⟩
            exact ⟨rfl, Ext.refl _⟩
          refine RW_d _ rfl (fun v => by dsimp only [List.set]; try rfl) (fun u hu hF => ?_) (fun v138 => ?_)
          · clear hF
            refine doesG_un rfl ?_
            refine (does_move (u := (Iv el4)) (ev rfl)).mono ?_; rintro _ _ ⟨rfl, rfl⟩
            exact ⟨rfl, Ext.refl _⟩
          refine RW_d _ rfl (fun v => by dsimp only [List.set]; try rfl) (fun u hu hF => ?_) (fun v139 => ?_)
          · have h40_ : v137 = (.slice (some ⟨g_g, 0, none⟩) A_g.vals.length g_c) := hF.1
            have h41_ : v138 = (Iv el4) := hF.2.1
            clear hF
            refine doesG_un rfl ?_
            obtain rfl := h40_
            obtain rfl := h41_
            refine (does_indexOwn (b := g_g) (n := A_g.vals.length) (i := el4) Try.underlying25 Try.sizeOf22 (ev rfl) (ev rfl) (by omega) (by omega)).mono ?_; rintro _ _ ⟨rfl, rfl⟩
            exact ⟨rfl, Ext.refl _⟩
          refine RW_d _ rfl (fun v => by dsimp only [List.set]; try rfl) (fun u hu hF => ?_) (fun v140 => ?_)
          · have h42_ : v139 = (Pt g_g (el4.toNat * 1)) := hF.1
            clear hF
            refine doesG_un rfl ?_
            obtain rfl := h42_
            refine (does_loadRow (xs := ((rowS A_g (k : Int) (sweepTo A_g bk k) m).1)) (i := el4.toNat) (e := el5) (ev rfl) Try.isAgg22 (RowF.ext (hR119.ext E131) hu) (by omega) hel5).mono ?_; rintro _ _ ⟨r, rfl, hr, rfl⟩
            exact ⟨⟨r, rfl, (by simp only [hr])⟩, Ext.refl _⟩
          refine RW_d _ rfl (fun v => by dsimp only [List.set]; try rfl) (fun u hu hF => ?_) (fun v141 => ?_)
          · clear hF
            refine doesG_un rfl ?_
            refine (does_move (u := (Pt g_b g_o)) (ev rfl)).mono ?_; rintro _ _ ⟨rfl, rfl⟩
            exact ⟨rfl, Ext.refl _⟩
          refine RW_d _ rfl (fun v => by dsimp only [List.set]; try rfl) (fun u hu hF => ?_) (fun v142 => ?_)
          · have h44_ : v141 = (Pt g_b g_o) := hF.1
            clear hF
            refine doesG_un rfl ?_
            obtain rfl := h44_
            refine (does_nilCheck (ev rfl)).mono ?_; rintro _ _ ⟨rfl, rfl⟩
            exact ⟨rfl, Ext.refl _⟩
          refine RW_d _ rfl (fun v => by dsimp only [List.set]; try rfl) (fun u hu hF => ?_) (fun v143 => ?_)
          · have h45_ : v142 = (Pt g_b g_o) := hF.1
            clear hF
            refine doesG_un rfl ?_
            obtain rfl := h45_
            refine (does_fieldAddr (ev rfl) fa31_1).mono ?_; rintro _ _ ⟨rfl, rfl⟩
            exact ⟨rfl, Ext.refl _⟩
          refine RW_d _ rfl (fun v => by dsimp only [List.set]; try rfl) (fun u hu hF => ?_) (fun v144 => ?_)
          · have h46_ : v143 = (Pt g_b (g_o + 3)) := hF.1
            clear hF
            refine doesG_un rfl ?_
            obtain rfl := h46_
            refine (does_load (u := (Fl r7)) (ev rfl) Try.isAgg22 (Cells.at (((((((hc_g.ext E14).kl E24 nin0).kl E33 (ninS hne_g nin0)).ext E106).kl E116 (ninS hne_g nin0)).ext E131).ext hu) 3 rfl)).mono ?_; rintro _ _ ⟨rfl, rfl⟩
            exact ⟨rfl, Ext.refl _⟩
          refine RW_d _ rfl (fun v => by dsimp only [List.set]; try rfl) (fun u hu hF => ?_) (fun v145 => ?_)
          · have h43_ : ∃ r_1 : Nat, v140 = (Fl r_1) ∧ cf .f32 r_1 = el5 := hF.1
            have h47_ : v144 = (Fl r7) := hF.2.1
            clear hF
            refine doesG_un rfl ?_
            obtain ⟨r43_1, rfl, h43_2⟩ := h43_
            obtain rfl := h47_
            refine (does_float (.inl rfl) (ev rfl) (ev rfl)).mono ?_; rintro _ _ ⟨r, rfl, hr, hx⟩
            exact ⟨⟨r, rfl, (by simp only [hr, h43_2])⟩, hx⟩
          refine RW_fin ?_; intro w146 E147 hP148
          obtain ⟨⟨⟨⟨⟨⟨⟨⟨⟨⟨⟨⟨-, -⟩, -⟩, -⟩, -⟩, -⟩, -⟩, -⟩, -⟩, -⟩, -⟩, -⟩, q149⟩ := hP148
          have X150 := KpL.ext X133 E147
          have q149 : ∃ r_1 : Nat, v145 = (Fl r_1) ∧ cf .f32 r_1 = fop .add .f32 el5 (cf .f32 r7) := q149
          obtain ⟨r151, rfl, h152⟩ := q149
          show wpList _ _ _ _ (fr [_, _, _, _, _, _, _, _, _, _, _, _, _, _, _, _, _, _, _, _, _, _, _, _, _, _, _, _, _, _, _, _, _, _, _, _, _, _, _, _, _, _, _, _, _, _, _, _, _, _, _, _, _, _, _, _, _, _, _, _, _, _, _, _, _, _, _, _]) _
          refine q_is rfl rfl (does_assign (u := (Fl r151)) (ev rfl)) (by dsimp only [List.set]; try rfl) ?_
          refine wpList_nil (hK129 _ _ ?_)
          refine wp_seq_k fun K153 hK153 => ?_
          refine wp_region_lit ?_
          refine q_is rfl rfl (does_move (u := (Fl r151)) (ev rfl)) (by dsimp only [List.set]; try rfl) ?_
          refine q_is rfl rfl (does_move (u := (Pt g_b g_o)) (ev rfl)) (by dsimp only [List.set]; try rfl) ?_
          refine q_is rfl rfl (does_nilCheck (ev rfl)) (by dsimp only [List.set]; try rfl) ?_
          refine q_is rfl rfl (does_fieldAddr (ev rfl) fa31_5) (by dsimp only [List.set]; try rfl) ?_
          refine q_is rfl rfl (does_load (u := (.slice (some ⟨g_g, 0, none⟩) A_g.vals.length g_c)) (ev rfl) Try.isAgg25 (Cells.at (((((((hc_g.ext E14).kl E24 nin0).kl E33 (ninS hne_g nin0)).ext E106).kl E116 (ninS hne_g nin0)).ext E131).ext E147) 7 rfl)) (by dsimp only [List.set]; try rfl) ?_
          refine q_is rfl rfl (does_move (u := (Iv (k : Int))) (ev rfl)) (by dsimp only [List.set]; try rfl) ?_
          refine q_is rfl rfl (does_indexOwn (b := g_g) (n := A_g.vals.length) (i := (k : Int)) Try.underlying25 Try.sizeOf22 (ev rfl) (ev rfl) (by omega) (by omega)) (by dsimp only [List.set]; try rfl) ?_
          obtain ⟨el6, hel6⟩ : ∃ e, ((rowS A_g (k : Int) (sweepTo A_g bk k) m).1)[((k : Int).toNat)]? = some e := ⟨_, List.getElem?_eq_getElem (by first | assumption | (simp only [sweepG_len, sweepTo_len, rowS_len, swN_len, List.length_set]; done) | omega | (simp only [sweepG_len, sweepTo_len, rowS_len, swN_len, List.length_set]; omega) | rfl)⟩
          refine seqd rfl rfl (does_loadRow (xs := ((rowS A_g (k : Int) (sweepTo A_g bk k) m).1)) (i := ((k : Int).toNat)) (e := el6) (ev rfl) Try.isAgg22 ((hR119.ext E131).ext E147) (by omega) hel6) ?_; rintro _ w146 ⟨r154, rfl, h155, rfl⟩
          show wpList _ _ _ _ (fr [_, _, _, _, _, _, _, _, _, _, _, _, _, _, _, _, _, _, _, _, _, _, _, _, _, _, _, _, _, _, _, _, _, _, _, _, _, _, _, _, _, _, _, _, _, _, _, _, _, _, _, _, _, _, _, _, _, _, _, _, _, _, _, _, _, _, _, _]) _
          refine q_is rfl rfl (does_fcmp (.inr (.inr (.inl rfl))) (ev rfl) (ev rfl)) (by dsimp only [List.set]; try rfl) ?_
          refine wpList_nil (hK153 _ _ ?_)
          refine wp_cond_split (t := fcmp .lss (ford .f32 (cf .f32 r151) (cf .f32 r154))) (ev rfl) (fun c156 => ?_) (fun c156 => ?_)
          · have c156' := c156
            simp only [h2, h4, h6, h8, hel4, hel5, h152, h155] at c156
            have hst := (rowS_succ (g := A_g) (s := (sweepTo A_g bk k)) (nb_get (by assumption))).trans (relax_t (by assumption) (by assumption) c156)
            refine wp_region_lit ?_
            refine q_is rfl rfl (does_move (u := (Pt g_b g_o)) (ev rfl)) (by dsimp only [List.set]; try rfl) ?_
            refine q_is rfl rfl (does_nilCheck (ev rfl)) (by dsimp only [List.set]; try rfl) ?_
            refine q_is rfl rfl (does_fieldAddr (ev rfl) fa31_5) (by dsimp only [List.set]; try rfl) ?_
            refine q_is rfl rfl (does_load (u := (.slice (some ⟨g_g, 0, none⟩) A_g.vals.length g_c)) (ev rfl) Try.isAgg25 (Cells.at (((((((hc_g.ext E14).kl E24 nin0).kl E33 (ninS hne_g nin0)).ext E106).kl E116 (ninS hne_g nin0)).ext E131).ext E147) 7 rfl)) (by dsimp only [List.set]; try rfl) ?_
            refine q_is rfl rfl (does_move (u := (Iv (k : Int))) (ev rfl)) (by dsimp only [List.set]; try rfl) ?_
            refine q_is rfl rfl (does_move (u := (Fl r151)) (ev rfl)) (by dsimp only [List.set]; try rfl) ?_
            refine q_is rfl rfl (does_indexOwn (b := g_g) (n := A_g.vals.length) (i := (k : Int)) Try.underlying25 Try.sizeOf22 (ev rfl) (ev rfl) (by omega) (by omega)) (by dsimp only [List.set]; try rfl) ?_
            refine seqn rfl rfl (does_storeRow (xs := ((rowS A_g (k : Int) (sweepTo A_g bk k) m).1)) (i := ((k : Int).toNat)) (r := r151) (ev rfl) (ev rfl) Try.sizeOf22 ((hR119.ext E131).ext E147) (by omega) (by first | assumption | (simp only [sweepG_len, sweepTo_len, rowS_len, swN_len, List.length_set]; done) | omega | (simp only [sweepG_len, sweepTo_len, rowS_len, swN_len, List.length_set]; omega) | rfl)) ?_; rintro _ w159 ⟨rfl, W157, hR158⟩
            have X160 := KpL.more X150 (KpL.of_wr W157) (allS (.inl (by simp)) all0)
            refine q_is rfl rfl (does_assign (u := (Bo true)) (ev rfl)) (by dsimp only [List.set]; try rfl) ?_
            refine wpList_nil (hK123 _ _ ?_)
            refine wp_region_lit ?_
            refine q_is rfl rfl (does_iarith (p := (m : Int)) (q := 1) (r := (m : Int) + 1) (ev rfl) (ev rfl) (.inl ⟨rfl, (in_i64 (by omega) (by omega)).symm⟩)) (by dsimp only [List.set]; try rfl) ?_
            refine q_is rfl rfl (does_move (u := (Iv ((m : Int) + 1))) (ev rfl)) (by dsimp only [List.set]; try rfl) ?_
            refine wpList_nil ?_
            have hR161 := RowF.cast (ys := ((fun (m : Nat) => (rowS A_g (k : Int) (sweepTo A_g bk k) m).1) (m + 1))) hR158 (by (try dsimp only); rw [hst]; (try simp only [h2, h4, h6, h8, hel4, hel5, h152, h155]))
            refine ⟨m + 1, ⟨fun t => (([(Pt g_b g_o), (Iv bf_), Ud, Ud, (Bo false), (Bo true), (Iv (A_g.vals.length : Int)), (Iv (k : Int)), (Iv (k : Int)), Ud, (Iv el4), (Fl r151), v17, v18, v19, v20, (Iv (A_g.vals.length : Int)), (Iv (A_g.vals.length : Int)), (Iv (k : Int)), (Bo (icmp .lss (k : Int) (A_g.vals.length : Int))), (Iv (k : Int)), (Iv (k : Int)), (Iv bf_), (Iv (bf_ % 2)), (Bo (icmp .eql (bf_ % 2) 1)), (u31 25), (u31 26), (u31 27), (u31 28), (Pt g_b g_o), (Iv (k : Int)), (.slice p112 ((nb (GridT.mk A_g.low A_g.step A_g.x A_g.y A_g.z ((sweepTo A_g bk k).1)) (k : Int)).length) q113), (Iv (((nb (GridT.mk A_g.low A_g.step A_g.x A_g.y A_g.z ((sweepTo A_g bk k).1)) (k : Int)).length) : Int)), (Iv ((m : Int) + 1)), (Bo (icmp .lss (m : Int) (((nb (GridT.mk A_g.low A_g.step A_g.x A_g.y A_g.z ((sweepTo A_g bk k).1)) (k : Int)).length) : Int))), (Pt b125 o126), (Iv el4), v134, v135, v136, v137, v138, v139, v140, v141, v142, v143, v144, (Fl r151), (Fl r151), (Pt g_b g_o), (Pt g_b g_o), (Pt g_b (g_o + 7)), (.slice (some ⟨g_g, 0, none⟩) A_g.vals.length g_c), (Iv (k : Int)), (Pt g_g (((k : Int).toNat) * 1)), (Fl r154), (Bo (fcmp .lss (ford .f32 (cf .f32 r151) (cf .f32 r154)))), (Pt g_b g_o), (Pt g_b g_o), (Pt g_b (g_o + 7)), (.slice (some ⟨g_g, 0, none⟩) A_g.vals.length g_c), (Iv (k : Int)), (Fl r151), (Pt g_g (((k : Int).toNat) * 1)), (Iv ((m : Int) + 1)), (u31 66), Ud] : List Value)[t]?).getD undef, ?_, (KpL.more (KpL.ext (KpL.ext E116 E131) E147) (KpL.of_wr W157) (allS (.inl (by simp)) all0)), hR161, ?_⟩, ?_⟩
            · first | rfl | (rw [hst]; rfl) | (simp only [hst, Nat.cast_add, Nat.cast_one, Int.natCast_add, Int.natCast_one]; rfl)
            · (try dsimp only); (try dsimp only); omega
            · (try dsimp only); omega
          have c156' := c156
          simp only [h2, h4, h6, h8, hel4, hel5, h152, h155] at c156
          have hst := (rowS_succ (g := A_g) (s := (sweepTo A_g bk k)) (nb_get (by assumption))).trans (relax_f (by assumption) (by assumption) c156)
          refine wp_skip (hK123 _ _ ?_)
          refine wp_region_lit ?_
          refine q_is rfl rfl (does_iarith (p := (m : Int)) (q := 1) (r := (m : Int) + 1) (ev rfl) (ev rfl) (.inl ⟨rfl, (in_i64 (by omega) (by omega)).symm⟩)) (by dsimp only [List.set]; try rfl) ?_
          refine q_is rfl rfl (does_move (u := (Iv ((m : Int) + 1))) (ev rfl)) (by dsimp only [List.set]; try rfl) ?_
          refine wpList_nil ?_
          have hR162 := RowF.cast (ys := ((fun (m : Nat) => (rowS A_g (k : Int) (sweepTo A_g bk k) m).1) (m + 1))) ((hR119.ext E131).ext E147) (by (try dsimp only); rw [hst]; (try simp only [h2, h4, h6, h8, hel4, hel5, h152, h155]))
          refine ⟨m + 1, ⟨fun t => (([(Pt g_b g_o), (Iv bf_), Ud, Ud, (Bo false), (Bo ((rowS A_g (k : Int) (sweepTo A_g bk k) m).2)), (Iv (A_g.vals.length : Int)), (Iv (k : Int)), (Iv (k : Int)), Ud, (Iv el4), (Fl r151), v17, v18, v19, v20, (Iv (A_g.vals.length : Int)), (Iv (A_g.vals.length : Int)), (Iv (k : Int)), (Bo (icmp .lss (k : Int) (A_g.vals.length : Int))), (Iv (k : Int)), (Iv (k : Int)), (Iv bf_), (Iv (bf_ % 2)), (Bo (icmp .eql (bf_ % 2) 1)), (u31 25), (u31 26), (u31 27), (u31 28), (Pt g_b g_o), (Iv (k : Int)), (.slice p112 ((nb (GridT.mk A_g.low A_g.step A_g.x A_g.y A_g.z ((sweepTo A_g bk k).1)) (k : Int)).length) q113), (Iv (((nb (GridT.mk A_g.low A_g.step A_g.x A_g.y A_g.z ((sweepTo A_g bk k).1)) (k : Int)).length) : Int)), (Iv ((m : Int) + 1)), (Bo (icmp .lss (m : Int) (((nb (GridT.mk A_g.low A_g.step A_g.x A_g.y A_g.z ((sweepTo A_g bk k).1)) (k : Int)).length) : Int))), (Pt b125 o126), (Iv el4), v134, v135, v136, v137, v138, v139, v140, v141, v142, v143, v144, (Fl r151), (Fl r151), (Pt g_b g_o), (Pt g_b g_o), (Pt g_b (g_o + 7)), (.slice (some ⟨g_g, 0, none⟩) A_g.vals.length g_c), (Iv (k : Int)), (Pt g_g (((k : Int).toNat) * 1)), (Fl r154), (Bo (fcmp .lss (ford .f32 (cf .f32 r151) (cf .f32 r154)))), (u114 58), (u114 59), (u114 60), (u114 61), (u114 62), (u114 63), (u114 64), (Iv ((m : Int) + 1)), (u31 66), Ud] : List Value)[t]?).getD undef, ?_, (KpL.ext (KpL.ext E116 E131) E147), hR162, ?_⟩, ?_⟩
          · first | rfl | (rw [hst]; rfl) | (simp only [hst, Nat.cast_add, Nat.cast_one, Int.natCast_add, Int.natCast_one]; rfl)
          · (try dsimp only); (try dsimp only); omega
          · (try dsimp only); omega
        have c122' := c122
        (try simp only [icmp, Bool.and_eq_true, Bool.or_eq_true, Bool.and_eq_false_iff, Bool.or_eq_false_iff, Bool.not_eq_true', Bool.not_eq_false', decide_eq_true_eq, decide_eq_false_iff_not, beq_iff_eq, bne_iff_ne, beq_eq_false_iff_ne, bne_eq_false_iff_eq] at c122')
        have hsw := sweepTo_step (g := A_g) (back := bk) (k := k) (m := m) (i := (k : Int)) (by first | exact swI_t (by assumption) | exact swI_f (by assumption) | exact swI_t (hbk.trans (by assumption)) | exact swI_f (hbk.trans (by assumption))) (by omega) (by omega)
        refine wp_exit ?_
        refine hK40 _ _ ?_
        refine wp_region_lit ?_
        refine q_is rfl rfl (does_iarith (p := (k : Int)) (q := 1) (r := (k : Int) + 1) (ev rfl) (ev rfl) (.inl ⟨rfl, (in_i64 (by omega) (by omega)).symm⟩)) (by dsimp only [List.set]; try rfl) ?_
        refine q_is rfl rfl (does_move (u := (Iv ((k : Int) + 1))) (ev rfl)) (by dsimp only [List.set]; try rfl) ?_
        refine wpList_nil ?_
        have hR163 := RowF.cast (ys := ((fun (k : Nat) => (sweepTo A_g bk k).1) (k + 1))) hR119 (by (try dsimp only); rw [hsw])
        refine ⟨k + 1, ⟨fun t => (([(Pt g_b g_o), (Iv bf_), Ud, Ud, (Bo false), (Bo ((rowS A_g (k : Int) (sweepTo A_g bk k) m).2)), (Iv (A_g.vals.length : Int)), (Iv (k : Int)), (Iv (k : Int)), Ud, (u114 10), (u114 11), v17, v18, v19, v20, (Iv (A_g.vals.length : Int)), (Iv (A_g.vals.length : Int)), (Iv ((k : Int) + 1)), (Bo (icmp .lss (k : Int) (A_g.vals.length : Int))), (Iv (k : Int)), (Iv (k : Int)), (Iv bf_), (Iv (bf_ % 2)), (Bo (icmp .eql (bf_ % 2) 1)), (u31 25), (u31 26), (u31 27), (u31 28), (Pt g_b g_o), (Iv (k : Int)), (.slice p112 ((nb (GridT.mk A_g.low A_g.step A_g.x A_g.y A_g.z ((sweepTo A_g bk k).1)) (k : Int)).length) q113), (Iv (((nb (GridT.mk A_g.low A_g.step A_g.x A_g.y A_g.z ((sweepTo A_g bk k).1)) (k : Int)).length) : Int)), (Iv (m : Int)), (Bo (icmp .lss (m : Int) (((nb (GridT.mk A_g.low A_g.step A_g.x A_g.y A_g.z ((sweepTo A_g bk k).1)) (k : Int)).length) : Int))), (u114 35), (u114 36), (u114 37), (u114 38), (u114 39), (u114 40), (u114 41), (u114 42), (u114 43), (u114 44), (u114 45), (u114 46), (u114 47), (u114 48), (u114 49), (u114 50), (u114 51), (u114 52), (u114 53), (u114 54), (u114 55), (u114 56), (u114 57), (u114 58), (u114 59), (u114 60), (u114 61), (u114 62), (u114 63), (u114 64), (u114 65), (Iv ((k : Int) + 1)), Ud] : List Value)[t]?).getD undef, ?_, (KpL.more (KpL.ext E33 E106) E116 (allS (.inl (by simp)) all0)), hR163, ?_⟩, ?_⟩
        · first | rfl | (rw [hsw]; rfl) | (simp only [hsw, Nat.cast_add, Nat.cast_one, Int.natCast_add, Int.natCast_one]; rfl)
        · omega
        · omega
    have c39' := c39
    (try simp only [icmp, Bool.and_eq_true, Bool.or_eq_true, Bool.and_eq_false_iff, Bool.or_eq_false_iff, Bool.not_eq_true', Bool.not_eq_false', decide_eq_true_eq, decide_eq_false_iff_not, beq_iff_eq, bne_iff_ne, beq_eq_false_iff_ne, bne_eq_false_iff_eq] at c39')
    refine wp_exit ?_
    refine hK29 _ _ ?_
    refine wp_seq_k fun K164 hK164 => ?_
    refine wp_region_lit ?_
    refine q_is rfl rfl (does_move (u := (Bo ((sweepTo A_g bk k).2))) (ev rfl)) (by dsimp only [List.set]; try rfl) ?_
    refine q_is rfl rfl (does_assign (u := (Bo ((sweepTo A_g bk k).2))) (ev rfl)) (by dsimp only [List.set]; try rfl) ?_
    refine wpList_nil (hK164 _ _ ?_)
    refine wp_ret ?_
    refine ret_valK (v := (Bo ((sweepTo A_g bk k).2))) (res_T rfl (slot rfl)) X35 ?_
    exact ⟨(congrArg Value.bool (show ((sweepTo A_g bk k).2) = ((sweepG A_g (icmp .eql (bf_ % 2) 1)).2) by first | rfl | (rw [show k = A_g.vals.length by omega]; rfl) | (rw [show k = A_g.vals.length by omega, ← hbk]; rfl)) : _), RowF.cast hR36 (by first | rfl | (rw [show k = A_g.vals.length by omega]; rfl) | (rw [show k = A_g.vals.length by omega, ← hbk]; rfl))⟩

end Go.Proofs.Ytffmjlalacnfiaa
