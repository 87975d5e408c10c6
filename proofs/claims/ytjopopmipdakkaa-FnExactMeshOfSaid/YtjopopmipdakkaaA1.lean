/- contracts of functions, each walked once -/
import Derived.Test.YtjopopmipdakkaaA0
namespace Go.Proofs.Ytjopopmipdakkaa
open Go Go.RowKit
set_option maxRecDepth 100000
set_option maxHeartbeats 3200000
set_option linter.unusedVariables false
set_option linter.unusedSimpArgs false

/- impl.trianglesOf -/
theorem c_impl_trianglesOf (i0 : Bool) (i1 : Bool) (i2 : Bool) (i3 : Bool) (w : World) : Gives Try.prog 59 #[(.agg #[(Bo i0), (Bo i1), (Bo i2), (Bo i3)])] w (fun v w' => ∃ y_1 : Value, v = y_1 ∧ Hang w.heap.size w' (fun u => Sl RI6T 6 u y_1 (grp (edB [i0, i1, i2, i3])))) := by
  refine enter [(.agg #[(Bo i0), (Bo i1), (Bo i2), (Bo i3)]), Ud, Ud, Ud, Ud, Ud, Ud, Ud, Ud, Ud, Ud, Ud, Ud, Ud, Ud, Ud, Ud, Ud, Ud, Ud, Ud, Ud, Ud, Ud, Ud, Ud, Ud, Ud, Ud, Ud, Ud, Ud, Ud, Ud, Ud, Ud, Ud, Ud, Ud, Ud, Ud, Ud, Ud, Ud, Ud, Ud, Ud, Ud, Ud, Ud, Ud, Ud, Ud, Ud, Ud, Ud, Ud, Ud, Ud, Ud, Ud, Ud, Ud, Ud, Ud, Ud, Ud, Ud, Ud, Ud, Ud, Ud, Ud, Ud, Ud, Ud, Ud, Ud, Ud, Ud, Ud, Ud, Ud, Ud, Ud, Ud, Ud, Ud, Ud, Ud, Ud, Ud, Ud, Ud, Ud, Ud, Ud, Ud, Ud, Ud, Ud, Ud, Ud, Ud, Ud, Ud, Ud, Ud, Ud, Ud, Ud, Ud, Ud, Ud, Ud, Ud, Ud, Ud, Ud, Ud, Ud, Ud, Ud, Ud, Ud, Ud, Ud, Ud, Ud, Ud, Ud, Ud, Ud, Ud, Ud, Ud, Ud, Ud, Ud] Try.func59 rfl Try.ntmps59 rfl ?_
  refine wr fun _ K1 => ?_
  refine sd (does_box (u := (.agg #[(Bo i0), (Bo i1), (Bo i2), (Bo i3)])) (ev rfl)) ?_; rintro _ w6 ⟨b2, rfl, hb3, hB4, E5⟩
  change Blk _ _ [(Bo i0), (Bo i1), (Bo i2), (Bo i3)] at hB4
  have X8 := Ext.gr (Ext.refl w) E5
  refine fz ?_
  refine ja (.slice none 0 0) ?_
  refine wn K1 ?_
  refine wr fun _ K9 => ?_
  refine sd (does_slice0 (e := 3) (fun _ => by kernel_rfl)) ?_; rintro _ w15 ⟨b10, rfl, hb11, hl12, hO13, E14⟩
  have X17 := Ext.gr X8 E14
  have hO18 := hO13 _ RI 1
  refine fz ?_
  refine sd (does_slice0 (e := 3) (fun _ => by kernel_rfl)) ?_; rintro _ w25 ⟨b20, rfl, hb21, hl22, hO23, E24⟩
  have X27 := Ext.gr X17 E24
  have hO28 := hO23 _ RI 1
  refine fz ?_
  refine ja (.slice (some ⟨b10, 0, none⟩) 0 0) ?_
  refine ja (.slice (some ⟨b20, 0, none⟩) 0 0) ?_
  refine wn K9 ?_
  refine ws fun _ K30 => ?_
  refine wr fun _ K31 => ?_
  refine jj (does_loadAgg (cs := [(Bo i0), (Bo i1), (Bo i2), (Bo i3)]) (ev rfl) Try.isAgg97 Try.sizeOf97 (Blk.cells ((hB4.ext E14).ext E24)) rfl) ?_
  refine jm (Iv 0) ?_
  refine wn K31 ?_
  refine wp_block ?_
  refine loop_ghost (σ := Nat) (fun k a w' => ∃ u32 : Nat → Value, ∃ y3 : Value, ∃ y4 : Value, a = fr [(.agg #[(Bo i0), (Bo i1), (Bo i2), (Bo i3)]), (Pt b2 0), (.slice none 0 0), y3, y4, (u32 5), (u32 6), Ud, Ud, Ud, Ud, Ud, Ud, Ud, Ud, Ud, (.slice (some ⟨b10, 0, none⟩) 0 0), (.slice (some ⟨b20, 0, none⟩) 0 0), (.agg #[(Bo i0), (Bo i1), (Bo i2), (Bo i3)]), (Iv (k : Int)), (u32 20), (u32 21), (u32 22), (u32 23), (u32 24), (u32 25), (u32 26), (u32 27), (u32 28), (u32 29), (u32 30), (u32 31), (u32 32), Ud, Ud, Ud, Ud, Ud, Ud, Ud, Ud, Ud, Ud, Ud, Ud, Ud, Ud, Ud, Ud, Ud, Ud, Ud, Ud, Ud, Ud, Ud, Ud, Ud, Ud, Ud, Ud, Ud, Ud, Ud, Ud, Ud, Ud, Ud, Ud, Ud, Ud, Ud, Ud, Ud, Ud, Ud, Ud, Ud, Ud, Ud, Ud, Ud, Ud, Ud, Ud, Ud, Ud, Ud, Ud, Ud, Ud, Ud, Ud, Ud, Ud, Ud, Ud, Ud, Ud, Ud, Ud, Ud, Ud, Ud, Ud, Ud, Ud, Ud, Ud, Ud, Ud, Ud, Ud, Ud, Ud, Ud, Ud, Ud, Ud, Ud, Ud, Ud, Ud, Ud, Ud, Ud, Ud, Ud, Ud, Ud, Ud, Ud, Ud, Ud, Ud, Ud, Ud, Ud, Ud] ∧ Ext w w' ∧ Pair RI 1 3 w.heap.size w' y3 (posN true [i0, i1, i2, i3] k) y4 (posN false [i0, i1, i2, i3] k) ∧ (k ≤ 4)) (fun k => 4 - k) 0 ?_ ?_
  · refine ⟨pk [], (.slice (some ⟨b10, 0, none⟩) 0 0), (.slice (some ⟨b20, 0, none⟩) 0 0), rfl, X27, (Pair.cast (Pair.start (Own.same hO18 RI.flat ((Same.refl _ _).ext E24) hb11 (Below.size E14)) hO28 rfl rfl (by omega) (Nat.le_trans (Below.size E5) hb11) (Nat.le_trans (Nat.le_trans (Below.size E5) (Below.size E14)) hb21)) rfl rfl), ?_⟩
    exact Nat.zero_le _
  · rintro k a w33 ⟨u32, y3, y4, rfl, E34, hst, hk⟩
    obtain ⟨gp36, gq37, hne38, hgN39, hgN40, hA41, hA42, hd43, hd44⟩ := Pair.names hst (Below.size E34)
    have hPr45 := hst; clear hst
    obtain ⟨p46, q47, rfl⟩ := Own.shape (hA41 0)
    have hH48 : Hang w.heap.size w33 (fun u => Sl RI 1 u (.slice p46 ((posN true [i0, i1, i2, i3] k).length) q47) (posN true [i0, i1, i2, i3] k)) := Own.hang (hA41 _) RI.flat (by decide) hgN39 (Below.size E34)
    obtain ⟨p49, q50, rfl⟩ := Own.shape (hA42 0)
    have hH51 : Hang w.heap.size w33 (fun u => Sl RI 1 u (.slice p49 ((posN false [i0, i1, i2, i3] k).length) q50) (posN false [i0, i1, i2, i3] k)) := Own.hang (hA42 _) RI.flat (by decide) hgN40 (Below.size E34)
    have hbl : ([i0, i1, i2, i3] : List Bool).length = 4 := rfl
    have hpl := posN_len true [i0, i1, i2, i3] k
    have hql := posN_len false [i0, i1, i2, i3] k
    have hps := posN_sum [i0, i1, i2, i3] k (by omega)
    refine wr fun _ K52 => ?_
    refine jj (does_icmp (p := (k : Int)) (q := 4) (.inr (.inr (.inl rfl))) (ev rfl) (ev rfl)) ?_
    refine wn K52 ?_
    refine ws fun _ K53 => ?_
    refine wp_cond_split (t := icmp .lss (k : Int) 4) (ev rfl) (fun c54 => ?_) (fun c54 => ?_)
    · have c54' := c54
      (try simp only [icmp, bs] at c54')
      refine wp_skip (K53 _ _ ?_)
      refine ws fun _ K55 => ?_
      refine wp_block ?_
      refine wr fun _ K56 => ?_
      refine jm (Iv (k : Int)) ?_
      refine jj (does_indexVB [i0, i1, i2, i3] (ev rfl) (ev rfl) (ixv97 _ _ _ _ (k : Int) (by omega)) (show _ < 4 by omega)) ?_
      refine ja (Iv (k : Int)) ?_
      refine ja (Bo (bAt [i0, i1, i2, i3] k)) ?_
      refine wn K56 ?_
      refine wr fun _ K57 => ?_
      refine jm (Bo (bAt [i0, i1, i2, i3] k)) ?_
      refine wn K57 ?_
      refine wp_cond_split (t := bAt [i0, i1, i2, i3] k) (ev rfl) (fun c58 => ?_) (fun c58 => ?_)
      · have c58' := c58
        refine wp_region_lit ?_
        refine jm (.slice p46 ((posN true [i0, i1, i2, i3] k).length) q47) ?_
        refine jm (Iv (k : Int)) ?_
        refine sd (does_buildSlice (e := 3) (parts' := [(0, (Iv (k : Int)))]) (cells := [(Iv (k : Int))]) (evp rfl) (fun _ => by kernel_rfl)) ?_; rintro _ w63 ⟨b59, rfl, hb60, hB61, E62⟩
        have X65 := Ext.gr E34 E62
        refine fz ?_
        refine sd (does_append (R := RI) (k := 1) (g0 := gp36) (B := w33.heap.size) (xs := (posN true [i0, i1, i2, i3] k)) (ys := [(k : Int)]) Try.underlying87 inf3 rfl (by decide) (ev rfl) (ev rfl) (Own.same (hA41 _) RI.flat ((Same.refl _ _).ext E62) hgN39 (Below.size E34)) RI.flat hB61 rfl rfl rfl (fun i_ x_ hi_ => lit1 (R := RI) (cs := [(Iv (k : Int))]) (y := (k : Int))  rfl i_ x_ hi_) (by first | (simp only [List.length_append, List.length_cons, List.length_nil]; omega) | omega) (Below.size E62)) ?_; rintro y' w66 ⟨gg67, hg68, K69, hO70⟩
        have hN71 : w.heap.size ≤ gg67 := by rcases hg68 with h | h; exact h ▸ hgN39; exact Nat.le_trans (Below.size E34) h
        have g72 : w.heap.size ≤ gg67 := Nat.le_trans (Nat.le_refl _) hN71
        have X73 := Below.kl X65 K69 (allS g72 all0) (Nat.le_refl _)
        obtain ⟨p74, q75, rfl⟩ := Own.shape hO70
        refine fz ?_
        refine ja (.slice p74 (((posN true [i0, i1, i2, i3] k) ++ [(k : Int)]).length) q75) ?_
        refine wn K55 ?_
        refine wp_region_lit ?_
        refine jj (does_iarith (p := (k : Int)) (q := 1) (r := (k : Int) + 1) (ev rfl) (ev rfl) (.inl ⟨rfl, (in_i64 (by omega) (by omega)).symm⟩)) ?_
        refine jm (Iv ((k : Int) + 1)) ?_
        refine wpList_nil ?_
        refine ⟨k + 1, ⟨pk [(5, Iv (k : Int)), (6, Bo (bAt [i0, i1, i2, i3] k)), (20, Bo (icmp .lss (k : Int) 4)), (21, Iv (k : Int)), (22, Bo (bAt [i0, i1, i2, i3] k)), (23, Bo (bAt [i0, i1, i2, i3] k)), (24, (.slice p46 ((posN true [i0, i1, i2, i3] k).length) q47)), (25, Iv (k : Int)), (26, (.slice (some ⟨b59, 0, none⟩) 1 1)), (27, (.slice p74 (((posN true [i0, i1, i2, i3] k) ++ [(k : Int)]).length) q75)), (28, u32 28), (29, u32 29), (30, u32 30), (31, u32 31), (32, Iv ((k : Int) + 1))], (.slice p74 (((posN true [i0, i1, i2, i3] k) ++ [(k : Int)]).length) q75), (.slice p49 ((posN false [i0, i1, i2, i3] k).length) q50), ?_, X73, (Pair.cast (Pair.step hO70 hPr45.2.1 RI.flat (KpL.more (KpL.ext (KpL.refl _ _) E62) K69 (allS (hg68.imp (fun h => by simp [h]) id) all0)) hd43 hgN39 (Below.size E34) hPr45.2.2.2.2) (by (try dsimp only); first | rfl | exact posN_put (by omega) (by assumption) rfl | exact posN_put' hel1 (by assumption) | exact posN_skip' (c := true) hel1 (by assumption) (by decide) | exact posN_skip' (c := false) hel1 (by assumption) (by decide) | exact posN_skip (b := true) (by omega) (by assumption) (by decide) | exact posN_skip (b := false) (by omega) (by assumption) (by decide)) (by (try dsimp only); first | rfl | exact posN_put (by omega) (by assumption) rfl | exact posN_put' hel1 (by assumption) | exact posN_skip' (c := true) hel1 (by assumption) (by decide) | exact posN_skip' (c := false) hel1 (by assumption) (by decide) | exact posN_skip (b := true) (by omega) (by assumption) (by decide) | exact posN_skip (b := false) (by omega) (by assumption) (by decide))), ?_⟩, ?_⟩
        · first | rfl | (simp only [Int.natCast_add, Int.natCast_one]; rfl)
        · omega
        · omega
      have c58' := c58
      refine wp_region_lit ?_
      refine jm (.slice p49 ((posN false [i0, i1, i2, i3] k).length) q50) ?_
      refine jm (Iv (k : Int)) ?_
      refine sd (does_buildSlice (e := 3) (parts' := [(0, (Iv (k : Int)))]) (cells := [(Iv (k : Int))]) (evp rfl) (fun _ => by kernel_rfl)) ?_; rintro _ w81 ⟨b77, rfl, hb78, hB79, E80⟩
      have X83 := Ext.gr E34 E80
      refine fz ?_
      refine sd (does_append (R := RI) (k := 1) (g0 := gq37) (B := w33.heap.size) (xs := (posN false [i0, i1, i2, i3] k)) (ys := [(k : Int)]) Try.underlying87 inf3 rfl (by decide) (ev rfl) (ev rfl) (Own.same (hA42 _) RI.flat ((Same.refl _ _).ext E80) hgN40 (Below.size E34)) RI.flat hB79 rfl rfl rfl (fun i_ x_ hi_ => lit1 (R := RI) (cs := [(Iv (k : Int))]) (y := (k : Int))  rfl i_ x_ hi_) (by first | (simp only [List.length_append, List.length_cons, List.length_nil]; omega) | omega) (Below.size E80)) ?_; rintro y' w84 ⟨gg85, hg86, K87, hO88⟩
      have hN89 : w.heap.size ≤ gg85 := by rcases hg86 with h | h; exact h ▸ hgN40; exact Nat.le_trans (Below.size E34) h
      have g90 : w.heap.size ≤ gg85 := Nat.le_trans (Nat.le_refl _) hN89
      have X91 := Below.kl X83 K87 (allS g90 all0) (Nat.le_refl _)
      obtain ⟨p92, q93, rfl⟩ := Own.shape hO88
      refine fz ?_
      refine ja (.slice p92 (((posN false [i0, i1, i2, i3] k) ++ [(k : Int)]).length) q93) ?_
      refine wn K55 ?_
      refine wp_region_lit ?_
      refine jj (does_iarith (p := (k : Int)) (q := 1) (r := (k : Int) + 1) (ev rfl) (ev rfl) (.inl ⟨rfl, (in_i64 (by omega) (by omega)).symm⟩)) ?_
      refine jm (Iv ((k : Int) + 1)) ?_
      refine wpList_nil ?_
      refine ⟨k + 1, ⟨pk [(5, Iv (k : Int)), (6, Bo (bAt [i0, i1, i2, i3] k)), (20, Bo (icmp .lss (k : Int) 4)), (21, Iv (k : Int)), (22, Bo (bAt [i0, i1, i2, i3] k)), (23, Bo (bAt [i0, i1, i2, i3] k)), (24, u32 24), (25, u32 25), (26, u32 26), (27, u32 27), (28, (.slice p49 ((posN false [i0, i1, i2, i3] k).length) q50)), (29, Iv (k : Int)), (30, (.slice (some ⟨b77, 0, none⟩) 1 1)), (31, (.slice p92 (((posN false [i0, i1, i2, i3] k) ++ [(k : Int)]).length) q93)), (32, Iv ((k : Int) + 1))], (.slice p46 ((posN true [i0, i1, i2, i3] k).length) q47), (.slice p92 (((posN false [i0, i1, i2, i3] k) ++ [(k : Int)]).length) q93), ?_, X91, (Pair.cast (Pair.swap (Pair.step hO88 hPr45.1 RI.flat (KpL.more (KpL.ext (KpL.refl _ _) E80) K87 (allS (hg86.imp (fun h => by simp [h]) id) all0)) hd44 hgN40 (Below.size E34) hPr45.2.2.2.1)) (by (try dsimp only); first | rfl | exact posN_put (by omega) (by assumption) rfl | exact posN_put' hel1 (by assumption) | exact posN_skip' (c := true) hel1 (by assumption) (by decide) | exact posN_skip' (c := false) hel1 (by assumption) (by decide) | exact posN_skip (b := true) (by omega) (by assumption) (by decide) | exact posN_skip (b := false) (by omega) (by assumption) (by decide)) (by (try dsimp only); first | rfl | exact posN_put (by omega) (by assumption) rfl | exact posN_put' hel1 (by assumption) | exact posN_skip' (c := true) hel1 (by assumption) (by decide) | exact posN_skip' (c := false) hel1 (by assumption) (by decide) | exact posN_skip (b := true) (by omega) (by assumption) (by decide) | exact posN_skip (b := false) (by omega) (by assumption) (by decide))), ?_⟩, ?_⟩
      · first | rfl | (simp only [Int.natCast_add, Int.natCast_one]; rfl)
      · omega
      · omega
    have c54' := c54
    (try simp only [icmp, bs] at c54')
    refine wp_exit ?_
    refine K30 _ _ ?_
    refine wr fun _ K95 => ?_
    refine jj (does_build (parts' := [(0, (Iv 1)), (1, (Iv 2)), (2, (Iv 3))]) (cells := #[(Iv 1), (Iv 2), (Iv 3)]) (evp rfl) (by kernel_rfl)) ?_
    refine jj (does_build (parts' := [(0, (Iv 0)), (1, (Iv 3)), (2, (Iv 2))]) (cells := #[(Iv 0), (Iv 3), (Iv 2)]) (evp rfl) (by kernel_rfl)) ?_
    refine jj (does_build (parts' := [(0, (Iv 0)), (1, (Iv 1)), (2, (Iv 3))]) (cells := #[(Iv 0), (Iv 1), (Iv 3)]) (evp rfl) (by kernel_rfl)) ?_
    refine jj (does_build (parts' := [(0, (Iv 0)), (1, (Iv 2)), (2, (Iv 1))]) (cells := #[(Iv 0), (Iv 2), (Iv 1)]) (evp rfl) (by kernel_rfl)) ?_
    refine jj (does_build (parts' := [(0, (.agg #[(Iv 1), (Iv 2), (Iv 3)])), (1, (.agg #[(Iv 0), (Iv 3), (Iv 2)])), (2, (.agg #[(Iv 0), (Iv 1), (Iv 3)])), (3, (.agg #[(Iv 0), (Iv 2), (Iv 1)]))]) (cells := #[(Iv 1), (Iv 2), (Iv 3), (Iv 0), (Iv 3), (Iv 2), (Iv 0), (Iv 1), (Iv 3), (Iv 0), (Iv 2), (Iv 1)]) (evp rfl) (by kernel_rfl)) ?_
    refine sd (does_alloc z116) ?_; rintro _ w100 ⟨b96, rfl, hb97, hB98, E99⟩
    have g101 : w.heap.size ≤ b96 := Nat.le_trans (Below.size E34) hb97
    change Blk _ _ [(Iv 0), (Iv 0), (Iv 0), (Iv 0), (Iv 0), (Iv 0), (Iv 0), (Iv 0), (Iv 0), (Iv 0), (Iv 0), (Iv 0)] at hB98
    have X102 := Ext.gr E34 E99
    refine fz ?_
    refine sn (does_store (n := 12) (cs := [(Iv 0), (Iv 0), (Iv 0), (Iv 0), (Iv 0), (Iv 0), (Iv 0), (Iv 0), (Iv 0), (Iv 0), (Iv 0), (Iv 0)]) (u := (.agg #[(Iv 1), (Iv 2), (Iv 3), (Iv 0), (Iv 3), (Iv 2), (Iv 0), (Iv 1), (Iv 3), (Iv 0), (Iv 2), (Iv 1)])) (ev rfl) (ev rfl) Try.sizeOf116 rfl hB98 (Nat.le_of_ble_eq_true rfl) rfl) ?_; rintro _ w105 ⟨rfl, W103, hB104⟩
    change Blk _ _ [(Iv 1), (Iv 2), (Iv 3), (Iv 0), (Iv 3), (Iv 2), (Iv 0), (Iv 1), (Iv 3), (Iv 0), (Iv 2), (Iv 1)] at hB104
    have X106 := Below.wr X102 W103 g101
    refine wn K95 ?_
    refine ws fun _ K107 => ?_
    refine wr fun _ K108 => ?_
    refine jm (.slice p46 ((posN true [i0, i1, i2, i3] k).length) q47) ?_
    refine jj (does_len_slice Try.underlying87 (ev rfl)) ?_
    refine wn K108 ?_
    refine wp_block ?_
    refine wr fun _ K109 => ?_
    refine jj (does_icmp (p := (((posN true [i0, i1, i2, i3] k).length) : Int)) (q := 1) (.inl rfl) (ev rfl) (ev rfl)) ?_
    refine ja (Bo (icmp .eql (((posN true [i0, i1, i2, i3] k).length) : Int) 1)) ?_
    refine wn K109 ?_
    refine wp_cond_split (t := icmp .eql (((posN true [i0, i1, i2, i3] k).length) : Int) 1) (ev rfl) (fun c110 => ?_) (fun c110 => ?_)
    · have c110' := c110
      (try simp only [icmp, bs] at c110')
      refine ws fun _ K111 => ?_
      obtain ⟨el1, hel1⟩ : ∃ e, (posN true [i0, i1, i2, i3] k)[0]? = some e := ⟨_, List.getElem?_eq_getElem (by omega)⟩
      have hr1 := posN_rng _ _ (List.mem_of_getElem? hel1)
      refine region_any2 [] [0, 1, 3, 0, 8, 24, 56, 120, 0, 263, 1023] [] (
        [FactW.pure [] [] [] true (fun v => v = (.slice p46 ((posN true [i0, i1, i2, i3] k).length) q47)),
          FactW.mem [0] [] [] [] true (fun v w' => PtrR RI w' v el1) (by intro v w1 w2 hx' h; have hx := KpL.toExt hx'; exact h.ext RI.mono hx),
          FactW.pure [1] [] [] true (fun v => v = (Iv el1)),
          FactW.pure [] [] [] true (fun v => v = (.slice p46 ((posN true [i0, i1, i2, i3] k).length) q47)),
          FactW.mem [3] [] [] [] true (fun v w' => PtrR RI w' v el1) (by intro v w1 w2 hx' h; have hx := KpL.toExt hx'; exact h.ext RI.mono hx),
          FactW.pure [4] [] [] true (fun v => v = (Iv el1)),
          FactW.pure [5] [] [] true (fun v => v = (Pt b96 (0 + el1.toNat * 3))),
          FactW.pure [6] [] [] true (fun v => v = (.agg #[(Iv (iAt (restL el1) 0)), (Iv (iAt (restL el1) 1)), (Iv (iAt (restL el1) 2))])),
          FactW.mem [] [] [] [] true (fun v w' => ∃ b : Nat, v = .pointer (some ⟨b, 0, none⟩) ∧ w105.heap.size ≤ b ∧ Blk w' b [(Iv 0), (Iv 0), (Iv 0)]) (by rintro v w1 w2 hx' ⟨b, rfl, hb, hB⟩; have hx := KpL.toExt hx'; exact ⟨b, rfl, hb, (hB.ext hx)⟩),
          FactW.pure [2] [] [] true (fun v => v = (Iv el1))]) mixed (by kernel_rfl) ?_
      obtain ⟨w112, hw114⟩ : ∃ w', w' = World.drew w105 := ⟨_, rfl⟩; rw [← hw114]; have E113 : Ext w105 w112 := by rw [hw114]; exact Ext.draw _
      clear hw114
      have X116 := Ext.gr X106 E113
      refine R2_p (fun u hu _ => does_move (u := (.slice p46 ((posN true [i0, i1, i2, i3] k).length) q47)) (ev rfl)) fun v117 => ?_
      refine R2_d (fun u hu hF => ?_) (fun v118 => ?_)
      · replace hu : KpL [] _ _ := hu
        have h42_ : v117 = (.slice p46 ((posN true [i0, i1, i2, i3] k).length) q47) := hF.1
        clear hF
        refine doesG_un rfl ?_
        obtain rfl := h42_
        refine (does_indexSl (R := RI) (i := 0) (xs := posN true [i0, i1, i2, i3] k) (e := el1) Try.underlying87 Try.sizeOf3 (ev rfl) (ev rfl) (hH48 _ (((((Same.refl _ _).ext E99).wr W103 (.inr (Nat.le_trans (Nat.le_refl _) hb97))).ext E113).ext (KpL.toExt hu))) (by omega) hel1).mono ?_; rintro v u' ⟨b, of, cs, hv, hc, hR, hu'⟩; subst hu'
        exact ⟨⟨b, of, cs, hv, hc, hR⟩, KpL.refl _ _⟩
      refine R2_d (fun u hu hF => ?_) (fun v119 => ?_)
      · replace hu : KpL [] _ _ := hu
        have h43_ : PtrR RI u v118 el1 := hF.1
        clear hF
        refine doesG_un rfl ?_
        obtain ⟨b43_, o43_, _, rfl, hc43_, rfl⟩ := h43_
        refine (does_load (u := (Iv el1)) (ev rfl) Try.isAgg3 (Cells.at hc43_ 0 rfl)).mono ?_; rintro _ _ ⟨rfl, rfl⟩
        exact ⟨rfl, KpL.refl _ _⟩
      refine R2_p (fun u hu _ => does_move (u := (.slice p46 ((posN true [i0, i1, i2, i3] k).length) q47)) (ev rfl)) fun v120 => ?_
      refine R2_d (fun u hu hF => ?_) (fun v121 => ?_)
      · replace hu : KpL [] _ _ := hu
        have h45_ : v120 = (.slice p46 ((posN true [i0, i1, i2, i3] k).length) q47) := hF.1
        clear hF
        refine doesG_un rfl ?_
        obtain rfl := h45_
        refine (does_indexSl (R := RI) (i := 0) (xs := posN true [i0, i1, i2, i3] k) (e := el1) Try.underlying87 Try.sizeOf3 (ev rfl) (ev rfl) (hH48 _ (((((Same.refl _ _).ext E99).wr W103 (.inr (Nat.le_trans (Nat.le_refl _) hb97))).ext E113).ext (KpL.toExt hu))) (by omega) hel1).mono ?_; rintro v u' ⟨b, of, cs, hv, hc, hR, hu'⟩; subst hu'
        exact ⟨⟨b, of, cs, hv, hc, hR⟩, KpL.refl _ _⟩
      refine R2_d (fun u hu hF => ?_) (fun v122 => ?_)
      · replace hu : KpL [] _ _ := hu
        have h46_ : PtrR RI u v121 el1 := hF.1
        clear hF
        refine doesG_un rfl ?_
        obtain ⟨b46_, o46_, _, rfl, hc46_, rfl⟩ := h46_
        refine (does_load (u := (Iv el1)) (ev rfl) Try.isAgg3 (Cells.at hc46_ 0 rfl)).mono ?_; rintro _ _ ⟨rfl, rfl⟩
        exact ⟨rfl, KpL.refl _ _⟩
      refine R2_p (fun u hu hF => ?_) fun v123 => ?_
      · have h47_ : v122 = (Iv el1) := hF.1
        clear hF; subst h47_
        exact does_indexAtV (n := 4) (i := el1) (k := 3) (by kernel_rfl) (by kernel_rfl) (fun _ => by kernel_rfl) (ev rfl) (ev rfl) (by omega) (by omega)
      refine R2_p (fun u hu hF => ?_) fun v124 => ?_
      · have h48_ : v123 = (Pt b96 (0 + el1.toNat * 3)) := hF.1
        clear hF; subst h48_
        exact does_loadR (i := el1) (ev rfl) Try.isAgg115 Try.sizeOf115 (Blk.cells ((hB104.ext E113).ext (KpL.toExt hu))) rfl (by omega) (by omega)
      refine R2_d (fun u hu hF => ?_) (fun v125 => ?_)
      · replace hu : KpL [] _ _ := hu
        clear hF
        refine doesG_un rfl ?_
        refine (does_alloc z115).mono ?_; rintro _ _ ⟨b, rfl, hb, hB, hx⟩
        exact ⟨⟨b, rfl, Nat.le_trans (Nat.le_trans (Below.size E113) (KpL.size hu)) hb, hB⟩, (KpL.of_ext hx)⟩
      refine R2_p (fun u hu hF => ?_) fun v126 => ?_
      · have h44_ : v119 = (Iv el1) := hF.1
        clear hF; subst h44_
        exact does_assign (u := (Iv el1)) (ev rfl)
      refine RW2_fin ?_; intro w127 E128 hP129; replace E128 : KpL [] _ _ := E128
      obtain ⟨⟨⟨⟨⟨⟨⟨⟨⟨⟨-, -⟩, -⟩, -⟩, -⟩, -⟩, -⟩, -⟩, q130⟩, q131⟩, q132⟩ := hP129
      have X133 := Below.kl X116 E128 all0 (Nat.le_refl _)
      have q130 : v124 = (.agg #[(Iv (iAt (restL el1) 0)), (Iv (iAt (restL el1) 1)), (Iv (iAt (restL el1) 2))]) := q130 rfl
      obtain rfl := q130
      have q131 : ∃ b : Nat, v125 = .pointer (some ⟨b, 0, none⟩) ∧ w105.heap.size ≤ b ∧ Blk w127 b [(Iv 0), (Iv 0), (Iv 0)] := q131 rfl
      obtain ⟨b134, rfl, hb135, hB136⟩ := q131
      have g138 : w.heap.size ≤ b134 := Nat.le_trans (Below.size X106) hb135
      have q132 : v126 = (Iv el1) := q132 rfl
      obtain rfl := q132
      refine fz ?_
      refine sn (does_store (n := 3) (cs := [(Iv 0), (Iv 0), (Iv 0)]) (u := (.agg #[(Iv (iAt (restL el1) 0)), (Iv (iAt (restL el1) 1)), (Iv (iAt (restL el1) 2))])) (ev rfl) (ev rfl) Try.sizeOf115 rfl hB136 (Nat.le_of_ble_eq_true rfl) rfl) ?_; rintro _ w141 ⟨rfl, W139, hB140⟩
      change Blk _ _ [(Iv (iAt (restL el1) 0)), (Iv (iAt (restL el1) 1)), (Iv (iAt (restL el1) 2))] at hB140
      have X142 := Below.wr X133 W139 g138
      refine wn K111 ?_
      refine wr fun _ K143 => ?_
      refine jm (Iv el1) ?_
      refine jj (does_indexAt_run (r := (Pt b134 0)) (ev rfl) (ev rfl) (fun w => ia115_0 _ _ w)) ?_
      refine jj (does_load (u := (Iv (iAt (restL el1) 0))) (ev rfl) Try.isAgg3 (Cells.at (Blk.cells hB140) 0 rfl)) ?_
      refine jj (does_build (parts' := [(0, (Iv el1)), (1, (Iv (iAt (restL el1) 0)))]) (cells := #[(Iv el1), (Iv (iAt (restL el1) 0))]) (evp rfl) (by kernel_rfl)) ?_
      refine jm (Iv el1) ?_
      refine jj (does_indexAt_run (r := (Pt b134 1)) (ev rfl) (ev rfl) (fun w => ia115_1 _ _ w)) ?_
      refine jj (does_load (u := (Iv (iAt (restL el1) 1))) (ev rfl) Try.isAgg3 (Cells.at (Blk.cells hB140) 1 rfl)) ?_
      refine jj (does_build (parts' := [(0, (Iv el1)), (1, (Iv (iAt (restL el1) 1)))]) (cells := #[(Iv el1), (Iv (iAt (restL el1) 1))]) (evp rfl) (by kernel_rfl)) ?_
      refine jm (Iv el1) ?_
      refine jj (does_indexAt_run (r := (Pt b134 2)) (ev rfl) (ev rfl) (fun w => ia115_2 _ _ w)) ?_
      refine jj (does_load (u := (Iv (iAt (restL el1) 2))) (ev rfl) Try.isAgg3 (Cells.at (Blk.cells hB140) 2 rfl)) ?_
      refine jj (does_build (parts' := [(0, (Iv el1)), (1, (Iv (iAt (restL el1) 2)))]) (cells := #[(Iv el1), (Iv (iAt (restL el1) 2))]) (evp rfl) (by kernel_rfl)) ?_
      refine jj (does_build (parts' := [(0, (.agg #[(Iv el1), (Iv (iAt (restL el1) 0))])), (1, (.agg #[(Iv el1), (Iv (iAt (restL el1) 1))])), (2, (.agg #[(Iv el1), (Iv (iAt (restL el1) 2))]))]) (cells := #[(Iv el1), (Iv (iAt (restL el1) 0)), (Iv el1), (Iv (iAt (restL el1) 1)), (Iv el1), (Iv (iAt (restL el1) 2))]) (evp rfl) (by kernel_rfl)) ?_
      refine sd (does_buildSlice (e := 104) (parts' := [(0, (.agg #[(Iv el1), (Iv (iAt (restL el1) 0)), (Iv el1), (Iv (iAt (restL el1) 1)), (Iv el1), (Iv (iAt (restL el1) 2))]))]) (cells := [(Iv el1), (Iv (iAt (restL el1) 0)), (Iv el1), (Iv (iAt (restL el1) 1)), (Iv el1), (Iv (iAt (restL el1) 2))]) (evp rfl) (fun _ => by kernel_rfl)) ?_; rintro _ w148 ⟨b144, rfl, hb145, hB146, E147⟩
      have g151 : w.heap.size ≤ b144 := Nat.le_trans (Below.size X142) hb145
      have X152 := Ext.gr X142 E147
      refine fz ?_
      refine ja (.slice (some ⟨b144, 0, none⟩) 1 1) ?_
      refine wn K143 ?_
      refine wp_ret ?_
      dsimp only [Exit.then, Exit.inBlock]
      refine ret_val (v := (.slice (some ⟨b144, 0, none⟩) 1 1)) (res_T rfl (slot rfl)) X152 ?_
      try simp only [hel1] at c54 c110
      have x153 : ([(I6T.mk el1 (iAt (restL el1) 0) el1 (iAt (restL el1) 1) el1 (iAt (restL el1) 2))]) = (grp (edB [i0, i1, i2, i3])) := by (obtain rfl : k = 4 := by omega); first | (rw [edB, edP_1 (by omega) (by assumption), grp_3e]) | (rw [edB, edP_3 (by omega) (by assumption), grp_3e]) | (rw [edB, edP_2a (by omega) (by assumption) (by assumption) (by assumption) (by assumption) (by first | assumption | omega), grp_6e]) | (rw [edB, edP_2b (by omega) (by assumption) (by assumption) (by assumption) (by assumption) (by first | assumption | omega), grp_6e]) | (rw [edB, edP_0 (by omega) (by omega) (by omega), grp_0e])
      exact ⟨(.slice (some ⟨b144, 0, none⟩) 1 1), rfl, (Hang.castL (fun u hu => Sl_lit (Blk.hang hB146 g151 u hu) (by decide) (by simp) (fun i x hi => by match i, hi with | 0, hi => cases hi; exact ⟨rfl, rfl⟩ | _ + 1, hi => simp at hi)) x153)⟩
    have c110' := c110
    (try simp only [icmp, bs] at c110')
    refine wr fun _ K154 => ?_
    refine jj (does_icmp (p := (((posN true [i0, i1, i2, i3] k).length) : Int)) (q := 3) (.inl rfl) (ev rfl) (ev rfl)) ?_
    refine ja (Bo (icmp .eql (((posN true [i0, i1, i2, i3] k).length) : Int) 3)) ?_
    refine wn K154 ?_
    refine wp_cond_split (t := icmp .eql (((posN true [i0, i1, i2, i3] k).length) : Int) 3) (ev rfl) (fun c155 => ?_) (fun c155 => ?_)
    · have c155' := c155
      (try simp only [icmp, bs] at c155')
      refine ws fun _ K156 => ?_
      obtain ⟨el2, hel2⟩ : ∃ e, (posN false [i0, i1, i2, i3] k)[0]? = some e := ⟨_, List.getElem?_eq_getElem (by omega)⟩
      have hr2 := posN_rng _ _ (List.mem_of_getElem? hel2)
      refine region_any2 [] [0, 1, 3, 0, 8, 24, 56, 120, 0, 263, 1023] [] (
        [FactW.pure [] [] [] true (fun v => v = (.slice p49 ((posN false [i0, i1, i2, i3] k).length) q50)),
          FactW.mem [0] [] [] [] true (fun v w' => PtrR RI w' v el2) (by intro v w1 w2 hx' h; have hx := KpL.toExt hx'; exact h.ext RI.mono hx),
          FactW.pure [1] [] [] true (fun v => v = (Iv el2)),
          FactW.pure [] [] [] true (fun v => v = (.slice p49 ((posN false [i0, i1, i2, i3] k).length) q50)),
          FactW.mem [3] [] [] [] true (fun v w' => PtrR RI w' v el2) (by intro v w1 w2 hx' h; have hx := KpL.toExt hx'; exact h.ext RI.mono hx),
          FactW.pure [4] [] [] true (fun v => v = (Iv el2)),
          FactW.pure [5] [] [] true (fun v => v = (Pt b96 (0 + el2.toNat * 3))),
          FactW.pure [6] [] [] true (fun v => v = (.agg #[(Iv (iAt (restL el2) 0)), (Iv (iAt (restL el2) 1)), (Iv (iAt (restL el2) 2))])),
          FactW.mem [] [] [] [] true (fun v w' => ∃ b : Nat, v = .pointer (some ⟨b, 0, none⟩) ∧ w105.heap.size ≤ b ∧ Blk w' b [(Iv 0), (Iv 0), (Iv 0)]) (by rintro v w1 w2 hx' ⟨b, rfl, hb, hB⟩; have hx := KpL.toExt hx'; exact ⟨b, rfl, hb, (hB.ext hx)⟩),
          FactW.pure [2] [] [] true (fun v => v = (Iv el2))]) mixed (by kernel_rfl) ?_
      obtain ⟨w157, hw159⟩ : ∃ w', w' = World.drew w105 := ⟨_, rfl⟩; rw [← hw159]; have E158 : Ext w105 w157 := by rw [hw159]; exact Ext.draw _
      clear hw159
      have X161 := Ext.gr X106 E158
      refine R2_p (fun u hu _ => does_move (u := (.slice p49 ((posN false [i0, i1, i2, i3] k).length) q50)) (ev rfl)) fun v162 => ?_
      refine R2_d (fun u hu hF => ?_) (fun v163 => ?_)
      · replace hu : KpL [] _ _ := hu
        have h66_ : v162 = (.slice p49 ((posN false [i0, i1, i2, i3] k).length) q50) := hF.1
        clear hF
        refine doesG_un rfl ?_
        obtain rfl := h66_
        refine (does_indexSl (R := RI) (i := 0) (xs := posN false [i0, i1, i2, i3] k) (e := el2) Try.underlying87 Try.sizeOf3 (ev rfl) (ev rfl) (hH51 _ (((((Same.refl _ _).ext E99).wr W103 (.inr (Nat.le_trans (Nat.le_refl _) hb97))).ext E158).ext (KpL.toExt hu))) (by omega) hel2).mono ?_; rintro v u' ⟨b, of, cs, hv, hc, hR, hu'⟩; subst hu'
        exact ⟨⟨b, of, cs, hv, hc, hR⟩, KpL.refl _ _⟩
      refine R2_d (fun u hu hF => ?_) (fun v164 => ?_)
      · replace hu : KpL [] _ _ := hu
        have h67_ : PtrR RI u v163 el2 := hF.1
        clear hF
        refine doesG_un rfl ?_
        obtain ⟨b67_, o67_, _, rfl, hc67_, rfl⟩ := h67_
        refine (does_load (u := (Iv el2)) (ev rfl) Try.isAgg3 (Cells.at hc67_ 0 rfl)).mono ?_; rintro _ _ ⟨rfl, rfl⟩
        exact ⟨rfl, KpL.refl _ _⟩
      refine R2_p (fun u hu _ => does_move (u := (.slice p49 ((posN false [i0, i1, i2, i3] k).length) q50)) (ev rfl)) fun v165 => ?_
      refine R2_d (fun u hu hF => ?_) (fun v166 => ?_)
      · replace hu : KpL [] _ _ := hu
        have h69_ : v165 = (.slice p49 ((posN false [i0, i1, i2, i3] k).length) q50) := hF.1
        clear hF
        refine doesG_un rfl ?_
        obtain rfl := h69_
        refine (does_indexSl (R := RI) (i := 0) (xs := posN false [i0, i1, i2, i3] k) (e := el2) Try.underlying87 Try.sizeOf3 (ev rfl) (ev rfl) (hH51 _ (((((Same.refl _ _).ext E99).wr W103 (.inr (Nat.le_trans (Nat.le_refl _) hb97))).ext E158).ext (KpL.toExt hu))) (by omega) hel2).mono ?_; rintro v u' ⟨b, of, cs, hv, hc, hR, hu'⟩; subst hu'
        exact ⟨⟨b, of, cs, hv, hc, hR⟩, KpL.refl _ _⟩
      refine R2_d (fun u hu hF => ?_) (fun v167 => ?_)
      · replace hu : KpL [] _ _ := hu
        have h70_ : PtrR RI u v166 el2 := hF.1
        clear hF
        refine doesG_un rfl ?_
        obtain ⟨b70_, o70_, _, rfl, hc70_, rfl⟩ := h70_
        refine (does_load (u := (Iv el2)) (ev rfl) Try.isAgg3 (Cells.at hc70_ 0 rfl)).mono ?_; rintro _ _ ⟨rfl, rfl⟩
        exact ⟨rfl, KpL.refl _ _⟩
      refine R2_p (fun u hu hF => ?_) fun v168 => ?_
      · have h71_ : v167 = (Iv el2) := hF.1
        clear hF; subst h71_
        exact does_indexAtV (n := 4) (i := el2) (k := 3) (by kernel_rfl) (by kernel_rfl) (fun _ => by kernel_rfl) (ev rfl) (ev rfl) (by omega) (by omega)
      refine R2_p (fun u hu hF => ?_) fun v169 => ?_
      · have h72_ : v168 = (Pt b96 (0 + el2.toNat * 3)) := hF.1
        clear hF; subst h72_
        exact does_loadR (i := el2) (ev rfl) Try.isAgg115 Try.sizeOf115 (Blk.cells ((hB104.ext E158).ext (KpL.toExt hu))) rfl (by omega) (by omega)
      refine R2_d (fun u hu hF => ?_) (fun v170 => ?_)
      · replace hu : KpL [] _ _ := hu
        clear hF
        refine doesG_un rfl ?_
        refine (does_alloc z115).mono ?_; rintro _ _ ⟨b, rfl, hb, hB, hx⟩
        exact ⟨⟨b, rfl, Nat.le_trans (Nat.le_trans (Below.size E158) (KpL.size hu)) hb, hB⟩, (KpL.of_ext hx)⟩
      refine R2_p (fun u hu hF => ?_) fun v171 => ?_
      · have h68_ : v164 = (Iv el2) := hF.1
        clear hF; subst h68_
        exact does_assign (u := (Iv el2)) (ev rfl)
      refine RW2_fin ?_; intro w172 E173 hP174; replace E173 : KpL [] _ _ := E173
      obtain ⟨⟨⟨⟨⟨⟨⟨⟨⟨⟨-, -⟩, -⟩, -⟩, -⟩, -⟩, -⟩, -⟩, q175⟩, q176⟩, q177⟩ := hP174
      have X178 := Below.kl X161 E173 all0 (Nat.le_refl _)
      have q175 : v169 = (.agg #[(Iv (iAt (restL el2) 0)), (Iv (iAt (restL el2) 1)), (Iv (iAt (restL el2) 2))]) := q175 rfl
      obtain rfl := q175
      have q176 : ∃ b : Nat, v170 = .pointer (some ⟨b, 0, none⟩) ∧ w105.heap.size ≤ b ∧ Blk w172 b [(Iv 0), (Iv 0), (Iv 0)] := q176 rfl
      obtain ⟨b179, rfl, hb180, hB181⟩ := q176
      have g183 : w.heap.size ≤ b179 := Nat.le_trans (Below.size X106) hb180
      have q177 : v171 = (Iv el2) := q177 rfl
      obtain rfl := q177
      refine fz ?_
      refine sn (does_store (n := 3) (cs := [(Iv 0), (Iv 0), (Iv 0)]) (u := (.agg #[(Iv (iAt (restL el2) 0)), (Iv (iAt (restL el2) 1)), (Iv (iAt (restL el2) 2))])) (ev rfl) (ev rfl) Try.sizeOf115 rfl hB181 (Nat.le_of_ble_eq_true rfl) rfl) ?_; rintro _ w186 ⟨rfl, W184, hB185⟩
      change Blk _ _ [(Iv (iAt (restL el2) 0)), (Iv (iAt (restL el2) 1)), (Iv (iAt (restL el2) 2))] at hB185
      have X187 := Below.wr X178 W184 g183
      refine wn K156 ?_
      refine wr fun _ K188 => ?_
      refine jm (Iv el2) ?_
      refine jj (does_indexAt_run (r := (Pt b179 0)) (ev rfl) (ev rfl) (fun w => ia115_0 _ _ w)) ?_
      refine jj (does_load (u := (Iv (iAt (restL el2) 0))) (ev rfl) Try.isAgg3 (Cells.at (Blk.cells hB185) 0 rfl)) ?_
      refine jj (does_build (parts' := [(0, (Iv el2)), (1, (Iv (iAt (restL el2) 0)))]) (cells := #[(Iv el2), (Iv (iAt (restL el2) 0))]) (evp rfl) (by kernel_rfl)) ?_
      refine jm (Iv el2) ?_
      refine jj (does_indexAt_run (r := (Pt b179 2)) (ev rfl) (ev rfl) (fun w => ia115_2 _ _ w)) ?_
      refine jj (does_load (u := (Iv (iAt (restL el2) 2))) (ev rfl) Try.isAgg3 (Cells.at (Blk.cells hB185) 2 rfl)) ?_
      refine jj (does_build (parts' := [(0, (Iv el2)), (1, (Iv (iAt (restL el2) 2)))]) (cells := #[(Iv el2), (Iv (iAt (restL el2) 2))]) (evp rfl) (by kernel_rfl)) ?_
      refine jm (Iv el2) ?_
      refine jj (does_indexAt_run (r := (Pt b179 1)) (ev rfl) (ev rfl) (fun w => ia115_1 _ _ w)) ?_
      refine jj (does_load (u := (Iv (iAt (restL el2) 1))) (ev rfl) Try.isAgg3 (Cells.at (Blk.cells hB185) 1 rfl)) ?_
      refine jj (does_build (parts' := [(0, (Iv el2)), (1, (Iv (iAt (restL el2) 1)))]) (cells := #[(Iv el2), (Iv (iAt (restL el2) 1))]) (evp rfl) (by kernel_rfl)) ?_
      refine jj (does_build (parts' := [(0, (.agg #[(Iv el2), (Iv (iAt (restL el2) 0))])), (1, (.agg #[(Iv el2), (Iv (iAt (restL el2) 2))])), (2, (.agg #[(Iv el2), (Iv (iAt (restL el2) 1))]))]) (cells := #[(Iv el2), (Iv (iAt (restL el2) 0)), (Iv el2), (Iv (iAt (restL el2) 2)), (Iv el2), (Iv (iAt (restL el2) 1))]) (evp rfl) (by kernel_rfl)) ?_
      refine sd (does_buildSlice (e := 104) (parts' := [(0, (.agg #[(Iv el2), (Iv (iAt (restL el2) 0)), (Iv el2), (Iv (iAt (restL el2) 2)), (Iv el2), (Iv (iAt (restL el2) 1))]))]) (cells := [(Iv el2), (Iv (iAt (restL el2) 0)), (Iv el2), (Iv (iAt (restL el2) 2)), (Iv el2), (Iv (iAt (restL el2) 1))]) (evp rfl) (fun _ => by kernel_rfl)) ?_; rintro _ w193 ⟨b189, rfl, hb190, hB191, E192⟩
      have g196 : w.heap.size ≤ b189 := Nat.le_trans (Below.size X187) hb190
      have X197 := Ext.gr X187 E192
      refine fz ?_
      refine ja (.slice (some ⟨b189, 0, none⟩) 1 1) ?_
      refine wn K188 ?_
      refine wp_ret ?_
      dsimp only [Exit.then, Exit.inBlock]
      refine ret_val (v := (.slice (some ⟨b189, 0, none⟩) 1 1)) (res_T rfl (slot rfl)) X197 ?_
      try simp only [hel2] at c54 c110 c155
      have x198 : ([(I6T.mk el2 (iAt (restL el2) 0) el2 (iAt (restL el2) 2) el2 (iAt (restL el2) 1))]) = (grp (edB [i0, i1, i2, i3])) := by (obtain rfl : k = 4 := by omega); first | (rw [edB, edP_1 (by omega) (by assumption), grp_3e]) | (rw [edB, edP_3 (by omega) (by assumption), grp_3e]) | (rw [edB, edP_2a (by omega) (by assumption) (by assumption) (by assumption) (by assumption) (by first | assumption | omega), grp_6e]) | (rw [edB, edP_2b (by omega) (by assumption) (by assumption) (by assumption) (by assumption) (by first | assumption | omega), grp_6e]) | (rw [edB, edP_0 (by omega) (by omega) (by omega), grp_0e])
      exact ⟨(.slice (some ⟨b189, 0, none⟩) 1 1), rfl, (Hang.castL (fun u hu => Sl_lit (Blk.hang hB191 g196 u hu) (by decide) (by simp) (fun i x hi => by match i, hi with | 0, hi => cases hi; exact ⟨rfl, rfl⟩ | _ + 1, hi => simp at hi)) x198)⟩
    have c155' := c155
    (try simp only [icmp, bs] at c155')
    refine wr fun _ K199 => ?_
    refine jj (does_icmp (p := (((posN true [i0, i1, i2, i3] k).length) : Int)) (q := 2) (.inl rfl) (ev rfl) (ev rfl)) ?_
    refine ja (Bo (icmp .eql (((posN true [i0, i1, i2, i3] k).length) : Int) 2)) ?_
    refine wn K199 ?_
    refine wp_cond_split (t := icmp .eql (((posN true [i0, i1, i2, i3] k).length) : Int) 2) (ev rfl) (fun c200 => ?_) (fun c200 => ?_)
    · have c200' := c200
      (try simp only [icmp, bs] at c200')
      refine ws fun _ K201 => ?_
      obtain ⟨el3, hel3⟩ : ∃ e, (posN true [i0, i1, i2, i3] k)[0]? = some e := ⟨_, List.getElem?_eq_getElem (by omega)⟩
      obtain ⟨el4, hel4⟩ : ∃ e, (posN true [i0, i1, i2, i3] k)[1]? = some e := ⟨_, List.getElem?_eq_getElem (by omega)⟩
      obtain ⟨el5, hel5⟩ : ∃ e, (posN false [i0, i1, i2, i3] k)[0]? = some e := ⟨_, List.getElem?_eq_getElem (by omega)⟩
      obtain ⟨el6, hel6⟩ : ∃ e, (posN false [i0, i1, i2, i3] k)[1]? = some e := ⟨_, List.getElem?_eq_getElem (by omega)⟩
      refine region_any2 [] [0, 1, 3, 0, 8, 24, 0, 64, 192, 0, 512, 1536, 7, 4159, 12799, 32767] [] (
        [FactW.pure [] [] [] true (fun v => v = (.slice p46 ((posN true [i0, i1, i2, i3] k).length) q47)),
          FactW.mem [0] [] [] [] true (fun v w' => PtrR RI w' v el3) (by intro v w1 w2 hx' h; have hx := KpL.toExt hx'; exact h.ext RI.mono hx),
          FactW.pure [1] [] [] true (fun v => v = (Iv el3)),
          FactW.pure [] [] [] true (fun v => v = (.slice p46 ((posN true [i0, i1, i2, i3] k).length) q47)),
          FactW.mem [3] [] [] [] true (fun v w' => PtrR RI w' v el4) (by intro v w1 w2 hx' h; have hx := KpL.toExt hx'; exact h.ext RI.mono hx),
          FactW.pure [4] [] [] true (fun v => v = (Iv el4)),
          FactW.pure [] [] [] true (fun v => v = (.slice p49 ((posN false [i0, i1, i2, i3] k).length) q50)),
          FactW.mem [6] [] [] [] true (fun v w' => PtrR RI w' v el5) (by intro v w1 w2 hx' h; have hx := KpL.toExt hx'; exact h.ext RI.mono hx),
          FactW.pure [7] [] [] true (fun v => v = (Iv el5)),
          FactW.pure [] [] [] true (fun v => v = (.slice p49 ((posN false [i0, i1, i2, i3] k).length) q50)),
          FactW.mem [9] [] [] [] true (fun v w' => PtrR RI w' v el6) (by intro v w1 w2 hx' h; have hx := KpL.toExt hx'; exact h.ext RI.mono hx),
          FactW.pure [10] [] [] true (fun v => v = (Iv el6)),
          FactW.pure [2] [] [] true (fun v => v = (Iv el3)),
          FactW.pure [5] [] [] true (fun v => v = (Iv el4)),
          FactW.pure [8] [] [] true (fun v => v = (Iv el5))]) mixed (by kernel_rfl) ?_
      obtain ⟨w202, hw204⟩ : ∃ w', w' = World.drew w105 := ⟨_, rfl⟩; rw [← hw204]; have E203 : Ext w105 w202 := by rw [hw204]; exact Ext.draw _
      clear hw204
      have X206 := Ext.gr X106 E203
      refine R2_p (fun u hu _ => does_move (u := (.slice p46 ((posN true [i0, i1, i2, i3] k).length) q47)) (ev rfl)) fun v207 => ?_
      refine R2_d (fun u hu hF => ?_) (fun v208 => ?_)
      · replace hu : KpL [] _ _ := hu
        have h90_ : v207 = (.slice p46 ((posN true [i0, i1, i2, i3] k).length) q47) := hF.1
        clear hF
        refine doesG_un rfl ?_
        obtain rfl := h90_
        refine (does_indexSl (R := RI) (i := 0) (xs := posN true [i0, i1, i2, i3] k) (e := el3) Try.underlying87 Try.sizeOf3 (ev rfl) (ev rfl) (hH48 _ (((((Same.refl _ _).ext E99).wr W103 (.inr (Nat.le_trans (Nat.le_refl _) hb97))).ext E203).ext (KpL.toExt hu))) (by omega) hel3).mono ?_; rintro v u' ⟨b, of, cs, hv, hc, hR, hu'⟩; subst hu'
        exact ⟨⟨b, of, cs, hv, hc, hR⟩, KpL.refl _ _⟩
      refine R2_d (fun u hu hF => ?_) (fun v209 => ?_)
      · replace hu : KpL [] _ _ := hu
        have h91_ : PtrR RI u v208 el3 := hF.1
        clear hF
        refine doesG_un rfl ?_
        obtain ⟨b91_, o91_, _, rfl, hc91_, rfl⟩ := h91_
        refine (does_load (u := (Iv el3)) (ev rfl) Try.isAgg3 (Cells.at hc91_ 0 rfl)).mono ?_; rintro _ _ ⟨rfl, rfl⟩
        exact ⟨rfl, KpL.refl _ _⟩
      refine R2_p (fun u hu _ => does_move (u := (.slice p46 ((posN true [i0, i1, i2, i3] k).length) q47)) (ev rfl)) fun v210 => ?_
      refine R2_d (fun u hu hF => ?_) (fun v211 => ?_)
      · replace hu : KpL [] _ _ := hu
        have h93_ : v210 = (.slice p46 ((posN true [i0, i1, i2, i3] k).length) q47) := hF.1
        clear hF
        refine doesG_un rfl ?_
        obtain rfl := h93_
        refine (does_indexSl (R := RI) (i := 1) (xs := posN true [i0, i1, i2, i3] k) (e := el4) Try.underlying87 Try.sizeOf3 (ev rfl) (ev rfl) (hH48 _ (((((Same.refl _ _).ext E99).wr W103 (.inr (Nat.le_trans (Nat.le_refl _) hb97))).ext E203).ext (KpL.toExt hu))) (by omega) hel4).mono ?_; rintro v u' ⟨b, of, cs, hv, hc, hR, hu'⟩; subst hu'
        exact ⟨⟨b, of, cs, hv, hc, hR⟩, KpL.refl _ _⟩
      refine R2_d (fun u hu hF => ?_) (fun v212 => ?_)
      · replace hu : KpL [] _ _ := hu
        have h94_ : PtrR RI u v211 el4 := hF.1
        clear hF
        refine doesG_un rfl ?_
        obtain ⟨b94_, o94_, _, rfl, hc94_, rfl⟩ := h94_
        refine (does_load (u := (Iv el4)) (ev rfl) Try.isAgg3 (Cells.at hc94_ 0 rfl)).mono ?_; rintro _ _ ⟨rfl, rfl⟩
        exact ⟨rfl, KpL.refl _ _⟩
      refine R2_p (fun u hu _ => does_move (u := (.slice p49 ((posN false [i0, i1, i2, i3] k).length) q50)) (ev rfl)) fun v213 => ?_
      refine R2_d (fun u hu hF => ?_) (fun v214 => ?_)
      · replace hu : KpL [] _ _ := hu
        have h96_ : v213 = (.slice p49 ((posN false [i0, i1, i2, i3] k).length) q50) := hF.1
        clear hF
        refine doesG_un rfl ?_
        obtain rfl := h96_
        refine (does_indexSl (R := RI) (i := 0) (xs := posN false [i0, i1, i2, i3] k) (e := el5) Try.underlying87 Try.sizeOf3 (ev rfl) (ev rfl) (hH51 _ (((((Same.refl _ _).ext E99).wr W103 (.inr (Nat.le_trans (Nat.le_refl _) hb97))).ext E203).ext (KpL.toExt hu))) (by omega) hel5).mono ?_; rintro v u' ⟨b, of, cs, hv, hc, hR, hu'⟩; subst hu'
        exact ⟨⟨b, of, cs, hv, hc, hR⟩, KpL.refl _ _⟩
      refine R2_d (fun u hu hF => ?_) (fun v215 => ?_)
      · replace hu : KpL [] _ _ := hu
        have h97_ : PtrR RI u v214 el5 := hF.1
        clear hF
        refine doesG_un rfl ?_
        obtain ⟨b97_, o97_, _, rfl, hc97_, rfl⟩ := h97_
        refine (does_load (u := (Iv el5)) (ev rfl) Try.isAgg3 (Cells.at hc97_ 0 rfl)).mono ?_; rintro _ _ ⟨rfl, rfl⟩
        exact ⟨rfl, KpL.refl _ _⟩
      refine R2_p (fun u hu _ => does_move (u := (.slice p49 ((posN false [i0, i1, i2, i3] k).length) q50)) (ev rfl)) fun v216 => ?_
      refine R2_d (fun u hu hF => ?_) (fun v217 => ?_)
      · replace hu : KpL [] _ _ := hu
        have h99_ : v216 = (.slice p49 ((posN false [i0, i1, i2, i3] k).length) q50) := hF.1
        clear hF
        refine doesG_un rfl ?_
        obtain rfl := h99_
        refine (does_indexSl (R := RI) (i := 1) (xs := posN false [i0, i1, i2, i3] k) (e := el6) Try.underlying87 Try.sizeOf3 (ev rfl) (ev rfl) (hH51 _ (((((Same.refl _ _).ext E99).wr W103 (.inr (Nat.le_trans (Nat.le_refl _) hb97))).ext E203).ext (KpL.toExt hu))) (by omega) hel6).mono ?_; rintro v u' ⟨b, of, cs, hv, hc, hR, hu'⟩; subst hu'
        exact ⟨⟨b, of, cs, hv, hc, hR⟩, KpL.refl _ _⟩
      refine R2_d (fun u hu hF => ?_) (fun v218 => ?_)
      · replace hu : KpL [] _ _ := hu
        have h100_ : PtrR RI u v217 el6 := hF.1
        clear hF
        refine doesG_un rfl ?_
        obtain ⟨b100_, o100_, _, rfl, hc100_, rfl⟩ := h100_
        refine (does_load (u := (Iv el6)) (ev rfl) Try.isAgg3 (Cells.at hc100_ 0 rfl)).mono ?_; rintro _ _ ⟨rfl, rfl⟩
        exact ⟨rfl, KpL.refl _ _⟩
      refine R2_p (fun u hu hF => ?_) fun v219 => ?_
      · have h92_ : v209 = (Iv el3) := hF.1
        clear hF; subst h92_
        exact does_assign (u := (Iv el3)) (ev rfl)
      refine R2_p (fun u hu hF => ?_) fun v220 => ?_
      · have h95_ : v212 = (Iv el4) := hF.1
        clear hF; subst h95_
        exact does_assign (u := (Iv el4)) (ev rfl)
      refine R2_p (fun u hu hF => ?_) fun v221 => ?_
      · have h98_ : v215 = (Iv el5) := hF.1
        clear hF; subst h98_
        exact does_assign (u := (Iv el5)) (ev rfl)
      refine RW2_fin ?_; intro w222 E223 hP224; replace E223 : KpL [] _ _ := E223
      obtain ⟨⟨⟨⟨⟨⟨⟨⟨⟨⟨⟨⟨⟨⟨⟨-, -⟩, -⟩, -⟩, -⟩, -⟩, -⟩, -⟩, -⟩, -⟩, -⟩, -⟩, q225⟩, q226⟩, q227⟩, q228⟩ := hP224
      have X229 := Below.kl X206 E223 all0 (Nat.le_refl _)
      have q225 : v218 = (Iv el6) := q225 rfl
      obtain rfl := q225
      have q226 : v219 = (Iv el3) := q226 rfl
      obtain rfl := q226
      have q227 : v220 = (Iv el4) := q227 rfl
      obtain rfl := q227
      have q228 : v221 = (Iv el5) := q228 rfl
      obtain rfl := q228
      refine fz ?_
      refine ja (Iv el6) ?_
      refine wn K201 ?_
      refine ws fun _ K230 => ?_
      refine ws fun _ K231 => ?_
      obtain ⟨β1, hβ1⟩ : ∃ b : Bool, b = ((icmp .eql el3 0) && (icmp .eql el4 2)) := ⟨_, rfl⟩
      obtain ⟨β2, hβ2⟩ : ∃ b : Bool, b = ((icmp .eql el3 1) && (icmp .eql el4 3)) := ⟨_, rfl⟩
      refine region_text (
        [Fact.pure [] (fun v => v = (Iv el3)),
    Fact.pure [102] (fun v => v = (Bo (icmp .eql el3 0))),
    Fact.pure [103] (fun v => v = (Bo (icmp .eql el3 0))),
    Fact.pure [104] (fun v => (icmp .eql el3 0) = true → v = (Iv el4)),
    Fact.pure [105, 104] (fun v => (icmp .eql el3 0) = true → v = (Bo (icmp .eql el4 2))),
    Fact.pure [104, 106] (fun v => v = (Bo β1)),
    Fact.pure [107] (fun v => v = (Bo β1)),
    Fact.pure [108] (fun v => β1 = false → v = (Iv el3)),
    Fact.pure [109, 108] (fun v => β1 = false → v = (Bo (icmp .eql el3 1))),
    Fact.pure [110, 108] (fun v => (β1 = false → v = (Bo (icmp .eql el3 1))) ∧ (¬ (β1 = false) → v = undef)),
    Fact.pure [111] (fun v => β1 = false → (icmp .eql el3 1) = true → v = (Iv el4)),
    Fact.pure [112, 111] (fun v => β1 = false → (icmp .eql el3 1) = true → v = (Bo (icmp .eql el4 3))),
    Fact.pure [111, 113, 108] (fun v => β1 = false → v = (Bo β2)),
    Fact.pure [108, 114] (fun v => v = (Bo (β1 || β2)))]) (by simp [Fact.pure, Fact.mem]) ?_
      refine R_p (fun u hu _ => does_move (u := (Iv el3)) (ev rfl)) fun v232 => ?_
      refine R_p (fun u hu hF => ?_) fun v233 => ?_
      · have h102_ : v232 = (Iv el3) := hF.1
        clear hF; subst h102_
        exact does_icmp (p := el3) (q := 0) (.inl rfl) (ev rfl) (ev rfl)
      refine R_p (fun u hu hF => ?_) fun v234 => ?_
      · have h103_ : v233 = (Bo (icmp .eql el3 0)) := hF.1
        clear hF; subst h103_
        exact does_move (u := (Bo (icmp .eql el3 0))) (ev rfl)
      refine R_d (fun u hu hF => ?_) (fun v235 => ?_)
      · have h104_ : v234 = (Bo (icmp .eql el3 0)) := hF.1
        clear hF
        obtain rfl := h104_
        refine doesG_g (b := (icmp .eql el3 0)) rfl (yld rfl rfl) (fun hg1 => ?_) (fun hc => ⟨fun hg1 => absurd hg1 hc, Ext.refl _⟩)
        refine (does_move (u := (Iv el4)) (ev rfl)).mono ?_; rintro _ _ ⟨rfl, rfl⟩
        exact ⟨fun _ => rfl, Ext.refl _⟩
      refine R_d (fun u hu hF => ?_) (fun v236 => ?_)
      · have h105_ : (icmp .eql el3 0) = true → v235 = (Iv el4) := hF.1
        have h104_ : v234 = (Bo (icmp .eql el3 0)) := hF.2.1
        clear hF
        obtain rfl := h104_
        refine doesG_g (b := (icmp .eql el3 0)) rfl (yld rfl rfl) (fun hg1 => ?_) (fun hc => ⟨fun hg1 => absurd hg1 hc, Ext.refl _⟩)
        obtain rfl := h105_ hg1
        refine (does_icmp (p := el4) (q := 2) (.inl rfl) (ev rfl) (ev rfl)).mono ?_; rintro _ _ ⟨rfl, rfl⟩
        exact ⟨fun _ => rfl, Ext.refl _⟩
      refine R_d (fun u hu hF => ?_) (fun v237 => ?_)
      · have h104_ : v234 = (Bo (icmp .eql el3 0)) := hF.1
        have h106_ : (icmp .eql el3 0) = true → v236 = (Bo (icmp .eql el4 2)) := hF.2.1
        clear hF
        refine doesG_un rfl ?_
        skip
        obtain rfl := h104_
        refine (does_pick (b := (icmp .eql el3 0)) (u := v236) (v := (Bo false)) (ev rfl) (ev rfl) (ev rfl)).mono ?_; rintro _ _ ⟨rfl, rfl⟩; refine ⟨?_, Ext.refl _⟩; rw [hβ1]; skip
        cases hbb : (icmp .eql el3 0)
        all_goals first | (show _ = _; simp only [↓reduceIte, Bool.true_and, Bool.false_and, Bool.true_or, Bool.false_or, Bool.false_eq_true]; done) | (have e_ := h106_ hbb; subst e_; show _ = _; simp only [↓reduceIte, Bool.true_and, Bool.false_and, Bool.true_or, Bool.false_or, Bool.false_eq_true]; done) | rfl | (have e_ := h106_ hbb; subst e_; rfl) | (simp [hbb] at h106_ ⊢; first | done | rfl | (subst h106_; rfl) | simp_all) | (simp [hbb] at h106_ ⊢; done)
      refine R_p (fun u hu hF => ?_) fun v238 => ?_
      · have h107_ : v237 = (Bo β1) := hF.1
        clear hF; subst h107_
        exact does_move (u := (Bo β1)) (ev rfl)
      refine R_d (fun u hu hF => ?_) (fun v239 => ?_)
      · have h108_ : v238 = (Bo β1) := hF.1
        clear hF
        obtain rfl := h108_
        refine doesG_g (b := β1) rfl (yld rfl rfl) (fun hg1 => ?_) (fun hc => ⟨fun hg1 => absurd hg1 hc, Ext.refl _⟩)
        refine (does_move (u := (Iv el3)) (ev rfl)).mono ?_; rintro _ _ ⟨rfl, rfl⟩
        exact ⟨fun _ => rfl, Ext.refl _⟩
      refine R_d (fun u hu hF => ?_) (fun v240 => ?_)
      · have h109_ : β1 = false → v239 = (Iv el3) := hF.1
        have h108_ : v238 = (Bo β1) := hF.2.1
        clear hF
        obtain rfl := h108_
        refine doesG_g (b := β1) rfl (yld rfl rfl) (fun hg1 => ?_) (fun hc => ⟨fun hg1 => absurd hg1 hc, Ext.refl _⟩)
        obtain rfl := h109_ hg1
        refine (does_icmp (p := el3) (q := 1) (.inl rfl) (ev rfl) (ev rfl)).mono ?_; rintro _ _ ⟨rfl, rfl⟩
        exact ⟨fun _ => rfl, Ext.refl _⟩
      refine R_d (fun u hu hF => ?_) (fun v241 => ?_)
      · have h110_ : β1 = false → v240 = (Bo (icmp .eql el3 1)) := hF.1
        have h108_ : v238 = (Bo β1) := hF.2.1
        clear hF
        obtain rfl := h108_
        refine doesG_g (b := β1) rfl (yld rfl rfl) (fun hg1 => ?_) (fun hc => ⟨⟨fun hg1 => absurd hg1 hc, fun _ => rfl⟩, Ext.refl _⟩)
        obtain rfl := h110_ hg1
        refine (does_move (u := (Bo (icmp .eql el3 1))) (ev rfl)).mono ?_; rintro _ _ ⟨rfl, rfl⟩
        exact ⟨⟨fun _ => rfl, fun hn => absurd hg1 hn⟩, Ext.refl _⟩
      refine R_d (fun u hu hF => ?_) (fun v242 => ?_)
      · have h111_ : (β1 = false → v241 = (Bo (icmp .eql el3 1))) ∧ (¬ (β1 = false) → v241 = undef) := hF.1; have h111u := h111_.2; replace h111_ := h111_.1
        clear hF
        refine doesG_gg (b := (icmp .eql el3 1)) (c := β1 = false) rfl (fun hc => ?_) (fun hc => ?_) (fun hc hg2 => ?_) (fun hc => ⟨fun hg1 hg2 => absurd ⟨hg1, hg2⟩ hc, Ext.refl _⟩)
        · have hg1 := hc; obtain rfl := h111_ hg1; exact yld rfl rfl
        · obtain rfl := h111u hc; exact yldn rfl rfl
        have hg1 := hc
        obtain rfl := h111_ hg1
        refine (does_move (u := (Iv el4)) (ev rfl)).mono ?_; rintro _ _ ⟨rfl, rfl⟩
        exact ⟨fun _ _ => rfl, Ext.refl _⟩
      refine R_d (fun u hu hF => ?_) (fun v243 => ?_)
      · have h112_ : β1 = false → (icmp .eql el3 1) = true → v242 = (Iv el4) := hF.1
        have h111_ : (β1 = false → v241 = (Bo (icmp .eql el3 1))) ∧ (¬ (β1 = false) → v241 = undef) := hF.2.1; have h111u := h111_.2; replace h111_ := h111_.1
        clear hF
        refine doesG_gg (b := (icmp .eql el3 1)) (c := β1 = false) rfl (fun hc => ?_) (fun hc => ?_) (fun hc hg2 => ?_) (fun hc => ⟨fun hg1 hg2 => absurd ⟨hg1, hg2⟩ hc, Ext.refl _⟩)
        · have hg1 := hc; obtain rfl := h111_ hg1; exact yld rfl rfl
        · obtain rfl := h111u hc; exact yldn rfl rfl
        have hg1 := hc
        obtain rfl := h111_ hg1
        obtain rfl := h112_ hg1 hg2
        refine (does_icmp (p := el4) (q := 3) (.inl rfl) (ev rfl) (ev rfl)).mono ?_; rintro _ _ ⟨rfl, rfl⟩
        exact ⟨fun _ _ => rfl, Ext.refl _⟩
      refine R_d (fun u hu hF => ?_) (fun v244 => ?_)
      · have h111_ : (β1 = false → v241 = (Bo (icmp .eql el3 1))) ∧ (¬ (β1 = false) → v241 = undef) := hF.1; have h111u := h111_.2; replace h111_ := h111_.1
        have h113_ : β1 = false → (icmp .eql el3 1) = true → v243 = (Bo (icmp .eql el4 3)) := hF.2.1
        have h108_ : v238 = (Bo β1) := hF.2.2.1
        clear hF
        obtain rfl := h108_
        refine doesG_g (b := β1) rfl (yld rfl rfl) (fun hg1 => ?_) (fun hc => ⟨fun hg1 => absurd hg1 hc, Ext.refl _⟩)
        skip
        obtain rfl := h111_ hg1
        replace h113_ := h113_ hg1
        refine (does_pick (b := (icmp .eql el3 1)) (u := v243) (v := (Bo false)) (ev rfl) (ev rfl) (ev rfl)).mono ?_; rintro _ _ ⟨rfl, rfl⟩; refine ⟨fun _ => ?_, Ext.refl _⟩; rw [hβ2]; skip
        cases hbb : (icmp .eql el3 1)
        all_goals first | (show _ = _; simp only [↓reduceIte, Bool.true_and, Bool.false_and, Bool.true_or, Bool.false_or, Bool.false_eq_true]; done) | (have e_ := h113_ hbb; subst e_; show _ = _; simp only [↓reduceIte, Bool.true_and, Bool.false_and, Bool.true_or, Bool.false_or, Bool.false_eq_true]; done) | rfl | (have e_ := h113_ hbb; subst e_; rfl) | (simp [hbb] at h113_ ⊢; first | done | rfl | (subst h113_; rfl) | simp_all) | (simp [hbb] at h113_ ⊢; done)
      refine R_d (fun u hu hF => ?_) (fun v245 => ?_)
      · have h108_ : v238 = (Bo β1) := hF.1
        have h114_ : β1 = false → v244 = (Bo β2) := hF.2.1
        clear hF
        refine doesG_un rfl ?_
        skip
        obtain rfl := h108_
        refine (does_pick (b := β1) (u := (Bo true)) (v := v244) (ev rfl) (ev rfl) (ev rfl)).mono ?_; rintro _ _ ⟨rfl, rfl⟩; refine ⟨?_, Ext.refl _⟩; skip
        cases hbb : β1
        all_goals first | (show _ = _; simp only [↓reduceIte, Bool.true_and, Bool.false_and, Bool.true_or, Bool.false_or, Bool.false_eq_true]; done) | (have e_ := h114_ hbb; subst e_; show _ = _; simp only [↓reduceIte, Bool.true_and, Bool.false_and, Bool.true_or, Bool.false_or, Bool.false_eq_true]; done) | rfl | (have e_ := h114_ hbb; subst e_; rfl) | (simp [hbb] at h114_ ⊢; first | done | rfl | (subst h114_; rfl) | simp_all) | (simp [hbb] at h114_ ⊢; done)
      refine RW_fin ?_; intro w246 E247 hP248
      obtain ⟨⟨⟨⟨⟨⟨⟨⟨⟨⟨⟨⟨⟨⟨-, -⟩, -⟩, -⟩, -⟩, -⟩, -⟩, -⟩, -⟩, -⟩, -⟩, -⟩, -⟩, -⟩, q249⟩ := hP248
      have X250 := Ext.gr X229 E247
      have q249 : v245 = (Bo (β1 || β2)) := q249
      obtain rfl := q249
      refine fz ?_
      refine wn K231 ?_
      refine wp_cond_split (t := β1 || β2) (ev rfl) (fun c251 => ?_) (fun c251 => ?_)
      · have c251' := c251
        (try simp only [hβ1, hβ2] at c251')
        (try simp only [icmp, bs] at c251')
        refine wp_region_lit ?_
        refine jm (Iv el6) ?_
        refine jm (Iv el5) ?_
        refine ja (Iv el6) ?_
        refine ja (Iv el5) ?_
        refine wn K230 ?_
        refine wr fun _ K252 => ?_
        refine jm (Iv el3) ?_
        refine jm (Iv el6) ?_
        refine jj (does_build (parts' := [(0, (Iv el3)), (1, (Iv el6))]) (cells := #[(Iv el3), (Iv el6)]) (evp rfl) (by kernel_rfl)) ?_
        refine jm (Iv el3) ?_
        refine jm (Iv el5) ?_
        refine jj (does_build (parts' := [(0, (Iv el3)), (1, (Iv el5))]) (cells := #[(Iv el3), (Iv el5)]) (evp rfl) (by kernel_rfl)) ?_
        refine jm (Iv el4) ?_
        refine jm (Iv el5) ?_
        refine jj (does_build (parts' := [(0, (Iv el4)), (1, (Iv el5))]) (cells := #[(Iv el4), (Iv el5)]) (evp rfl) (by kernel_rfl)) ?_
        refine jj (does_build (parts' := [(0, (.agg #[(Iv el3), (Iv el6)])), (1, (.agg #[(Iv el3), (Iv el5)])), (2, (.agg #[(Iv el4), (Iv el5)]))]) (cells := #[(Iv el3), (Iv el6), (Iv el3), (Iv el5), (Iv el4), (Iv el5)]) (evp rfl) (by kernel_rfl)) ?_
        refine jm (Iv el3) ?_
        refine jm (Iv el6) ?_
        refine jj (does_build (parts' := [(0, (Iv el3)), (1, (Iv el6))]) (cells := #[(Iv el3), (Iv el6)]) (evp rfl) (by kernel_rfl)) ?_
        refine jm (Iv el4) ?_
        refine jm (Iv el5) ?_
        refine jj (does_build (parts' := [(0, (Iv el4)), (1, (Iv el5))]) (cells := #[(Iv el4), (Iv el5)]) (evp rfl) (by kernel_rfl)) ?_
        refine jm (Iv el4) ?_
        refine jm (Iv el6) ?_
        refine jj (does_build (parts' := [(0, (Iv el4)), (1, (Iv el6))]) (cells := #[(Iv el4), (Iv el6)]) (evp rfl) (by kernel_rfl)) ?_
        refine jj (does_build (parts' := [(0, (.agg #[(Iv el3), (Iv el6)])), (1, (.agg #[(Iv el4), (Iv el5)])), (2, (.agg #[(Iv el4), (Iv el6)]))]) (cells := #[(Iv el3), (Iv el6), (Iv el4), (Iv el5), (Iv el4), (Iv el6)]) (evp rfl) (by kernel_rfl)) ?_
        refine sd (does_buildSlice (e := 104) (parts' := [(0, (.agg #[(Iv el3), (Iv el6), (Iv el3), (Iv el5), (Iv el4), (Iv el5)])), (1, (.agg #[(Iv el3), (Iv el6), (Iv el4), (Iv el5), (Iv el4), (Iv el6)]))]) (cells := [(Iv el3), (Iv el6), (Iv el3), (Iv el5), (Iv el4), (Iv el5), (Iv el3), (Iv el6), (Iv el4), (Iv el5), (Iv el4), (Iv el6)]) (evp rfl) (fun _ => by kernel_rfl)) ?_; rintro _ w257 ⟨b253, rfl, hb254, hB255, E256⟩
        have g259 : w.heap.size ≤ b253 := Nat.le_trans (Below.size X250) hb254
        have X260 := Ext.gr X250 E256
        refine fz ?_
        refine ja (.slice (some ⟨b253, 0, none⟩) 2 2) ?_
        refine wn K252 ?_
        refine wp_ret ?_
        dsimp only [Exit.then, Exit.inBlock]
        refine ret_val (v := (.slice (some ⟨b253, 0, none⟩) 2 2)) (res_T rfl (slot rfl)) X260 ?_
        try simp only [hel3, hel4, hel5, hel6, hβ1, hβ2] at c54 c110 c155 c200 c251
        have x261 : ([(I6T.mk el3 el6 el3 el5 el4 el5), (I6T.mk el3 el6 el4 el5 el4 el6)]) = (grp (edB [i0, i1, i2, i3])) := by (obtain rfl : k = 4 := by omega); first | (rw [edB, edP_1 (by omega) (by assumption), grp_3e]) | (rw [edB, edP_3 (by omega) (by assumption), grp_3e]) | (rw [edB, edP_2a (by omega) (by assumption) (by assumption) (by assumption) (by assumption) (by first | assumption | omega), grp_6e]) | (rw [edB, edP_2b (by omega) (by assumption) (by assumption) (by assumption) (by assumption) (by first | assumption | omega), grp_6e]) | (rw [edB, edP_0 (by omega) (by omega) (by omega), grp_0e])
        exact ⟨(.slice (some ⟨b253, 0, none⟩) 2 2), rfl, (Hang.castL (fun u hu => Sl_lit (Blk.hang hB255 g259 u hu) (by decide) (by simp) (fun i x hi => by match i, hi with | 0, hi => cases hi; exact ⟨rfl, rfl⟩ | 1, hi => cases hi; exact ⟨rfl, rfl⟩ | _ + 2, hi => simp at hi)) x261)⟩
      have c251' := c251
      (try simp only [hβ1, hβ2] at c251')
      (try simp only [icmp, bs] at c251')
      refine wp_skip (K230 _ _ ?_)
      refine wr fun _ K262 => ?_
      refine jm (Iv el3) ?_
      refine jm (Iv el5) ?_
      refine jj (does_build (parts' := [(0, (Iv el3)), (1, (Iv el5))]) (cells := #[(Iv el3), (Iv el5)]) (evp rfl) (by kernel_rfl)) ?_
      refine jm (Iv el3) ?_
      refine jm (Iv el6) ?_
      refine jj (does_build (parts' := [(0, (Iv el3)), (1, (Iv el6))]) (cells := #[(Iv el3), (Iv el6)]) (evp rfl) (by kernel_rfl)) ?_
      refine jm (Iv el4) ?_
      refine jm (Iv el6) ?_
      refine jj (does_build (parts' := [(0, (Iv el4)), (1, (Iv el6))]) (cells := #[(Iv el4), (Iv el6)]) (evp rfl) (by kernel_rfl)) ?_
      refine jj (does_build (parts' := [(0, (.agg #[(Iv el3), (Iv el5)])), (1, (.agg #[(Iv el3), (Iv el6)])), (2, (.agg #[(Iv el4), (Iv el6)]))]) (cells := #[(Iv el3), (Iv el5), (Iv el3), (Iv el6), (Iv el4), (Iv el6)]) (evp rfl) (by kernel_rfl)) ?_
      refine jm (Iv el3) ?_
      refine jm (Iv el5) ?_
      refine jj (does_build (parts' := [(0, (Iv el3)), (1, (Iv el5))]) (cells := #[(Iv el3), (Iv el5)]) (evp rfl) (by kernel_rfl)) ?_
      refine jm (Iv el4) ?_
      refine jm (Iv el6) ?_
      refine jj (does_build (parts' := [(0, (Iv el4)), (1, (Iv el6))]) (cells := #[(Iv el4), (Iv el6)]) (evp rfl) (by kernel_rfl)) ?_
      refine jm (Iv el4) ?_
      refine jm (Iv el5) ?_
      refine jj (does_build (parts' := [(0, (Iv el4)), (1, (Iv el5))]) (cells := #[(Iv el4), (Iv el5)]) (evp rfl) (by kernel_rfl)) ?_
      refine jj (does_build (parts' := [(0, (.agg #[(Iv el3), (Iv el5)])), (1, (.agg #[(Iv el4), (Iv el6)])), (2, (.agg #[(Iv el4), (Iv el5)]))]) (cells := #[(Iv el3), (Iv el5), (Iv el4), (Iv el6), (Iv el4), (Iv el5)]) (evp rfl) (by kernel_rfl)) ?_
      refine sd (does_buildSlice (e := 104) (parts' := [(0, (.agg #[(Iv el3), (Iv el5), (Iv el3), (Iv el6), (Iv el4), (Iv el6)])), (1, (.agg #[(Iv el3), (Iv el5), (Iv el4), (Iv el6), (Iv el4), (Iv el5)]))]) (cells := [(Iv el3), (Iv el5), (Iv el3), (Iv el6), (Iv el4), (Iv el6), (Iv el3), (Iv el5), (Iv el4), (Iv el6), (Iv el4), (Iv el5)]) (evp rfl) (fun _ => by kernel_rfl)) ?_; rintro _ w267 ⟨b263, rfl, hb264, hB265, E266⟩
      have g269 : w.heap.size ≤ b263 := Nat.le_trans (Below.size X250) hb264
      have X270 := Ext.gr X250 E266
      refine fz ?_
      refine ja (.slice (some ⟨b263, 0, none⟩) 2 2) ?_
      refine wn K262 ?_
      refine wp_ret ?_
      dsimp only [Exit.then, Exit.inBlock]
      refine ret_val (v := (.slice (some ⟨b263, 0, none⟩) 2 2)) (res_T rfl (slot rfl)) X270 ?_
      try simp only [hel3, hel4, hel5, hel6, hβ1, hβ2] at c54 c110 c155 c200 c251
      have x271 : ([(I6T.mk el3 el5 el3 el6 el4 el6), (I6T.mk el3 el5 el4 el6 el4 el5)]) = (grp (edB [i0, i1, i2, i3])) := by (obtain rfl : k = 4 := by omega); first | (rw [edB, edP_1 (by omega) (by assumption), grp_3e]) | (rw [edB, edP_3 (by omega) (by assumption), grp_3e]) | (rw [edB, edP_2a (by omega) (by assumption) (by assumption) (by assumption) (by assumption) (by first | assumption | omega), grp_6e]) | (rw [edB, edP_2b (by omega) (by assumption) (by assumption) (by assumption) (by assumption) (by first | assumption | omega), grp_6e]) | (rw [edB, edP_0 (by omega) (by omega) (by omega), grp_0e])
      exact ⟨(.slice (some ⟨b263, 0, none⟩) 2 2), rfl, (Hang.castL (fun u hu => Sl_lit (Blk.hang hB265 g269 u hu) (by decide) (by simp) (fun i x hi => by match i, hi with | 0, hi => cases hi; exact ⟨rfl, rfl⟩ | 1, hi => cases hi; exact ⟨rfl, rfl⟩ | _ + 2, hi => simp at hi)) x271)⟩
    have c200' := c200
    (try simp only [icmp, bs] at c200')
    refine wp_skip (K107 _ _ ?_)
    refine wr fun _ K272 => ?_
    refine ja (.slice none 0 0) ?_
    refine wn K272 ?_
    refine wp_ret ?_
    refine ret_val (v := (.slice none 0 0)) (res_T rfl (slot rfl)) X106 ?_
    have x273 : ([]) = (grp (edB [i0, i1, i2, i3])) := by (obtain rfl : k = 4 := by omega); first | (rw [edB, edP_1 (by omega) (by assumption), grp_3e]) | (rw [edB, edP_3 (by omega) (by assumption), grp_3e]) | (rw [edB, edP_2a (by omega) (by assumption) (by assumption) (by assumption) (by assumption) (by first | assumption | omega), grp_6e]) | (rw [edB, edP_2b (by omega) (by assumption) (by assumption) (by assumption) (by assumption) (by first | assumption | omega), grp_6e]) | (rw [edB, edP_0 (by omega) (by omega) (by omega), grp_0e])
    exact ⟨(.slice none 0 0), rfl, (Hang.castL (Sl.hang_nil _ _ _ _) x273)⟩

end Go.Proofs.Ytjopopmipdakkaa
