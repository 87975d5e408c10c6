/- contracts of functions, each walked once -/
import Derived.Test.YtjopopmipdakkaaA5
namespace Go.Proofs.Ytjopopmipdakkaa
open Go Go.RowKit
set_option maxRecDepth 100000
set_option maxHeartbeats 3200000
set_option linter.unusedVariables false
set_option linter.unusedSimpArgs false

/- impl.meshOf -/
theorem c_impl_meshOf (g : List Value) (A_g : GridT) (w : World) (hv_g : RGridT w A_g g) (hgr : isGrid A_g = true) : Gives Try.prog 19 #[(.agg g.toArray)] w (fun v w' => ∃ cs_1 : List Value, ∃ Lw_2 : List Nat, v = (.agg cs_1.toArray) ∧ Hang w.heap.size w' (fun u => RMeshT u (meshG A_g) cs_1) ∧ WLM w.heap.size w' Lw_2 (cellN cs_1 0) (cellN cs_1 1) (meshG A_g)) := by
 obtain ⟨r1, r3, r5, r7, y9, rfl, h2, h4, h6, h8, h10⟩ := hv_g
 have hs13 := h10; have hs13l := Sl.len h10; obtain ⟨p11, q12, rfl⟩ := Sl.shape h10
 have hgc := isGrid_cnt hgr
 refine enter [(.agg #[(Fl r1), (Fl r3), (Fl r5), (Fl r7), (Iv A_g.x), (Iv A_g.y), (Iv A_g.z), (.slice p11 A_g.vals.length q12)]), Ud, Ud, Ud, Ud, Ud, Ud, Ud, Ud, Ud, Ud, Ud, Ud, Ud, Ud, Ud, Ud, Ud, Ud, Ud, Ud, Ud, Ud, Ud, Ud, Ud, Ud, Ud, Ud, Ud, Ud, Ud, Ud, Ud, Ud, Ud, Ud, Ud, Ud, Ud, Ud, Ud, Ud] Try.func19 rfl Try.ntmps19 rfl ?_
 refine wr fun _ K14 => ?_
 refine sd (does_box (u := (.agg #[(Fl r1), (Fl r3), (Fl r5), (Fl r7), (Iv A_g.x), (Iv A_g.y), (Iv A_g.z), (.slice p11 A_g.vals.length q12)])) (ev rfl)) ?_; rintro _ w19 ⟨b15, rfl, hb16, hB17, E18⟩
 change Blk _ _ [(Fl r1), (Fl r3), (Fl r5), (Fl r7), (Iv A_g.x), (Iv A_g.y), (Iv A_g.z), (.slice p11 A_g.vals.length q12)] at hB17
 have X21 := Ext.gr (Ext.refl w) E18
 refine fz ?_
 refine sd (does_alloc z32) ?_; rintro _ w26 ⟨b22, rfl, hb23, hB24, E25⟩
 have g28 : w.heap.size ≤ b22 := Nat.le_trans (Below.size X21) hb23
 change Blk _ _ [(.slice none 0 0), (.slice none 0 0)] at hB24
 have X29 := Ext.gr X21 E25
 refine fz ?_
 refine wn K14 ?_
 refine wr fun _ K30 => ?_
 refine sd (does_makeMap (κ := (Int × Int)) (ν := Int) encP (Value.int .i64) okP) ?_; rintro _ w35 ⟨bm31, rfl, hb32, hM33, E34⟩
 have X36 := Ext.gr X29 E34
 have z40 := (Nat.le_trans (Below.size E18) (Below.size E25))
 refine fz ?_
 refine jj (does_build (parts' := [(0, (Pt b15 0)), (2, (.map (some bm31)))]) (cells := #[(Pt b15 0), (.slice none 0 0), (.slice none 0 0), (.map (some bm31))]) (evp rfl) (by kernel_rfl)) ?_
 refine sd (does_alloc z73) ?_; rintro _ w45 ⟨b41, rfl, hb42, hB43, E44⟩
 have n46 : b15 < b41 := Nat.lt_of_lt_of_le (Blk.lt ((hB17.ext E25).ext E34)) hb42
 have n47 : b22 < b41 := Nat.lt_of_lt_of_le (Blk.lt (hB24.ext E34)) hb42
 have n48 : bm31 < b41 := Nat.lt_of_lt_of_le (MapL.lt hM33) hb42
 have g49 : w.heap.size ≤ b41 := Nat.le_trans (Below.size X36) hb42
 change Blk _ _ [(.pointer none), (.slice none 0 0), (.slice none 0 0), (.map none)] at hB43
 have X50 := Ext.gr X36 E44
 refine fz ?_
 refine sn (does_store (n := 4) (cs := [(.pointer none), (.slice none 0 0), (.slice none 0 0), (.map none)]) (u := (.agg #[(Pt b15 0), (.slice none 0 0), (.slice none 0 0), (.map (some bm31))])) (ev rfl) (ev rfl) Try.sizeOf73 rfl hB43 (Nat.le_of_ble_eq_true rfl) rfl) ?_; rintro _ w53 ⟨rfl, W51, hB52⟩
 change Blk _ _ [(Pt b15 0), (.slice none 0 0), (.slice none 0 0), (.map (some bm31))] at hB52
 have X54 := Below.wr X50 W51 g49
 refine wn K30 ?_
 refine ws fun _ K55 => ?_
 refine wr fun _ K56 => ?_
 refine jj (does_fieldAddr (ev rfl) fa37_5) ?_
 refine jj (does_load (u := (.slice p11 A_g.vals.length q12)) (ev rfl) Try.isAgg25 (Cells.at (Blk.cells ((((hB17.ext E25).ext E34).ext E44).wr W51 (Nat.ne_of_lt n46))) 7 rfl)) ?_
 refine jj (does_len_slice Try.underlying25 (ev rfl)) ?_
 refine jm (Iv 0) ?_
 refine wn K56 ?_
 refine wp_block ?_
 have n65 : b15 < w26.heap.size := Blk.lt (hB17.ext E25)
 have n66 : b22 < w26.heap.size := Blk.lt hB24
 obtain ⟨Lm61, hX62⟩ : ∃ L, MX (KI 35 65 b15 0 A_g) w26.heap.size A_g b41 L w53 ([], []) := ⟨_, MX.made (vp := (.slice none 0 0)) (vt := (.slice none 0 0)) (m := bm31) KI.good (Nat.le_trans (Below.size E34) hb42) (Nat.le_trans (Nat.le_refl _) hb32) (Nat.ne_of_lt n48) hB52 (MapL.kl (MapL.ext hM33 E44) (KpL.of_wr W51) (ninS (Nat.ne_of_lt n48) nin0)) OwS.nil OwS.nil (fun _ h_ => by simp [Value.ownBlock] at h_) (fun _ h_ => by simp [Value.ownBlock] at h_)⟩
 refine loop_ghost (σ := Nat) (fun k a w' => ∃ u67 : Nat → Value, a = fr [(.agg #[(Fl r1), (Fl r3), (Fl r5), (Fl r7), (Iv A_g.x), (Iv A_g.y), (Iv A_g.z), (.slice p11 A_g.vals.length q12)]), (Pt b15 0), (Pt b22 0), (Pt b41 0), (u67 4), (u67 5), (.map (some bm31)), (.agg #[(Pt b15 0), (.slice none 0 0), (.slice none 0 0), (.map (some bm31))]), (Pt b15 7), (.slice p11 A_g.vals.length q12), (Iv (A_g.vals.length : Int)), (Iv (k : Int)), (u67 12), (u67 13), (u67 14), (u67 15), (u67 16), (u67 17), (u67 18), (u67 19), (u67 20), (u67 21), (u67 22), (u67 23), (u67 24), (u67 25), (u67 26), (u67 27), (u67 28), (u67 29), (u67 30), (u67 31), (u67 32), (u67 33), (u67 34), (u67 35), (u67 36), (u67 37), (u67 38), (u67 39), (u67 40), Ud, Ud] ∧ KpL Lm61 w53 w' ∧ (∃ L', MX (KI 35 65 b15 0 A_g) w26.heap.size A_g b41 L' w' (mshS A_g k) ∧ ∀ c ∈ L', c ∈ Lm61 ∨ w53.heap.size ≤ c) ∧ (k ≤ A_g.vals.length)) (fun k => A_g.vals.length - k) 0 ?_ ?_
 ·refine ⟨pk [], rfl, KpL.refl _ _, ⟨Lm61, MX.cast hX62 (by (try dsimp only); rfl), fun c_ hc_ => .inl hc_⟩, ?_⟩
  exact Nat.zero_le _
 ·rintro k a w68 ⟨u67, rfl, E69, hst, hk⟩
  have X71 := Below.kl X54 E69 (fun c_ hc_ => Nat.le_trans z40 ((MX.bnd hX62) c_ hc_).1) (Nat.le_refl _)
  obtain ⟨Lm72, hX73, hs74⟩ := hst
  have hms := mshS_ok hgr k
  have hxe : xI A_g (k : Int) = (k : Int) % A_g.x := rfl
  have hye : yI A_g (k : Int) = (k : Int) / A_g.x % A_g.y := rfl
  have hze : zI A_g (k : Int) = (k : Int) / A_g.x / A_g.y := rfl
  have hnn := idx_nn hgr k
  have hxb : xI A_g (k : Int) < A_g.x := Int.emod_lt_of_pos _ (by omega)
  have hyb : yI A_g (k : Int) < A_g.y := Int.emod_lt_of_pos _ (by omega)
  have hzb : zI A_g (k : Int) ≤ 1024 := Int.le_trans (Int.ediv_le_self _ (Int.ediv_nonneg (by omega) (by omega))) (Int.le_trans (Int.ediv_le_self _ (by omega)) (by omega))
  refine wr fun _ K75 => ?_
  refine jj (does_icmp (p := (k : Int)) (q := (A_g.vals.length : Int)) (.inr (.inr (.inl rfl))) (ev rfl) (ev rfl)) ?_
  refine wn K75 ?_
  refine ws fun _ K76 => ?_
  refine wp_cond_split (t := icmp .lss (k : Int) (A_g.vals.length : Int)) (ev rfl) (fun c77 => ?_) (fun c77 => ?_)
  ·have c77' := c77
   (try simp only [icmp, bs] at c77')
   refine wp_skip (K76 _ _ ?_)
   refine ws fun _ K78 => ?_
   refine wp_block ?_
   refine wr fun _ K79 => ?_
   refine jm (Iv (k : Int)) ?_
   refine ja (Iv (k : Int)) ?_
   refine wn K79 ?_
   refine wr fun _ K80 => ?_
   refine jm (Iv (k : Int)) ?_
   have hz81 := (((((hB17.ext E25).ext E34).ext E44).wr W51 (Nat.ne_of_lt n46)).kl E69 (fun hc_ => absurd ((MX.bnd hX62) _ hc_).1 (Nat.not_le_of_lt n65)))
   refine sd (does_call (args := #[(Pt b15 0), (Iv (k : Int))]) cal39 (evs rfl) (c_impl_Grid_place b15 0 [(Fl r1), (Fl r3), (Fl r5), (Fl r7), (Iv A_g.x), (Iv A_g.y), (Iv A_g.z), (.slice p11 A_g.vals.length q12)] A_g (k : Int) _ (Blk.cells hz81) ⟨r1, r3, r5, r7, (.slice p11 A_g.vals.length q12), rfl, h2, h4, h6, h8, (Sl.ext hs13 RF.mono X71)⟩ (by omega) (by omega) (by omega))) ?_; rintro _ w83 ⟨E82, rfl⟩
   refine fz ?_
   refine sd (does_alloc z69) ?_; rintro _ w89 ⟨b85, rfl, hb86, hB87, E88⟩
   have n90 : b15 < b85 := Nat.lt_of_lt_of_le (Blk.lt (hz81.ext E82)) hb86
   change Blk _ _ [(Iv 0), (Iv 0), (Iv 0)] at hB87
   refine fz ?_
   refine sn (does_store (n := 3) (cs := [(Iv 0), (Iv 0), (Iv 0)]) (u := (.agg #[(Iv ((k : Int) % A_g.x)), (Iv ((k : Int) / A_g.x % A_g.y)), (Iv ((k : Int) / A_g.x / A_g.y))])) (ev rfl) (ev rfl) Try.sizeOf69 rfl hB87 (Nat.le_of_ble_eq_true rfl) rfl) ?_; rintro _ w98 ⟨rfl, W96, hB97⟩
   change Blk _ _ [(Iv ((k : Int) % A_g.x)), (Iv ((k : Int) / A_g.x % A_g.y)), (Iv ((k : Int) / A_g.x / A_g.y))] at hB97
   refine wn K80 ?_
   refine ws fun _ K100 => ?_
   obtain ⟨β1, hβ1⟩ : ∃ b : Bool, b = (icmp .lss (((k : Int) % A_g.x) + 1) A_g.x) := ⟨_, rfl⟩
   obtain ⟨β2, hβ2⟩ : ∃ b : Bool, b = (icmp .lss (((k : Int) / A_g.x % A_g.y) + 1) A_g.y) := ⟨_, rfl⟩
   obtain ⟨β3, hβ3⟩ : ∃ b : Bool, b = (icmp .lss (((k : Int) / A_g.x / A_g.y) + 1) A_g.z) := ⟨_, rfl⟩
   refine region_text (
    [Fact.pure [] (fun v => v = (Pt b85 0)),
  Fact.pure [16] (fun v => v = (Iv ((k : Int) % A_g.x))),
  Fact.pure [17] (fun v => v = (Iv (((k : Int) % A_g.x) + 1))),
  Fact.pure [] (fun v => v = (Pt b15 4)),
  Fact.pure [19] (fun v => v = (Iv A_g.x)),
  Fact.pure [18, 20] (fun v => v = (Bo β1)),
  Fact.pure [21] (fun v => v = (Bo β1)),
  Fact.pure [22] (fun v => β1 = true → v = (Pt b85 1)),
  Fact.pure [23, 22] (fun v => β1 = true → v = (Iv ((k : Int) / A_g.x % A_g.y))),
  Fact.pure [24, 22] (fun v => β1 = true → v = (Iv (((k : Int) / A_g.x % A_g.y) + 1))),
  Fact.pure [22] (fun v => β1 = true → v = (Pt b15 5)),
  Fact.pure [26, 22] (fun v => β1 = true → v = (Iv A_g.y)),
  Fact.pure [25, 27, 22] (fun v => β1 = true → v = (Bo β2)),
  Fact.pure [22, 28] (fun v => v = (Bo (β1 && β2))),
  Fact.pure [29] (fun v => v = (Bo (β1 && β2))),
  Fact.pure [30] (fun v => (β1 && β2) = true → v = (Pt b85 2)),
  Fact.pure [31, 30] (fun v => (β1 && β2) = true → v = (Iv ((k : Int) / A_g.x / A_g.y))),
  Fact.pure [32, 30] (fun v => (β1 && β2) = true → v = (Iv (((k : Int) / A_g.x / A_g.y) + 1))),
  Fact.pure [30] (fun v => (β1 && β2) = true → v = (Pt b15 6)),
  Fact.pure [34, 30] (fun v => (β1 && β2) = true → v = (Iv A_g.z)),
  Fact.pure [33, 35, 30] (fun v => (β1 && β2) = true → v = (Bo β3)),
  Fact.pure [30, 36] (fun v => v = (Bo ((β1 && β2) && β3)))]) (by simp [Fact.pure, Fact.mem]) ?_
   refine R_p (fun u hu _ => does_indexAt_run (r := (Pt b85 0)) (ev rfl) (ev rfl) (fun w => ia69_0 _ _ w)) fun v101 => ?_
   refine R_p (fun u hu hF => ?_) fun v102 => ?_
   · have h16_ : v101 = (Pt b85 0) := hF.1
     clear hF; subst h16_
     exact does_load (u := (Iv ((k : Int) % A_g.x))) (ev rfl) Try.isAgg2 (Cells.at (Blk.cells (hB97.ext hu)) 0 rfl)
   refine R_p (fun u hu hF => ?_) fun v103 => ?_
   · have h17_ : v102 = (Iv ((k : Int) % A_g.x)) := hF.1
     clear hF; subst h17_
     exact does_iarith (p := (k : Int) % A_g.x) (q := 1) (r := ((k : Int) % A_g.x) + 1) (ev rfl) (ev rfl) (.inl ⟨rfl, (in_i64 (by omega) (by omega)).symm⟩)
   refine R_p (fun u hu _ => does_fieldAddr (ev rfl) fa37_2) fun v104 => ?_
   refine R_p (fun u hu hF => ?_) fun v105 => ?_
   · have h19_ : v104 = (Pt b15 4) := hF.1
     clear hF; subst h19_
     exact does_load (u := (Iv A_g.x)) (ev rfl) Try.isAgg2 (Cells.at (Blk.cells ((((hz81.ext E82).ext E88).wr W96 (Nat.ne_of_lt n90)).ext hu)) 4 rfl)
   refine R_d (fun u hu hF => ?_) (fun v106 => ?_)
   ·have h18_ : v103 = (Iv (((k : Int) % A_g.x) + 1)) := hF.1
    have h20_ : v105 = (Iv A_g.x) := hF.2.1
    clear hF
    refine doesG_un rfl ?_
    obtain rfl := h18_
    obtain rfl := h20_
    refine (does_icmp (p := ((k : Int) % A_g.x) + 1) (q := A_g.x) (.inr (.inr (.inl rfl))) (ev rfl) (ev rfl)).mono ?_; rintro _ _ ⟨rfl, rfl⟩
    exact ⟨(by first | rfl | (show _ = _; simp only [hβ1]; done) | (show _ = _; simp only [hβ1]; rfl)), Ext.refl _⟩
   refine R_p (fun u hu hF => ?_) fun v107 => ?_
   · have h21_ : v106 = (Bo β1) := hF.1
     clear hF; subst h21_
     exact does_move (u := (Bo β1)) (ev rfl)
   refine R_d (fun u hu hF => ?_) (fun v108 => ?_)
   ·have h22_ : v107 = (Bo β1) := hF.1
    clear hF
    obtain rfl := h22_
    refine doesG_g (b := β1) rfl (yld rfl rfl) (fun hg1 => ?_) (fun hc => ⟨fun hg1 => absurd hg1 hc, Ext.refl _⟩)
    refine (does_indexAt_run (r := (Pt b85 1)) (ev rfl) (ev rfl) (fun w => ia69_1 _ _ w)).mono ?_; rintro _ _ ⟨rfl, rfl⟩
    exact ⟨fun _ => rfl, Ext.refl _⟩
   refine R_d (fun u hu hF => ?_) (fun v109 => ?_)
   ·have h23_ : β1 = true → v108 = (Pt b85 1) := hF.1
    have h22_ : v107 = (Bo β1) := hF.2.1
    clear hF
    obtain rfl := h22_
    refine doesG_g (b := β1) rfl (yld rfl rfl) (fun hg1 => ?_) (fun hc => ⟨fun hg1 => absurd hg1 hc, Ext.refl _⟩)
    obtain rfl := h23_ hg1
    refine (does_load (u := (Iv ((k : Int) / A_g.x % A_g.y))) (ev rfl) Try.isAgg2 (Cells.at (Blk.cells (hB97.ext hu)) 1 rfl)).mono ?_; rintro _ _ ⟨rfl, rfl⟩
    exact ⟨fun _ => rfl, Ext.refl _⟩
   refine R_d (fun u hu hF => ?_) (fun v110 => ?_)
   ·have h24_ : β1 = true → v109 = (Iv ((k : Int) / A_g.x % A_g.y)) := hF.1
    have h22_ : v107 = (Bo β1) := hF.2.1
    clear hF
    obtain rfl := h22_
    refine doesG_g (b := β1) rfl (yld rfl rfl) (fun hg1 => ?_) (fun hc => ⟨fun hg1 => absurd hg1 hc, Ext.refl _⟩)
    obtain rfl := h24_ hg1
    refine (does_iarith (p := (k : Int) / A_g.x % A_g.y) (q := 1) (r := ((k : Int) / A_g.x % A_g.y) + 1) (ev rfl) (ev rfl) (.inl ⟨rfl, (in_i64 (by omega) (by omega)).symm⟩)).mono ?_; rintro _ _ ⟨rfl, rfl⟩
    exact ⟨fun _ => rfl, Ext.refl _⟩
   refine R_d (fun u hu hF => ?_) (fun v111 => ?_)
   ·have h22_ : v107 = (Bo β1) := hF.1
    clear hF
    obtain rfl := h22_
    refine doesG_g (b := β1) rfl (yld rfl rfl) (fun hg1 => ?_) (fun hc => ⟨fun hg1 => absurd hg1 hc, Ext.refl _⟩)
    refine (does_fieldAddr (ev rfl) fa37_3).mono ?_; rintro _ _ ⟨rfl, rfl⟩
    exact ⟨fun _ => rfl, Ext.refl _⟩
   refine R_d (fun u hu hF => ?_) (fun v112 => ?_)
   ·have h26_ : β1 = true → v111 = (Pt b15 5) := hF.1
    have h22_ : v107 = (Bo β1) := hF.2.1
    clear hF
    obtain rfl := h22_
    refine doesG_g (b := β1) rfl (yld rfl rfl) (fun hg1 => ?_) (fun hc => ⟨fun hg1 => absurd hg1 hc, Ext.refl _⟩)
    obtain rfl := h26_ hg1
    refine (does_load (u := (Iv A_g.y)) (ev rfl) Try.isAgg2 (Cells.at (Blk.cells ((((hz81.ext E82).ext E88).wr W96 (Nat.ne_of_lt n90)).ext hu)) 5 rfl)).mono ?_; rintro _ _ ⟨rfl, rfl⟩
    exact ⟨fun _ => rfl, Ext.refl _⟩
   refine R_d (fun u hu hF => ?_) (fun v113 => ?_)
   ·have h25_ : β1 = true → v110 = (Iv (((k : Int) / A_g.x % A_g.y) + 1)) := hF.1
    have h27_ : β1 = true → v112 = (Iv A_g.y) := hF.2.1
    have h22_ : v107 = (Bo β1) := hF.2.2.1
    clear hF
    obtain rfl := h22_
    refine doesG_g (b := β1) rfl (yld rfl rfl) (fun hg1 => ?_) (fun hc => ⟨fun hg1 => absurd hg1 hc, Ext.refl _⟩)
    obtain rfl := h25_ hg1
    obtain rfl := h27_ hg1
    refine (does_icmp (p := ((k : Int) / A_g.x % A_g.y) + 1) (q := A_g.y) (.inr (.inr (.inl rfl))) (ev rfl) (ev rfl)).mono ?_; rintro _ _ ⟨rfl, rfl⟩
    exact ⟨fun _ => (by first | rfl | (show _ = _; simp only [hβ2]; done) | (show _ = _; simp only [hβ2]; rfl)), Ext.refl _⟩
   refine R_d (fun u hu hF => ?_) (fun v114 => ?_)
   ·have h22_ : v107 = (Bo β1) := hF.1
    have h28_ : β1 = true → v113 = (Bo β2) := hF.2.1
    clear hF
    refine doesG_un rfl ?_
    skip
    obtain rfl := h22_
    refine (does_pick (b := β1) (u := v113) (v := (Bo false)) (ev rfl) (ev rfl) (ev rfl)).mono ?_; rintro _ _ ⟨rfl, rfl⟩; refine ⟨?_, Ext.refl _⟩; skip
    cases hbb : β1
    all_goals first | (show _ = _; simp only [↓reduceIte, Bool.true_and, Bool.false_and, Bool.true_or, Bool.false_or, Bool.false_eq_true]; done) | (have e_ := h28_ hbb; subst e_; show _ = _; simp only [↓reduceIte, Bool.true_and, Bool.false_and, Bool.true_or, Bool.false_or, Bool.false_eq_true]; done) | rfl | (have e_ := h28_ hbb; subst e_; rfl) | (simp [hbb] at h28_ ⊢; first | done | rfl | (subst h28_; rfl) | simp_all) | (simp [hbb] at h28_ ⊢; done)
   refine R_p (fun u hu hF => ?_) fun v115 => ?_
   · have h29_ : v114 = (Bo (β1 && β2)) := hF.1
     clear hF; subst h29_
     exact does_move (u := (Bo (β1 && β2))) (ev rfl)
   refine R_d (fun u hu hF => ?_) (fun v116 => ?_)
   ·have h30_ : v115 = (Bo (β1 && β2)) := hF.1
    clear hF
    obtain rfl := h30_
    refine doesG_g (b := (β1 && β2)) rfl (yld rfl rfl) (fun hg1 => ?_) (fun hc => ⟨fun hg1 => absurd hg1 hc, Ext.refl _⟩)
    refine (does_indexAt_run (r := (Pt b85 2)) (ev rfl) (ev rfl) (fun w => ia69_2 _ _ w)).mono ?_; rintro _ _ ⟨rfl, rfl⟩
    exact ⟨fun _ => rfl, Ext.refl _⟩
   refine R_d (fun u hu hF => ?_) (fun v117 => ?_)
   ·have h31_ : (β1 && β2) = true → v116 = (Pt b85 2) := hF.1
    have h30_ : v115 = (Bo (β1 && β2)) := hF.2.1
    clear hF
    obtain rfl := h30_
    refine doesG_g (b := (β1 && β2)) rfl (yld rfl rfl) (fun hg1 => ?_) (fun hc => ⟨fun hg1 => absurd hg1 hc, Ext.refl _⟩)
    obtain rfl := h31_ hg1
    refine (does_load (u := (Iv ((k : Int) / A_g.x / A_g.y))) (ev rfl) Try.isAgg2 (Cells.at (Blk.cells (hB97.ext hu)) 2 rfl)).mono ?_; rintro _ _ ⟨rfl, rfl⟩
    exact ⟨fun _ => rfl, Ext.refl _⟩
   refine R_d (fun u hu hF => ?_) (fun v118 => ?_)
   ·have h32_ : (β1 && β2) = true → v117 = (Iv ((k : Int) / A_g.x / A_g.y)) := hF.1
    have h30_ : v115 = (Bo (β1 && β2)) := hF.2.1
    clear hF
    obtain rfl := h30_
    refine doesG_g (b := (β1 && β2)) rfl (yld rfl rfl) (fun hg1 => ?_) (fun hc => ⟨fun hg1 => absurd hg1 hc, Ext.refl _⟩)
    obtain rfl := h32_ hg1
    refine (does_iarith (p := (k : Int) / A_g.x / A_g.y) (q := 1) (r := ((k : Int) / A_g.x / A_g.y) + 1) (ev rfl) (ev rfl) (.inl ⟨rfl, (in_i64 (by omega) (by omega)).symm⟩)).mono ?_; rintro _ _ ⟨rfl, rfl⟩
    exact ⟨fun _ => rfl, Ext.refl _⟩
   refine R_d (fun u hu hF => ?_) (fun v119 => ?_)
   ·have h30_ : v115 = (Bo (β1 && β2)) := hF.1
    clear hF
    obtain rfl := h30_
    refine doesG_g (b := (β1 && β2)) rfl (yld rfl rfl) (fun hg1 => ?_) (fun hc => ⟨fun hg1 => absurd hg1 hc, Ext.refl _⟩)
    refine (does_fieldAddr (ev rfl) fa37_4).mono ?_; rintro _ _ ⟨rfl, rfl⟩
    exact ⟨fun _ => rfl, Ext.refl _⟩
   refine R_d (fun u hu hF => ?_) (fun v120 => ?_)
   ·have h34_ : (β1 && β2) = true → v119 = (Pt b15 6) := hF.1
    have h30_ : v115 = (Bo (β1 && β2)) := hF.2.1
    clear hF
    obtain rfl := h30_
    refine doesG_g (b := (β1 && β2)) rfl (yld rfl rfl) (fun hg1 => ?_) (fun hc => ⟨fun hg1 => absurd hg1 hc, Ext.refl _⟩)
    obtain rfl := h34_ hg1
    refine (does_load (u := (Iv A_g.z)) (ev rfl) Try.isAgg2 (Cells.at (Blk.cells ((((hz81.ext E82).ext E88).wr W96 (Nat.ne_of_lt n90)).ext hu)) 6 rfl)).mono ?_; rintro _ _ ⟨rfl, rfl⟩
    exact ⟨fun _ => rfl, Ext.refl _⟩
   refine R_d (fun u hu hF => ?_) (fun v121 => ?_)
   ·have h33_ : (β1 && β2) = true → v118 = (Iv (((k : Int) / A_g.x / A_g.y) + 1)) := hF.1
    have h35_ : (β1 && β2) = true → v120 = (Iv A_g.z) := hF.2.1
    have h30_ : v115 = (Bo (β1 && β2)) := hF.2.2.1
    clear hF
    obtain rfl := h30_
    refine doesG_g (b := (β1 && β2)) rfl (yld rfl rfl) (fun hg1 => ?_) (fun hc => ⟨fun hg1 => absurd hg1 hc, Ext.refl _⟩)
    obtain rfl := h33_ hg1
    obtain rfl := h35_ hg1
    refine (does_icmp (p := ((k : Int) / A_g.x / A_g.y) + 1) (q := A_g.z) (.inr (.inr (.inl rfl))) (ev rfl) (ev rfl)).mono ?_; rintro _ _ ⟨rfl, rfl⟩
    exact ⟨fun _ => (by first | rfl | (show _ = _; simp only [hβ3]; done) | (show _ = _; simp only [hβ3]; rfl)), Ext.refl _⟩
   refine R_d (fun u hu hF => ?_) (fun v122 => ?_)
   ·have h30_ : v115 = (Bo (β1 && β2)) := hF.1
    have h36_ : (β1 && β2) = true → v121 = (Bo β3) := hF.2.1
    clear hF
    refine doesG_un rfl ?_
    skip
    obtain rfl := h30_
    refine (does_pick (b := (β1 && β2)) (u := v121) (v := (Bo false)) (ev rfl) (ev rfl) (ev rfl)).mono ?_; rintro _ _ ⟨rfl, rfl⟩; refine ⟨?_, Ext.refl _⟩; skip
    cases hbb : (β1 && β2)
    all_goals first | (show _ = _; simp only [↓reduceIte, Bool.true_and, Bool.false_and, Bool.true_or, Bool.false_or, Bool.false_eq_true]; done) | (have e_ := h36_ hbb; subst e_; show _ = _; simp only [↓reduceIte, Bool.true_and, Bool.false_and, Bool.true_or, Bool.false_or, Bool.false_eq_true]; done) | rfl | (have e_ := h36_ hbb; subst e_; rfl) | (simp [hbb] at h36_ ⊢; first | done | rfl | (subst h36_; rfl) | simp_all) | (simp [hbb] at h36_ ⊢; done)
   refine RW_fin ?_; intro w123 E124 hP125
   obtain ⟨⟨⟨⟨⟨⟨⟨⟨⟨⟨⟨⟨⟨⟨⟨⟨⟨⟨⟨⟨⟨⟨-, -⟩, -⟩, -⟩, -⟩, -⟩, -⟩, -⟩, -⟩, -⟩, -⟩, -⟩, -⟩, -⟩, -⟩, -⟩, -⟩, -⟩, -⟩, -⟩, -⟩, -⟩, q126⟩ := hP125
   have q126 : v122 = (Bo ((β1 && β2) && β3)) := q126
   obtain rfl := q126
   refine fz ?_
   refine wn K100 ?_
   refine wp_cond_split (t := (β1 && β2) && β3) (ev rfl) (fun c128 => ?_) (fun c128 => ?_)
   ·have c128' := c128
    (try simp only [hβ1, hβ2, hβ3] at c128')
    (try simp only [icmp, bs] at c128')
    have hcel : isCel A_g (xI A_g (k : Int)) (yI A_g (k : Int)) (zI A_g (k : Int)) = true := isCel_iff.2 (by (try simp only [xI, yI, zI]); (try simp only [xI, yI, zI] at *); omega)
    refine wp_region_lit ?_
    refine jj (does_loadAgg (cs := [(Iv ((k : Int) % A_g.x)), (Iv ((k : Int) / A_g.x % A_g.y)), (Iv ((k : Int) / A_g.x / A_g.y))]) (ev rfl) Try.isAgg69 Try.sizeOf69 (Blk.cells (hB97.ext E124)) rfl) ?_
    have hz129 := (MX.ext KI.good (MX.kl KI.good (MX.ext KI.good (MX.ext KI.good hX73 E82) E88) (KpL.of_wr W96) (fun c_ hc_ hm_ => (List.mem_cons.1 hm_).elim (fun e_ => (fun hc_ => absurd (Nat.lt_of_lt_of_le ((MX.bnd hX73) _ hc_).2 (Nat.le_trans (Below.size E82) hb86)) (Nat.lt_irrefl _)) (e_ ▸ hc_)) (fun hm_ => nomatch hm_))) E124)
    have z130 := (Nat.le_trans (Nat.le_trans (Nat.le_trans (Nat.le_trans (KpL.size E69) (Below.size E82)) (Below.size E88)) (Nat.le_of_eq (Eq.symm (Wr.size W96)))) (Below.size E124))
    refine sd (does_callK (args := #[(Pt b41 0), (.agg #[(Iv ((k : Int) % A_g.x)), (Iv ((k : Int) / A_g.x % A_g.y)), (Iv ((k : Int) / A_g.x / A_g.y))])]) cal40 (evs rfl) (c_impl_mesher_cell (b_ := b41) (L := Lm72) (S := (mshS A_g k)) (g_b := b15) (g_o := 0) (g := [(Fl r1), (Fl r3), (Fl r5), (Fl r7), (Iv A_g.x), (Iv A_g.y), (Iv A_g.z), (.slice p11 A_g.vals.length q12)]) (A_g := A_g) (w := w26) (hc_g := (Blk.cells (hB17.ext E25))) (hv_g := ⟨r1, r3, r5, r7, (.slice p11 A_g.vals.length q12), rfl, h2, h4, h6, h8, (Sl.ext hs13 RF.mono (Ext.gr (Ext.gr (Ext.refl _) E18) E25))⟩) (x := ((k : Int) % A_g.x)) (y := ((k : Int) / A_g.x % A_g.y)) (z := ((k : Int) / A_g.x / A_g.y)) (hgr := by first | assumption | omega) (hcel := by exact ⟨hcel, hnn⟩) (hok := by exact hms.1) (hts := by have := hms.2; omega) (w1 := w123) (hx1 := (Ext.gr (Below.wr (Ext.gr (Ext.gr (Below.kl (Below.wr (Ext.gr (Ext.gr (Ext.refl _) E34) E44) W51 (Nat.le_trans (Below.size (Ext.gr (Ext.refl _) E34)) hb42)) E69 (fun c_ hc_ => Nat.le_trans (Nat.le_refl _) ((MX.bnd hX62) c_ hc_).1) (Nat.le_refl _)) E82) E88) W96 (Nat.le_trans (Below.size (Ext.gr (Below.kl (Below.wr (Ext.gr (Ext.gr (Ext.refl _) E34) E44) W51 (Nat.le_trans (Below.size (Ext.gr (Ext.refl _) E34)) hb42)) E69 (fun c_ hc_ => Nat.le_trans (Nat.le_refl _) ((MX.bnd hX62) c_ hc_).1) (Nat.le_refl _)) E82)) hb86)) E124)) (h := hz129))) ?_; rintro _ w139 ⟨K135, rfl, Lm136, hX137, hs138⟩
    refine fz ?_
    refine wn K78 ?_
    refine wp_region_lit ?_
    refine jj (does_iarith (p := (k : Int)) (q := 1) (r := (k : Int) + 1) (ev rfl) (ev rfl) (.inl ⟨rfl, (in_i64 (by omega) (by omega)).symm⟩)) ?_
    refine jm (Iv ((k : Int) + 1)) ?_
    refine wpList_nil ?_
    have z141 := (Nat.le_trans (KpL.size E69) (Below.size E82))
    refine ⟨k + 1, ⟨pk [(4, Iv (k : Int)), (5, Pt b85 0), (12, Bo (icmp .lss (k : Int) (A_g.vals.length : Int))), (13, Iv (k : Int)), (14, Iv (k : Int)), (15, .agg #[(Iv ((k : Int) % A_g.x)), (Iv ((k : Int) / A_g.x % A_g.y)), (Iv ((k : Int) / A_g.x / A_g.y))]), (16, v101), (17, v102), (18, v103), (19, v104), (20, v105), (21, v106), (22, v107), (23, v108), (24, v109), (25, v110), (26, v111), (27, v112), (28, v113), (29, v114), (30, v115), (31, v116), (32, v117), (33, v118), (34, v119), (35, v120), (36, v121), (37, Bo ((β1 && β2) && β3)), (38, .agg #[(Iv ((k : Int) % A_g.x)), (Iv ((k : Int) / A_g.x % A_g.y)), (Iv ((k : Int) / A_g.x / A_g.y))]), (39, .tuple #[]), (40, Iv ((k : Int) + 1))], ?_, (KpL.more (KpL.ext (KpL.more (KpL.ext (KpL.ext E69 E82) E88) (KpL.of_wr W96) (allS (.inr (Nat.le_trans z141 hb86)) all0)) E124) K135 (fun c_ hc_ => ((hs74 _ hc_).elim (fun h_ => Or.inl h_) (fun h_ => Or.inr (Nat.le_trans (Nat.le_refl _) h_))))), ⟨Lm136, MX.cast hX137 (by (try dsimp only); first | exact (msh_cel rfl rfl rfl hcel).symm | exact (msh_skip rfl rfl rfl hncl).symm), (fun c_ hc_ => ((hs138 _ hc_).elim (fun h_ => ((hs74 _ h_).elim (fun h_ => Or.inl h_) (fun h_ => Or.inr (Nat.le_trans (Nat.le_refl _) h_)))) (fun h_ => Or.inr (Nat.le_trans z130 h_))))⟩, ?_⟩, ?_⟩
    ·first | rfl | (simp only [Int.natCast_add, Int.natCast_one]; rfl)
    ·omega
    ·omega
   have c128' := c128
   (try simp only [hβ1, hβ2, hβ3] at c128')
   (try simp only [icmp, bs] at c128')
   have hncl : isCel A_g (xI A_g (k : Int)) (yI A_g (k : Int)) (zI A_g (k : Int)) = false := isCel_no (by (try simp only [xI, yI, zI]); (try simp only [xI, yI, zI] at *); omega)
   refine wp_skip (K78 _ _ ?_)
   refine wp_region_lit ?_
   refine jj (does_iarith (p := (k : Int)) (q := 1) (r := (k : Int) + 1) (ev rfl) (ev rfl) (.inl ⟨rfl, (in_i64 (by omega) (by omega)).symm⟩)) ?_
   refine jm (Iv ((k : Int) + 1)) ?_
   refine wpList_nil ?_
   have z142 := (Nat.le_trans (KpL.size E69) (Below.size E82))
   have hz143 := (MX.ext KI.good (MX.kl KI.good (MX.ext KI.good (MX.ext KI.good hX73 E82) E88) (KpL.of_wr W96) (fun c_ hc_ hm_ => (List.mem_cons.1 hm_).elim (fun e_ => (fun hc_ => absurd (Nat.lt_of_lt_of_le ((MX.bnd hX73) _ hc_).2 (Nat.le_trans (Below.size E82) hb86)) (Nat.lt_irrefl _)) (e_ ▸ hc_)) (fun hm_ => nomatch hm_))) E124)
   refine ⟨k + 1, ⟨pk [(4, Iv (k : Int)), (5, Pt b85 0), (12, Bo (icmp .lss (k : Int) (A_g.vals.length : Int))), (13, Iv (k : Int)), (14, Iv (k : Int)), (15, .agg #[(Iv ((k : Int) % A_g.x)), (Iv ((k : Int) / A_g.x % A_g.y)), (Iv ((k : Int) / A_g.x / A_g.y))]), (16, v101), (17, v102), (18, v103), (19, v104), (20, v105), (21, v106), (22, v107), (23, v108), (24, v109), (25, v110), (26, v111), (27, v112), (28, v113), (29, v114), (30, v115), (31, v116), (32, v117), (33, v118), (34, v119), (35, v120), (36, v121), (37, Bo ((β1 && β2) && β3)), (38, u67 38), (39, u67 39), (40, Iv ((k : Int) + 1))], ?_, (KpL.ext (KpL.more (KpL.ext (KpL.ext E69 E82) E88) (KpL.of_wr W96) (allS (.inr (Nat.le_trans z142 hb86)) all0)) E124), ⟨Lm72, MX.cast hz143 (by (try dsimp only); first | exact (msh_cel rfl rfl rfl hcel).symm | exact (msh_skip rfl rfl rfl hncl).symm), (fun c_ hc_ => ((hs74 _ hc_).elim (fun h_ => Or.inl h_) (fun h_ => Or.inr (Nat.le_trans (Nat.le_refl _) h_))))⟩, ?_⟩, ?_⟩
   ·first | rfl | (simp only [Int.natCast_add, Int.natCast_one]; rfl)
   ·omega
   ·omega
  have c77' := c77
  (try simp only [icmp, bs] at c77')
  refine wp_exit ?_
  refine K55 _ _ ?_
  refine wr fun _ K144 => ?_
  obtain ⟨cs145, mb146, Lw147, hB148, hb149, hH150, hW151⟩ := MX.fin hX73
  obtain ⟨y152, y154, rfl, h153, h155⟩ := hH150.get
  have h153l := Sl.len h153; obtain ⟨p156, q157, rfl⟩ := Sl.shape h153
  have hh158 : Hang w26.heap.size w68 (fun u => Sl RV3 3 u (.slice p156 (((MeshT.mk (((mshS A_g k)).1.map (plK A_g)) ((mshS A_g k)).2).places).length) q157) ((MeshT.mk (((mshS A_g k)).1.map (plK A_g)) ((mshS A_g k)).2).places)) := fun u hu => by obtain ⟨_, _, hq, _, _⟩ := hH150 u hu; cases hq; assumption
  have h155l := Sl.len h155; obtain ⟨p159, q160, rfl⟩ := Sl.shape h155
  have hh161 : Hang w26.heap.size w68 (fun u => Sl (RS RI 1) 1 u (.slice p159 (((MeshT.mk (((mshS A_g k)).1.map (plK A_g)) ((mshS A_g k)).2).tris).length) q160) ((MeshT.mk (((mshS A_g k)).1.map (plK A_g)) ((mshS A_g k)).2).tris)) := fun u hu => by obtain ⟨_, _, hq, _, _⟩ := hH150 u hu; cases hq; assumption
  have hw162 : WLM w26.heap.size w68 Lw147 (.slice p156 (((MeshT.mk (((mshS A_g k)).1.map (plK A_g)) ((mshS A_g k)).2).places).length) q157) (.slice p159 (((MeshT.mk (((mshS A_g k)).1.map (plK A_g)) ((mshS A_g k)).2).tris).length) q160) (MeshT.mk (((mshS A_g k)).1.map (plK A_g)) ((mshS A_g k)).2) := hW151
  refine jj (does_fieldAddr (ev rfl) fa73_1) ?_
  refine jj (does_loadAgg (cs := [(.slice p156 (((MeshT.mk (((mshS A_g k)).1.map (plK A_g)) ((mshS A_g k)).2).places).length) q157), (.slice p159 (((MeshT.mk (((mshS A_g k)).1.map (plK A_g)) ((mshS A_g k)).2).tris).length) q160)]) (ev rfl) Try.isAgg32 Try.sizeOf32 (Cells.sub (Blk.cells (show Blk _ _ [(Pt b15 0), (.slice p156 (((MeshT.mk (((mshS A_g k)).1.map (plK A_g)) ((mshS A_g k)).2).places).length) q157), (.slice p159 (((MeshT.mk (((mshS A_g k)).1.map (plK A_g)) ((mshS A_g k)).2).tris).length) q160), (.map (some mb146))] from hB148)) 1 2) rfl) ?_
  refine sn (does_store (n := 2) (cs := [(.slice none 0 0), (.slice none 0 0)]) (u := (.agg #[(.slice p156 (((MeshT.mk (((mshS A_g k)).1.map (plK A_g)) ((mshS A_g k)).2).places).length) q157), (.slice p159 (((MeshT.mk (((mshS A_g k)).1.map (plK A_g)) ((mshS A_g k)).2).tris).length) q160)])) (ev rfl) (ev rfl) Try.sizeOf32 rfl ((((hB24.ext E34).ext E44).wr W51 (Nat.ne_of_lt n47)).kl E69 (fun hc_ => absurd ((MX.bnd hX62) _ hc_).1 (Nat.not_le_of_lt n66))) (Nat.le_of_ble_eq_true rfl) rfl) ?_; rintro _ w166 ⟨rfl, W164, hB165⟩
  change Blk _ _ [(.slice p156 (((MeshT.mk (((mshS A_g k)).1.map (plK A_g)) ((mshS A_g k)).2).places).length) q157), (.slice p159 (((MeshT.mk (((mshS A_g k)).1.map (plK A_g)) ((mshS A_g k)).2).tris).length) q160)] at hB165
  have X167 := Below.wr X71 W164 g28
  refine wn K144 ?_
  refine wp_ret ?_
  refine ret_val (v := (.agg #[(.slice p156 (((MeshT.mk (((mshS A_g k)).1.map (plK A_g)) ((mshS A_g k)).2).places).length) q157), (.slice p159 (((MeshT.mk (((mshS A_g k)).1.map (plK A_g)) ((mshS A_g k)).2).tris).length) q160)])) (res_C rfl (slot rfl) (run_loadAgg (cs := [(.slice p156 (((MeshT.mk (((mshS A_g k)).1.map (plK A_g)) ((mshS A_g k)).2).places).length) q157), (.slice p159 (((MeshT.mk (((mshS A_g k)).1.map (plK A_g)) ((mshS A_g k)).2).tris).length) q160)]) Try.isAgg32 Try.sizeOf32 (Blk.cells hB165) rfl)) X167 ?_
  try simp only [h2, h4, h6, h8] at c77
  have x168 : ((MeshT.mk (((mshS A_g k)).1.map (plK A_g)) ((mshS A_g k)).2).places) = ((meshG A_g).places) := by first | rfl | (rw [show k = A_g.vals.length by omega, msh_end hgr]; rfl)
  have x169 : ((MeshT.mk (((mshS A_g k)).1.map (plK A_g)) ((mshS A_g k)).2).tris) = ((meshG A_g).tris) := by first | rfl | (rw [show k = A_g.vals.length by omega, msh_end hgr]; rfl)
  exact ⟨[(.slice p156 (((MeshT.mk (((mshS A_g k)).1.map (plK A_g)) ((mshS A_g k)).2).places).length) q157), (.slice p159 (((MeshT.mk (((mshS A_g k)).1.map (plK A_g)) ((mshS A_g k)).2).tris).length) q160)], Lw147, rfl, fun u hu => ⟨(.slice p156 (((MeshT.mk (((mshS A_g k)).1.map (plK A_g)) ((mshS A_g k)).2).places).length) q157), (.slice p159 (((MeshT.mk (((mshS A_g k)).1.map (plK A_g)) ((mshS A_g k)).2).tris).length) q160), rfl, (Hang.castL ((Hang.to hh158 ((Same.refl _ _).wr W164 (.inl n66))).le (Below.size (Ext.gr (Ext.gr (Ext.refl _) E18) E25))) x168) u hu, (Hang.castL ((Hang.to hh161 ((Same.refl _ _).wr W164 (.inl n66))).le (Below.size (Ext.gr (Ext.gr (Ext.refl _) E18) E25))) x169) u hu⟩, ((show (MeshT.mk (((mshS A_g k)).1.map (plK A_g)) ((mshS A_g k)).2) = (meshG A_g) from (by first | rfl | (first | rfl | (rw [show k = A_g.vals.length by omega, msh_end hgr]; rfl)))) ▸ WLM.le (hw162.same ((Same.refl _ _).wr W164 (.inl n66))) (Below.size (Ext.gr (Ext.gr (Ext.refl _) E18) E25)))⟩

end Go.Proofs.Ytjopopmipdakkaa
