/- contracts of functions, each walked once -/
import Derived.Test.YtjopopmipdakkaaA8
namespace Go.Proofs.Ytjopopmipdakkaa
open Go Go.RowKit
set_option maxRecDepth 100000
set_option maxHeartbeats 3200000
set_option linter.unusedVariables false
set_option linter.unusedSimpArgs false

/- spec.l07Mesh -/
theorem c_spec_l07Mesh (g_b : Nat) (g_o : Nat) (g : List Value) (A_g : GridT) (w : World) (hc_g : Cells w g_b g_o g) (hv_g : RGridT w A_g g) (hgr : isGrid A_g = true) : Gives Try.prog 15 #[(Pt g_b g_o)] w (fun v w' => ∃ cs_1 : List Value, v = (.agg cs_1.toArray) ∧ Hang w.heap.size w' (fun u => RMeshT u (meshG A_g) cs_1)) := by
 obtain ⟨r1, r3, r5, r7, y9, rfl, h2, h4, h6, h8, h10⟩ := hv_g
 have hs13 := h10; have hs13l := Sl.len h10; obtain ⟨p11, q12, rfl⟩ := Sl.shape h10
 have hgc := isGrid_cnt hgr
 have hgp := grid_pos hgr
 refine enter [(Pt g_b g_o), Ud, Ud, Ud, Ud, Ud, Ud, Ud, Ud, Ud, Ud, Ud, Ud, Ud, Ud, Ud, Ud, Ud, Ud, Ud, Ud, Ud, Ud, Ud, Ud, Ud, Ud, Ud, Ud, Ud, Ud, Ud, Ud, Ud, Ud, Ud, Ud, Ud, Ud, Ud, Ud, Ud, Ud, Ud, Ud, Ud, Ud, Ud, Ud, Ud, Ud, Ud, Ud, Ud, Ud, Ud, Ud, Ud, Ud, Ud, Ud, Ud, Ud, Ud, Ud, Ud, Ud, Ud, Ud, Ud, Ud, Ud, Ud, Ud, Ud] Try.func15 rfl Try.ntmps15 rfl ?_
 refine wr fun _ K14 => ?_
 refine sd (does_alloc z32) ?_; rintro _ w19 ⟨b15, rfl, hb16, hB17, E18⟩
 have g21 : w.heap.size ≤ b15 := Nat.le_trans (Below.size (Ext.refl w)) hb16
 change Blk _ _ [(.slice none 0 0), (.slice none 0 0)] at hB17
 have X22 := Ext.gr (Ext.refl w) E18
 refine fz ?_
 refine wn K14 ?_
 refine wr fun _ K23 => ?_
 have n31 : b15 < w19.heap.size := Blk.lt hB17
 refine sd (does_slice0 (e := 35) (fun _ => by kernel_rfl)) ?_; rintro _ w29 ⟨b24, rfl, hb25, hl26, hO27, E28⟩
 have X32 := Ext.gr X22 E28
 have hO33 := hO27 _ RV3 3
 refine fz ?_
 have n42 : b15 < w29.heap.size := (Nat.lt_of_lt_of_le n31 (Below.size E28))
 refine sd (does_slice0 (e := 65) (fun _ => by kernel_rfl)) ?_; rintro _ w40 ⟨b35, rfl, hb36, hl37, hO38, E39⟩
 have X43 := Ext.gr X32 E39
 have hO44 := OwnN.of_nil (R := RI) (k := 1) (C := w29.heap.size) (hO38 _ RVl 1)
 refine fz ?_
 refine jj (does_build (parts' := [(0, (.slice (some ⟨b24, 0, none⟩) 0 0)), (1, (.slice (some ⟨b35, 0, none⟩) 0 0))]) (cells := #[(.slice (some ⟨b24, 0, none⟩) 0 0), (.slice (some ⟨b35, 0, none⟩) 0 0)]) (evp rfl) (by kernel_rfl)) ?_
 refine jj (does_build (parts' := [(0, (.agg #[(.slice (some ⟨b24, 0, none⟩) 0 0), (.slice (some ⟨b35, 0, none⟩) 0 0)]))]) (cells := #[(.slice (some ⟨b24, 0, none⟩) 0 0), (.slice (some ⟨b35, 0, none⟩) 0 0), (.slice none 0 0)]) (evp rfl) (by kernel_rfl)) ?_
 refine sd (does_box (u := (.agg #[(.slice (some ⟨b24, 0, none⟩) 0 0), (.slice (some ⟨b35, 0, none⟩) 0 0), (.slice none 0 0)])) (ev rfl)) ?_; rintro _ w50 ⟨b46, rfl, hb47, hB48, E49⟩
 have n52 : b15 < b46 := Nat.lt_of_lt_of_le (Blk.lt ((hB17.ext E28).ext E39)) hb47
 have g53 : w.heap.size ≤ b46 := Nat.le_trans (Below.size X43) hb47
 change Blk _ _ [(.slice (some ⟨b24, 0, none⟩) 0 0), (.slice (some ⟨b35, 0, none⟩) 0 0), (.slice none 0 0)] at hB48
 have X54 := Ext.gr X43 E49
 refine fz ?_
 refine ja (Pt b46 0) ?_
 refine wn K23 ?_
 refine ws fun _ K55 => ?_
 refine wr fun _ K56 => ?_
 refine ja (Iv 0) ?_
 refine wn K56 ?_
 refine wp_block ?_
 have z58 := (Nat.le_trans (Below.size E39) (Below.size E49))
 have n60 : b15 < w50.heap.size := (Nat.lt_of_lt_of_le n42 z58)
 have n61 : b46 < w50.heap.size := Blk.lt hB48
 obtain ⟨gg62, hg63, hg64, hO65⟩ := Own.start' (Own.nil (R := RI) (k := 1) (e := 2) (g0 := w50.heap.size) (B := w50.heap.size) (w := w50)) (Own.nil (R := RI) (k := 1) (e := 2) (g0 := w50.heap.size) (B := w50.heap.size) (w := w50))
 have hN66 : w50.heap.size ≤ gg62 := by rcases hg63 with h | h; exact h ▸ (Nat.le_refl _); exact Nat.le_trans (Nat.le_refl _) h
 have z68 := (Nat.le_trans (Nat.le_trans (Nat.le_trans (Below.size E18) (Below.size E28)) (Below.size E39)) (Below.size E49))
 have g67 : w.heap.size ≤ gg62 := Nat.le_trans z68 hN66
 refine loop_ghost (σ := Nat) (fun k a w' => ∃ u57 : Nat → Value, ∃ y3_2 : Value, a = fr [(Pt g_b g_o), Ud, (Pt b15 0), (Pt b46 0), (Iv (k : Int)), Ud, Ud, Ud, Ud, (.slice (some ⟨b24, 0, none⟩) 0 0), (.slice (some ⟨b35, 0, none⟩) 0 0), (.agg #[(.slice (some ⟨b24, 0, none⟩) 0 0), (.slice (some ⟨b35, 0, none⟩) 0 0)]), (.agg #[(.slice (some ⟨b24, 0, none⟩) 0 0), (.slice (some ⟨b35, 0, none⟩) 0 0), (.slice none 0 0)]), (Pt b46 0), (u57 14), (u57 15), (u57 16), (u57 17), (u57 18), (u57 19), (u57 20), (u57 21), (u57 22), (u57 23), (u57 24), (u57 25), (u57 26), (u57 27), (u57 28), (u57 29), (u57 30), (u57 31), (u57 32), Ud, Ud, Ud, Ud, Ud, Ud, Ud, Ud, Ud, Ud, Ud, Ud, Ud, Ud, Ud, Ud, Ud, Ud, Ud, Ud, Ud, Ud, Ud, Ud, Ud, Ud, Ud, Ud, Ud, Ud, Ud, Ud, Ud, Ud, Ud, Ud, Ud, Ud, Ud, Ud, Ud, Ud] ∧ KpL [gg62, b46] w50 w' ∧ Own RI 1 2 gg62 w50.heap.size w' y3_2 (List.replicate k (-1 : Int)) ∧ Blk w' b46 [(.slice (some ⟨b24, 0, none⟩) 0 0), (.slice (some ⟨b35, 0, none⟩) 0 0), y3_2] ∧ (k ≤ 8 * A_g.vals.length)) (fun k => 8 * A_g.vals.length - k) 0 ?_ ?_
 ·refine ⟨pk [], (.slice none 0 0), rfl, KpL.refl _ _, (Own.cast hO65 (by rfl)), hB48, ?_⟩
  exact Nat.zero_le _
 ·rintro k a w69 ⟨u57, y3_2, rfl, E70, hO72, hB73, hk⟩
  have X74 := Below.kl X54 E70 (allS g67 (allS g53 all0)) (Nat.le_refl _)
  obtain ⟨p75, q76, rfl⟩ := Own.shape hO72
  have hzr : (List.replicate k (-1 : Int)).length = k := List.length_replicate
  refine ws fun _ K78 => ?_
  refine wr fun _ K79 => ?_
  refine jm (Iv (k : Int)) ?_
  refine jm (Pt g_b g_o) ?_
  refine jj (does_nilCheck (ev rfl)) ?_
  refine jj (does_fieldAddr (ev rfl) fa37_5) ?_
  refine jj (does_load (u := (.slice p11 A_g.vals.length q12)) (ev rfl) Try.isAgg25 (Cells.at (hc_g.ext X74) 7 rfl)) ?_
  refine jj (does_len_slice Try.underlying25 (ev rfl)) ?_
  refine jj (does_iarith (p := 8) (q := (A_g.vals.length : Int)) (r := 8 * (A_g.vals.length : Int)) (ev rfl) (ev rfl) (.inr (.inr ⟨rfl, (in_i64 (by omega) (by omega)).symm⟩))) ?_
  refine jj (does_icmp (p := (k : Int)) (q := 8 * (A_g.vals.length : Int)) (.inr (.inr (.inl rfl))) (ev rfl) (ev rfl)) ?_
  refine wn K79 ?_
  refine wp_cond_split (t := icmp .lss (k : Int) (8 * (A_g.vals.length : Int))) (ev rfl) (fun c80 => ?_) (fun c80 => ?_)
  ·have c80' := c80
   (try simp only [icmp, bs] at c80')
   refine wp_skip (K78 _ _ ?_)
   refine ws fun _ K81 => ?_
   refine wp_block ?_
   refine wp_region_lit ?_
   refine jm (Pt b46 0) ?_
   refine jm (Pt b46 0) ?_
   refine jj (does_nilCheck (ev rfl)) ?_
   refine jj (does_fieldAddr (ev rfl) fa67_1) ?_
   refine jj (does_load (u := (.slice p75 ((List.replicate k (-1 : Int)).length) q76)) (ev rfl) Try.isAgg65 (Cells.at (Blk.cells hB73) 2 rfl)) ?_
   refine sd (does_buildSlice (e := 2) (parts' := [(0, (Iv (-1)))]) (cells := [(Iv (-1))]) (evp rfl) (fun _ => by kernel_rfl)) ?_; rintro _ w86 ⟨b82, rfl, hb83, hB84, E85⟩
   refine fz ?_
   have z92 := (Nat.le_trans (KpL.size E70) (Below.size E85))
   refine sd (does_append (R := RI) (k := 1) (g0 := gg62) (B := w50.heap.size) (xs := (List.replicate k (-1 : Int))) (ys := [-1]) Try.underlying65 inf2 rfl (by decide) (ev rfl) (ev rfl) (Own.same hO72 RI.flat ((Same.refl _ _).ext E85) hN66 (Nat.le_refl _)) RI.flat hB84 rfl rfl rfl (fun i_ x_ hi_ => lit1 (R := RI) (cs := [(Iv (-1))]) (y := -1)  rfl i_ x_ hi_) (by first | (simp only [List.length_append, List.length_cons, List.length_nil]; omega) | (simp only [List.length_replicate]; omega)) z92) ?_; rintro y' w93 ⟨gg94, hg95, K96, hO97⟩
   have hN98 : w50.heap.size ≤ gg94 := by rcases hg95 with h | h; exact h ▸ hN66; exact Nat.le_trans (Nat.le_refl _) h
   obtain ⟨p101, q102, rfl⟩ := Own.shape hO97
   refine fz ?_
   refine jj (does_nilCheck (ev rfl)) ?_
   refine jj (does_fieldAddr (ev rfl) fa67_1) ?_
   refine sn (does_store (n := 1) (cs := [(.slice (some ⟨b24, 0, none⟩) 0 0), (.slice (some ⟨b35, 0, none⟩) 0 0), (.slice p75 ((List.replicate k (-1 : Int)).length) q76)]) (u := (.slice p101 (((List.replicate k (-1 : Int)) ++ [-1]).length) q102)) (ev rfl) (ev rfl) Try.sizeOf65 rfl ((hB73.ext E85).kl K96 (ninS (Nat.ne_of_lt (Nat.lt_of_lt_of_le n61 hN98)) nin0)) (Nat.le_of_ble_eq_true rfl) rfl) ?_; rintro _ w106 ⟨rfl, W104, hB105⟩
   change Blk _ _ [(.slice (some ⟨b24, 0, none⟩) 0 0), (.slice (some ⟨b35, 0, none⟩) 0 0), (.slice p101 (((List.replicate k (-1 : Int)) ++ [-1]).length) q102)] at hB105
   refine wn K81 ?_
   refine wp_region_lit ?_
   refine jm (Iv (k : Int)) ?_
   refine jj (does_iarith (p := (k : Int)) (q := 1) (r := (k : Int) + 1) (ev rfl) (ev rfl) (.inl ⟨rfl, (in_i64 (by omega) (by omega)).symm⟩)) ?_
   refine ja (Iv ((k : Int) + 1)) ?_
   refine wpList_nil ?_
   have hO108 := Own.cast (ys := ((fun (k : Nat) => List.replicate k (-1 : Int)) (k + 1))) (Own.same hO97 RI.flat ((Same.refl _ _).wr W104 (.inl n61)) hN66 (Nat.le_refl _)) (by (try dsimp only); exact List.replicate_succ'.symm)
   refine ⟨k + 1, ⟨pk [(14, Iv (k : Int)), (15, Pt g_b g_o), (16, Pt g_b g_o), (17, Pt g_b (g_o + 7)), (18, (.slice p11 A_g.vals.length q12)), (19, Iv (A_g.vals.length : Int)), (20, Iv (8 * (A_g.vals.length : Int))), (21, Bo (icmp .lss (k : Int) (8 * (A_g.vals.length : Int)))), (22, Iv (k : Int)), (23, Iv ((k : Int) + 1)), (24, Pt b46 0), (25, Pt b46 0), (26, Pt b46 0), (27, Pt b46 2), (28, (.slice p75 ((List.replicate k (-1 : Int)).length) q76)), (29, (.slice (some ⟨b82, 0, none⟩) 1 1)), (30, (.slice p101 (((List.replicate k (-1 : Int)) ++ [-1]).length) q102)), (31, Pt b46 0), (32, Pt b46 2)], (.slice p101 (((List.replicate k (-1 : Int)) ++ [-1]).length) q102), ?_, (KpL.more (KpL.more (KpL.ext E70 E85) K96 (allS (hg95.imp (fun h => by simp [h]) id) all0)) (KpL.of_wr W104) (allS (.inl (by simp)) all0)), hO108, hB105, ?_⟩, ?_⟩
   ·first | rfl | (simp only [Int.natCast_add, Int.natCast_one]; rfl)
   ·omega
   ·omega
  have c80' := c80
  (try simp only [icmp, bs] at c80')
  refine wp_exit ?_
  refine K55 _ _ ?_
  refine ws fun _ K109 => ?_
  refine wr fun _ K110 => ?_
  refine ja (Iv 0) ?_
  refine wn K110 ?_
  refine wp_block ?_
  have hl124 : (List.replicate k (-1 : Int)).length = 8 * A_g.vals.length := by rw [List.length_replicate]; omega
  obtain ⟨gr118, hp119, hg120, hR121, hcap122⟩ := Own.rowg hO72 (by omega)
  have hB123 : w50.heap.size ≤ gr118 := by rcases hg120 with h_ | h_; exact h_ ▸ hN66; exact Nat.le_trans (Nat.le_refl _) h_
  subst hp119
  have hB125 : Blk w69 b46 [(.slice (some ⟨b24, 0, none⟩) 0 0), (.slice (some ⟨b35, 0, none⟩) 0 0), (.slice (some ⟨gr118, 0, none⟩) (8 * A_g.vals.length) q76)] := by have h_ := hB73; rw [hl124] at h_; exact h_
  have z127 := (Nat.le_trans (Below.size E28) (Below.size E39))
  have z128 := (Nat.le_trans z127 (Below.size E49))
  obtain ⟨Lm114, hX115⟩ : ∃ L, MX (KW 35 65 q76 A_g) w19.heap.size A_g b46 L w69 ([], []) := ⟨_, MX.made (vp := (.slice (some ⟨b24, 0, none⟩) 0 0)) (vt := (.slice (some ⟨b35, 0, none⟩) 0 0)) (m := gr118) KW.good (Nat.le_trans z127 hb47) (Nat.le_trans z128 hB123) (Nat.ne_of_gt (Nat.lt_of_lt_of_le n61 hB123)) hB125 (RowG.cast hR121 (by rw [show k = 8 * A_g.vals.length by omega]; exact (knK_nil A_g).symm)) (Own.ows (Own.same hO33 RV3.flat ((((Same.refl _ _).ext E39).ext E49).kl E70 (allS (.inr (Nat.le_trans z58 hN66)) (allS (.inr (Nat.le_trans (Below.size E39) hb47)) all0))) hb25 (Below.size E28))) (OwnN.ows_nil (OwnN.same hO44 RI.flat (((Same.refl _ _).ext E49).kl E70 (allS (.inr (Nat.le_trans (Below.size E49) hN66)) (allS (.inr (Nat.le_trans (Nat.le_refl _) hb47)) all0))) hb36 (Below.size E39) (Nat.le_refl _))) (fun c_ h_ => by obtain rfl := Option.some.inj (show some b24 = some c_ from h_); exact ⟨(Nat.le_trans (Nat.le_refl _) hb25), (Nat.ne_of_lt (Nat.lt_of_lt_of_le (Nat.lt_of_lt_of_le hl26 (Below.size E39)) hb47)), (Nat.ne_of_lt (Nat.lt_of_lt_of_le (Nat.lt_of_lt_of_le hl26 z58) hB123)), fun h_ => (Nat.ne_of_lt (Nat.lt_of_lt_of_le hl26 hb36)) (Option.some.inj (show some b35 = some b24 from h_)).symm⟩) (fun c_ h_ => by obtain rfl := Option.some.inj (show some b35 = some c_ from h_); exact ⟨(Nat.le_trans (Below.size E28) hb36), (Nat.ne_of_lt (Nat.lt_of_lt_of_le hl37 hb47)), (Nat.ne_of_lt (Nat.lt_of_lt_of_le (Nat.lt_of_lt_of_le hl37 (Below.size E49)) hB123))⟩)⟩
  refine loop_ghost (σ := Nat) (fun z a w' => ∃ u129 : Nat → Value, a = fr [(Pt g_b g_o), Ud, (Pt b15 0), (Pt b46 0), (Iv (k : Int)), (Iv (z : Int)), (u129 6), (u129 7), (u129 8), (.slice (some ⟨b24, 0, none⟩) 0 0), (.slice (some ⟨b35, 0, none⟩) 0 0), (.agg #[(.slice (some ⟨b24, 0, none⟩) 0 0), (.slice (some ⟨b35, 0, none⟩) 0 0)]), (.agg #[(.slice (some ⟨b24, 0, none⟩) 0 0), (.slice (some ⟨b35, 0, none⟩) 0 0), (.slice none 0 0)]), (Pt b46 0), (Iv (k : Int)), (Pt g_b g_o), (Pt g_b g_o), (Pt g_b (g_o + 7)), (.slice p11 A_g.vals.length q12), (Iv (A_g.vals.length : Int)), (Iv (8 * (A_g.vals.length : Int))), (Bo (icmp .lss (k : Int) (8 * (A_g.vals.length : Int)))), (u57 22), (u57 23), (u57 24), (u57 25), (u57 26), (u57 27), (u57 28), (u57 29), (u57 30), (u57 31), (u57 32), (u129 33), (u129 34), (u129 35), (u129 36), (u129 37), (u129 38), (u129 39), (u129 40), (u129 41), (u129 42), (u129 43), (u129 44), (u129 45), (u129 46), (u129 47), (u129 48), (u129 49), (u129 50), (u129 51), (u129 52), (u129 53), (u129 54), (u129 55), (u129 56), (u129 57), (u129 58), (u129 59), (u129 60), (u129 61), (u129 62), (u129 63), (u129 64), (u129 65), (u129 66), (u129 67), (u129 68), (u129 69), (u129 70), Ud, Ud, Ud, Ud] ∧ KpL Lm114 w69 w' ∧ (∃ L', MX (KW 35 65 q76 A_g) w19.heap.size A_g b46 L' w' (volS A_g z) ∧ ∀ c ∈ L', c ∈ Lm114 ∨ w69.heap.size ≤ c) ∧ ((z : Int) + 1 ≤ A_g.z)) (fun z => A_g.z.toNat - z) 0 ?_ ?_
  ·refine ⟨pk [], rfl, KpL.refl _ _, ⟨Lm114, MX.cast hX115 (by (try dsimp only); rfl), fun c_ hc_ => .inl hc_⟩, ?_⟩
   (show (0 : Int) + 1 ≤ A_g.z); omega
  ·rintro z a w130 ⟨u129, rfl, E131, hst, hzi⟩
   have X133 := Below.kl X74 E131 (fun c_ hc_ => Nat.le_trans (Below.size E18) ((MX.bnd hX115) c_ hc_).1) (Nat.le_refl _)
   obtain ⟨Lm134, hX135, hs136⟩ := hst
   refine ws fun _ K137 => ?_
   refine wr fun _ K138 => ?_
   refine jm (Iv (z : Int)) ?_
   refine jj (does_iarith (p := (z : Int)) (q := 1) (r := (z : Int) + 1) (ev rfl) (ev rfl) (.inl ⟨rfl, (in_i64 (by omega) (by omega)).symm⟩)) ?_
   refine jm (Pt g_b g_o) ?_
   refine jj (does_nilCheck (ev rfl)) ?_
   refine jj (does_fieldAddr (ev rfl) fa37_4) ?_
   refine jj (does_load (u := (Iv A_g.z)) (ev rfl) Try.isAgg2 (Cells.at (hc_g.ext X133) 6 rfl)) ?_
   refine jj (does_icmp (p := (z : Int) + 1) (q := A_g.z) (.inr (.inr (.inl rfl))) (ev rfl) (ev rfl)) ?_
   refine wn K138 ?_
   refine wp_cond_split (t := icmp .lss ((z : Int) + 1) A_g.z) (ev rfl) (fun c139 => ?_) (fun c139 => ?_)
   ·have c139' := c139
    (try simp only [icmp, bs] at c139')
    refine wp_skip (K137 _ _ ?_)
    refine ws fun _ K140 => ?_
    refine wp_block ?_
    refine wr fun _ K141 => ?_
    refine ja (Iv 0) ?_
    refine wn K141 ?_
    refine wp_block ?_
    refine loop_ghost (σ := Nat) (fun y a w' => ∃ u142 : Nat → Value, a = fr [(Pt g_b g_o), Ud, (Pt b15 0), (Pt b46 0), (Iv (k : Int)), (Iv (z : Int)), (Iv (y : Int)), (u142 7), (u142 8), (.slice (some ⟨b24, 0, none⟩) 0 0), (.slice (some ⟨b35, 0, none⟩) 0 0), (.agg #[(.slice (some ⟨b24, 0, none⟩) 0 0), (.slice (some ⟨b35, 0, none⟩) 0 0)]), (.agg #[(.slice (some ⟨b24, 0, none⟩) 0 0), (.slice (some ⟨b35, 0, none⟩) 0 0), (.slice none 0 0)]), (Pt b46 0), (Iv (k : Int)), (Pt g_b g_o), (Pt g_b g_o), (Pt g_b (g_o + 7)), (.slice p11 A_g.vals.length q12), (Iv (A_g.vals.length : Int)), (Iv (8 * (A_g.vals.length : Int))), (Bo (icmp .lss (k : Int) (8 * (A_g.vals.length : Int)))), (u57 22), (u57 23), (u57 24), (u57 25), (u57 26), (u57 27), (u57 28), (u57 29), (u57 30), (u57 31), (u57 32), (Iv (z : Int)), (Iv ((z : Int) + 1)), (Pt g_b g_o), (Pt g_b g_o), (Pt g_b (g_o + 6)), (Iv A_g.z), (Bo (icmp .lss ((z : Int) + 1) A_g.z)), (u129 40), (u129 41), (u142 42), (u142 43), (u142 44), (u142 45), (u142 46), (u142 47), (u142 48), (u142 49), (u142 50), (u142 51), (u142 52), (u142 53), (u142 54), (u142 55), (u142 56), (u142 57), (u142 58), (u142 59), (u142 60), (u142 61), (u142 62), (u142 63), (u142 64), (u142 65), (u142 66), (u142 67), (u142 68), (u142 69), (u142 70), Ud, Ud, Ud, Ud] ∧ KpL Lm134 w130 w' ∧ (∃ L', MX (KW 35 65 q76 A_g) w19.heap.size A_g b46 L' w' (plaS A_g (z : Int) (volS A_g z) y) ∧ ∀ c ∈ L', c ∈ Lm134 ∨ w130.heap.size ≤ c) ∧ ((y : Int) + 1 ≤ A_g.y)) (fun y => A_g.y.toNat - y) 0 ?_ ?_
    ·refine ⟨pk [(7, u129 7), (8, u129 8), (42, u129 42), (43, u129 43), (44, u129 44), (45, u129 45), (46, u129 46), (47, u129 47), (48, u129 48), (49, u129 49), (50, u129 50), (51, u129 51), (52, u129 52), (53, u129 53), (54, u129 54), (55, u129 55), (56, u129 56), (57, u129 57), (58, u129 58), (59, u129 59), (60, u129 60), (61, u129 61), (62, u129 62), (63, u129 63), (64, u129 64), (65, u129 65), (66, u129 66), (67, u129 67), (68, u129 68), (69, u129 69), (70, u129 70)], rfl, KpL.refl _ _, ⟨Lm134, MX.cast hX135 (by (try dsimp only); rfl), fun c_ hc_ => .inl hc_⟩, ?_⟩
     (show (0 : Int) + 1 ≤ A_g.y); omega
    ·rintro y a w143 ⟨u142, rfl, E144, hst, hyi⟩
     have X146 := Below.kl X133 E144 (fun c_ hc_ => Nat.le_trans (Below.size E18) ((MX.bnd hX135) c_ hc_).1) (Nat.le_refl _)
     obtain ⟨Lm147, hX148, hs149⟩ := hst
     refine ws fun _ K150 => ?_
     refine wr fun _ K151 => ?_
     refine jm (Iv (y : Int)) ?_
     refine jj (does_iarith (p := (y : Int)) (q := 1) (r := (y : Int) + 1) (ev rfl) (ev rfl) (.inl ⟨rfl, (in_i64 (by omega) (by omega)).symm⟩)) ?_
     refine jm (Pt g_b g_o) ?_
     refine jj (does_nilCheck (ev rfl)) ?_
     refine jj (does_fieldAddr (ev rfl) fa37_3) ?_
     refine jj (does_load (u := (Iv A_g.y)) (ev rfl) Try.isAgg2 (Cells.at (hc_g.ext X146) 5 rfl)) ?_
     refine jj (does_icmp (p := (y : Int) + 1) (q := A_g.y) (.inr (.inr (.inl rfl))) (ev rfl) (ev rfl)) ?_
     refine wn K151 ?_
     refine wp_cond_split (t := icmp .lss ((y : Int) + 1) A_g.y) (ev rfl) (fun c152 => ?_) (fun c152 => ?_)
     ·have c152' := c152
      (try simp only [icmp, bs] at c152')
      refine wp_skip (K150 _ _ ?_)
      refine ws fun _ K153 => ?_
      refine wp_block ?_
      refine wr fun _ K154 => ?_
      refine ja (Iv 0) ?_
      refine wn K154 ?_
      refine wp_block ?_
      refine loop_ghost (σ := Nat) (fun x a w' => ∃ u155 : Nat → Value, a = fr [(Pt g_b g_o), Ud, (Pt b15 0), (Pt b46 0), (Iv (k : Int)), (Iv (z : Int)), (Iv (y : Int)), (Iv (x : Int)), (u155 8), (.slice (some ⟨b24, 0, none⟩) 0 0), (.slice (some ⟨b35, 0, none⟩) 0 0), (.agg #[(.slice (some ⟨b24, 0, none⟩) 0 0), (.slice (some ⟨b35, 0, none⟩) 0 0)]), (.agg #[(.slice (some ⟨b24, 0, none⟩) 0 0), (.slice (some ⟨b35, 0, none⟩) 0 0), (.slice none 0 0)]), (Pt b46 0), (Iv (k : Int)), (Pt g_b g_o), (Pt g_b g_o), (Pt g_b (g_o + 7)), (.slice p11 A_g.vals.length q12), (Iv (A_g.vals.length : Int)), (Iv (8 * (A_g.vals.length : Int))), (Bo (icmp .lss (k : Int) (8 * (A_g.vals.length : Int)))), (u57 22), (u57 23), (u57 24), (u57 25), (u57 26), (u57 27), (u57 28), (u57 29), (u57 30), (u57 31), (u57 32), (Iv (z : Int)), (Iv ((z : Int) + 1)), (Pt g_b g_o), (Pt g_b g_o), (Pt g_b (g_o + 6)), (Iv A_g.z), (Bo (icmp .lss ((z : Int) + 1) A_g.z)), (u129 40), (u129 41), (Iv (y : Int)), (Iv ((y : Int) + 1)), (Pt g_b g_o), (Pt g_b g_o), (Pt g_b (g_o + 5)), (Iv A_g.y), (Bo (icmp .lss ((y : Int) + 1) A_g.y)), (u142 49), (u142 50), (u155 51), (u155 52), (u155 53), (u155 54), (u155 55), (u155 56), (u155 57), (u155 58), (u155 59), (u155 60), (u155 61), (u155 62), (u155 63), (u155 64), (u155 65), (u155 66), (u155 67), (u155 68), (u155 69), (u155 70), Ud, Ud, Ud, Ud] ∧ KpL Lm147 w143 w' ∧ (∃ L', MX (KW 35 65 q76 A_g) w19.heap.size A_g b46 L' w' (rowS A_g (y : Int) (z : Int) (plaS A_g (z : Int) (volS A_g z) y) x) ∧ ∀ c ∈ L', c ∈ Lm147 ∨ w143.heap.size ≤ c) ∧ ((x : Int) + 1 ≤ A_g.x)) (fun x => A_g.x.toNat - x) 0 ?_ ?_
      ·refine ⟨pk [(8, u142 8), (51, u142 51), (52, u142 52), (53, u142 53), (54, u142 54), (55, u142 55), (56, u142 56), (57, u142 57), (58, u142 58), (59, u142 59), (60, u142 60), (61, u142 61), (62, u142 62), (63, u142 63), (64, u142 64), (65, u142 65), (66, u142 66), (67, u142 67), (68, u142 68), (69, u142 69), (70, u142 70)], rfl, KpL.refl _ _, ⟨Lm147, MX.cast hX148 (by (try dsimp only); rfl), fun c_ hc_ => .inl hc_⟩, ?_⟩
       (show (0 : Int) + 1 ≤ A_g.x); omega
      ·rintro x a w156 ⟨u155, rfl, E157, hst, hxi⟩
       have X159 := Below.kl X146 E157 (fun c_ hc_ => Nat.le_trans (Below.size E18) ((MX.bnd hX148) c_ hc_).1) (Nat.le_refl _)
       obtain ⟨Lm160, hX161, hs162⟩ := hst
       refine ws fun _ K163 => ?_
       refine wr fun _ K164 => ?_
       refine jm (Iv (x : Int)) ?_
       refine jj (does_iarith (p := (x : Int)) (q := 1) (r := (x : Int) + 1) (ev rfl) (ev rfl) (.inl ⟨rfl, (in_i64 (by omega) (by omega)).symm⟩)) ?_
       refine jm (Pt g_b g_o) ?_
       refine jj (does_nilCheck (ev rfl)) ?_
       refine jj (does_fieldAddr (ev rfl) fa37_2) ?_
       refine jj (does_load (u := (Iv A_g.x)) (ev rfl) Try.isAgg2 (Cells.at (hc_g.ext X159) 4 rfl)) ?_
       refine jj (does_icmp (p := (x : Int) + 1) (q := A_g.x) (.inr (.inr (.inl rfl))) (ev rfl) (ev rfl)) ?_
       refine wn K164 ?_
       refine wp_cond_split (t := icmp .lss ((x : Int) + 1) A_g.x) (ev rfl) (fun c165 => ?_) (fun c165 => ?_)
       ·have c165' := c165
        (try simp only [icmp, bs] at c165')
        refine wp_skip (K163 _ _ ?_)
        refine ws fun _ K166 => ?_
        refine wp_block ?_
        refine wr fun _ K167 => ?_
        refine ja (Iv 0) ?_
        refine wn K167 ?_
        refine wp_block ?_
        refine loop_ghost (σ := Nat) (fun q a w' => ∃ u168 : Nat → Value, a = fr [(Pt g_b g_o), Ud, (Pt b15 0), (Pt b46 0), (Iv (k : Int)), (Iv (z : Int)), (Iv (y : Int)), (Iv (x : Int)), (Iv (q : Int)), (.slice (some ⟨b24, 0, none⟩) 0 0), (.slice (some ⟨b35, 0, none⟩) 0 0), (.agg #[(.slice (some ⟨b24, 0, none⟩) 0 0), (.slice (some ⟨b35, 0, none⟩) 0 0)]), (.agg #[(.slice (some ⟨b24, 0, none⟩) 0 0), (.slice (some ⟨b35, 0, none⟩) 0 0), (.slice none 0 0)]), (Pt b46 0), (Iv (k : Int)), (Pt g_b g_o), (Pt g_b g_o), (Pt g_b (g_o + 7)), (.slice p11 A_g.vals.length q12), (Iv (A_g.vals.length : Int)), (Iv (8 * (A_g.vals.length : Int))), (Bo (icmp .lss (k : Int) (8 * (A_g.vals.length : Int)))), (u57 22), (u57 23), (u57 24), (u57 25), (u57 26), (u57 27), (u57 28), (u57 29), (u57 30), (u57 31), (u57 32), (Iv (z : Int)), (Iv ((z : Int) + 1)), (Pt g_b g_o), (Pt g_b g_o), (Pt g_b (g_o + 6)), (Iv A_g.z), (Bo (icmp .lss ((z : Int) + 1) A_g.z)), (u129 40), (u129 41), (Iv (y : Int)), (Iv ((y : Int) + 1)), (Pt g_b g_o), (Pt g_b g_o), (Pt g_b (g_o + 5)), (Iv A_g.y), (Bo (icmp .lss ((y : Int) + 1) A_g.y)), (u142 49), (u142 50), (Iv (x : Int)), (Iv ((x : Int) + 1)), (Pt g_b g_o), (Pt g_b g_o), (Pt g_b (g_o + 4)), (Iv A_g.x), (Bo (icmp .lss ((x : Int) + 1) A_g.x)), (u155 58), (u155 59), (u168 60), (u168 61), (u168 62), (u168 63), (u168 64), (u168 65), (u168 66), (u168 67), (u168 68), (u168 69), (u168 70), Ud, Ud, Ud, Ud] ∧ KpL Lm160 w156 w' ∧ (∃ L', MX (KW 35 65 q76 A_g) w19.heap.size A_g b46 L' w' (celS A_g (x : Int) (y : Int) (z : Int) (rowS A_g (y : Int) (z : Int) (plaS A_g (z : Int) (volS A_g z) y) x) q) ∧ ∀ c ∈ L', c ∈ Lm160 ∨ w156.heap.size ≤ c) ∧ (q ≤ 6)) (fun q => 6 - q) 0 ?_ ?_
        ·refine ⟨pk [(60, u155 60), (61, u155 61), (62, u155 62), (63, u155 63), (64, u155 64), (65, u155 65), (66, u155 66), (67, u155 67), (68, u155 68), (69, u155 69), (70, u155 70)], rfl, KpL.refl _ _, ⟨Lm160, MX.cast hX161 (by (try dsimp only); rfl), fun c_ hc_ => .inl hc_⟩, ?_⟩
         exact Nat.zero_le _
        ·rintro q a w169 ⟨u168, rfl, E170, hst, hqi⟩
         obtain ⟨Lm173, hX174, hs175⟩ := hst
         have hcur := cur_ok hgr (x := x) (y := y) (z := z) (q := q) (by omega) (by omega) (by omega) hqi
         refine ws fun _ K176 => ?_
         refine wr fun _ K177 => ?_
         refine jm (Iv (q : Int)) ?_
         refine jj (does_icmp (p := (q : Int)) (q := 6) (.inr (.inr (.inl rfl))) (ev rfl) (ev rfl)) ?_
         refine wn K177 ?_
         refine wp_cond_split (t := icmp .lss (q : Int) 6) (ev rfl) (fun c178 => ?_) (fun c178 => ?_)
         ·have c178' := c178
          (try simp only [icmp, bs] at c178')
          refine wp_skip (K176 _ _ ?_)
          refine ws fun _ K179 => ?_
          refine wp_block ?_
          refine wp_region_lit ?_
          refine jm (Pt b46 0) ?_
          refine jm (Pt g_b g_o) ?_
          refine jm (Iv (x : Int)) ?_
          refine jm (Iv (y : Int)) ?_
          refine jm (Iv (z : Int)) ?_
          refine jm (Iv (q : Int)) ?_
          refine sd (does_callK (args := #[(Pt b46 0), (Pt g_b g_o), (Iv (x : Int)), (Iv (y : Int)), (Iv (z : Int)), (Iv (q : Int))]) cal34 (evs rfl) (c_spec_l07Quarter (b_ := b46) (L := Lm173) (S := (celS A_g (x : Int) (y : Int) (z : Int) (rowS A_g (y : Int) (z : Int) (plaS A_g (z : Int) (volS A_g z) y) x) q)) (g_b := g_b) (g_o := g_o) (g := [(Fl r1), (Fl r3), (Fl r5), (Fl r7), (Iv A_g.x), (Iv A_g.y), (Iv A_g.z), (.slice p11 A_g.vals.length q12)]) (A_g := A_g) (w := w19) (hc_g := (hc_g.ext (Ext.gr (Ext.refl _) E18))) (hv_g := ⟨r1, r3, r5, r7, (.slice p11 A_g.vals.length q12), rfl, h2, h4, h6, h8, (Sl.ext hs13 RF.mono (Ext.gr (Ext.refl _) E18))⟩) (x := (x : Int)) (y := (y : Int)) (z := (z : Int)) (q_ := (q : Int)) (hgr := by first | assumption | omega) (hcel := by exact ⟨isCel_iff.2 ⟨by omega, by omega, by omega⟩, by omega, by omega, by omega⟩) (hq := by first | assumption | omega) (hcap := by omega) (hok := by exact hcur.1) (hts := by exact hcur.2) (w1 := w169) (hx1 := (Below.kl (Below.kl (Below.kl (Below.kl (Below.kl (Ext.gr (Ext.gr (Ext.gr (Ext.refl _) E28) E39) E49) E70 (allS (Nat.le_trans (Below.size (Ext.gr (Ext.gr (Ext.gr (Ext.refl _) E28) E39) E49)) hN66) (allS (Nat.le_trans (Below.size (Ext.gr (Ext.gr (Ext.refl _) E28) E39)) hb47) all0)) (Nat.le_refl _)) E131 (fun c_ hc_ => Nat.le_trans (Nat.le_refl _) ((MX.bnd hX115) c_ hc_).1) (Nat.le_refl _)) E144 (fun c_ hc_ => Nat.le_trans (Nat.le_refl _) ((MX.bnd hX135) c_ hc_).1) (Nat.le_refl _)) E157 (fun c_ hc_ => Nat.le_trans (Nat.le_refl _) ((MX.bnd hX148) c_ hc_).1) (Nat.le_refl _)) E170 (fun c_ hc_ => Nat.le_trans (Nat.le_refl _) ((MX.bnd hX161) c_ hc_).1) (Nat.le_refl _))) (h := hX174) (cap := q76))) ?_; rintro _ w187 ⟨K183, rfl, Lm184, hX185, hs186⟩
          refine fz ?_
          refine wn K179 ?_
          refine wp_region_lit ?_
          refine jm (Iv (q : Int)) ?_
          refine jj (does_iarith (p := (q : Int)) (q := 1) (r := (q : Int) + 1) (ev rfl) (ev rfl) (.inl ⟨rfl, (in_i64 (by omega) (by omega)).symm⟩)) ?_
          refine ja (Iv ((q : Int) + 1)) ?_
          refine wpList_nil ?_
          refine ⟨q + 1, ⟨pk [(60, Iv (q : Int)), (61, Bo (icmp .lss (q : Int) 6)), (62, Iv (q : Int)), (63, Iv ((q : Int) + 1)), (64, Pt b46 0), (65, Pt g_b g_o), (66, Iv (x : Int)), (67, Iv (y : Int)), (68, Iv (z : Int)), (69, Iv (q : Int)), (70, .tuple #[])], ?_, (KpL.more E170 K183 (fun c_ hc_ => ((hs175 _ hc_).elim (fun h_ => Or.inl h_) (fun h_ => Or.inr (Nat.le_trans (Nat.le_refl _) h_))))), ⟨Lm184, MX.cast hX185 (by (try dsimp only); rfl), (fun c_ hc_ => ((hs186 _ hc_).elim (fun h_ => ((hs175 _ h_).elim (fun h_ => Or.inl h_) (fun h_ => Or.inr (Nat.le_trans (Nat.le_refl _) h_)))) (fun h_ => Or.inr (Nat.le_trans (KpL.size E170) h_))))⟩, ?_⟩, ?_⟩
          ·first | rfl | (simp only [Int.natCast_add, Int.natCast_one]; rfl)
          ·(try dsimp only); omega
          ·omega
         have c178' := c178
         (try simp only [icmp, bs] at c178')
         refine wp_exit ?_
         refine K166 _ _ ?_
         refine wp_region_lit ?_
         refine jm (Iv (x : Int)) ?_
         refine jj (does_iarith (p := (x : Int)) (q := 1) (r := (x : Int) + 1) (ev rfl) (ev rfl) (.inl ⟨rfl, (in_i64 (by omega) (by omega)).symm⟩)) ?_
         refine ja (Iv ((x : Int) + 1)) ?_
         refine wpList_nil ?_
         refine ⟨x + 1, ⟨pk [(8, Iv (q : Int)), (51, Iv (x : Int)), (52, Iv ((x : Int) + 1)), (53, Pt g_b g_o), (54, Pt g_b g_o), (55, Pt g_b (g_o + 4)), (56, Iv A_g.x), (57, Bo (icmp .lss ((x : Int) + 1) A_g.x)), (58, Iv (x : Int)), (59, Iv ((x : Int) + 1)), (60, Iv (q : Int)), (61, Bo (icmp .lss (q : Int) 6)), (62, u168 62), (63, u168 63), (64, u168 64), (65, u168 65), (66, u168 66), (67, u168 67), (68, u168 68), (69, u168 69), (70, u168 70)], ?_, (KpL.more E157 E170 (fun c_ hc_ => ((hs162 _ hc_).elim (fun h_ => Or.inl h_) (fun h_ => Or.inr (Nat.le_trans (Nat.le_refl _) h_))))), ⟨Lm173, MX.cast hX174 (by (try dsimp only); rw [show q = 6 by omega]; rfl), (fun c_ hc_ => ((hs175 _ hc_).elim (fun h_ => ((hs162 _ h_).elim (fun h_ => Or.inl h_) (fun h_ => Or.inr (Nat.le_trans (Nat.le_refl _) h_)))) (fun h_ => Or.inr (Nat.le_trans (KpL.size E157) h_))))⟩, ?_⟩, ?_⟩
         ·first | rfl | (simp only [Int.natCast_add, Int.natCast_one]; rfl)
         ·(try dsimp only); omega
         ·omega
       have c165' := c165
       (try simp only [icmp, bs] at c165')
       refine wp_exit ?_
       refine K153 _ _ ?_
       refine wp_region_lit ?_
       refine jm (Iv (y : Int)) ?_
       refine jj (does_iarith (p := (y : Int)) (q := 1) (r := (y : Int) + 1) (ev rfl) (ev rfl) (.inl ⟨rfl, (in_i64 (by omega) (by omega)).symm⟩)) ?_
       refine ja (Iv ((y : Int) + 1)) ?_
       refine wpList_nil ?_
       refine ⟨y + 1, ⟨pk [(7, Iv (x : Int)), (8, u155 8), (42, Iv (y : Int)), (43, Iv ((y : Int) + 1)), (44, Pt g_b g_o), (45, Pt g_b g_o), (46, Pt g_b (g_o + 5)), (47, Iv A_g.y), (48, Bo (icmp .lss ((y : Int) + 1) A_g.y)), (49, Iv (y : Int)), (50, Iv ((y : Int) + 1)), (51, Iv (x : Int)), (52, Iv ((x : Int) + 1)), (53, Pt g_b g_o), (54, Pt g_b g_o), (55, Pt g_b (g_o + 4)), (56, Iv A_g.x), (57, Bo (icmp .lss ((x : Int) + 1) A_g.x)), (58, u155 58), (59, u155 59), (60, u155 60), (61, u155 61), (62, u155 62), (63, u155 63), (64, u155 64), (65, u155 65), (66, u155 66), (67, u155 67), (68, u155 68), (69, u155 69), (70, u155 70)], ?_, (KpL.more E144 E157 (fun c_ hc_ => ((hs149 _ hc_).elim (fun h_ => Or.inl h_) (fun h_ => Or.inr (Nat.le_trans (Nat.le_refl _) h_))))), ⟨Lm160, MX.cast hX161 (by (try dsimp only); rw [show x = (A_g.x - 1).toNat by omega]; rfl), (fun c_ hc_ => ((hs162 _ hc_).elim (fun h_ => ((hs149 _ h_).elim (fun h_ => Or.inl h_) (fun h_ => Or.inr (Nat.le_trans (Nat.le_refl _) h_)))) (fun h_ => Or.inr (Nat.le_trans (KpL.size E144) h_))))⟩, ?_⟩, ?_⟩
       ·first | rfl | (simp only [Int.natCast_add, Int.natCast_one]; rfl)
       ·(try dsimp only); omega
       ·omega
     have c152' := c152
     (try simp only [icmp, bs] at c152')
     refine wp_exit ?_
     refine K140 _ _ ?_
     refine wp_region_lit ?_
     refine jm (Iv (z : Int)) ?_
     refine jj (does_iarith (p := (z : Int)) (q := 1) (r := (z : Int) + 1) (ev rfl) (ev rfl) (.inl ⟨rfl, (in_i64 (by omega) (by omega)).symm⟩)) ?_
     refine ja (Iv ((z : Int) + 1)) ?_
     refine wpList_nil ?_
     refine ⟨z + 1, ⟨pk [(6, Iv (y : Int)), (7, u142 7), (8, u142 8), (33, Iv (z : Int)), (34, Iv ((z : Int) + 1)), (35, Pt g_b g_o), (36, Pt g_b g_o), (37, Pt g_b (g_o + 6)), (38, Iv A_g.z), (39, Bo (icmp .lss ((z : Int) + 1) A_g.z)), (40, Iv (z : Int)), (41, Iv ((z : Int) + 1)), (42, Iv (y : Int)), (43, Iv ((y : Int) + 1)), (44, Pt g_b g_o), (45, Pt g_b g_o), (46, Pt g_b (g_o + 5)), (47, Iv A_g.y), (48, Bo (icmp .lss ((y : Int) + 1) A_g.y)), (49, u142 49), (50, u142 50), (51, u142 51), (52, u142 52), (53, u142 53), (54, u142 54), (55, u142 55), (56, u142 56), (57, u142 57), (58, u142 58), (59, u142 59), (60, u142 60), (61, u142 61), (62, u142 62), (63, u142 63), (64, u142 64), (65, u142 65), (66, u142 66), (67, u142 67), (68, u142 68), (69, u142 69), (70, u142 70)], ?_, (KpL.more E131 E144 (fun c_ hc_ => ((hs136 _ hc_).elim (fun h_ => Or.inl h_) (fun h_ => Or.inr (Nat.le_trans (Nat.le_refl _) h_))))), ⟨Lm147, MX.cast hX148 (by (try dsimp only); rw [show y = (A_g.y - 1).toNat by omega]; rfl), (fun c_ hc_ => ((hs149 _ hc_).elim (fun h_ => ((hs136 _ h_).elim (fun h_ => Or.inl h_) (fun h_ => Or.inr (Nat.le_trans (Nat.le_refl _) h_)))) (fun h_ => Or.inr (Nat.le_trans (KpL.size E131) h_))))⟩, ?_⟩, ?_⟩
     ·first | rfl | (simp only [Int.natCast_add, Int.natCast_one]; rfl)
     ·(try dsimp only); omega
     ·omega
   have c139' := c139
   (try simp only [icmp, bs] at c139')
   refine wp_exit ?_
   refine K109 _ _ ?_
   refine wr fun _ K189 => ?_
   refine jm (Pt b46 0) ?_
   refine jj (does_nilCheck (ev rfl)) ?_
   refine jj (does_fieldAddr (ev rfl) fa67_0) ?_
   obtain ⟨cs190, mb191, Lw192, hB193, hb194, hH195, hW196⟩ := MX.fin hX135
   obtain ⟨y197, y199, rfl, h198, h200⟩ := hH195.get
   have h198l := Sl.len h198; obtain ⟨p201, q202, rfl⟩ := Sl.shape h198
   have hh203 : Hang w19.heap.size w130 (fun u => Sl RV3 3 u (.slice p201 (((MeshT.mk (((volS A_g z)).1.map (plK A_g)) ((volS A_g z)).2).places).length) q202) ((MeshT.mk (((volS A_g z)).1.map (plK A_g)) ((volS A_g z)).2).places)) := fun u hu => by obtain ⟨_, _, hq, _, _⟩ := hH195 u hu; cases hq; assumption
   have h200l := Sl.len h200; obtain ⟨p204, q205, rfl⟩ := Sl.shape h200
   have hh206 : Hang w19.heap.size w130 (fun u => Sl (RS RI 1) 1 u (.slice p204 (((MeshT.mk (((volS A_g z)).1.map (plK A_g)) ((volS A_g z)).2).tris).length) q205) ((MeshT.mk (((volS A_g z)).1.map (plK A_g)) ((volS A_g z)).2).tris)) := fun u hu => by obtain ⟨_, _, hq, _, _⟩ := hH195 u hu; cases hq; assumption
   have hw207 : WLM w19.heap.size w130 Lw192 (.slice p201 (((MeshT.mk (((volS A_g z)).1.map (plK A_g)) ((volS A_g z)).2).places).length) q202) (.slice p204 (((MeshT.mk (((volS A_g z)).1.map (plK A_g)) ((volS A_g z)).2).tris).length) q205) (MeshT.mk (((volS A_g z)).1.map (plK A_g)) ((volS A_g z)).2) := hW196
   refine jj (does_loadAgg (cs := [(.slice p201 (((MeshT.mk (((volS A_g z)).1.map (plK A_g)) ((volS A_g z)).2).places).length) q202), (.slice p204 (((MeshT.mk (((volS A_g z)).1.map (plK A_g)) ((volS A_g z)).2).tris).length) q205)]) (ev rfl) Try.isAgg32 Try.sizeOf32 (Cells.sub (Blk.cells (show Blk _ _ [(.slice p201 (((MeshT.mk (((volS A_g z)).1.map (plK A_g)) ((volS A_g z)).2).places).length) q202), (.slice p204 (((MeshT.mk (((volS A_g z)).1.map (plK A_g)) ((volS A_g z)).2).tris).length) q205), (.slice (some ⟨mb191, 0, none⟩) (8 * A_g.vals.length) q76)] from hB193)) 0 2) rfl) ?_
   refine sn (does_store (n := 2) (cs := [(.slice none 0 0), (.slice none 0 0)]) (u := (.agg #[(.slice p201 (((MeshT.mk (((volS A_g z)).1.map (plK A_g)) ((volS A_g z)).2).places).length) q202), (.slice p204 (((MeshT.mk (((volS A_g z)).1.map (plK A_g)) ((volS A_g z)).2).tris).length) q205)])) (ev rfl) (ev rfl) Try.sizeOf32 rfl (((((hB17.ext E28).ext E39).ext E49).kl E70 (ninS (Nat.ne_of_lt (Nat.lt_of_lt_of_le n60 hN66)) (ninS (Nat.ne_of_lt n52) nin0))).kl E131 (fun hc_ => absurd ((MX.bnd hX115) _ hc_).1 (Nat.not_le_of_lt n31))) (Nat.le_of_ble_eq_true rfl) rfl) ?_; rintro _ w211 ⟨rfl, W209, hB210⟩
   change Blk _ _ [(.slice p201 (((MeshT.mk (((volS A_g z)).1.map (plK A_g)) ((volS A_g z)).2).places).length) q202), (.slice p204 (((MeshT.mk (((volS A_g z)).1.map (plK A_g)) ((volS A_g z)).2).tris).length) q205)] at hB210
   have X212 := Below.wr X133 W209 g21
   refine wn K189 ?_
   refine wp_ret ?_
   refine ret_val (v := (.agg #[(.slice p201 (((MeshT.mk (((volS A_g z)).1.map (plK A_g)) ((volS A_g z)).2).places).length) q202), (.slice p204 (((MeshT.mk (((volS A_g z)).1.map (plK A_g)) ((volS A_g z)).2).tris).length) q205)])) (res_C rfl (slot rfl) (run_loadAgg (cs := [(.slice p201 (((MeshT.mk (((volS A_g z)).1.map (plK A_g)) ((volS A_g z)).2).places).length) q202), (.slice p204 (((MeshT.mk (((volS A_g z)).1.map (plK A_g)) ((volS A_g z)).2).tris).length) q205)]) Try.isAgg32 Try.sizeOf32 (Blk.cells hB210) rfl)) X212 ?_
   try simp only [h2, h4, h6, h8] at c80 c139
   have x213 : ((MeshT.mk (((volS A_g z)).1.map (plK A_g)) ((volS A_g z)).2).places) = ((meshG A_g).places) := by first | rfl | (rw [show z = (A_g.z - 1).toNat by omega]; rfl)
   have x214 : ((MeshT.mk (((volS A_g z)).1.map (plK A_g)) ((volS A_g z)).2).tris) = ((meshG A_g).tris) := by first | rfl | (rw [show z = (A_g.z - 1).toNat by omega]; rfl)
   exact ⟨[(.slice p201 (((MeshT.mk (((volS A_g z)).1.map (plK A_g)) ((volS A_g z)).2).places).length) q202), (.slice p204 (((MeshT.mk (((volS A_g z)).1.map (plK A_g)) ((volS A_g z)).2).tris).length) q205)], rfl, fun u hu => ⟨(.slice p201 (((MeshT.mk (((volS A_g z)).1.map (plK A_g)) ((volS A_g z)).2).places).length) q202), (.slice p204 (((MeshT.mk (((volS A_g z)).1.map (plK A_g)) ((volS A_g z)).2).tris).length) q205), rfl, (Hang.castL ((Hang.to hh203 ((Same.refl _ _).wr W209 (.inl n31))).le (Below.size (Ext.gr (Ext.refl _) E18))) x213) u hu, (Hang.castL ((Hang.to hh206 ((Same.refl _ _).wr W209 (.inl n31))).le (Below.size (Ext.gr (Ext.refl _) E18))) x214) u hu⟩⟩

end Go.Proofs.Ytjopopmipdakkaa
