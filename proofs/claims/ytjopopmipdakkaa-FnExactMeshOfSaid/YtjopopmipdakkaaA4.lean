/- contracts of functions, each walked once -/
import Derived.Test.YtjopopmipdakkaaA0
namespace Go.Proofs.Ytjopopmipdakkaa
open Go Go.RowKit
set_option maxRecDepth 100000
set_option maxHeartbeats 3200000
set_option linter.unusedVariables false
set_option linter.unusedSimpArgs false

/- (*impl.mesher).place -/
theorem c_impl_mesher_place (b_ : Nat) (x : Int) (y : Int) (z : Int) (c_ : Int) (d_ : Int) (g_b : Nat) (g_o : Nat) (g : List Value) (A_g : GridT) (vp : Value) (PS : List V3) (gp : Nat) (vt : Value) (MM : List ((Int × Int) × Int)) (gm : Nat) (w : World) (w1 : World) (hx1 : Ext w w1) (hc_g : Cells w g_b g_o g) (hv_g : RGridT w A_g g) (h0_b_ : w.heap.size ≤ b_) (h0_gp : w.heap.size ≤ gp) (h0_gm : w.heap.size ≤ gm) (hne_gp_b_ : gp ≠ b_) (hne_gm_b_ : gm ≠ b_) (hne_gm_gp : gm ≠ gp) (hB_b_ : Blk w1 b_ [(Pt g_b g_o), vp, vt, (.map (some gm))]) (hO_vp : ∀ B, Own RV3 3 35 gp B w1 vp PS) (hM_gm : MapL encP (Value.int .i64) okP w1 gm MM) (hgr : isGrid A_g = true) (hcel : isCel A_g x y z = true ∧ 0 ≤ x ∧ 0 ≤ y ∧ 0 ≤ z) (hpq : 0 ≤ min c_ d_ ∧ min c_ d_ < max c_ d_ ∧ max c_ d_ ≤ 7 ∧ offC A_g (min c_ d_) + offC A_g (max c_ d_ - min c_ d_) = offC A_g (max c_ d_)) (hpl : PS.length ≤ 8192) : GivesK [b_, gp, gm] Try.prog 60 #[(Pt b_ 0), (.agg #[(Iv x), (Iv y), (Iv z)]), (Iv c_), (Iv d_)] w1 (fun v w' => (v = (Iv ((atM (mmM MM PS.length (crnI A_g x y z (min c_ d_), crnI A_g x y z (max c_ d_))) (crnI A_g x y z (min c_ d_), crnI A_g x y z (max c_ d_))).getD 0))) ∧ ∃ vp' : Value, Blk w' b_ [(Pt g_b g_o), vp', vt, (.map (some gm))] ∧ Own RV3 3 35 gp w1.heap.size w' vp' (psM A_g MM PS (crnI A_g x y z (min c_ d_), crnI A_g x y z (max c_ d_)) (keyE A_g x y z (min c_ d_) (max c_ d_))) ∧ MapL encP (Value.int .i64) okP w' gm (mmM MM PS.length (crnI A_g x y z (min c_ d_), crnI A_g x y z (max c_ d_)))) := by
  obtain ⟨r1, r3, r5, r7, y9, rfl, h2, h4, h6, h8, h10⟩ := hv_g
  have hs13 := h10; have hs13l := Sl.len h10; obtain ⟨p11, q12, rfl⟩ := Sl.shape h10
  obtain ⟨p14, q15, rfl⟩ := Own.shape (hO_vp 0)
  have hlt_gm := MapL.lt hM_gm
  have hlt_b_ := Blk.lt hB_b_
  have hgc := isGrid_cnt hgr
  have hcc := cel_all hgr hcel.1 hcel.2
  obtain ⟨hc1, hc2, hc3⟩ := hcc (min c_ d_) ⟨by omega, by omega⟩
  obtain ⟨hd1, hd2, hd3⟩ := hcc (max c_ d_) ⟨by omega, by omega⟩
  have hk8 : (keyE A_g x y z (min c_ d_) (max c_ d_)) / 8 = crnI A_g x y z (min c_ d_) ∧ (keyE A_g x y z (min c_ d_) (max c_ d_)) % 8 = max c_ d_ - min c_ d_ := key_div (f := crnI A_g x y z (min c_ d_)) ⟨hpq.1, hpq.2.1, hpq.2.2.1⟩
  have hcl := isCel_iff.1 hcel.1
  have hi1 : 0 ≤ idxG A_g (x + (min c_ d_) % 2) (y + (min c_ d_) / 2 % 2) (z + (min c_ d_) / 4) ∧ idxG A_g (x + (min c_ d_) % 2) (y + (min c_ d_) / 2 % 2) (z + (min c_ d_) / 4) < A_g.vals.length := ⟨hc1, hc2⟩
  have hi2 : 0 ≤ idxG A_g (x + (max c_ d_) % 2) (y + (max c_ d_) / 2 % 2) (z + (max c_ d_) / 4) ∧ idxG A_g (x + (max c_ d_) % 2) (y + (max c_ d_) / 2 % 2) (z + (max c_ d_) / 4) < A_g.vals.length := ⟨hd1, hd2⟩
  refine enterK [(Pt b_ 0), (.agg #[(Iv x), (Iv y), (Iv z)]), (Iv c_), (Iv d_), Ud, Ud, Ud, Ud, Ud, Ud, Ud, Ud, Ud, Ud, Ud, Ud, Ud, Ud, Ud, Ud, Ud, Ud, Ud, Ud, Ud, Ud, Ud, Ud, Ud, Ud, Ud, Ud, Ud, Ud, Ud, Ud, Ud, Ud, Ud, Ud, Ud, Ud, Ud, Ud, Ud, Ud, Ud, Ud, Ud, Ud, Ud, Ud, Ud, Ud, Ud, Ud, Ud, Ud, Ud, Ud, Ud, Ud, Ud, Ud, Ud, Ud, Ud, Ud, Ud, Ud, Ud, Ud, Ud, Ud, Ud, Ud, Ud, Ud, Ud, Ud, Ud, Ud, Ud, Ud, Ud, Ud, Ud, Ud, Ud, Ud, Ud, Ud, Ud, Ud, Ud, Ud, Ud, Ud, Ud, Ud, Ud, Ud, Ud, Ud, Ud, Ud, Ud, Ud, Ud, Ud, Ud, Ud, Ud, Ud, Ud] Try.func60 rfl Try.ntmps60 rfl ?_
  refine wr fun _ K17 => ?_
  refine sd (does_box (u := (.agg #[(Iv x), (Iv y), (Iv z)])) (ev rfl)) ?_; rintro _ w22 ⟨b18, rfl, hb19, hB20, E21⟩
  change Blk _ _ [(Iv x), (Iv y), (Iv z)] at hB20
  have X27 := Ext.gr hx1 E21
  refine fz ?_
  refine ja (Iv 0) ?_
  refine wn K17 ?_
  refine ws fun _ K28 => ?_
  refine region_any3 [] [10, 11] [0, 0, 0, 6, 15, 0, 0, 0, 192, 511, 0, 0, 4095, 8191] [] (
    [FactW.pure [] [] [] true (fun v => v = (.agg #[(Iv x), (Iv y), (Iv z)])),
      FactW.pure [] [] [] true (fun v => v = (Iv c_)),
      FactW.pure [] [] [] true (fun v => v = (Iv d_)),
      FactW.pure [1, 2] [] [] true (fun v => v = (Iv (min c_ d_))),
      FactW.pure [0, 3] [] [] true (fun v => v = (.agg #[(Iv (x + (min c_ d_) % 2)), (Iv (y + (min c_ d_) / 2 % 2)), (Iv (z + (min c_ d_) / 4))])),
      FactW.pure [] [] [] true (fun v => v = (.agg #[(Iv x), (Iv y), (Iv z)])),
      FactW.pure [] [] [] true (fun v => v = (Iv c_)),
      FactW.pure [] [] [] true (fun v => v = (Iv d_)),
      FactW.pure [6, 7] [] [] true (fun v => v = (Iv (max c_ d_))),
      FactW.pure [5, 8] [] [] true (fun v => v = (.agg #[(Iv (x + (max c_ d_) % 2)), (Iv (y + (max c_ d_) / 2 % 2)), (Iv (z + (max c_ d_) / 4))])),
      FactW.mem [] [] [] [] true (fun v w' => ∃ b : Nat, v = .pointer (some ⟨b, 0, none⟩) ∧ w22.heap.size ≤ b ∧ Blk w' b [(Iv 0), (Iv 0), (Iv 0)]) (by rintro v w1 w2 hx' ⟨b, rfl, hb, hB⟩; have hx := KpL.toExt hx'; exact ⟨b, rfl, hb, (hB.ext hx)⟩),
      FactW.mem [] [] [] [] true (fun v w' => ∃ b : Nat, v = .pointer (some ⟨b, 0, none⟩) ∧ w22.heap.size ≤ b ∧ Blk w' b [(Iv 0), (Iv 0), (Iv 0)]) (by rintro v w1 w2 hx' ⟨b, rfl, hb, hB⟩; have hx := KpL.toExt hx'; exact ⟨b, rfl, hb, (hB.ext hx)⟩)]) mixed (by kernel_rfl) ?_
  obtain ⟨w29, hw31⟩ : ∃ w', w' = World.drew w22 := ⟨_, rfl⟩; rw [← hw31]; have E30 : Ext w22 w29 := by rw [hw31]; exact Ext.draw _
  clear hw31
  have X33 := Ext.gr X27 E30
  refine RW3_d _ rfl rfl (fun v => by dsimp only [List.set]; try rfl) (fun u hu hF => ?_) (fun v34 => ?_)
  · replace hu : KpL [] _ _ := hu
    clear hF
    refine doesG_un rfl ?_
    refine (does_loadAgg (cs := [(Iv x), (Iv y), (Iv z)]) (ev rfl) Try.isAgg69 Try.sizeOf69 (Blk.cells ((hB20.ext E30).ext (KpL.toExt hu))) rfl).mono ?_; rintro _ _ ⟨rfl, rfl⟩
    exact ⟨rfl, KpL.refl _ _⟩
  refine RW3_d _ rfl rfl (fun v => by dsimp only [List.set]; try rfl) (fun u hu hF => ?_) (fun v35 => ?_)
  · replace hu : KpL [] _ _ := hu
    clear hF
    refine doesG_un rfl ?_
    refine (does_move (u := (Iv c_)) (ev rfl)).mono ?_; rintro _ _ ⟨rfl, rfl⟩
    exact ⟨rfl, KpL.refl _ _⟩
  refine RW3_d _ rfl rfl (fun v => by dsimp only [List.set]; try rfl) (fun u hu hF => ?_) (fun v36 => ?_)
  · replace hu : KpL [] _ _ := hu
    clear hF
    refine doesG_un rfl ?_
    refine (does_move (u := (Iv d_)) (ev rfl)).mono ?_; rintro _ _ ⟨rfl, rfl⟩
    exact ⟨rfl, KpL.refl _ _⟩
  refine RW3_d _ rfl rfl (fun v => by dsimp only [List.set]; try rfl) (fun u hu hF => ?_) (fun v37 => ?_)
  · replace hu : KpL [] _ _ := hu
    have h18_ : v35 = (Iv c_) := hF.1
    have h19_ : v36 = (Iv d_) := hF.2.1
    clear hF
    refine doesG_un rfl ?_
    obtain rfl := h18_
    obtain rfl := h19_
    refine (does_min (p := c_) (q := d_) Try.underlying3 (ev rfl) (ev rfl)).mono ?_; rintro _ _ ⟨rfl, rfl⟩
    exact ⟨rfl, KpL.refl _ _⟩
  refine RW3_d _ rfl rfl (fun v => by dsimp only [List.set]; try rfl) (fun u hu hF => ?_) (fun v38 => ?_)
  · replace hu : KpL [] _ _ := hu
    have h17_ : v34 = (.agg #[(Iv x), (Iv y), (Iv z)]) := hF.1
    have h20_ : v37 = (Iv (min c_ d_)) := hF.2.1
    clear hF
    refine doesG_un rfl ?_
    obtain rfl := h17_
    obtain rfl := h20_
    refine (does_call (args := #[(.agg #[(Iv x), (Iv y), (Iv z)]), (Iv (min c_ d_))]) cal58 (evs rfl) (c_impl_corner x y z (min c_ d_) _ (by omega) (by omega))).mono ?_; rintro v u' ⟨hx, hv⟩
    exact ⟨hv, (KpL.of_ext hx)⟩
  refine RW3_d _ rfl rfl (fun v => by dsimp only [List.set]; try rfl) (fun u hu hF => ?_) (fun v39 => ?_)
  · replace hu : KpL [] _ _ := hu
    clear hF
    refine doesG_un rfl ?_
    refine (does_loadAgg (cs := [(Iv x), (Iv y), (Iv z)]) (ev rfl) Try.isAgg69 Try.sizeOf69 (Blk.cells ((hB20.ext E30).ext (KpL.toExt hu))) rfl).mono ?_; rintro _ _ ⟨rfl, rfl⟩
    exact ⟨rfl, KpL.refl _ _⟩
  refine RW3_d _ rfl rfl (fun v => by dsimp only [List.set]; try rfl) (fun u hu hF => ?_) (fun v40 => ?_)
  · replace hu : KpL [] _ _ := hu
    clear hF
    refine doesG_un rfl ?_
    refine (does_move (u := (Iv c_)) (ev rfl)).mono ?_; rintro _ _ ⟨rfl, rfl⟩
    exact ⟨rfl, KpL.refl _ _⟩
  refine RW3_d _ rfl rfl (fun v => by dsimp only [List.set]; try rfl) (fun u hu hF => ?_) (fun v41 => ?_)
  · replace hu : KpL [] _ _ := hu
    clear hF
    refine doesG_un rfl ?_
    refine (does_move (u := (Iv d_)) (ev rfl)).mono ?_; rintro _ _ ⟨rfl, rfl⟩
    exact ⟨rfl, KpL.refl _ _⟩
  refine RW3_d _ rfl rfl (fun v => by dsimp only [List.set]; try rfl) (fun u hu hF => ?_) (fun v42 => ?_)
  · replace hu : KpL [] _ _ := hu
    have h23_ : v40 = (Iv c_) := hF.1
    have h24_ : v41 = (Iv d_) := hF.2.1
    clear hF
    refine doesG_un rfl ?_
    obtain rfl := h23_
    obtain rfl := h24_
    refine (does_max (p := c_) (q := d_) Try.underlying3 (ev rfl) (ev rfl)).mono ?_; rintro _ _ ⟨rfl, rfl⟩
    exact ⟨rfl, KpL.refl _ _⟩
  refine RW3_d _ rfl rfl (fun v => by dsimp only [List.set]; try rfl) (fun u hu hF => ?_) (fun v43 => ?_)
  · replace hu : KpL [] _ _ := hu
    have h22_ : v39 = (.agg #[(Iv x), (Iv y), (Iv z)]) := hF.1
    have h25_ : v42 = (Iv (max c_ d_)) := hF.2.1
    clear hF
    refine doesG_un rfl ?_
    obtain rfl := h22_
    obtain rfl := h25_
    refine (does_call (args := #[(.agg #[(Iv x), (Iv y), (Iv z)]), (Iv (max c_ d_))]) cal58 (evs rfl) (c_impl_corner x y z (max c_ d_) _ (by omega) (by omega))).mono ?_; rintro v u' ⟨hx, hv⟩
    exact ⟨hv, (KpL.of_ext hx)⟩
  refine RW3_b _ rfl rfl (fun v => by dsimp only [List.set]; try rfl) (fun u hu hF => ?_) (fun v44 => ?_)
  · replace hu : KpL [] _ _ := hu
    clear hF
    refine doesG_un rfl ?_
    refine (does_alloc z69).mono ?_; rintro _ _ ⟨b, rfl, hb, hB, hx⟩
    exact ⟨⟨b, rfl, Nat.le_trans (Nat.le_trans (Below.size E30) (KpL.size hu)) hb, hB⟩, (KpL.of_ext hx), ⟨b, rfl, hb, hB.lt⟩⟩
  refine RW3_b _ rfl rfl (fun v => by dsimp only [List.set]; try rfl) (fun u hu hF => ?_) (fun v45 => ?_)
  · replace hu : KpL [] _ _ := hu
    clear hF
    refine doesG_un rfl ?_
    refine (does_alloc z69).mono ?_; rintro _ _ ⟨b, rfl, hb, hB, hx⟩
    exact ⟨⟨b, rfl, Nat.le_trans (Nat.le_trans (Below.size E30) (KpL.size hu)) hb, hB⟩, (KpL.of_ext hx), ⟨b, rfl, hb, hB.lt⟩⟩
  refine RW3_fin ?_; intro w46 E47 hP48 hND; replace E47 : KpL [] _ _ := E47
  obtain ⟨⟨⟨⟨⟨⟨⟨⟨⟨⟨⟨⟨-, -⟩, -⟩, -⟩, -⟩, q49⟩, -⟩, -⟩, -⟩, -⟩, q50⟩, q51⟩, q52⟩ := hP48
  have X53 := Below.kl X33 E47 all0 (Nat.le_refl _)
  have q49 : v38 = (.agg #[(Iv (x + (min c_ d_) % 2)), (Iv (y + (min c_ d_) / 2 % 2)), (Iv (z + (min c_ d_) / 4))]) := q49 rfl
  obtain rfl := q49
  have q50 : v43 = (.agg #[(Iv (x + (max c_ d_) % 2)), (Iv (y + (max c_ d_) / 2 % 2)), (Iv (z + (max c_ d_) / 4))]) := q50 rfl
  obtain rfl := q50
  have q51 : ∃ b : Nat, v44 = .pointer (some ⟨b, 0, none⟩) ∧ w22.heap.size ≤ b ∧ Blk w46 b [(Iv 0), (Iv 0), (Iv 0)] := q51 rfl
  obtain ⟨b54, rfl, hb55, hB56⟩ := q51
  have n58 : gm < b54 := Nat.lt_of_lt_of_le (MapL.lt (MapL.ext hM_gm E21)) hb55
  have n59 : b_ < b54 := Nat.lt_of_lt_of_le (Blk.lt (hB_b_.ext E21)) hb55
  have g61 : w.heap.size ≤ b54 := Nat.le_trans (Below.size X27) hb55
  have q52 : ∃ b : Nat, v45 = .pointer (some ⟨b, 0, none⟩) ∧ w22.heap.size ≤ b ∧ Blk w46 b [(Iv 0), (Iv 0), (Iv 0)] := q52 rfl
  obtain ⟨b62, rfl, hb63, hB64⟩ := q52
  have n66 : gm < b62 := Nat.lt_of_lt_of_le (MapL.lt (MapL.ext hM_gm E21)) hb63
  have n67 : b_ < b62 := Nat.lt_of_lt_of_le (Blk.lt (hB_b_.ext E21)) hb63
  have g69 : w.heap.size ≤ b62 := Nat.le_trans (Below.size X27) hb63
  have n70 : b62 ≠ b54 := by intro h; subst h; simp at hND
  clear hND
  refine fz ?_
  refine sn (does_store (n := 3) (cs := [(Iv 0), (Iv 0), (Iv 0)]) (u := (.agg #[(Iv (x + (min c_ d_) % 2)), (Iv (y + (min c_ d_) / 2 % 2)), (Iv (z + (min c_ d_) / 4))])) (ev rfl) (ev rfl) Try.sizeOf69 rfl hB56 (Nat.le_of_ble_eq_true rfl) rfl) ?_; rintro _ w73 ⟨rfl, W71, hB72⟩
  change Blk _ _ [(Iv (x + (min c_ d_) % 2)), (Iv (y + (min c_ d_) / 2 % 2)), (Iv (z + (min c_ d_) / 4))] at hB72
  have X74 := Below.wr X53 W71 g61
  refine sn (does_store (n := 3) (cs := [(Iv 0), (Iv 0), (Iv 0)]) (u := (.agg #[(Iv (x + (max c_ d_) % 2)), (Iv (y + (max c_ d_) / 2 % 2)), (Iv (z + (max c_ d_) / 4))])) (ev rfl) (ev rfl) Try.sizeOf69 rfl (hB64.wr W71 n70) (Nat.le_of_ble_eq_true rfl) rfl) ?_; rintro _ w77 ⟨rfl, W75, hB76⟩
  change Blk _ _ [(Iv (x + (max c_ d_) % 2)), (Iv (y + (max c_ d_) / 2 % 2)), (Iv (z + (max c_ d_) / 4))] at hB76
  have X78 := Below.wr X74 W75 g69
  refine wn K28 ?_
  refine ws fun _ K79 => ?_
  refine region_draw (
    [Fact.pure [] (fun v => v = (Pt b_ 0)),
    Fact.pure [27] (fun v => v = (Pt b_ 0)),
    Fact.pure [28] (fun v => v = (Pt b_ 0)),
    Fact.pure [29] (fun v => v = (Pt g_b g_o)),
    Fact.pure [] (fun v => v = (.agg #[(Iv (x + (min c_ d_) % 2)), (Iv (y + (min c_ d_) / 2 % 2)), (Iv (z + (min c_ d_) / 4))])),
    Fact.pure [30, 31] (fun v => v = (Iv (idxG A_g (x + (min c_ d_) % 2) (y + (min c_ d_) / 2 % 2) (z + (min c_ d_) / 4)))),
    Fact.pure [] (fun v => v = (Pt b_ 0)),
    Fact.pure [33] (fun v => v = (Pt b_ 0)),
    Fact.pure [34] (fun v => v = (Pt b_ 0)),
    Fact.pure [35] (fun v => v = (Pt g_b g_o)),
    Fact.pure [] (fun v => v = (.agg #[(Iv (x + (max c_ d_) % 2)), (Iv (y + (max c_ d_) / 2 % 2)), (Iv (z + (max c_ d_) / 4))])),
    Fact.pure [36, 37] (fun v => v = (Iv (idxG A_g (x + (max c_ d_) % 2) (y + (max c_ d_) / 2 % 2) (z + (max c_ d_) / 4)))),
    Fact.pure [32, 38] (fun v => v = (.agg #[(Iv (idxG A_g (x + (min c_ d_) % 2) (y + (min c_ d_) / 2 % 2) (z + (min c_ d_) / 4))), (Iv (idxG A_g (x + (max c_ d_) % 2) (y + (max c_ d_) / 2 % 2) (z + (max c_ d_) / 4)))])),
    Fact.mem [] (fun v w' => ∃ b : Nat, v = .pointer (some ⟨b, 0, none⟩) ∧ w77.heap.size ≤ b ∧ Blk w' b [(Iv 0), (Iv 0)]) (by rintro v w1 w2 hx ⟨b, rfl, hb, hB⟩; exact ⟨b, rfl, hb, (hB.ext hx)⟩)]) mixed (by kernel_rfl) (by intro _ _ d _ _ h; cases d <;> exact h) ?_
  obtain ⟨w80, hw82⟩ : ∃ w', w' = World.drew w77 := ⟨_, rfl⟩; rw [← hw82]; have E81 : Ext w77 w80 := by rw [hw82]; exact Ext.draw _
  clear hw82
  have X83 := Ext.gr X78 E81
  refine R_p (fun u hu _ => does_move (u := (Pt b_ 0)) (ev rfl)) fun v84 => ?_
  refine R_p (fun u hu hF => ?_) fun v85 => ?_
  · have h27_ : v84 = (Pt b_ 0) := hF.1
    clear hF; subst h27_
    exact does_nilCheck (ev rfl)
  refine R_p (fun u hu hF => ?_) fun v86 => ?_
  · have h28_ : v85 = (Pt b_ 0) := hF.1
    clear hF; subst h28_
    exact does_fieldAddr (ev rfl) fa73_0
  refine R_p (fun u hu hF => ?_) fun v87 => ?_
  · have h29_ : v86 = (Pt b_ 0) := hF.1
    clear hF; subst h29_
    exact does_load (u := (Pt g_b g_o)) (ev rfl) Try.isAgg46 (Cells.at (Blk.cells (((((((hB_b_.ext E21).ext E30).kl E47 nin0).wr W71 (Nat.ne_of_lt n59)).wr W75 (Nat.ne_of_lt n67)).ext E81).ext hu)) 0 rfl)
  refine R_p (fun u hu _ => does_loadAgg (cs := [(Iv (x + (min c_ d_) % 2)), (Iv (y + (min c_ d_) / 2 % 2)), (Iv (z + (min c_ d_) / 4))]) (ev rfl) Try.isAgg69 Try.sizeOf69 (Blk.cells (((hB72.wr W75 (Ne.symm n70)).ext E81).ext hu)) rfl) fun v88 => ?_
  refine R_d (fun u hu hF => ?_) (fun v89 => ?_)
  · have h30_ : v87 = (Pt g_b g_o) := hF.1
    have h31_ : v88 = (.agg #[(Iv (x + (min c_ d_) % 2)), (Iv (y + (min c_ d_) / 2 % 2)), (Iv (z + (min c_ d_) / 4))]) := hF.2.1
    clear hF
    refine doesG_un rfl ?_
    obtain rfl := h30_
    obtain rfl := h31_
    refine (does_call (args := #[(Pt g_b g_o), (.agg #[(Iv (x + (min c_ d_) % 2)), (Iv (y + (min c_ d_) / 2 % 2)), (Iv (z + (min c_ d_) / 4))])]) cal57 (evs rfl) (c_impl_Grid_index g_b g_o [(Fl r1), (Fl r3), (Fl r5), (Fl r7), (Iv A_g.x), (Iv A_g.y), (Iv A_g.z), (.slice p11 A_g.vals.length q12)] A_g (x + (min c_ d_) % 2) (y + (min c_ d_) / 2 % 2) (z + (min c_ d_) / 4) _ ((hc_g.ext (Ext.gr X78 E81)).ext hu) ⟨r1, r3, r5, r7, (.slice p11 A_g.vals.length q12), rfl, h2, h4, h6, h8, (Sl.ext (Sl.ext hs13 RF.mono (Ext.gr X78 E81)) RF.mono hu)⟩)).mono ?_; rintro v u' ⟨hx, hv⟩
    exact ⟨hv, hx⟩
  refine R_p (fun u hu _ => does_move (u := (Pt b_ 0)) (ev rfl)) fun v90 => ?_
  refine R_p (fun u hu hF => ?_) fun v91 => ?_
  · have h33_ : v90 = (Pt b_ 0) := hF.1
    clear hF; subst h33_
    exact does_nilCheck (ev rfl)
  refine R_p (fun u hu hF => ?_) fun v92 => ?_
  · have h34_ : v91 = (Pt b_ 0) := hF.1
    clear hF; subst h34_
    exact does_fieldAddr (ev rfl) fa73_0
  refine R_p (fun u hu hF => ?_) fun v93 => ?_
  · have h35_ : v92 = (Pt b_ 0) := hF.1
    clear hF; subst h35_
    exact does_load (u := (Pt g_b g_o)) (ev rfl) Try.isAgg46 (Cells.at (Blk.cells (((((((hB_b_.ext E21).ext E30).kl E47 nin0).wr W71 (Nat.ne_of_lt n59)).wr W75 (Nat.ne_of_lt n67)).ext E81).ext hu)) 0 rfl)
  refine R_p (fun u hu _ => does_loadAgg (cs := [(Iv (x + (max c_ d_) % 2)), (Iv (y + (max c_ d_) / 2 % 2)), (Iv (z + (max c_ d_) / 4))]) (ev rfl) Try.isAgg69 Try.sizeOf69 (Blk.cells ((hB76.ext E81).ext hu)) rfl) fun v94 => ?_
  refine R_d (fun u hu hF => ?_) (fun v95 => ?_)
  · have h36_ : v93 = (Pt g_b g_o) := hF.1
    have h37_ : v94 = (.agg #[(Iv (x + (max c_ d_) % 2)), (Iv (y + (max c_ d_) / 2 % 2)), (Iv (z + (max c_ d_) / 4))]) := hF.2.1
    clear hF
    refine doesG_un rfl ?_
    obtain rfl := h36_
    obtain rfl := h37_
    refine (does_call (args := #[(Pt g_b g_o), (.agg #[(Iv (x + (max c_ d_) % 2)), (Iv (y + (max c_ d_) / 2 % 2)), (Iv (z + (max c_ d_) / 4))])]) cal57 (evs rfl) (c_impl_Grid_index g_b g_o [(Fl r1), (Fl r3), (Fl r5), (Fl r7), (Iv A_g.x), (Iv A_g.y), (Iv A_g.z), (.slice p11 A_g.vals.length q12)] A_g (x + (max c_ d_) % 2) (y + (max c_ d_) / 2 % 2) (z + (max c_ d_) / 4) _ ((hc_g.ext (Ext.gr X78 E81)).ext hu) ⟨r1, r3, r5, r7, (.slice p11 A_g.vals.length q12), rfl, h2, h4, h6, h8, (Sl.ext (Sl.ext hs13 RF.mono (Ext.gr X78 E81)) RF.mono hu)⟩)).mono ?_; rintro v u' ⟨hx, hv⟩
    exact ⟨hv, hx⟩
  refine R_p (fun u hu hF => ?_) fun v96 => ?_
  · have h32_ : v89 = (Iv (idxG A_g (x + (min c_ d_) % 2) (y + (min c_ d_) / 2 % 2) (z + (min c_ d_) / 4))) := hF.1
    have h38_ : v95 = (Iv (idxG A_g (x + (max c_ d_) % 2) (y + (max c_ d_) / 2 % 2) (z + (max c_ d_) / 4))) := hF.2.1
    clear hF; subst h32_ h38_
    exact does_build (parts' := [(0, (Iv (idxG A_g (x + (min c_ d_) % 2) (y + (min c_ d_) / 2 % 2) (z + (min c_ d_) / 4)))), (1, (Iv (idxG A_g (x + (max c_ d_) % 2) (y + (max c_ d_) / 2 % 2) (z + (max c_ d_) / 4))))]) (cells := #[(Iv (idxG A_g (x + (min c_ d_) % 2) (y + (min c_ d_) / 2 % 2) (z + (min c_ d_) / 4))), (Iv (idxG A_g (x + (max c_ d_) % 2) (y + (max c_ d_) / 2 % 2) (z + (max c_ d_) / 4)))]) (evp rfl) (by kernel_rfl)
  refine R_d (fun u hu hF => ?_) (fun v97 => ?_)
  · clear hF
    refine doesG_un rfl ?_
    refine (does_alloc z117).mono ?_; rintro _ _ ⟨b, rfl, hb, hB, hx⟩
    exact ⟨⟨b, rfl, Nat.le_trans (Nat.le_trans (Below.size E81) (Below.size hu)) hb, hB⟩, hx⟩
  refine RW_fin ?_; intro w98 E99 hP100
  obtain ⟨⟨⟨⟨⟨⟨⟨⟨⟨⟨⟨⟨⟨⟨-, -⟩, -⟩, -⟩, -⟩, -⟩, -⟩, -⟩, -⟩, -⟩, -⟩, -⟩, -⟩, q101⟩, q102⟩ := hP100
  have X103 := Ext.gr X83 E99
  have q101 : v96 = (.agg #[(Iv (idxG A_g (x + (min c_ d_) % 2) (y + (min c_ d_) / 2 % 2) (z + (min c_ d_) / 4))), (Iv (idxG A_g (x + (max c_ d_) % 2) (y + (max c_ d_) / 2 % 2) (z + (max c_ d_) / 4)))]) := q101
  obtain rfl := q101
  have q102 : ∃ b : Nat, v97 = .pointer (some ⟨b, 0, none⟩) ∧ w77.heap.size ≤ b ∧ Blk w98 b [(Iv 0), (Iv 0)] := q102
  obtain ⟨b104, rfl, hb105, hB106⟩ := q102
  have n108 : gm < b104 := Nat.lt_of_lt_of_le (MapL.lt (MapL.kl (MapL.kl (MapL.kl (MapL.ext (MapL.ext hM_gm E21) E30) E47 nin0) (KpL.of_wr W71) (ninS (Nat.ne_of_lt n58) nin0)) (KpL.of_wr W75) (ninS (Nat.ne_of_lt n66) nin0))) hb105
  have n109 : b_ < b104 := Nat.lt_of_lt_of_le (Blk.lt (((((hB_b_.ext E21).ext E30).kl E47 nin0).wr W71 (Nat.ne_of_lt n59)).wr W75 (Nat.ne_of_lt n67))) hb105
  have n111 : b54 < b104 := Nat.lt_of_lt_of_le (Blk.lt (hB72.wr W75 (Ne.symm n70))) hb105
  have n112 : b62 < b104 := Nat.lt_of_lt_of_le (Blk.lt hB76) hb105
  have g113 : w.heap.size ≤ b104 := Nat.le_trans (Below.size X78) hb105
  refine fz ?_
  refine sn (does_store (n := 2) (cs := [(Iv 0), (Iv 0)]) (u := (.agg #[(Iv (idxG A_g (x + (min c_ d_) % 2) (y + (min c_ d_) / 2 % 2) (z + (min c_ d_) / 4))), (Iv (idxG A_g (x + (max c_ d_) % 2) (y + (max c_ d_) / 2 % 2) (z + (max c_ d_) / 4)))])) (ev rfl) (ev rfl) Try.sizeOf117 rfl hB106 (Nat.le_of_ble_eq_true rfl) rfl) ?_; rintro _ w116 ⟨rfl, W114, hB115⟩
  change Blk _ _ [(Iv (idxG A_g (x + (min c_ d_) % 2) (y + (min c_ d_) / 2 % 2) (z + (min c_ d_) / 4))), (Iv (idxG A_g (x + (max c_ d_) % 2) (y + (max c_ d_) / 2 % 2) (z + (max c_ d_) / 4)))] at hB115
  have X117 := Below.wr X103 W114 g113
  refine wn K79 ?_
  refine ws fun _ K118 => ?_
  refine ws fun _ K119 => ?_
  obtain ⟨β1, hβ1⟩ : ∃ b : Bool, b = ((atM MM (idxG A_g (x + (min c_ d_) % 2) (y + (min c_ d_) / 2 % 2) (z + (min c_ d_) / 4), idxG A_g (x + (max c_ d_) % 2) (y + (max c_ d_) / 2 % 2) (z + (max c_ d_) / 4))).isSome) := ⟨_, rfl⟩
  refine region_draw (
    [Fact.pure [] (fun v => v = (Pt b_ 0)),
    Fact.pure [41] (fun v => v = (Pt b_ 0)),
    Fact.pure [42] (fun v => v = (Pt b_ 3)),
    Fact.pure [43] (fun v => v = (.map (some gm))),
    Fact.pure [] (fun v => v = (.agg #[(Iv (idxG A_g (x + (min c_ d_) % 2) (y + (min c_ d_) / 2 % 2) (z + (min c_ d_) / 4))), (Iv (idxG A_g (x + (max c_ d_) % 2) (y + (max c_ d_) / 2 % 2) (z + (max c_ d_) / 4)))])),
    Fact.pure [44, 45] (fun v => v = (.tuple #[(Iv ((atM MM (idxG A_g (x + (min c_ d_) % 2) (y + (min c_ d_) / 2 % 2) (z + (min c_ d_) / 4), idxG A_g (x + (max c_ d_) % 2) (y + (max c_ d_) / 2 % 2) (z + (max c_ d_) / 4))).getD (0 : Int))), (Bo ((atM MM (idxG A_g (x + (min c_ d_) % 2) (y + (min c_ d_) / 2 % 2) (z + (min c_ d_) / 4), idxG A_g (x + (max c_ d_) % 2) (y + (max c_ d_) / 2 % 2) (z + (max c_ d_) / 4))).isSome))])),
    Fact.pure [46] (fun v => v = (.tuple #[(Iv ((atM MM (idxG A_g (x + (min c_ d_) % 2) (y + (min c_ d_) / 2 % 2) (z + (min c_ d_) / 4), idxG A_g (x + (max c_ d_) % 2) (y + (max c_ d_) / 2 % 2) (z + (max c_ d_) / 4))).getD (0 : Int))), (Bo ((atM MM (idxG A_g (x + (min c_ d_) % 2) (y + (min c_ d_) / 2 % 2) (z + (min c_ d_) / 4), idxG A_g (x + (max c_ d_) % 2) (y + (max c_ d_) / 2 % 2) (z + (max c_ d_) / 4))).isSome))])),
    Fact.pure [40] (fun v => v = (Iv ((atM MM (idxG A_g (x + (min c_ d_) % 2) (y + (min c_ d_) / 2 % 2) (z + (min c_ d_) / 4), idxG A_g (x + (max c_ d_) % 2) (y + (max c_ d_) / 2 % 2) (z + (max c_ d_) / 4))).getD (0 : Int)))),
    Fact.flt [40] (fun v => v = (Bo β1))]) mixed (by kernel_rfl) (by intro _ _ d _ _ h; cases d <;> exact h) ?_
  obtain ⟨w120, hw122⟩ : ∃ w', w' = World.drew w116 := ⟨_, rfl⟩; rw [← hw122]; have E121 : Ext w116 w120 := by rw [hw122]; exact Ext.draw _
  clear hw122
  have X123 := Ext.gr X117 E121
  refine R_p (fun u hu _ => does_move (u := (Pt b_ 0)) (ev rfl)) fun v124 => ?_
  refine R_p (fun u hu hF => ?_) fun v125 => ?_
  · have h41_ : v124 = (Pt b_ 0) := hF.1
    clear hF; subst h41_
    exact does_nilCheck (ev rfl)
  refine R_p (fun u hu hF => ?_) fun v126 => ?_
  · have h42_ : v125 = (Pt b_ 0) := hF.1
    clear hF; subst h42_
    exact does_fieldAddr (ev rfl) fa73_2
  refine R_p (fun u hu hF => ?_) fun v127 => ?_
  · have h43_ : v126 = (Pt b_ 3) := hF.1
    clear hF; subst h43_
    exact does_load (u := (.map (some gm))) (ev rfl) Try.isAgg71 (Cells.at (Blk.cells ((((((((((hB_b_.ext E21).ext E30).kl E47 nin0).wr W71 (Nat.ne_of_lt n59)).wr W75 (Nat.ne_of_lt n67)).ext E81).ext E99).wr W114 (Nat.ne_of_lt n109)).ext E121).ext hu)) 3 rfl)
  refine R_p (fun u hu _ => does_loadAgg (cs := [(Iv (idxG A_g (x + (min c_ d_) % 2) (y + (min c_ d_) / 2 % 2) (z + (min c_ d_) / 4))), (Iv (idxG A_g (x + (max c_ d_) % 2) (y + (max c_ d_) / 2 % 2) (z + (max c_ d_) / 4)))]) (ev rfl) Try.isAgg117 Try.sizeOf117 (Blk.cells ((hB115.ext E121).ext hu)) rfl) fun v128 => ?_
  refine R_p (fun u hu hF => ?_) fun v129 => ?_
  · have h44_ : v127 = (.map (some gm)) := hF.1
    have h45_ : v128 = (.agg #[(Iv (idxG A_g (x + (min c_ d_) % 2) (y + (min c_ d_) / 2 % 2) (z + (min c_ d_) / 4))), (Iv (idxG A_g (x + (max c_ d_) % 2) (y + (max c_ d_) / 2 % 2) (z + (max c_ d_) / 4)))]) := hF.2.1
    clear hF; subst h44_ h45_
    exact does_lookup2 (l := MM) (p := (idxG A_g (x + (min c_ d_) % 2) (y + (min c_ d_) / 2 % 2) (z + (min c_ d_) / 4), idxG A_g (x + (max c_ d_) % 2) (y + (max c_ d_) / 2 % 2) (z + (max c_ d_) / 4))) (z := (0 : Int)) kE117 Try.underlying71 Try.zeroValue2 (ev rfl) (ev rfl) (MapL.ext (MapL.ext (MapL.kl (MapL.ext (MapL.ext (MapL.kl (MapL.kl (MapL.kl (MapL.ext (MapL.ext hM_gm E21) E30) E47 nin0) (KpL.of_wr W71) (ninS (Nat.ne_of_lt n58) nin0)) (KpL.of_wr W75) (ninS (Nat.ne_of_lt n66) nin0)) E81) E99) (KpL.of_wr W114) (ninS (Nat.ne_of_lt n108) nin0)) E121) hu) (by first | assumption | (refine ⟨?_, ?_, ?_, ?_⟩ <;> (try dsimp only) <;> omega))
  refine R_p (fun u hu hF => ?_) fun v130 => ?_
  · have h46_ : v129 = (.tuple #[(Iv ((atM MM (idxG A_g (x + (min c_ d_) % 2) (y + (min c_ d_) / 2 % 2) (z + (min c_ d_) / 4), idxG A_g (x + (max c_ d_) % 2) (y + (max c_ d_) / 2 % 2) (z + (max c_ d_) / 4))).getD (0 : Int))), (Bo ((atM MM (idxG A_g (x + (min c_ d_) % 2) (y + (min c_ d_) / 2 % 2) (z + (min c_ d_) / 4), idxG A_g (x + (max c_ d_) % 2) (y + (max c_ d_) / 2 % 2) (z + (max c_ d_) / 4))).isSome))]) := hF.1
    clear hF; subst h46_
    exact does_move (u := (.tuple #[(Iv ((atM MM (idxG A_g (x + (min c_ d_) % 2) (y + (min c_ d_) / 2 % 2) (z + (min c_ d_) / 4), idxG A_g (x + (max c_ d_) % 2) (y + (max c_ d_) / 2 % 2) (z + (max c_ d_) / 4))).getD (0 : Int))), (Bo ((atM MM (idxG A_g (x + (min c_ d_) % 2) (y + (min c_ d_) / 2 % 2) (z + (min c_ d_) / 4), idxG A_g (x + (max c_ d_) % 2) (y + (max c_ d_) / 2 % 2) (z + (max c_ d_) / 4))).isSome))])) (ev rfl)
  refine R_p (fun u hu hF => ?_) fun v131 => ?_
  · have h40_ : v130 = (.tuple #[(Iv ((atM MM (idxG A_g (x + (min c_ d_) % 2) (y + (min c_ d_) / 2 % 2) (z + (min c_ d_) / 4), idxG A_g (x + (max c_ d_) % 2) (y + (max c_ d_) / 2 % 2) (z + (max c_ d_) / 4))).getD (0 : Int))), (Bo ((atM MM (idxG A_g (x + (min c_ d_) % 2) (y + (min c_ d_) / 2 % 2) (z + (min c_ d_) / 4), idxG A_g (x + (max c_ d_) % 2) (y + (max c_ d_) / 2 % 2) (z + (max c_ d_) / 4))).isSome))]) := hF.1
    clear hF; subst h40_
    exact does_extract (vs := #[(Iv ((atM MM (idxG A_g (x + (min c_ d_) % 2) (y + (min c_ d_) / 2 % 2) (z + (min c_ d_) / 4), idxG A_g (x + (max c_ d_) % 2) (y + (max c_ d_) / 2 % 2) (z + (max c_ d_) / 4))).getD (0 : Int))), (Bo ((atM MM (idxG A_g (x + (min c_ d_) % 2) (y + (min c_ d_) / 2 % 2) (z + (min c_ d_) / 4), idxG A_g (x + (max c_ d_) % 2) (y + (max c_ d_) / 2 % 2) (z + (max c_ d_) / 4))).isSome))]) (u := (Iv ((atM MM (idxG A_g (x + (min c_ d_) % 2) (y + (min c_ d_) / 2 % 2) (z + (min c_ d_) / 4), idxG A_g (x + (max c_ d_) % 2) (y + (max c_ d_) / 2 % 2) (z + (max c_ d_) / 4))).getD (0 : Int)))) (ev rfl) rfl
  refine R_d (fun u hu hF => ?_) (fun v132 => ?_)
  · have h40_ : v130 = (.tuple #[(Iv ((atM MM (idxG A_g (x + (min c_ d_) % 2) (y + (min c_ d_) / 2 % 2) (z + (min c_ d_) / 4), idxG A_g (x + (max c_ d_) % 2) (y + (max c_ d_) / 2 % 2) (z + (max c_ d_) / 4))).getD (0 : Int))), (Bo ((atM MM (idxG A_g (x + (min c_ d_) % 2) (y + (min c_ d_) / 2 % 2) (z + (min c_ d_) / 4), idxG A_g (x + (max c_ d_) % 2) (y + (max c_ d_) / 2 % 2) (z + (max c_ d_) / 4))).isSome))]) := hF.1
    clear hF
    obtain rfl := h40_
    exact ⟨_, yields_is rfl (run_extract (ev rfl) rfl), (by first | rfl | (show _ = _; simp only [hβ1]; done) | (show _ = _; simp only [hβ1]; rfl))⟩
  refine RW_fin ?_; intro w133 E134 hP135
  obtain ⟨⟨⟨⟨⟨⟨⟨⟨⟨-, -⟩, -⟩, -⟩, -⟩, -⟩, -⟩, -⟩, q136⟩, q137⟩ := hP135
  have X138 := Ext.gr X123 E134
  have q136 : v131 = (Iv ((atM MM (idxG A_g (x + (min c_ d_) % 2) (y + (min c_ d_) / 2 % 2) (z + (min c_ d_) / 4), idxG A_g (x + (max c_ d_) % 2) (y + (max c_ d_) / 2 % 2) (z + (max c_ d_) / 4))).getD (0 : Int))) := q136
  obtain rfl := q136
  have q137 : v132 = (Bo β1) := q137
  obtain rfl := q137
  refine fz ?_
  refine ja (Iv ((atM MM (idxG A_g (x + (min c_ d_) % 2) (y + (min c_ d_) / 2 % 2) (z + (min c_ d_) / 4), idxG A_g (x + (max c_ d_) % 2) (y + (max c_ d_) / 2 % 2) (z + (max c_ d_) / 4))).getD (0 : Int))) ?_
  refine ja (Bo β1) ?_
  refine wn K119 ?_
  refine wr fun _ K139 => ?_
  refine jm (Bo β1) ?_
  refine wn K139 ?_
  refine wp_cond_split (t := β1) (ev rfl) (fun c140 => ?_) (fun c140 => ?_)
  · have c140' := c140
    (try simp only [hβ1] at c140')
    (try simp only [icmp, bs] at c140')
    refine wr fun _ K141 => ?_
    refine jm (Iv ((atM MM (idxG A_g (x + (min c_ d_) % 2) (y + (min c_ d_) / 2 % 2) (z + (min c_ d_) / 4), idxG A_g (x + (max c_ d_) % 2) (y + (max c_ d_) / 2 % 2) (z + (max c_ d_) / 4))).getD (0 : Int))) ?_
    refine ja (Iv ((atM MM (idxG A_g (x + (min c_ d_) % 2) (y + (min c_ d_) / 2 % 2) (z + (min c_ d_) / 4), idxG A_g (x + (max c_ d_) % 2) (y + (max c_ d_) / 2 % 2) (z + (max c_ d_) / 4))).getD (0 : Int))) ?_
    refine wn K141 ?_
    refine wp_ret ?_
    dsimp only [Exit.then, Exit.inBlock]
    refine ret_valK (v := (Iv ((atM MM (idxG A_g (x + (min c_ d_) % 2) (y + (min c_ d_) / 2 % 2) (z + (min c_ d_) / 4), idxG A_g (x + (max c_ d_) % 2) (y + (max c_ d_) / 2 % 2) (z + (max c_ d_) / 4))).getD (0 : Int)))) (res_T rfl (slot rfl)) (KpL.ext (KpL.ext (KpL.more (KpL.ext (KpL.ext (KpL.more (KpL.more (KpL.more (KpL.ext (KpL.ext (KpL.refl _ _) E21) E30) E47 all0) (KpL.of_wr W71) (allS (.inr (Nat.le_trans (Below.size E21) hb55)) all0)) (KpL.of_wr W75) (allS (.inr (Nat.le_trans (Below.size E21) hb63)) all0)) E81) E99) (KpL.of_wr W114) (allS (.inr (Nat.le_trans (Nat.le_trans (Nat.le_trans (Nat.le_trans (Nat.le_trans (Below.size E21) (Below.size E30)) (KpL.size E47)) (Nat.le_of_eq (Eq.symm (Wr.size W71)))) (Nat.le_of_eq (Eq.symm (Wr.size W75)))) hb105)) all0)) E121) E134) ?_
    refine ⟨?_, (.slice p14 PS.length q15), ((((((((((hB_b_.ext E21).ext E30).kl E47 nin0).wr W71 (Nat.ne_of_lt n59)).wr W75 (Nat.ne_of_lt n67)).ext E81).ext E99).wr W114 (Nat.ne_of_lt n109)).ext E121).ext E134), (Own.cast (ys := (psM A_g MM PS (crnI A_g x y z (min c_ d_), crnI A_g x y z (max c_ d_)) (keyE A_g x y z (min c_ d_) (max c_ d_)))) (Own.same (hO_vp _) RV3.flat (((((((((((Same.refl _ _).ext E21).ext E30).kl E47 all0).wr W71 (.inr (Nat.le_trans (Below.size E21) hb55))).wr W75 (.inr (Nat.le_trans (Below.size E21) hb63))).ext E81).ext E99).wr W114 (.inr (Nat.le_trans (Nat.le_trans (Nat.le_trans (Nat.le_trans (Nat.le_trans (Below.size E21) (Below.size E30)) (KpL.size E47)) (Nat.le_of_eq (Eq.symm (Wr.size W71)))) (Nat.le_of_eq (Eq.symm (Wr.size W75)))) hb105))).ext E121).ext E134) h0_gp (Below.size hx1)) (by first | exact psM_f (by have h := c140; first | exact h | (rw [hβ1] at h; exact h)) | exact mmM_f (by have h := c140; first | exact h | (rw [hβ1] at h; exact h)) | exact mmM_t (by have h := c140; first | exact h | (rw [hβ1] at h; exact h)) | (simp only [h2, h4, h6, h8, hβ1]; exact psM_t (by have h := c140; first | exact h | (rw [hβ1] at h; exact h)) (pt_crn hgr hcel.1 hcel.2 _ ⟨by omega, by omega⟩) (pt_crn hgr hcel.1 hcel.2 _ ⟨by omega, by omega⟩) hk8.1 (by rw [hk8.2, hc3, hd3]; omega) (vlG_at hel1) (vlG_at hel2)))), (MapL.cast (l' := (mmM MM PS.length (crnI A_g x y z (min c_ d_), crnI A_g x y z (max c_ d_)))) (MapL.ext (MapL.ext (MapL.kl (MapL.ext (MapL.ext (MapL.kl (MapL.kl (MapL.kl (MapL.ext (MapL.ext hM_gm E21) E30) E47 nin0) (KpL.of_wr W71) (ninS (Nat.ne_of_lt n58) nin0)) (KpL.of_wr W75) (ninS (Nat.ne_of_lt n66) nin0)) E81) E99) (KpL.of_wr W114) (ninS (Nat.ne_of_lt n108) nin0)) E121) E134) (by first | exact psM_f (by have h := c140; first | exact h | (rw [hβ1] at h; exact h)) | exact mmM_f (by have h := c140; first | exact h | (rw [hβ1] at h; exact h)) | exact mmM_t (by have h := c140; first | exact h | (rw [hβ1] at h; exact h)) | (simp only [h2, h4, h6, h8, hβ1]; exact psM_t (by have h := c140; first | exact h | (rw [hβ1] at h; exact h)) (pt_crn hgr hcel.1 hcel.2 _ ⟨by omega, by omega⟩) (pt_crn hgr hcel.1 hcel.2 _ ⟨by omega, by omega⟩) hk8.1 (by rw [hk8.2, hc3, hd3]; omega) (vlG_at hel1) (vlG_at hel2))))⟩
    try simp only [h2, h4, h6, h8, hβ1] at c140
    have x142 : (((atM (mmM MM PS.length (crnI A_g x y z (min c_ d_), crnI A_g x y z (max c_ d_))) (crnI A_g x y z (min c_ d_), crnI A_g x y z (max c_ d_))).getD 0) : Int) = ((atM MM (idxG A_g (x + (min c_ d_) % 2) (y + (min c_ d_) / 2 % 2) (z + (min c_ d_) / 4), idxG A_g (x + (max c_ d_) % 2) (y + (max c_ d_) / 2 % 2) (z + (max c_ d_) / 4))).getD (0 : Int)) := by first | exact mmA_f (by have h := c140; first | exact h | (rw [hβ1] at h; exact h)) | exact mmA_t (by have h := c140; first | exact h | (rw [hβ1] at h; exact h))
    exact (by first | with_reducible rfl | rw [x142] | rfl)
  have c140' := c140
  (try simp only [hβ1] at c140')
  (try simp only [icmp, bs] at c140')
  refine wp_skip (K118 _ _ ?_)
  refine ws fun _ K143 => ?_
  obtain ⟨el1, hel1⟩ : ∃ e, A_g.vals[(idxG A_g (x + (min c_ d_) % 2) (y + (min c_ d_) / 2 % 2) (z + (min c_ d_) / 4)).toNat]? = some e := ⟨_, List.getElem?_eq_getElem (by omega)⟩
  obtain ⟨el2, hel2⟩ : ∃ e, A_g.vals[(idxG A_g (x + (max c_ d_) % 2) (y + (max c_ d_) / 2 % 2) (z + (max c_ d_) / 4)).toNat]? = some e := ⟨_, List.getElem?_eq_getElem (by omega)⟩
  refine region_any2 [] [0, 1, 3, 7, 15, 31, 63, 0, 128, 511, 1023, 0, 2048, 6144, 14336, 30720, 63488, 129024, 0, 262144, 1046528, 2095104, 2047, 8388607] [] (
    [FactW.pure [] [] [] true (fun v => v = (Pt b_ 0)),
      FactW.pure [0] [] [] true (fun v => v = (Pt b_ 0)),
      FactW.pure [1] [] [] true (fun v => v = (Pt b_ 0)),
      FactW.pure [2] [] [] true (fun v => v = (Pt g_b g_o)),
      FactW.pure [3] [] [] true (fun v => v = (Pt g_b g_o)),
      FactW.pure [4] [] [] true (fun v => v = (Pt g_b (g_o + 7))),
      FactW.pure [5] [] [] true (fun v => v = (.slice p11 A_g.vals.length q12)),
      FactW.pure [] [] [] true (fun v => v = (Pt b104 0)),
      FactW.pure [7] [] [] true (fun v => v = (Iv (idxG A_g (x + (min c_ d_) % 2) (y + (min c_ d_) / 2 % 2) (z + (min c_ d_) / 4)))),
      FactW.mem [6, 8] [] [] [] true (fun v w' => PtrR RF w' v el1) (by intro v w1 w2 hx' h; have hx := KpL.toExt hx'; exact h.ext RF.mono hx),
      FactW.pure [9] [] [] true (fun v => ∃ r_1 : Nat, v = (Fl r_1) ∧ cf .f32 r_1 = el1),
      FactW.pure [] [] [] true (fun v => v = (Pt b_ 0)),
      FactW.pure [11] [] [] true (fun v => v = (Pt b_ 0)),
      FactW.pure [12] [] [] true (fun v => v = (Pt b_ 0)),
      FactW.pure [13] [] [] true (fun v => v = (Pt g_b g_o)),
      FactW.pure [14] [] [] true (fun v => v = (Pt g_b g_o)),
      FactW.pure [15] [] [] true (fun v => v = (Pt g_b (g_o + 7))),
      FactW.pure [16] [] [] true (fun v => v = (.slice p11 A_g.vals.length q12)),
      FactW.pure [] [] [] true (fun v => v = (Pt b104 1)),
      FactW.pure [18] [] [] true (fun v => v = (Iv (idxG A_g (x + (max c_ d_) % 2) (y + (max c_ d_) / 2 % 2) (z + (max c_ d_) / 4)))),
      FactW.mem [17, 19] [] [] [] true (fun v w' => PtrR RF w' v el2) (by intro v w1 w2 hx' h; have hx := KpL.toExt hx'; exact h.ext RF.mono hx),
      FactW.pure [20] [] [] true (fun v => ∃ r_1 : Nat, v = (Fl r_1) ∧ cf .f32 r_1 = el2),
      FactW.pure [10] [] [] true (fun v => ∃ r_1 : Nat, v = (Fl r_1) ∧ cf .f32 r_1 = el1)]) mixed (by kernel_rfl) ?_
  obtain ⟨w144, hw146⟩ : ∃ w', w' = World.drew w133 := ⟨_, rfl⟩; rw [← hw146]; have E145 : Ext w133 w144 := by rw [hw146]; exact Ext.draw _
  clear hw146
  have X148 := Ext.gr X138 E145
  refine R2_p (fun u hu _ => does_move (u := (Pt b_ 0)) (ev rfl)) fun v149 => ?_
  refine R2_p (fun u hu hF => ?_) fun v150 => ?_
  · have h51_ : v149 = (Pt b_ 0) := hF.1
    clear hF; subst h51_
    exact does_nilCheck (ev rfl)
  refine R2_p (fun u hu hF => ?_) fun v151 => ?_
  · have h52_ : v150 = (Pt b_ 0) := hF.1
    clear hF; subst h52_
    exact does_fieldAddr (ev rfl) fa73_0
  refine R2_p (fun u hu hF => ?_) fun v152 => ?_
  · have h53_ : v151 = (Pt b_ 0) := hF.1
    clear hF; subst h53_
    exact does_load (u := (Pt g_b g_o)) (ev rfl) Try.isAgg46 (Cells.at (Blk.cells ((((((((((((hB_b_.ext E21).ext E30).kl E47 nin0).wr W71 (Nat.ne_of_lt n59)).wr W75 (Nat.ne_of_lt n67)).ext E81).ext E99).wr W114 (Nat.ne_of_lt n109)).ext E121).ext E134).ext E145).ext (KpL.toExt hu))) 0 rfl)
  refine R2_p (fun u hu hF => ?_) fun v153 => ?_
  · have h54_ : v152 = (Pt g_b g_o) := hF.1
    clear hF; subst h54_
    exact does_nilCheck (ev rfl)
  refine R2_p (fun u hu hF => ?_) fun v154 => ?_
  · have h55_ : v153 = (Pt g_b g_o) := hF.1
    clear hF; subst h55_
    exact does_fieldAddr (ev rfl) fa37_5
  refine R2_p (fun u hu hF => ?_) fun v155 => ?_
  · have h56_ : v154 = (Pt g_b (g_o + 7)) := hF.1
    clear hF; subst h56_
    exact does_load (u := (.slice p11 A_g.vals.length q12)) (ev rfl) Try.isAgg25 (Cells.at (hc_g.ext (Ext.gr (Ext.gr X138 E145) (KpL.toExt hu))) 7 rfl)
  refine R2_p (fun u hu _ => does_indexAt_run (r := (Pt b104 0)) (ev rfl) (ev rfl) (fun w => ia117_0 _ _ w)) fun v156 => ?_
  refine R2_p (fun u hu hF => ?_) fun v157 => ?_
  · have h58_ : v156 = (Pt b104 0) := hF.1
    clear hF; subst h58_
    exact does_load (u := (Iv (idxG A_g (x + (min c_ d_) % 2) (y + (min c_ d_) / 2 % 2) (z + (min c_ d_) / 4)))) (ev rfl) Try.isAgg2 (Cells.at (Blk.cells ((((hB115.ext E121).ext E134).ext E145).ext (KpL.toExt hu))) 0 rfl)
  refine R2_d (fun u hu hF => ?_) (fun v158 => ?_)
  · replace hu : KpL [] _ _ := hu
    have h57_ : v155 = (.slice p11 A_g.vals.length q12) := hF.1
    have h59_ : v157 = (Iv (idxG A_g (x + (min c_ d_) % 2) (y + (min c_ d_) / 2 % 2) (z + (min c_ d_) / 4))) := hF.2.1
    clear hF
    refine doesG_un rfl ?_
    obtain rfl := h57_
    obtain rfl := h59_
    refine (does_indexSl (R := RF) (i := idxG A_g (x + (min c_ d_) % 2) (y + (min c_ d_) / 2 % 2) (z + (min c_ d_) / 4)) (xs := A_g.vals) (e := el1) Try.underlying25 Try.sizeOf22 (ev rfl) (ev rfl) (Sl.ext hs13 RF.mono (Ext.gr (Ext.gr X138 E145) (KpL.toExt hu))) (by omega) hel1).mono ?_; rintro v u' ⟨b, of, cs, hv, hc, hR, hu'⟩; subst hu'
    exact ⟨⟨b, of, cs, hv, hc, hR⟩, KpL.refl _ _⟩
  refine R2_d (fun u hu hF => ?_) (fun v159 => ?_)
  · replace hu : KpL [] _ _ := hu
    have h60_ : PtrR RF u v158 el1 := hF.1
    clear hF
    refine doesG_un rfl ?_
    obtain ⟨b60_, o60_, _, rfl, hc60_, ⟨r60_1, rfl, h60_2⟩⟩ := h60_
    refine (does_load (u := (Fl r60_1)) (ev rfl) Try.isAgg22 (Cells.at hc60_ 0 rfl)).mono ?_; rintro _ _ ⟨rfl, rfl⟩
    exact ⟨⟨r60_1, rfl, (by simp only [h60_2])⟩, KpL.refl _ _⟩
  refine R2_p (fun u hu _ => does_move (u := (Pt b_ 0)) (ev rfl)) fun v160 => ?_
  refine R2_p (fun u hu hF => ?_) fun v161 => ?_
  · have h62_ : v160 = (Pt b_ 0) := hF.1
    clear hF; subst h62_
    exact does_nilCheck (ev rfl)
  refine R2_p (fun u hu hF => ?_) fun v162 => ?_
  · have h63_ : v161 = (Pt b_ 0) := hF.1
    clear hF; subst h63_
    exact does_fieldAddr (ev rfl) fa73_0
  refine R2_p (fun u hu hF => ?_) fun v163 => ?_
  · have h64_ : v162 = (Pt b_ 0) := hF.1
    clear hF; subst h64_
    exact does_load (u := (Pt g_b g_o)) (ev rfl) Try.isAgg46 (Cells.at (Blk.cells ((((((((((((hB_b_.ext E21).ext E30).kl E47 nin0).wr W71 (Nat.ne_of_lt n59)).wr W75 (Nat.ne_of_lt n67)).ext E81).ext E99).wr W114 (Nat.ne_of_lt n109)).ext E121).ext E134).ext E145).ext (KpL.toExt hu))) 0 rfl)
  refine R2_p (fun u hu hF => ?_) fun v164 => ?_
  · have h65_ : v163 = (Pt g_b g_o) := hF.1
    clear hF; subst h65_
    exact does_nilCheck (ev rfl)
  refine R2_p (fun u hu hF => ?_) fun v165 => ?_
  · have h66_ : v164 = (Pt g_b g_o) := hF.1
    clear hF; subst h66_
    exact does_fieldAddr (ev rfl) fa37_5
  refine R2_p (fun u hu hF => ?_) fun v166 => ?_
  · have h67_ : v165 = (Pt g_b (g_o + 7)) := hF.1
    clear hF; subst h67_
    exact does_load (u := (.slice p11 A_g.vals.length q12)) (ev rfl) Try.isAgg25 (Cells.at (hc_g.ext (Ext.gr (Ext.gr X138 E145) (KpL.toExt hu))) 7 rfl)
  refine R2_p (fun u hu _ => does_indexAt_run (r := (Pt b104 1)) (ev rfl) (ev rfl) (fun w => ia117_1 _ _ w)) fun v167 => ?_
  refine R2_p (fun u hu hF => ?_) fun v168 => ?_
  · have h69_ : v167 = (Pt b104 1) := hF.1
    clear hF; subst h69_
    exact does_load (u := (Iv (idxG A_g (x + (max c_ d_) % 2) (y + (max c_ d_) / 2 % 2) (z + (max c_ d_) / 4)))) (ev rfl) Try.isAgg2 (Cells.at (Blk.cells ((((hB115.ext E121).ext E134).ext E145).ext (KpL.toExt hu))) 1 rfl)
  refine R2_d (fun u hu hF => ?_) (fun v169 => ?_)
  · replace hu : KpL [] _ _ := hu
    have h68_ : v166 = (.slice p11 A_g.vals.length q12) := hF.1
    have h70_ : v168 = (Iv (idxG A_g (x + (max c_ d_) % 2) (y + (max c_ d_) / 2 % 2) (z + (max c_ d_) / 4))) := hF.2.1
    clear hF
    refine doesG_un rfl ?_
    obtain rfl := h68_
    obtain rfl := h70_
    refine (does_indexSl (R := RF) (i := idxG A_g (x + (max c_ d_) % 2) (y + (max c_ d_) / 2 % 2) (z + (max c_ d_) / 4)) (xs := A_g.vals) (e := el2) Try.underlying25 Try.sizeOf22 (ev rfl) (ev rfl) (Sl.ext hs13 RF.mono (Ext.gr (Ext.gr X138 E145) (KpL.toExt hu))) (by omega) hel2).mono ?_; rintro v u' ⟨b, of, cs, hv, hc, hR, hu'⟩; subst hu'
    exact ⟨⟨b, of, cs, hv, hc, hR⟩, KpL.refl _ _⟩
  refine R2_d (fun u hu hF => ?_) (fun v170 => ?_)
  · replace hu : KpL [] _ _ := hu
    have h71_ : PtrR RF u v169 el2 := hF.1
    clear hF
    refine doesG_un rfl ?_
    obtain ⟨b71_, o71_, _, rfl, hc71_, ⟨r71_1, rfl, h71_2⟩⟩ := h71_
    refine (does_load (u := (Fl r71_1)) (ev rfl) Try.isAgg22 (Cells.at hc71_ 0 rfl)).mono ?_; rintro _ _ ⟨rfl, rfl⟩
    exact ⟨⟨r71_1, rfl, (by simp only [h71_2])⟩, KpL.refl _ _⟩
  refine R2_d (fun u hu hF => ?_) (fun v171 => ?_)
  · replace hu : KpL [] _ _ := hu
    have h61_ : ∃ r_1 : Nat, v159 = (Fl r_1) ∧ cf .f32 r_1 = el1 := hF.1
    clear hF
    refine doesG_un rfl ?_
    obtain ⟨r61_1, rfl, h61_2⟩ := h61_
    refine (does_assign (u := (Fl r61_1)) (ev rfl)).mono ?_; rintro _ _ ⟨rfl, rfl⟩
    exact ⟨⟨r61_1, rfl, (by simp only [h61_2])⟩, KpL.refl _ _⟩
  refine RW2_fin ?_; intro w172 E173 hP174; replace E173 : KpL [] _ _ := E173
  obtain ⟨⟨⟨⟨⟨⟨⟨⟨⟨⟨⟨⟨⟨⟨⟨⟨⟨⟨⟨⟨⟨⟨⟨-, -⟩, -⟩, -⟩, -⟩, -⟩, -⟩, -⟩, -⟩, -⟩, -⟩, -⟩, -⟩, -⟩, -⟩, -⟩, -⟩, -⟩, -⟩, -⟩, -⟩, -⟩, q175⟩, q176⟩ := hP174
  have X177 := Below.kl X148 E173 all0 (Nat.le_refl _)
  have q175 : ∃ r_1 : Nat, v170 = (Fl r_1) ∧ cf .f32 r_1 = el2 := q175 rfl
  obtain ⟨r178, rfl, h179⟩ := q175
  have q176 : ∃ r_1 : Nat, v171 = (Fl r_1) ∧ cf .f32 r_1 = el1 := q176 rfl
  obtain ⟨r180, rfl, h181⟩ := q176
  refine fz ?_
  refine ja (Fl r178) ?_
  refine wn K143 ?_
  refine wr fun _ K182 => ?_
  refine jm (Pt b_ 0) ?_
  refine jj (does_nilCheck (ev rfl)) ?_
  refine jj (does_fieldAddr (ev rfl) fa73_1) ?_
  refine jj (does_fieldAddr (ev rfl) fa32_0) ?_
  refine jj (does_load (u := (.slice p14 PS.length q15)) (ev rfl) Try.isAgg29 (Cells.at (Blk.cells ((((((((((((hB_b_.ext E21).ext E30).kl E47 nin0).wr W71 (Nat.ne_of_lt n59)).wr W75 (Nat.ne_of_lt n67)).ext E81).ext E99).wr W114 (Nat.ne_of_lt n109)).ext E121).ext E134).ext E145).kl E173 nin0)) 1 rfl)) ?_
  refine jj (does_len_slice Try.underlying29 (ev rfl)) ?_
  refine ja (Iv (PS.length : Int)) ?_
  refine wn K182 ?_
  refine ws fun _ K183 => ?_
  have n192 : gm < w172.heap.size := MapL.lt (MapL.kl (MapL.ext (MapL.ext (MapL.ext (MapL.kl (MapL.ext (MapL.ext (MapL.kl (MapL.kl (MapL.kl (MapL.ext (MapL.ext hM_gm E21) E30) E47 nin0) (KpL.of_wr W71) (ninS (Nat.ne_of_lt n58) nin0)) (KpL.of_wr W75) (ninS (Nat.ne_of_lt n66) nin0)) E81) E99) (KpL.of_wr W114) (ninS (Nat.ne_of_lt n108) nin0)) E121) E134) E145) E173 nin0)
  have n193 : b_ < w172.heap.size := Blk.lt ((((((((((((hB_b_.ext E21).ext E30).kl E47 nin0).wr W71 (Nat.ne_of_lt n59)).wr W75 (Nat.ne_of_lt n67)).ext E81).ext E99).wr W114 (Nat.ne_of_lt n109)).ext E121).ext E134).ext E145).kl E173 nin0)
  have n197 : b104 < w172.heap.size := Blk.lt ((((hB115.ext E121).ext E134).ext E145).kl E173 nin0)
  obtain ⟨gg187, hg188, hg189, hA190⟩ := Own.startN (hO_vp _) (Own.same (hO_vp _) RV3.flat (((((((((((((Same.refl _ _).ext E21).ext E30).kl E47 all0).wr W71 (.inr (Nat.le_trans (Below.size E21) hb55))).wr W75 (.inr (Nat.le_trans (Below.size E21) hb63))).ext E81).ext E99).wr W114 (.inr (Nat.le_trans (Nat.le_trans (Nat.le_trans (Nat.le_trans (Nat.le_trans (Below.size E21) (Below.size E30)) (KpL.size E47)) (Nat.le_of_eq (Eq.symm (Wr.size W71)))) (Nat.le_of_eq (Eq.symm (Wr.size W75)))) hb105))).ext E121).ext E134).ext E145).kl E173 all0) h0_gp (Below.size hx1)) (Nat.le_trans (Nat.le_trans (Nat.le_trans (Nat.le_trans (Nat.le_trans (Nat.le_trans (Nat.le_trans (Nat.le_trans (Nat.le_trans (Nat.le_trans (Nat.le_trans (Below.size E21) (Below.size E30)) (KpL.size E47)) (Nat.le_of_eq (Eq.symm (Wr.size W71)))) (Nat.le_of_eq (Eq.symm (Wr.size W75)))) (Below.size E81)) (Below.size E99)) (Nat.le_of_eq (Eq.symm (Wr.size W114)))) (Below.size E121)) (Below.size E134)) (Below.size E145)) (KpL.size E173))
  have n203 : gg187 ≠ b104 := by rcases hg189 with h | h; exact Nat.ne_of_lt (Nat.lt_of_lt_of_le h (Nat.le_trans (Nat.le_trans (Nat.le_trans (Nat.le_trans (Nat.le_trans (Below.size E21) (Below.size E30)) (KpL.size E47)) (Nat.le_of_eq (Eq.symm (Wr.size W71)))) (Nat.le_of_eq (Eq.symm (Wr.size W75)))) hb105)); exact Nat.ne_of_gt (Nat.lt_of_lt_of_le n197 h)
  refine region_any2 [gg187] [0, 0, 2, 6, 14, 30, 0, 64, 192, 448, 0, 1984, 0, 4096, 12288, 28672, 0, 131008, 0, 0, 0, 1572864, 3932160, 8388544, 16777152, 33554430, 67108863, 134217727, 268435455, 536870911] [0] (
    [FactW.pure [] [0] [0] true (fun v => v = (Pt b_ 0)),
      FactW.pure [] [] [0] true (fun v => v = (Pt b_ 0)),
      FactW.pure [1] [] [0] true (fun v => v = (Pt b_ 0)),
      FactW.pure [2] [] [0] true (fun v => v = (Pt b_ 1)),
      FactW.pure [3] [] [0] true (fun v => v = (Pt b_ 1)),
      FactW.pure [4] [] [0] true (fun v => v = (.slice p14 PS.length q15)),
      FactW.pure [] [] [0] true (fun v => v = (Pt b_ 0)),
      FactW.pure [6] [] [0] true (fun v => v = (Pt b_ 0)),
      FactW.pure [7] [] [0] true (fun v => v = (Pt b_ 0)),
      FactW.pure [8] [] [0] true (fun v => v = (Pt g_b g_o)),
      FactW.pure [] [] [0] true (fun v => v = (.agg #[(Iv (x + (min c_ d_) % 2)), (Iv (y + (min c_ d_) / 2 % 2)), (Iv (z + (min c_ d_) / 4))])),
      FactW.pure [9, 10] [] [0] true (fun v => ∃ cs_1 : List Value, v = (.agg cs_1.toArray) ∧ RV3 w (ptG A_g.low A_g.step (x + (min c_ d_) % 2) (y + (min c_ d_) / 2 % 2) (z + (min c_ d_) / 4)) cs_1),
      FactW.pure [] [] [0] true (fun v => v = (Pt b_ 0)),
      FactW.pure [12] [] [0] true (fun v => v = (Pt b_ 0)),
      FactW.pure [13] [] [0] true (fun v => v = (Pt b_ 0)),
      FactW.pure [14] [] [0] true (fun v => v = (Pt g_b g_o)),
      FactW.pure [] [] [0] true (fun v => v = (.agg #[(Iv (x + (max c_ d_) % 2)), (Iv (y + (max c_ d_) / 2 % 2)), (Iv (z + (max c_ d_) / 4))])),
      FactW.pure [15, 16] [] [0] true (fun v => ∃ cs_1 : List Value, v = (.agg cs_1.toArray) ∧ RV3 w (ptG A_g.low A_g.step (x + (max c_ d_) % 2) (y + (max c_ d_) / 2 % 2) (z + (max c_ d_) / 4)) cs_1),
      FactW.pure [] [] [0] true (fun v => v = (Fl r180)),
      FactW.pure [] [] [0] true (fun v => v = (Fl r180)),
      FactW.pure [] [] [0] true (fun v => v = (Fl r178)),
      FactW.pure [19, 20] [] [0] true (fun v => ∃ r_1 : Nat, v = (Fl r_1) ∧ cf .f32 r_1 = fop .sub .f32 (cf .f32 r180) (cf .f32 r178)),
      FactW.pure [18, 21] [] [0] true (fun v => ∃ r_1 : Nat, v = (Fl r_1) ∧ cf .f32 r_1 = fop .quo .f32 (cf .f32 r180) (fop .sub .f32 (cf .f32 r180) (cf .f32 r178))),
      FactW.pure [11, 17, 22] [] [0] true (fun v => ∃ cs_1 : List Value, v = (.agg cs_1.toArray) ∧ RV3 w (btwV (ptG A_g.low A_g.step (x + (min c_ d_) % 2) (y + (min c_ d_) / 2 % 2) (z + (min c_ d_) / 4)) (ptG A_g.low A_g.step (x + (max c_ d_) % 2) (y + (max c_ d_) / 2 % 2) (z + (max c_ d_) / 4)) (fop .quo .f32 (cf .f32 r180) (fop .sub .f32 (cf .f32 r180) (cf .f32 r178)))) cs_1),
      FactW.mem [23] [] [] [] false (fun v w' => ∃ b : Nat, ∃ r_1 : Nat, ∃ r_2 : Nat, ∃ r_3 : Nat, v = .slice (some ⟨b, 0, none⟩) 1 1 ∧ w172.heap.size ≤ b ∧ Blk w' b [(Fl r_1), (Fl r_2), (Fl r_3)] ∧ cf .f32 r_1 = (btwV (ptG A_g.low A_g.step (x + (min c_ d_) % 2) (y + (min c_ d_) / 2 % 2) (z + (min c_ d_) / 4)) (ptG A_g.low A_g.step (x + (max c_ d_) % 2) (y + (max c_ d_) / 2 % 2) (z + (max c_ d_) / 4)) (fop .quo .f32 (cf .f32 r180) (fop .sub .f32 (cf .f32 r180) (cf .f32 r178)))).x ∧ cf .f32 r_2 = (btwV (ptG A_g.low A_g.step (x + (min c_ d_) % 2) (y + (min c_ d_) / 2 % 2) (z + (min c_ d_) / 4)) (ptG A_g.low A_g.step (x + (max c_ d_) % 2) (y + (max c_ d_) / 2 % 2) (z + (max c_ d_) / 4)) (fop .quo .f32 (cf .f32 r180) (fop .sub .f32 (cf .f32 r180) (cf .f32 r178)))).y ∧ cf .f32 r_3 = (btwV (ptG A_g.low A_g.step (x + (min c_ d_) % 2) (y + (min c_ d_) / 2 % 2) (z + (min c_ d_) / 4)) (ptG A_g.low A_g.step (x + (max c_ d_) % 2) (y + (max c_ d_) / 2 % 2) (z + (max c_ d_) / 4)) (fop .quo .f32 (cf .f32 r180) (fop .sub .f32 (cf .f32 r180) (cf .f32 r178)))).z) (by rintro v w1 w2 hx' ⟨b, z0, z1, z2, rfl, hb, hB, k0, k1, k2⟩; have hx := KpL.toExt hx'; exact ⟨b, z0, z1, z2, rfl, hb, (hB.ext hx), k0, k1, k2⟩),
      FactW.mem [5, 24] [] [0] [] true (fun v w' => Own RV3 3 35 gg187 w172.heap.size w' v (PS ++ [(btwV (ptG A_g.low A_g.step (x + (min c_ d_) % 2) (y + (min c_ d_) / 2 % 2) (z + (min c_ d_) / 4)) (ptG A_g.low A_g.step (x + (max c_ d_) % 2) (y + (max c_ d_) / 2 % 2) (z + (max c_ d_) / 4)) (fop .quo .f32 (cf .f32 r180) (fop .sub .f32 (cf .f32 r180) (cf .f32 r178))))])) (by intro v w1 w2 hx h; exact Own.ext h RV3.flat (KpL.toExt hx))]) mixed (by kernel_rfl) ?_
  obtain ⟨w184, hw186⟩ : ∃ w', w' = World.drew w172 := ⟨_, rfl⟩; rw [← hw186]; have E185 : Ext w172 w184 := by rw [hw186]; exact Ext.draw _
  clear hw186
  refine R2_d (fun u hu hF => ?_) (fun v207 => ?_)
  · replace hu : KpL [gg187] _ _ := hu
    clear hF
    refine doesG_un rfl ?_
    refine (does_move (u := (Pt b_ 0)) (ev rfl)).mono ?_; rintro _ _ ⟨rfl, rfl⟩
    exact ⟨rfl, KpL.refl _ _⟩
  refine R2_p (fun u hu _ => does_move (u := (Pt b_ 0)) (ev rfl)) fun v208 => ?_
  refine R2_p (fun u hu hF => ?_) fun v209 => ?_
  · have h80_ : v208 = (Pt b_ 0) := hF.1
    clear hF; subst h80_
    exact does_nilCheck (ev rfl)
  refine R2_p (fun u hu hF => ?_) fun v210 => ?_
  · have h81_ : v209 = (Pt b_ 0) := hF.1
    clear hF; subst h81_
    exact does_fieldAddr (ev rfl) fa73_1
  refine R2_p (fun u hu hF => ?_) fun v211 => ?_
  · have h82_ : v210 = (Pt b_ 1) := hF.1
    clear hF; subst h82_
    exact does_fieldAddr (ev rfl) fa32_0
  refine R2_p (fun u hu hF => ?_) fun v212 => ?_
  · have h83_ : v211 = (Pt b_ 1) := hF.1
    clear hF; subst h83_
    exact does_load (u := (.slice p14 PS.length q15)) (ev rfl) Try.isAgg29 (Cells.at (Blk.cells ((((((((((((((hB_b_.ext E21).ext E30).kl E47 nin0).wr W71 (Nat.ne_of_lt n59)).wr W75 (Nat.ne_of_lt n67)).ext E81).ext E99).wr W114 (Nat.ne_of_lt n109)).ext E121).ext E134).ext E145).kl E173 nin0).ext E185).ext (KpL.toExt hu))) 1 rfl)
  refine R2_p (fun u hu _ => does_move (u := (Pt b_ 0)) (ev rfl)) fun v213 => ?_
  refine R2_p (fun u hu hF => ?_) fun v214 => ?_
  · have h85_ : v213 = (Pt b_ 0) := hF.1
    clear hF; subst h85_
    exact does_nilCheck (ev rfl)
  refine R2_p (fun u hu hF => ?_) fun v215 => ?_
  · have h86_ : v214 = (Pt b_ 0) := hF.1
    clear hF; subst h86_
    exact does_fieldAddr (ev rfl) fa73_0
  refine R2_p (fun u hu hF => ?_) fun v216 => ?_
  · have h87_ : v215 = (Pt b_ 0) := hF.1
    clear hF; subst h87_
    exact does_load (u := (Pt g_b g_o)) (ev rfl) Try.isAgg46 (Cells.at (Blk.cells ((((((((((((((hB_b_.ext E21).ext E30).kl E47 nin0).wr W71 (Nat.ne_of_lt n59)).wr W75 (Nat.ne_of_lt n67)).ext E81).ext E99).wr W114 (Nat.ne_of_lt n109)).ext E121).ext E134).ext E145).kl E173 nin0).ext E185).ext (KpL.toExt hu))) 0 rfl)
  refine R2_p (fun u hu _ => does_loadAgg (cs := [(Iv (x + (min c_ d_) % 2)), (Iv (y + (min c_ d_) / 2 % 2)), (Iv (z + (min c_ d_) / 4))]) (ev rfl) Try.isAgg69 Try.sizeOf69 (Blk.cells ((((((((((hB72.wr W75 (Ne.symm n70)).ext E81).ext E99).wr W114 (Nat.ne_of_lt n111)).ext E121).ext E134).ext E145).kl E173 nin0).ext E185).ext (KpL.toExt hu))) rfl) fun v217 => ?_
  refine R2_d (fun u hu hF => ?_) (fun v218 => ?_)
  · replace hu : KpL [] _ _ := hu
    have h88_ : v216 = (Pt g_b g_o) := hF.1
    have h89_ : v217 = (.agg #[(Iv (x + (min c_ d_) % 2)), (Iv (y + (min c_ d_) / 2 % 2)), (Iv (z + (min c_ d_) / 4))]) := hF.2.1
    clear hF
    refine doesG_un rfl ?_
    obtain rfl := h88_
    obtain rfl := h89_
    refine (does_call (args := #[(Pt g_b g_o), (.agg #[(Iv (x + (min c_ d_) % 2)), (Iv (y + (min c_ d_) / 2 % 2)), (Iv (z + (min c_ d_) / 4))])]) cal71 (evs rfl) (c_impl_Grid_point g_b g_o [(Fl r1), (Fl r3), (Fl r5), (Fl r7), (Iv A_g.x), (Iv A_g.y), (Iv A_g.z), (.slice p11 A_g.vals.length q12)] A_g (x + (min c_ d_) % 2) (y + (min c_ d_) / 2 % 2) (z + (min c_ d_) / 4) _ (hc_g.ext (Ext.gr (Ext.gr X177 E185) (KpL.toExt hu))) ⟨r1, r3, r5, r7, (.slice p11 A_g.vals.length q12), rfl, h2, h4, h6, h8, (Sl.ext hs13 RF.mono (Ext.gr (Ext.gr X177 E185) (KpL.toExt hu)))⟩)).mono ?_; rintro v u' ⟨hx, ⟨csn1, hv, k0⟩⟩
    exact ⟨⟨csn1, hv, k0⟩, (KpL.of_ext hx)⟩
  refine R2_p (fun u hu _ => does_move (u := (Pt b_ 0)) (ev rfl)) fun v219 => ?_
  refine R2_p (fun u hu hF => ?_) fun v220 => ?_
  · have h91_ : v219 = (Pt b_ 0) := hF.1
    clear hF; subst h91_
    exact does_nilCheck (ev rfl)
  refine R2_p (fun u hu hF => ?_) fun v221 => ?_
  · have h92_ : v220 = (Pt b_ 0) := hF.1
    clear hF; subst h92_
    exact does_fieldAddr (ev rfl) fa73_0
  refine R2_p (fun u hu hF => ?_) fun v222 => ?_
  · have h93_ : v221 = (Pt b_ 0) := hF.1
    clear hF; subst h93_
    exact does_load (u := (Pt g_b g_o)) (ev rfl) Try.isAgg46 (Cells.at (Blk.cells ((((((((((((((hB_b_.ext E21).ext E30).kl E47 nin0).wr W71 (Nat.ne_of_lt n59)).wr W75 (Nat.ne_of_lt n67)).ext E81).ext E99).wr W114 (Nat.ne_of_lt n109)).ext E121).ext E134).ext E145).kl E173 nin0).ext E185).ext (KpL.toExt hu))) 0 rfl)
  refine R2_p (fun u hu _ => does_loadAgg (cs := [(Iv (x + (max c_ d_) % 2)), (Iv (y + (max c_ d_) / 2 % 2)), (Iv (z + (max c_ d_) / 4))]) (ev rfl) Try.isAgg69 Try.sizeOf69 (Blk.cells (((((((((hB76.ext E81).ext E99).wr W114 (Nat.ne_of_lt n112)).ext E121).ext E134).ext E145).kl E173 nin0).ext E185).ext (KpL.toExt hu))) rfl) fun v223 => ?_
  refine R2_d (fun u hu hF => ?_) (fun v224 => ?_)
  · replace hu : KpL [] _ _ := hu
    have h94_ : v222 = (Pt g_b g_o) := hF.1
    have h95_ : v223 = (.agg #[(Iv (x + (max c_ d_) % 2)), (Iv (y + (max c_ d_) / 2 % 2)), (Iv (z + (max c_ d_) / 4))]) := hF.2.1
    clear hF
    refine doesG_un rfl ?_
    obtain rfl := h94_
    obtain rfl := h95_
    refine (does_call (args := #[(Pt g_b g_o), (.agg #[(Iv (x + (max c_ d_) % 2)), (Iv (y + (max c_ d_) / 2 % 2)), (Iv (z + (max c_ d_) / 4))])]) cal71 (evs rfl) (c_impl_Grid_point g_b g_o [(Fl r1), (Fl r3), (Fl r5), (Fl r7), (Iv A_g.x), (Iv A_g.y), (Iv A_g.z), (.slice p11 A_g.vals.length q12)] A_g (x + (max c_ d_) % 2) (y + (max c_ d_) / 2 % 2) (z + (max c_ d_) / 4) _ (hc_g.ext (Ext.gr (Ext.gr X177 E185) (KpL.toExt hu))) ⟨r1, r3, r5, r7, (.slice p11 A_g.vals.length q12), rfl, h2, h4, h6, h8, (Sl.ext hs13 RF.mono (Ext.gr (Ext.gr X177 E185) (KpL.toExt hu)))⟩)).mono ?_; rintro v u' ⟨hx, ⟨csn1, hv, k0⟩⟩
    exact ⟨⟨csn1, hv, k0⟩, (KpL.of_ext hx)⟩
  refine R2_p (fun u hu _ => does_move (u := (Fl r180)) (ev rfl)) fun v225 => ?_
  refine R2_p (fun u hu _ => does_move (u := (Fl r180)) (ev rfl)) fun v226 => ?_
  refine R2_p (fun u hu _ => does_move (u := (Fl r178)) (ev rfl)) fun v227 => ?_
  refine R2_d (fun u hu hF => ?_) (fun v228 => ?_)
  · replace hu : KpL [] _ _ := hu
    have h98_ : v226 = (Fl r180) := hF.1
    have h99_ : v227 = (Fl r178) := hF.2.1
    clear hF
    refine doesG_un rfl ?_
    obtain rfl := h98_
    obtain rfl := h99_
    refine (does_float (.inr (.inl rfl)) (ev rfl) (ev rfl)).mono ?_; rintro _ _ ⟨r, rfl, hr, hx⟩
    exact ⟨⟨r, rfl, (by simp only [hr])⟩, (KpL.of_ext hx)⟩
  refine R2_d (fun u hu hF => ?_) (fun v229 => ?_)
  · replace hu : KpL [] _ _ := hu
    have h97_ : v225 = (Fl r180) := hF.1
    have h100_ : ∃ r_1 : Nat, v228 = (Fl r_1) ∧ cf .f32 r_1 = fop .sub .f32 (cf .f32 r180) (cf .f32 r178) := hF.2.1
    clear hF
    refine doesG_un rfl ?_
    obtain rfl := h97_
    obtain ⟨r100_1, rfl, h100_2⟩ := h100_
    refine (does_float (.inr (.inr (.inr rfl))) (ev rfl) (ev rfl)).mono ?_; rintro _ _ ⟨r, rfl, hr, hx⟩
    exact ⟨⟨r, rfl, (by simp only [hr, h100_2])⟩, (KpL.of_ext hx)⟩
  refine R2_d (fun u hu hF => ?_) (fun v230 => ?_)
  · replace hu : KpL [] _ _ := hu
    have h90_ : ∃ cs_1 : List Value, v218 = (.agg cs_1.toArray) ∧ RV3 w (ptG A_g.low A_g.step (x + (min c_ d_) % 2) (y + (min c_ d_) / 2 % 2) (z + (min c_ d_) / 4)) cs_1 := hF.1
    have h96_ : ∃ cs_1 : List Value, v224 = (.agg cs_1.toArray) ∧ RV3 w (ptG A_g.low A_g.step (x + (max c_ d_) % 2) (y + (max c_ d_) / 2 % 2) (z + (max c_ d_) / 4)) cs_1 := hF.2.1
    have h101_ : ∃ r_1 : Nat, v229 = (Fl r_1) ∧ cf .f32 r_1 = fop .quo .f32 (cf .f32 r180) (fop .sub .f32 (cf .f32 r180) (cf .f32 r178)) := hF.2.2.1
    clear hF
    refine doesG_un rfl ?_
    obtain ⟨_, rfl, ⟨r90_1, r90_3, r90_5, rfl, h90_2, h90_4, h90_6⟩⟩ := h90_
    obtain ⟨_, rfl, ⟨r96_1, r96_3, r96_5, rfl, h96_2, h96_4, h96_6⟩⟩ := h96_
    obtain ⟨r101_1, rfl, h101_2⟩ := h101_
    refine (does_call (args := #[(.agg #[(Fl r90_1), (Fl r90_3), (Fl r90_5)]), (.agg #[(Fl r96_1), (Fl r96_3), (Fl r96_5)]), (Fl r101_1)]) cal70 (evs rfl) (c_impl_BetweenVectors [(Fl r90_1), (Fl r90_3), (Fl r90_5)] (ptG A_g.low A_g.step (x + (min c_ d_) % 2) (y + (min c_ d_) / 2 % 2) (z + (min c_ d_) / 4)) [(Fl r96_1), (Fl r96_3), (Fl r96_5)] (ptG A_g.low A_g.step (x + (max c_ d_) % 2) (y + (max c_ d_) / 2 % 2) (z + (max c_ d_) / 4)) r101_1 _ ⟨r90_1, r90_3, r90_5, rfl, (by assumption), (by assumption), (by assumption)⟩ ⟨r96_1, r96_3, r96_5, rfl, (by assumption), (by assumption), (by assumption)⟩)).mono ?_; rintro v u' ⟨hx, ⟨csn1, hv, k0⟩⟩
    exact ⟨⟨csn1, hv.trans (by simp only [h90_2, h90_4, h90_6, h96_2, h96_4, h96_6, h101_2]), (by first | exact k0 | simpa only [h90_2, h90_4, h90_6, h96_2, h96_4, h96_6, h101_2] using RV3.any (w := w) k0)⟩, (KpL.of_ext hx)⟩
  refine R2_d (fun u hu hF => ?_) (fun v231 => ?_)
  · replace hu : KpL [] _ _ := hu
    have h102_ : ∃ cs_1 : List Value, v230 = (.agg cs_1.toArray) ∧ RV3 w (btwV (ptG A_g.low A_g.step (x + (min c_ d_) % 2) (y + (min c_ d_) / 2 % 2) (z + (min c_ d_) / 4)) (ptG A_g.low A_g.step (x + (max c_ d_) % 2) (y + (max c_ d_) / 2 % 2) (z + (max c_ d_) / 4)) (fop .quo .f32 (cf .f32 r180) (fop .sub .f32 (cf .f32 r180) (cf .f32 r178)))) cs_1 := hF.1
    clear hF
    refine doesG_un rfl ?_
    obtain ⟨_, rfl, ⟨r102_1, r102_3, r102_5, rfl, h102_2, h102_4, h102_6⟩⟩ := h102_
    refine (does_buildSlice (e := 35) (parts' := [(0, (.agg #[(Fl r102_1), (Fl r102_3), (Fl r102_5)]))]) (cells := [(Fl r102_1), (Fl r102_3), (Fl r102_5)]) (evp rfl) (fun _ => by kernel_rfl)).mono ?_; rintro _ _ ⟨b, rfl, hb, hB, hx⟩
    exact ⟨⟨b, r102_1, r102_3, r102_5, rfl, Nat.le_trans (Nat.le_trans (Below.size E185) (KpL.size hu)) hb, hB, (by simp only [h102_2, h102_4, h102_6]), (by simp only [h102_2, h102_4, h102_6]), (by simp only [h102_2, h102_4, h102_6])⟩, (KpL.of_ext hx)⟩
  refine R2_d (fun u hu hF => ?_) (fun v232 => ?_)
  · replace hu : KpL [] _ _ := hu
    have h84_ : v212 = (.slice p14 PS.length q15) := hF.1
    have h103_ : ∃ b : Nat, ∃ r_1 : Nat, ∃ r_2 : Nat, ∃ r_3 : Nat, v231 = .slice (some ⟨b, 0, none⟩) 1 1 ∧ w172.heap.size ≤ b ∧ Blk u b [(Fl r_1), (Fl r_2), (Fl r_3)] ∧ cf .f32 r_1 = (btwV (ptG A_g.low A_g.step (x + (min c_ d_) % 2) (y + (min c_ d_) / 2 % 2) (z + (min c_ d_) / 4)) (ptG A_g.low A_g.step (x + (max c_ d_) % 2) (y + (max c_ d_) / 2 % 2) (z + (max c_ d_) / 4)) (fop .quo .f32 (cf .f32 r180) (fop .sub .f32 (cf .f32 r180) (cf .f32 r178)))).x ∧ cf .f32 r_2 = (btwV (ptG A_g.low A_g.step (x + (min c_ d_) % 2) (y + (min c_ d_) / 2 % 2) (z + (min c_ d_) / 4)) (ptG A_g.low A_g.step (x + (max c_ d_) % 2) (y + (max c_ d_) / 2 % 2) (z + (max c_ d_) / 4)) (fop .quo .f32 (cf .f32 r180) (fop .sub .f32 (cf .f32 r180) (cf .f32 r178)))).y ∧ cf .f32 r_3 = (btwV (ptG A_g.low A_g.step (x + (min c_ d_) % 2) (y + (min c_ d_) / 2 % 2) (z + (min c_ d_) / 4)) (ptG A_g.low A_g.step (x + (max c_ d_) % 2) (y + (max c_ d_) / 2 % 2) (z + (max c_ d_) / 4)) (fop .quo .f32 (cf .f32 r180) (fop .sub .f32 (cf .f32 r180) (cf .f32 r178)))).z := hF.2.1
    clear hF
    refine doesG_un rfl ?_
    obtain rfl := h84_
    obtain ⟨b103_, r103_1, r103_2, r103_3, rfl, hb103_, hB103_, e103_0, e103_1, e103_2⟩ := h103_
    refine (does_appendA (R := RV3) (k := 3) (g1 := gg187) (N0 := w172.heap.size) (xs := PS) (ys := [(btwV (ptG A_g.low A_g.step (x + (min c_ d_) % 2) (y + (min c_ d_) / 2 % 2) (z + (min c_ d_) / 4)) (ptG A_g.low A_g.step (x + (max c_ d_) % 2) (y + (max c_ d_) / 2 % 2) (z + (max c_ d_) / 4)) (fop .quo .f32 (cf .f32 r180) (fop .sub .f32 (cf .f32 r180) (cf .f32 r178))))]) Try.underlying29 inf35 rfl (by decide) (ev rfl) (ev rfl) (Own.klA (Own.klA hA190 RV3.flat (KpL.of_ext (L := []) E185) nin0) RV3.flat (KpL.of_ext (L := []) (KpL.toExt hu)) nin0) RV3.flat hB103_ rfl rfl rfl (fun i_ x_ hi_ => lit1 (R := RV3) (cs := [(Fl r103_1), (Fl r103_2), (Fl r103_3)]) (y := (btwV (ptG A_g.low A_g.step (x + (min c_ d_) % 2) (y + (min c_ d_) / 2 % 2) (z + (min c_ d_) / 4)) (ptG A_g.low A_g.step (x + (max c_ d_) % 2) (y + (max c_ d_) / 2 % 2) (z + (max c_ d_) / 4)) (fop .quo .f32 (cf .f32 r180) (fop .sub .f32 (cf .f32 r180) (cf .f32 r178)))))  (⟨r103_1, r103_2, r103_3, rfl, (by assumption), (by assumption), (by assumption)⟩) i_ x_ hi_) (by first | (simp only [List.length_append, List.length_cons, List.length_nil]; omega) | omega) (Nat.le_trans (Below.size E185) (KpL.size hu))).mono ?_; rintro v u' ⟨hK, hO⟩
    exact ⟨hO, hK⟩
  refine RW2_fin ?_; intro w233 E234 hP235; replace E234 : KpL [gg187] _ _ := E234
  obtain ⟨⟨⟨⟨⟨⟨⟨⟨⟨⟨⟨⟨⟨⟨⟨⟨⟨⟨⟨⟨⟨⟨⟨⟨⟨⟨-, q236⟩, -⟩, -⟩, -⟩, -⟩, -⟩, -⟩, -⟩, -⟩, -⟩, -⟩, -⟩, -⟩, -⟩, -⟩, -⟩, -⟩, -⟩, -⟩, -⟩, -⟩, -⟩, -⟩, -⟩, -⟩, q237⟩ := hP235
  have q236 : v207 = (Pt b_ 0) := q236 rfl
  obtain rfl := q236
  have q237 : Own RV3 3 35 gg187 w172.heap.size w233 v232 (PS ++ [(btwV (ptG A_g.low A_g.step (x + (min c_ d_) % 2) (y + (min c_ d_) / 2 % 2) (z + (min c_ d_) / 4)) (ptG A_g.low A_g.step (x + (max c_ d_) % 2) (y + (max c_ d_) / 2 % 2) (z + (max c_ d_) / 4)) (fop .quo .f32 (cf .f32 r180) (fop .sub .f32 (cf .f32 r180) (cf .f32 r178))))]) := q237 rfl
  obtain ⟨p239, q240, rfl⟩ := Own.shape q237
  refine fz ?_
  refine jj (does_nilCheck (ev rfl)) ?_
  refine jj (does_fieldAddr (ev rfl) fa73_1) ?_
  refine jj (does_fieldAddr (ev rfl) fa32_0) ?_
  refine sn (does_store (n := 1) (cs := [(Pt g_b g_o), (.slice p14 PS.length q15), vt, (.map (some gm))]) (u := (.slice p239 ((PS ++ [(btwV (ptG A_g.low A_g.step (x + (min c_ d_) % 2) (y + (min c_ d_) / 2 % 2) (z + (min c_ d_) / 4)) (ptG A_g.low A_g.step (x + (max c_ d_) % 2) (y + (max c_ d_) / 2 % 2) (z + (max c_ d_) / 4)) (fop .quo .f32 (cf .f32 r180) (fop .sub .f32 (cf .f32 r180) (cf .f32 r178))))]).length) q240)) (ev rfl) (ev rfl) Try.sizeOf29 rfl ((((((((((((((hB_b_.ext E21).ext E30).kl E47 nin0).wr W71 (Nat.ne_of_lt n59)).wr W75 (Nat.ne_of_lt n67)).ext E81).ext E99).wr W114 (Nat.ne_of_lt n109)).ext E121).ext E134).ext E145).kl E173 nin0).ext E185).kl E234 (ninS (by omega) nin0)) (Nat.le_of_ble_eq_true rfl) rfl) ?_; rintro _ w244 ⟨rfl, W242, hB243⟩
  change Blk _ _ [(Pt g_b g_o), (.slice p239 ((PS ++ [(btwV (ptG A_g.low A_g.step (x + (min c_ d_) % 2) (y + (min c_ d_) / 2 % 2) (z + (min c_ d_) / 4)) (ptG A_g.low A_g.step (x + (max c_ d_) % 2) (y + (max c_ d_) / 2 % 2) (z + (max c_ d_) / 4)) (fop .quo .f32 (cf .f32 r180) (fop .sub .f32 (cf .f32 r180) (cf .f32 r178))))]).length) q240), vt, (.map (some gm))] at hB243
  refine wn K183 ?_
  refine ws fun _ K246 => ?_
  refine region_draw (
    [Fact.pure [] (fun v => v = (Pt b_ 0)),
    Fact.pure [108] (fun v => v = (Pt b_ 0)),
    Fact.pure [109] (fun v => v = (Pt b_ 3)),
    Fact.pure [110] (fun v => v = (.map (some gm))),
    Fact.pure [] (fun v => v = (.agg #[(Iv (idxG A_g (x + (min c_ d_) % 2) (y + (min c_ d_) / 2 % 2) (z + (min c_ d_) / 4))), (Iv (idxG A_g (x + (max c_ d_) % 2) (y + (max c_ d_) / 2 % 2) (z + (max c_ d_) / 4)))])),
    Fact.pure [] (fun v => v = (Iv (PS.length : Int)))]) mixed (by kernel_rfl) (by intro _ _ d _ _ h; cases d <;> exact h) ?_
  obtain ⟨w247, hw249⟩ : ∃ w', w' = World.drew w244 := ⟨_, rfl⟩; rw [← hw249]; have E248 : Ext w244 w247 := by rw [hw249]; exact Ext.draw _
  clear hw249
  refine R_p (fun u hu _ => does_move (u := (Pt b_ 0)) (ev rfl)) fun v251 => ?_
  refine R_p (fun u hu hF => ?_) fun v252 => ?_
  · have h108_ : v251 = (Pt b_ 0) := hF.1
    clear hF; subst h108_
    exact does_nilCheck (ev rfl)
  refine R_p (fun u hu hF => ?_) fun v253 => ?_
  · have h109_ : v252 = (Pt b_ 0) := hF.1
    clear hF; subst h109_
    exact does_fieldAddr (ev rfl) fa73_2
  refine R_p (fun u hu hF => ?_) fun v254 => ?_
  · have h110_ : v253 = (Pt b_ 3) := hF.1
    clear hF; subst h110_
    exact does_load (u := (.map (some gm))) (ev rfl) Try.isAgg71 (Cells.at (Blk.cells ((hB243.ext E248).ext hu)) 3 rfl)
  refine R_p (fun u hu _ => does_loadAgg (cs := [(Iv (idxG A_g (x + (min c_ d_) % 2) (y + (min c_ d_) / 2 % 2) (z + (min c_ d_) / 4))), (Iv (idxG A_g (x + (max c_ d_) % 2) (y + (max c_ d_) / 2 % 2) (z + (max c_ d_) / 4)))]) (ev rfl) Try.isAgg117 Try.sizeOf117 (Blk.cells (((((((((hB115.ext E121).ext E134).ext E145).kl E173 nin0).ext E185).kl E234 (ninS (Ne.symm n203) nin0)).wr W242 (Nat.ne_of_gt n109)).ext E248).ext hu)) rfl) fun v255 => ?_
  refine R_p (fun u hu _ => does_move (u := (Iv (PS.length : Int))) (ev rfl)) fun v256 => ?_
  refine RW_fin ?_; intro w257 E258 hP259
  obtain ⟨⟨⟨⟨⟨⟨-, -⟩, -⟩, -⟩, q260⟩, q261⟩, q262⟩ := hP259
  have q260 : v254 = (.map (some gm)) := q260
  obtain rfl := q260
  have q261 : v255 = (.agg #[(Iv (idxG A_g (x + (min c_ d_) % 2) (y + (min c_ d_) / 2 % 2) (z + (min c_ d_) / 4))), (Iv (idxG A_g (x + (max c_ d_) % 2) (y + (max c_ d_) / 2 % 2) (z + (max c_ d_) / 4)))]) := q261
  obtain rfl := q261
  have q262 : v256 = (Iv (PS.length : Int)) := q262
  obtain rfl := q262
  refine fz ?_
  refine sn (does_mapUpdate (l := MM) (p := (idxG A_g (x + (min c_ d_) % 2) (y + (min c_ d_) / 2 % 2) (z + (min c_ d_) / 4), idxG A_g (x + (max c_ d_) % 2) (y + (max c_ d_) / 2 % 2) (z + (max c_ d_) / 4))) (v := (PS.length : Int)) kE117 Try.underlying71 (ev rfl) (ev rfl) (ev rfl) (MapL.ext (MapL.ext (MapL.kl (MapL.kl (MapL.ext (MapL.kl (MapL.ext (MapL.ext (MapL.ext (MapL.kl (MapL.ext (MapL.ext (MapL.kl (MapL.kl (MapL.kl (MapL.ext (MapL.ext hM_gm E21) E30) E47 nin0) (KpL.of_wr W71) (ninS (Nat.ne_of_lt n58) nin0)) (KpL.of_wr W75) (ninS (Nat.ne_of_lt n66) nin0)) E81) E99) (KpL.of_wr W114) (ninS (Nat.ne_of_lt n108) nin0)) E121) E134) E145) E173 nin0) E185) E234 (ninS (by omega) nin0)) (KpL.of_wr W242) (ninS hne_gm_b_ nin0)) E248) E258) (by first | assumption | (refine ⟨?_, ?_, ?_, ?_⟩ <;> (try dsimp only) <;> omega))) ?_; rintro _ w266 ⟨rfl, K264, hM265⟩
  refine fz ?_
  refine wn K246 ?_
  refine wr fun _ K268 => ?_
  refine jm (Iv (PS.length : Int)) ?_
  refine ja (Iv (PS.length : Int)) ?_
  refine wn K268 ?_
  refine wp_ret ?_
  refine ret_valK (v := (Iv (PS.length : Int))) (res_T rfl (slot rfl)) (KpL.more (KpL.ext (KpL.ext (KpL.more (KpL.more (KpL.ext (KpL.more (KpL.ext (KpL.ext (KpL.ext (KpL.more (KpL.ext (KpL.ext (KpL.more (KpL.more (KpL.more (KpL.ext (KpL.ext (KpL.refl _ _) E21) E30) E47 all0) (KpL.of_wr W71) (allS (.inr (Nat.le_trans (Below.size E21) hb55)) all0)) (KpL.of_wr W75) (allS (.inr (Nat.le_trans (Below.size E21) hb63)) all0)) E81) E99) (KpL.of_wr W114) (allS (.inr (Nat.le_trans (Nat.le_trans (Nat.le_trans (Nat.le_trans (Nat.le_trans (Below.size E21) (Below.size E30)) (KpL.size E47)) (Nat.le_of_eq (Eq.symm (Wr.size W71)))) (Nat.le_of_eq (Eq.symm (Wr.size W75)))) hb105)) all0)) E121) E134) E145) E173 all0) E185) E234 (allS (hg188.imp (fun h => by simp [h]) id) all0)) (KpL.of_wr W242) (allS (.inl (by simp)) all0)) E248) E258) K264 (allS (.inl (by simp)) all0)) ?_
  refine ⟨?_, (.slice p239 ((PS ++ [(btwV (ptG A_g.low A_g.step (x + (min c_ d_) % 2) (y + (min c_ d_) / 2 % 2) (z + (min c_ d_) / 4)) (ptG A_g.low A_g.step (x + (max c_ d_) % 2) (y + (max c_ d_) / 2 % 2) (z + (max c_ d_) / 4)) (fop .quo .f32 (cf .f32 r180) (fop .sub .f32 (cf .f32 r180) (cf .f32 r178))))]).length) q240), (((hB243.ext E248).ext E258).kl K264 (ninS (Ne.symm hne_gm_b_) nin0)), (Own.cast (ys := (psM A_g MM PS (crnI A_g x y z (min c_ d_), crnI A_g x y z (max c_ d_)) (keyE A_g x y z (min c_ d_) (max c_ d_)))) (Own.back (Own.kl (Own.ext (Own.ext (Own.kl q237 RV3.flat (KpL.of_wr W242) (allS ⟨(by omega), .inl n193⟩ all0)) RV3.flat E248) RV3.flat E258) RV3.flat K264 (allS ⟨(by omega), .inl n192⟩ all0)) hg188 (Nat.le_trans (Nat.le_trans (Nat.le_trans (Nat.le_trans (Nat.le_trans (Nat.le_trans (Nat.le_trans (Nat.le_trans (Nat.le_trans (Nat.le_trans (Nat.le_trans (Below.size E21) (Below.size E30)) (KpL.size E47)) (Nat.le_of_eq (Eq.symm (Wr.size W71)))) (Nat.le_of_eq (Eq.symm (Wr.size W75)))) (Below.size E81)) (Below.size E99)) (Nat.le_of_eq (Eq.symm (Wr.size W114)))) (Below.size E121)) (Below.size E134)) (Below.size E145)) (KpL.size E173))) (by first | exact psM_f (by have h := c140; first | exact h | (rw [hβ1] at h; exact h)) | exact mmM_f (by have h := c140; first | exact h | (rw [hβ1] at h; exact h)) | exact mmM_t (by have h := c140; first | exact h | (rw [hβ1] at h; exact h)) | (simp only [h2, h4, h6, h8, hβ1, hel1, hel2, h179, h181]; exact psM_t (by have h := c140; first | exact h | (rw [hβ1] at h; exact h)) (pt_crn hgr hcel.1 hcel.2 _ ⟨by omega, by omega⟩) (pt_crn hgr hcel.1 hcel.2 _ ⟨by omega, by omega⟩) hk8.1 (by rw [hk8.2, hc3, hd3]; omega) (vlG_at hel1) (vlG_at hel2)))), (MapL.cast (l' := (mmM MM PS.length (crnI A_g x y z (min c_ d_), crnI A_g x y z (max c_ d_)))) hM265 (by first | exact psM_f (by have h := c140; first | exact h | (rw [hβ1] at h; exact h)) | exact mmM_f (by have h := c140; first | exact h | (rw [hβ1] at h; exact h)) | exact mmM_t (by have h := c140; first | exact h | (rw [hβ1] at h; exact h)) | (simp only [h2, h4, h6, h8, hβ1, hel1, hel2, h179, h181]; exact psM_t (by have h := c140; first | exact h | (rw [hβ1] at h; exact h)) (pt_crn hgr hcel.1 hcel.2 _ ⟨by omega, by omega⟩) (pt_crn hgr hcel.1 hcel.2 _ ⟨by omega, by omega⟩) hk8.1 (by rw [hk8.2, hc3, hd3]; omega) (vlG_at hel1) (vlG_at hel2))))⟩
  try simp only [h2, h4, h6, h8, hβ1, hel1, hel2, h179, h181] at c140
  have x269 : (((atM (mmM MM PS.length (crnI A_g x y z (min c_ d_), crnI A_g x y z (max c_ d_))) (crnI A_g x y z (min c_ d_), crnI A_g x y z (max c_ d_))).getD 0) : Int) = (PS.length : Int) := by first | exact mmA_f (by have h := c140; first | exact h | (rw [hβ1] at h; exact h)) | exact mmA_t (by have h := c140; first | exact h | (rw [hβ1] at h; exact h))
  exact (by first | with_reducible rfl | rw [x269] | rfl)
/- .. as a step of a mesh in the making, its box open -/
theorem cq_impl_mesher_place (b : Nat) (S : MshS) (x y z c_ d_ : Int) (g_b g_o : Nat) (g : List Value) (A_g : GridT) (vp vt : Value) (m gp : Nat) (w w1 : World) (hx1 : Ext w w1) (hc_g : Cells w g_b g_o g) (hv_g : RGridT w A_g g) (hB : Blk w1 b ((KI 35 65 g_b g_o A_g).box vp vt m)) (hO : ∀ B, Own RV3 3 35 gp B w1 vp (S.1.map (plK A_g))) (hT : (KI 35 65 g_b g_o A_g).T m w1 S.1) (hb0 : w.heap.size ≤ b) (hg0 : w.heap.size ≤ gp) (hm0 : w.heap.size ≤ m) (h1 : gp ≠ b) (h2 : m ≠ b) (h3 : m ≠ gp) (hgr : isGrid A_g = true) (hcel : isCel A_g x y z = true ∧ 0 ≤ x ∧ 0 ≤ y ∧ 0 ≤ z) (hpq : 0 ≤ (min c_ d_) ∧ (min c_ d_) < (max c_ d_) ∧ (max c_ d_) ≤ 7 ∧ offC A_g (min c_ d_) + offC A_g ((max c_ d_) - (min c_ d_)) = offC A_g (max c_ d_)) (hok : okS A_g S.1) :
    GivesK [b, gp, m] Try.prog 60 #[Pt b 0, .agg #[Iv x, Iv y, Iv z], Iv c_, Iv d_] w1 (fun v w' => v = Iv (numK (addK S.1 (keyE A_g x y z (min c_ d_) (max c_ d_))) (keyE A_g x y z (min c_ d_) (max c_ d_))) ∧ ∃ vp' : Value, Blk w' b ((KI 35 65 g_b g_o A_g).box vp' vt m) ∧ Own RV3 3 35 gp w1.heap.size w' vp' ((addK S.1 (keyE A_g x y z (min c_ d_) (max c_ d_))).map (plK A_g)) ∧ (KI 35 65 g_b g_o A_g).T m w' (addK S.1 (keyE A_g x y z (min c_ d_) (max c_ d_)))) := by
  have hcc := cel_all hgr hcel.1 hcel.2
  have hc1 := (hcc (min c_ d_) ⟨hpq.1, by omega⟩).2.2
  have hc2 := (hcc (max c_ d_) ⟨by omega, hpq.2.2.1⟩).2.2
  have hkr := key_rng hgr hcel.1 hcel.2 ⟨hpq.1, hpq.2.1, hpq.2.2.1⟩
  have hle := hok.le hgr
  have h22 := cel_2 hcel.1 hcel.2
  have hinj : ∀ q ∈ S.1, pairK A_g q = pairK A_g (keyE A_g x y z (min c_ d_) (max c_ d_)) → q = (keyE A_g x y z (min c_ d_) (max c_ d_)) := fun q _ e => pairK_inj h22.1 h22.2.1 e
  have hpk := pair_key (g := A_g) (x := x) (y := y) (z := z) ⟨hpq.1, hpq.2.1, hpq.2.2.1⟩ (by rw [hc1, hc2]; omega)
  have hr := c_impl_mesher_place b x y z c_ d_ g_b g_o g A_g vp (S.1.map (plK A_g)) gp vt (mdK A_g S.1) m w w1 hx1 hc_g hv_g hb0 hg0 hm0 h1 h2 h3 hB hO hT hgr hcel hpq (by rw [List.length_map]; exact hle)
  rw [List.length_map, ← hpk, mmA_K hinj, psM_K hinj, mmM_K hinj] at hr
  exact hr
/- .. as a step of a mesh in the making -/
theorem cm_impl_mesher_place (b : Nat) (L : List Nat) (S : MshS) (x y z c_ d_ : Int) (g_b g_o : Nat) (g : List Value) (A_g : GridT) (w w1 : World) (hx1 : Ext w w1) (hc_g : Cells w g_b g_o g) (hv_g : RGridT w A_g g) (h : MX (KI 35 65 g_b g_o A_g) w.heap.size A_g b L w1 S) (hgr : isGrid A_g = true) (hcel : isCel A_g x y z = true ∧ 0 ≤ x ∧ 0 ≤ y ∧ 0 ≤ z) (hpq : 0 ≤ (min c_ d_) ∧ (min c_ d_) < (max c_ d_) ∧ (max c_ d_) ≤ 7 ∧ offC A_g (min c_ d_) + offC A_g ((max c_ d_) - (min c_ d_)) = offC A_g (max c_ d_)) (hok : okS A_g S.1) :
    GivesK L Try.prog 60 #[Pt b 0, .agg #[Iv x, Iv y, Iv z], Iv c_, Iv d_] w1 (fun v w' => v = Iv (numK (addK S.1 (keyE A_g x y z (min c_ d_) (max c_ d_))) (keyE A_g x y z (min c_ d_) (max c_ d_))) ∧ ∃ L', MX (KI 35 65 g_b g_o A_g) w.heap.size A_g b L' w' (addK S.1 (keyE A_g x y z (min c_ d_) (max c_ d_)), S.2) ∧ ∀ c ∈ L', c ∈ L ∨ w1.heap.size ≤ c) := by
  obtain ⟨vp, vt, m, gp, hB, hO, hT, hb0, hg0, hm0, h1, h2, h3, hin_, hcl⟩ := h.place
  have hr := cq_impl_mesher_place b S x y z c_ d_ g_b g_o g A_g vp vt m gp w w1 hx1 hc_g hv_g hB hO hT hb0 hg0 hm0 h1 h2 h3 hgr hcel hpq hok
  refine Calls.mono hr fun e w' ⟨v, he, hK, hv, vp', hB', hO', hM'⟩ => ?_
  obtain ⟨L', hX, hs⟩ := hcl _ w' vp' _ hK (fun _ h => .inl h) hB' hO' hM'
  exact ⟨v, he, (KpL.refl _ _).more hK hin_, hv, L', hX, hs⟩

end Go.Proofs.Ytjopopmipdakkaa
