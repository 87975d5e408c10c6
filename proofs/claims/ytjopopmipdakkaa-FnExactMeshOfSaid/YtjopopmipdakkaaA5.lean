/- contracts of functions, each walked once -/
import Derived.Test.YtjopopmipdakkaaA1
import Derived.Test.YtjopopmipdakkaaA4
namespace Go.Proofs.Ytjopopmipdakkaa
open Go Go.RowKit
set_option maxRecDepth 100000
set_option maxHeartbeats 3200000
set_option linter.unusedVariables false
set_option linter.unusedSimpArgs false

/- (*impl.mesher).cell -/
theorem c_impl_mesher_cell (b_ : Nat) (x : Int) (y : Int) (z : Int) (g_b : Nat) (g_o : Nat) (g : List Value) (A_g : GridT) (L : List Nat) (S : MshS) (w : World) (w1 : World) (hx1 : Ext w w1) (hc_g : Cells w g_b g_o g) (hv_g : RGridT w A_g g) (h : MX (KI 35 65 g_b g_o A_g) w.heap.size A_g b_ L w1 S) (hgr : isGrid A_g = true) (hcel : isCel A_g x y z = true ∧ 0 ≤ x ∧ 0 ≤ y ∧ 0 ≤ z) (hok : okS A_g S.1) (hts : S.2.length ≤ 50000) : GivesK L Try.prog 40 #[(Pt b_ 0), (.agg #[(Iv x), (Iv y), (Iv z)])] w1 (fun v w' => (v = .tuple #[]) ∧ ∃ L', MX (KI 35 65 g_b g_o A_g) w.heap.size A_g b_ L' w' (celS A_g x y z S 6) ∧ ∀ c ∈ L', c ∈ L ∨ w1.heap.size ≤ c) := by
 obtain ⟨r1, r3, r5, r7, y9, rfl, h2, h4, h6, h8, h10⟩ := hv_g
 have hs13 := h10; have hs13l := Sl.len h10; obtain ⟨p11, q12, rfl⟩ := Sl.shape h10
 have hgc := isGrid_cnt hgr
 have hcl := isCel_iff.1 hcel.1
 have hcc := cel_all hgr hcel.1 hcel.2
 have hql : quaL.length = 6 := rfl
 refine enterK [(Pt b_ 0), (.agg #[(Iv x), (Iv y), (Iv z)]), Ud, Ud, Ud, Ud, Ud, Ud, Ud, Ud, Ud, Ud, Ud, Ud, Ud, Ud, Ud, Ud, Ud, Ud, Ud, Ud, Ud, Ud, Ud, Ud, Ud, Ud, Ud, Ud, Ud, Ud, Ud, Ud, Ud, Ud, Ud, Ud, Ud, Ud, Ud, Ud, Ud, Ud, Ud, Ud, Ud, Ud, Ud, Ud, Ud, Ud, Ud, Ud, Ud, Ud, Ud, Ud, Ud, Ud, Ud, Ud, Ud, Ud, Ud, Ud, Ud, Ud, Ud, Ud, Ud, Ud, Ud, Ud, Ud, Ud, Ud, Ud, Ud, Ud, Ud, Ud, Ud, Ud, Ud, Ud, Ud, Ud, Ud, Ud, Ud, Ud, Ud, Ud, Ud, Ud, Ud, Ud, Ud, Ud, Ud, Ud, Ud] Try.func40 rfl Try.ntmps40 rfl ?_
 refine wr fun _ K14 => ?_
 refine sd (does_box (u := (.agg #[(Iv x), (Iv y), (Iv z)])) (ev rfl)) ?_; rintro _ w19 ⟨b15, rfl, hb16, hB17, E18⟩
 change Blk _ _ [(Iv x), (Iv y), (Iv z)] at hB17
 have X23 := Ext.gr hx1 E18
 refine fz ?_
 refine wn K14 ?_
 refine wr fun _ K24 => ?_
 refine sd (does_call (args := #[]) cal56 (evs rfl) (c_impl_quarters _)) ?_; rintro _ w26 ⟨E25, ⟨y28, rfl, hh27⟩⟩
 have X29 := Ext.gr X23 E25
 have n30 : b15 < w19.heap.size := Blk.lt hB17
 obtain ⟨p31, q32, rfl⟩ := Sl.shape hh27.get
 refine fz ?_
 refine jj (does_len_slice Try.underlying92 (ev rfl)) ?_
 refine jm (Iv 0) ?_
 refine wn K24 ?_
 refine wp_block ?_
 have hz33 := (MX.ext KI.good (MX.ext KI.good h E18) E25)
 refine loop_ghost (σ := Nat) (fun q a w' => ∃ u34 : Nat → Value, a = fr [(Pt b_ 0), (.agg #[(Iv x), (Iv y), (Iv z)]), Ud, (Pt b15 0), Ud, (u34 5), (u34 6), (u34 7), (u34 8), Ud, (u34 10), (u34 11), Ud, (u34 13), (.slice p31 quaL.length q32), (Iv (quaL.length : Int)), (Iv (q : Int)), (u34 17), (u34 18), (u34 19), (u34 20), (u34 21), (u34 22), (u34 23), (u34 24), (u34 25), (u34 26), (u34 27), (u34 28), (u34 29), (u34 30), (u34 31), (u34 32), (u34 33), (u34 34), (u34 35), (u34 36), (u34 37), (u34 38), (u34 39), (u34 40), (u34 41), (u34 42), (u34 43), (u34 44), (u34 45), (u34 46), (u34 47), (u34 48), (u34 49), (u34 50), (u34 51), (u34 52), (u34 53), (u34 54), (u34 55), (u34 56), (u34 57), (u34 58), (u34 59), (u34 60), (u34 61), (u34 62), (u34 63), (u34 64), (u34 65), (u34 66), (u34 67), (u34 68), (u34 69), (u34 70), (u34 71), (u34 72), (u34 73), (u34 74), (u34 75), (u34 76), (u34 77), (u34 78), (u34 79), (u34 80), (u34 81), (u34 82), (u34 83), (u34 84), (u34 85), (u34 86), (u34 87), (u34 88), (u34 89), (u34 90), (u34 91), (u34 92), (u34 93), (u34 94), (u34 95), (u34 96), (u34 97), (u34 98), (u34 99), (u34 100), (u34 101), (u34 102)] ∧ KpL L w26 w' ∧ (∃ L', MX (KI 35 65 g_b g_o A_g) w.heap.size A_g b_ L' w' (celS A_g x y z S q) ∧ ∀ c ∈ L', c ∈ L ∨ w26.heap.size ≤ c) ∧ (q ≤ 6)) (fun q => 6 - q) 0 ?_ ?_
 ·refine ⟨pk [], rfl, KpL.refl _ _, ⟨L, MX.cast hz33 (by (try dsimp only); rfl), fun c_ hc_ => .inl hc_⟩, ?_⟩
  exact Nat.zero_le _
 ·rintro q a w35 ⟨u34, rfl, E36, hst, hq⟩
  have X38 := Below.kl X29 E36 (fun c_ hc_ => Nat.le_trans (Nat.le_refl _) ((MX.bnd h) c_ hc_).1) (Nat.le_refl _)
  obtain ⟨Lm39, hX40, hs41⟩ := hst
  have hc0 := celS_ok hgr hcel.1 hcel.2 hok q (by omega)
  refine wr fun _ K42 => ?_
  refine jj (does_icmp (p := (q : Int)) (q := (quaL.length : Int)) (.inr (.inr (.inl rfl))) (ev rfl) (ev rfl)) ?_
  refine wn K42 ?_
  refine ws fun _ K43 => ?_
  refine wp_cond_split (t := icmp .lss (q : Int) (quaL.length : Int)) (ev rfl) (fun c44 => ?_) (fun c44 => ?_)
  ·have c44' := c44
   (try simp only [icmp, bs] at c44')
   refine wp_skip (K43 _ _ ?_)
   refine ws fun _ K45 => ?_
   refine wp_block ?_
   refine wr fun _ K46 => ?_
   obtain ⟨el1, hel1⟩ : ∃ e, quaL[q]? = some e := ⟨_, List.getElem?_eq_getElem (by omega)⟩
   refine sd (does_indexSl (R := RQuaT) (i := (q : Int)) (xs := quaL) (e := el1) Try.underlying92 Try.sizeOf96 (ev rfl) (ev rfl) (hh27 _ ((Same.refl _ _).kl E36 (fun c_ hc_ => Or.inl (Nat.lt_of_lt_of_le ((MX.bnd h) _ hc_).2 (Below.size E18))))) (by omega) hel1) ?_; rintro _ w35 ⟨b47, o48, _, rfl, hc50, rfl, rfl⟩
   refine fz ?_
   obtain ⟨hq6, hcn, htu, hra, hrb, hrc, hrd⟩ := quaL_at hel1
   have hi1 : 0 ≤ idxG A_g (x + el1.a % 2) (y + el1.a / 2 % 2) (z + el1.a / 4) ∧ idxG A_g (x + el1.a % 2) (y + el1.a / 2 % 2) (z + el1.a / 4) < A_g.vals.length := ⟨(hcc el1.a hra).1, (hcc el1.a hra).2.1⟩
   have hi2 : 0 ≤ idxG A_g (x + el1.b % 2) (y + el1.b / 2 % 2) (z + el1.b / 4) ∧ idxG A_g (x + el1.b % 2) (y + el1.b / 2 % 2) (z + el1.b / 4) < A_g.vals.length := ⟨(hcc el1.b hrb).1, (hcc el1.b hrb).2.1⟩
   have hi3 : 0 ≤ idxG A_g (x + el1.c % 2) (y + el1.c / 2 % 2) (z + el1.c / 4) ∧ idxG A_g (x + el1.c % 2) (y + el1.c / 2 % 2) (z + el1.c / 4) < A_g.vals.length := ⟨(hcc el1.c hrc).1, (hcc el1.c hrc).2.1⟩
   have hi4 : 0 ≤ idxG A_g (x + el1.d % 2) (y + el1.d / 2 % 2) (z + el1.d / 4) ∧ idxG A_g (x + el1.d % 2) (y + el1.d / 2 % 2) (z + el1.d / 4) < A_g.vals.length := ⟨(hcc el1.d hrd).1, (hcc el1.d hrd).2.1⟩
   refine jj (does_loadAgg (cs := [(Iv el1.a), (Iv el1.b), (Iv el1.c), (Iv el1.d), (Bo el1.t)]) (ev rfl) Try.isAgg96 Try.sizeOf96 hc50 rfl) ?_
   refine sd (does_alloc z96) ?_; rintro _ w55 ⟨b51, rfl, hb52, hB53, E54⟩
   have hz58 := ((hB17.ext E25).kl E36 (fun hc_ => absurd (Nat.lt_of_lt_of_le ((MX.bnd h) _ hc_).2 (Nat.le_trans (Nat.le_refl _) hb16)) (Nat.lt_irrefl _)))
   have n57 : b15 < b51 := Nat.lt_of_lt_of_le (Blk.lt hz58) hb52
   have n59 : b_ < b51 := Nat.lt_of_lt_of_le (cell_lt (Cells.at (MX.c0 hX40) 0 rfl)) hb52
   have g61 : w.heap.size ≤ b51 := Nat.le_trans (Below.size X38) hb52
   change Blk _ _ [(Iv 0), (Iv 0), (Iv 0), (Iv 0), (Bo false)] at hB53
   have X62 := Ext.gr X38 E54
   refine fz ?_
   refine sn (does_store (n := 5) (cs := [(Iv 0), (Iv 0), (Iv 0), (Iv 0), (Bo false)]) (u := (.agg #[(Iv el1.a), (Iv el1.b), (Iv el1.c), (Iv el1.d), (Bo el1.t)])) (ev rfl) (ev rfl) Try.sizeOf96 rfl hB53 (Nat.le_of_ble_eq_true rfl) rfl) ?_; rintro _ w65 ⟨rfl, W63, hB64⟩
   change Blk _ _ [(Iv el1.a), (Iv el1.b), (Iv el1.c), (Iv el1.d), (Bo el1.t)] at hB64
   have X66 := Below.wr X62 W63 g61
   refine wn K46 ?_
   refine wr fun _ K67 => ?_
   refine jj (does_build (parts' := []) (cells := #[(Bo false), (Bo false), (Bo false), (Bo false)]) (evp rfl) (by kernel_rfl)) ?_
   refine sd (does_alloc z97) ?_; rintro _ w72 ⟨b68, rfl, hb69, hB70, E71⟩
   have hz75 := ((hz58.ext E54).wr W63 (Nat.ne_of_lt n57))
   have n74 : b15 < b68 := Nat.lt_of_lt_of_le (Blk.lt hz75) hb69
   have n76 : b_ < b68 := Nat.lt_of_lt_of_le (cell_lt (Cells.at (((MX.c0 hX40).ext E54).wr W63 (Nat.ne_of_lt n59)) 0 rfl)) hb69
   have n78 : b51 < b68 := Nat.lt_of_lt_of_le (Blk.lt hB64) hb69
   have g79 : w.heap.size ≤ b68 := Nat.le_trans (Below.size X66) hb69
   change Blk _ _ [(Bo false), (Bo false), (Bo false), (Bo false)] at hB70
   have X80 := Ext.gr X66 E71
   refine fz ?_
   refine sn (does_store (n := 4) (cs := [(Bo false), (Bo false), (Bo false), (Bo false)]) (u := (.agg #[(Bo false), (Bo false), (Bo false), (Bo false)])) (ev rfl) (ev rfl) Try.sizeOf97 rfl hB70 (Nat.le_of_ble_eq_true rfl) rfl) ?_; rintro _ w83 ⟨rfl, W81, hB82⟩
   change Blk _ _ [(Bo false), (Bo false), (Bo false), (Bo false)] at hB82
   have X84 := Below.wr X80 W81 g79
   refine wn K67 ?_
   refine ws fun _ K85 => ?_
   refine wr fun _ K86 => ?_
   refine jj (does_fieldAddr (ev rfl) fa96_0) ?_
   have hz87 := ((hB64.ext E71).wr W81 (Nat.ne_of_lt n78))
   refine jj (does_loadAgg (cs := [(Iv el1.a), (Iv el1.b), (Iv el1.c), (Iv el1.d)]) (ev rfl) Try.isAgg94 Try.sizeOf94 (Cells.sub (Blk.cells hz87) 0 4) rfl) ?_
   refine jm (Iv 0) ?_
   refine wn K86 ?_
   refine wp_block ?_
   refine loop_unroll 5 ?_
   refine un_step ?_
   refine wr fun _ K88 => ?_
   refine jj (does_icmp (p := 0) (q := 4) (.inr (.inr (.inl rfl))) (ev rfl) (ev rfl)) ?_
   refine wn K88 ?_
   refine ws fun _ K89 => ?_
   refine wp_cond_true (ev rfl) ?_
   refine wp_skip (K89 _ _ ?_)
   refine ws fun _ K90 => ?_
   refine wp_block ?_
   refine wr fun _ K91 => ?_
   refine jm (Iv 0) ?_
   refine jj (does_index_run (r := (Iv el1.a)) (ev rfl) (ev rfl) (fun w => ix94_0 _ _ _ _ w)) ?_
   refine ja (Iv 0) ?_
   refine ja (Iv el1.a) ?_
   refine wn K91 ?_
   obtain ⟨el2, hel2⟩ : ∃ e, A_g.vals[(idxG A_g (x + el1.a % 2) (y + el1.a / 2 % 2) (z + el1.a / 4)).toNat]? = some e := ⟨_, List.getElem?_eq_getElem (by omega)⟩
   obtain ⟨β1, hβ1⟩ : ∃ b : Bool, b = (fcmp .lss (ford .f32 el2 (cf .f32 0))) := ⟨_, rfl⟩
   refine region_draw (
    [Fact.pure [] (fun v => v = (Iv 0)),
  Fact.pure [] (fun v => v = (Pt b_ 0)),
  Fact.pure [28] (fun v => v = (Pt b_ 0)),
  Fact.pure [29] (fun v => v = (Pt b_ 0)),
  Fact.pure [30] (fun v => v = (Pt g_b g_o)),
  Fact.pure [31] (fun v => v = (Pt g_b g_o)),
  Fact.pure [32] (fun v => v = (Pt g_b (g_o + 7))),
  Fact.pure [33] (fun v => v = (.slice p11 A_g.vals.length q12)),
  Fact.pure [] (fun v => v = (Pt b_ 0)),
  Fact.pure [35] (fun v => v = (Pt b_ 0)),
  Fact.pure [36] (fun v => v = (Pt b_ 0)),
  Fact.pure [37] (fun v => v = (Pt g_b g_o)),
  Fact.pure [] (fun v => v = (.agg #[(Iv x), (Iv y), (Iv z)])),
  Fact.pure [] (fun v => v = (Iv el1.a)),
  Fact.pure [39, 40] (fun v => v = (.agg #[(Iv (x + el1.a % 2)), (Iv (y + el1.a / 2 % 2)), (Iv (z + el1.a / 4))])),
  Fact.pure [38, 41] (fun v => v = (Iv (idxG A_g (x + el1.a % 2) (y + el1.a / 2 % 2) (z + el1.a / 4)))),
  Fact.mem [34, 42] (fun v w' => PtrR RF w' v el2) (by intro v w1 w2 hx h; exact h.ext RF.mono hx),
  Fact.pure [43] (fun v => ∃ r_1 : Nat, v = (Fl r_1) ∧ cf .f32 r_1 = el2),
  Fact.pure [44] (fun v => v = (Bo β1)),
  Fact.pure [27] (fun v => v = (Pt b68 0))]) mixed (by kernel_rfl) (by intro _ _ d _ _ h; cases d <;> exact h) ?_
   obtain ⟨w92, hw94⟩ : ∃ w', w' = World.drew w83 := ⟨_, rfl⟩; rw [← hw94]; have E93 : Ext w83 w92 := by rw [hw94]; exact Ext.draw _
   clear hw94
   have X95 := Ext.gr X84 E93
   refine R_p (fun u hu _ => does_move (u := (Iv 0)) (ev rfl)) fun v96 => ?_
   refine R_p (fun u hu _ => does_move (u := (Pt b_ 0)) (ev rfl)) fun v97 => ?_
   refine R_p (fun u hu hF => ?_) fun v98 => ?_
   · have h28_ : v97 = (Pt b_ 0) := hF.1
     clear hF; subst h28_
     exact does_nilCheck (ev rfl)
   refine R_p (fun u hu hF => ?_) fun v99 => ?_
   · have h29_ : v98 = (Pt b_ 0) := hF.1
     clear hF; subst h29_
     exact does_fieldAddr (ev rfl) fa73_0
   refine R_p (fun u hu hF => ?_) fun v100 => ?_
   · have h30_ : v99 = (Pt b_ 0) := hF.1
     clear hF; subst h30_
     exact does_load (u := (Pt g_b g_o)) (ev rfl) Try.isAgg46 (Cells.at (((((((MX.c0 hX40).ext E54).wr W63 (Nat.ne_of_lt n59)).ext E71).wr W81 (Nat.ne_of_lt n76)).ext E93).ext hu) 0 rfl)
   refine R_p (fun u hu hF => ?_) fun v101 => ?_
   · have h31_ : v100 = (Pt g_b g_o) := hF.1
     clear hF; subst h31_
     exact does_nilCheck (ev rfl)
   refine R_p (fun u hu hF => ?_) fun v102 => ?_
   · have h32_ : v101 = (Pt g_b g_o) := hF.1
     clear hF; subst h32_
     exact does_fieldAddr (ev rfl) fa37_5
   refine R_p (fun u hu hF => ?_) fun v103 => ?_
   · have h33_ : v102 = (Pt g_b (g_o + 7)) := hF.1
     clear hF; subst h33_
     exact does_load (u := (.slice p11 A_g.vals.length q12)) (ev rfl) Try.isAgg25 (Cells.at ((hc_g.ext (Ext.gr X84 E93)).ext hu) 7 rfl)
   refine R_p (fun u hu _ => does_move (u := (Pt b_ 0)) (ev rfl)) fun v104 => ?_
   refine R_p (fun u hu hF => ?_) fun v105 => ?_
   · have h35_ : v104 = (Pt b_ 0) := hF.1
     clear hF; subst h35_
     exact does_nilCheck (ev rfl)
   refine R_p (fun u hu hF => ?_) fun v106 => ?_
   · have h36_ : v105 = (Pt b_ 0) := hF.1
     clear hF; subst h36_
     exact does_fieldAddr (ev rfl) fa73_0
   refine R_p (fun u hu hF => ?_) fun v107 => ?_
   · have h37_ : v106 = (Pt b_ 0) := hF.1
     clear hF; subst h37_
     exact does_load (u := (Pt g_b g_o)) (ev rfl) Try.isAgg46 (Cells.at (((((((MX.c0 hX40).ext E54).wr W63 (Nat.ne_of_lt n59)).ext E71).wr W81 (Nat.ne_of_lt n76)).ext E93).ext hu) 0 rfl)
   refine R_p (fun u hu _ => does_loadAgg (cs := [(Iv x), (Iv y), (Iv z)]) (ev rfl) Try.isAgg69 Try.sizeOf69 (Blk.cells ((((hz75.ext E71).wr W81 (Nat.ne_of_lt n74)).ext E93).ext hu)) rfl) fun v108 => ?_
   refine R_p (fun u hu _ => does_move (u := (Iv el1.a)) (ev rfl)) fun v109 => ?_
   refine R_d (fun u hu hF => ?_) (fun v110 => ?_)
   ·have h39_ : v108 = (.agg #[(Iv x), (Iv y), (Iv z)]) := hF.1
    have h40_ : v109 = (Iv el1.a) := hF.2.1
    clear hF
    refine doesG_un rfl ?_
    obtain rfl := h39_
    obtain rfl := h40_
    refine (does_call (args := #[(.agg #[(Iv x), (Iv y), (Iv z)]), (Iv el1.a)]) cal58 (evs rfl) (c_impl_corner x y z el1.a _ (by omega) (by omega))).mono ?_; rintro v u' ⟨hx, hv⟩
    exact ⟨hv, hx⟩
   refine R_d (fun u hu hF => ?_) (fun v111 => ?_)
   ·have h38_ : v107 = (Pt g_b g_o) := hF.1
    have h41_ : v110 = (.agg #[(Iv (x + el1.a % 2)), (Iv (y + el1.a / 2 % 2)), (Iv (z + el1.a / 4))]) := hF.2.1
    clear hF
    refine doesG_un rfl ?_
    obtain rfl := h38_
    obtain rfl := h41_
    refine (does_call (args := #[(Pt g_b g_o), (.agg #[(Iv (x + el1.a % 2)), (Iv (y + el1.a / 2 % 2)), (Iv (z + el1.a / 4))])]) cal57 (evs rfl) (c_impl_Grid_index g_b g_o [(Fl r1), (Fl r3), (Fl r5), (Fl r7), (Iv A_g.x), (Iv A_g.y), (Iv A_g.z), (.slice p11 A_g.vals.length q12)] A_g (x + el1.a % 2) (y + el1.a / 2 % 2) (z + el1.a / 4) _ ((hc_g.ext (Ext.gr X84 E93)).ext hu) ⟨r1, r3, r5, r7, (.slice p11 A_g.vals.length q12), rfl, h2, h4, h6, h8, (Sl.ext (Sl.ext hs13 RF.mono (Ext.gr X84 E93)) RF.mono hu)⟩)).mono ?_; rintro v u' ⟨hx, hv⟩
    exact ⟨hv, hx⟩
   refine R_d (fun u hu hF => ?_) (fun v112 => ?_)
   ·have h34_ : v103 = (.slice p11 A_g.vals.length q12) := hF.1
    have h42_ : v111 = (Iv (idxG A_g (x + el1.a % 2) (y + el1.a / 2 % 2) (z + el1.a / 4))) := hF.2.1
    clear hF
    refine doesG_un rfl ?_
    obtain rfl := h34_
    obtain rfl := h42_
    refine (does_indexSl (R := RF) (i := idxG A_g (x + el1.a % 2) (y + el1.a / 2 % 2) (z + el1.a / 4)) (xs := A_g.vals) (e := el2) Try.underlying25 Try.sizeOf22 (ev rfl) (ev rfl) (Sl.ext (Sl.ext hs13 RF.mono (Ext.gr X84 E93)) RF.mono hu) (by omega) hel2).mono ?_; rintro v u' ⟨b, of, cs, hv, hc, hR, hu'⟩; subst hu'
    exact ⟨⟨b, of, cs, hv, hc, hR⟩, Ext.refl _⟩
   refine R_d (fun u hu hF => ?_) (fun v113 => ?_)
   ·have h43_ : PtrR RF u v112 el2 := hF.1
    clear hF
    refine doesG_un rfl ?_
    obtain ⟨b43_, o43_, _, rfl, hc43_, ⟨r43_1, rfl, h43_2⟩⟩ := h43_
    refine (does_load (u := (Fl r43_1)) (ev rfl) Try.isAgg22 (Cells.at hc43_ 0 rfl)).mono ?_; rintro _ _ ⟨rfl, rfl⟩
    exact ⟨⟨r43_1, rfl, (by simp only [h43_2])⟩, Ext.refl _⟩
   refine R_d (fun u hu hF => ?_) (fun v114 => ?_)
   ·have h44_ : ∃ r_1 : Nat, v113 = (Fl r_1) ∧ cf .f32 r_1 = el2 := hF.1
    clear hF
    refine doesG_un rfl ?_
    obtain ⟨r44_1, rfl, h44_2⟩ := h44_
    refine (does_fcmp (.inr (.inr (.inl rfl))) (ev rfl) (ev rfl)).mono ?_; rintro _ _ ⟨rfl, rfl⟩
    exact ⟨(by first | rfl | (show _ = _; simp only [hβ1, h44_2]; done) | (show _ = _; simp only [hβ1, h44_2]; rfl)), Ext.refl _⟩
   refine R_p (fun u hu hF => ?_) fun v115 => ?_
   · have h27_ : v96 = (Iv 0) := hF.1
     clear hF; subst h27_
     exact does_indexAt_run (r := (Pt b68 0)) (ev rfl) (ev rfl) (fun w => ia97_0 _ _ w)
   refine RW_fin ?_; intro w116 E117 hP118
   obtain ⟨⟨⟨⟨⟨⟨⟨⟨⟨⟨⟨⟨⟨⟨⟨⟨⟨⟨⟨⟨-, -⟩, -⟩, -⟩, -⟩, -⟩, -⟩, -⟩, -⟩, -⟩, -⟩, -⟩, -⟩, -⟩, -⟩, -⟩, -⟩, -⟩, -⟩, q119⟩, q120⟩ := hP118
   have X121 := Ext.gr X95 E117
   have q119 : v114 = (Bo β1) := q119
   obtain rfl := q119
   have q120 : v115 = (Pt b68 0) := q120
   obtain rfl := q120
   refine fz ?_
   have hz122 := ((hB82.ext E93).ext E117)
   refine sn (does_store (n := 1) (cs := [(Bo false), (Bo false), (Bo false), (Bo false)]) (u := (Bo β1)) (ev rfl) (ev rfl) Try.sizeOf4 rfl hz122 (Nat.le_of_ble_eq_true rfl) rfl) ?_; rintro _ w125 ⟨rfl, W123, hB124⟩
   change Blk _ _ [(Bo β1), (Bo false), (Bo false), (Bo false)] at hB124
   have X126 := Below.wr X121 W123 g79
   refine wn K90 ?_
   refine wp_region_lit ?_
   refine jj (does_iarith (p := 0) (q := 1) (r := (1)) (ev rfl) (ev rfl) (.inl ⟨rfl, rfl⟩)) ?_
   refine jm (Iv 1) ?_
   refine wpList_nil ?_
   refine un_step ?_
   refine wr fun _ K127 => ?_
   refine jj (does_icmp (p := 1) (q := 4) (.inr (.inr (.inl rfl))) (ev rfl) (ev rfl)) ?_
   refine wn K127 ?_
   refine ws fun _ K128 => ?_
   refine wp_cond_true (ev rfl) ?_
   refine wp_skip (K128 _ _ ?_)
   refine ws fun _ K129 => ?_
   refine wp_block ?_
   refine wr fun _ K130 => ?_
   refine jm (Iv 1) ?_
   refine jj (does_index_run (r := (Iv el1.b)) (ev rfl) (ev rfl) (fun w => ix94_1 _ _ _ _ w)) ?_
   refine ja (Iv 1) ?_
   refine ja (Iv el1.b) ?_
   refine wn K130 ?_
   obtain ⟨el3, hel3⟩ : ∃ e, A_g.vals[(idxG A_g (x + el1.b % 2) (y + el1.b / 2 % 2) (z + el1.b / 4)).toNat]? = some e := ⟨_, List.getElem?_eq_getElem (by omega)⟩
   obtain ⟨β2, hβ2⟩ : ∃ b : Bool, b = (fcmp .lss (ford .f32 el3 (cf .f32 0))) := ⟨_, rfl⟩
   refine region_draw (
    [Fact.pure [] (fun v => v = (Iv 1)),
  Fact.pure [] (fun v => v = (Pt b_ 0)),
  Fact.pure [28] (fun v => v = (Pt b_ 0)),
  Fact.pure [29] (fun v => v = (Pt b_ 0)),
  Fact.pure [30] (fun v => v = (Pt g_b g_o)),
  Fact.pure [31] (fun v => v = (Pt g_b g_o)),
  Fact.pure [32] (fun v => v = (Pt g_b (g_o + 7))),
  Fact.pure [33] (fun v => v = (.slice p11 A_g.vals.length q12)),
  Fact.pure [] (fun v => v = (Pt b_ 0)),
  Fact.pure [35] (fun v => v = (Pt b_ 0)),
  Fact.pure [36] (fun v => v = (Pt b_ 0)),
  Fact.pure [37] (fun v => v = (Pt g_b g_o)),
  Fact.pure [] (fun v => v = (.agg #[(Iv x), (Iv y), (Iv z)])),
  Fact.pure [] (fun v => v = (Iv el1.b)),
  Fact.pure [39, 40] (fun v => v = (.agg #[(Iv (x + el1.b % 2)), (Iv (y + el1.b / 2 % 2)), (Iv (z + el1.b / 4))])),
  Fact.pure [38, 41] (fun v => v = (Iv (idxG A_g (x + el1.b % 2) (y + el1.b / 2 % 2) (z + el1.b / 4)))),
  Fact.mem [34, 42] (fun v w' => PtrR RF w' v el3) (by intro v w1 w2 hx h; exact h.ext RF.mono hx),
  Fact.pure [43] (fun v => ∃ r_1 : Nat, v = (Fl r_1) ∧ cf .f32 r_1 = el3),
  Fact.pure [44] (fun v => v = (Bo β2)),
  Fact.pure [27] (fun v => v = (Pt b68 1))]) mixed (by kernel_rfl) (by intro _ _ d _ _ h; cases d <;> exact h) ?_
   obtain ⟨w131, hw133⟩ : ∃ w', w' = World.drew w125 := ⟨_, rfl⟩; rw [← hw133]; have E132 : Ext w125 w131 := by rw [hw133]; exact Ext.draw _
   clear hw133
   have X134 := Ext.gr X126 E132
   refine R_p (fun u hu _ => does_move (u := (Iv 1)) (ev rfl)) fun v135 => ?_
   refine R_p (fun u hu _ => does_move (u := (Pt b_ 0)) (ev rfl)) fun v136 => ?_
   refine R_p (fun u hu hF => ?_) fun v137 => ?_
   · have h28_ : v136 = (Pt b_ 0) := hF.1
     clear hF; subst h28_
     exact does_nilCheck (ev rfl)
   refine R_p (fun u hu hF => ?_) fun v138 => ?_
   · have h29_ : v137 = (Pt b_ 0) := hF.1
     clear hF; subst h29_
     exact does_fieldAddr (ev rfl) fa73_0
   refine R_p (fun u hu hF => ?_) fun v139 => ?_
   · have h30_ : v138 = (Pt b_ 0) := hF.1
     clear hF; subst h30_
     exact does_load (u := (Pt g_b g_o)) (ev rfl) Try.isAgg46 (Cells.at ((((((((((MX.c0 hX40).ext E54).wr W63 (Nat.ne_of_lt n59)).ext E71).wr W81 (Nat.ne_of_lt n76)).ext E93).ext E117).wr W123 (Nat.ne_of_lt n76)).ext E132).ext hu) 0 rfl)
   refine R_p (fun u hu hF => ?_) fun v140 => ?_
   · have h31_ : v139 = (Pt g_b g_o) := hF.1
     clear hF; subst h31_
     exact does_nilCheck (ev rfl)
   refine R_p (fun u hu hF => ?_) fun v141 => ?_
   · have h32_ : v140 = (Pt g_b g_o) := hF.1
     clear hF; subst h32_
     exact does_fieldAddr (ev rfl) fa37_5
   refine R_p (fun u hu hF => ?_) fun v142 => ?_
   · have h33_ : v141 = (Pt g_b (g_o + 7)) := hF.1
     clear hF; subst h33_
     exact does_load (u := (.slice p11 A_g.vals.length q12)) (ev rfl) Try.isAgg25 (Cells.at ((hc_g.ext (Ext.gr X126 E132)).ext hu) 7 rfl)
   refine R_p (fun u hu _ => does_move (u := (Pt b_ 0)) (ev rfl)) fun v143 => ?_
   refine R_p (fun u hu hF => ?_) fun v144 => ?_
   · have h35_ : v143 = (Pt b_ 0) := hF.1
     clear hF; subst h35_
     exact does_nilCheck (ev rfl)
   refine R_p (fun u hu hF => ?_) fun v145 => ?_
   · have h36_ : v144 = (Pt b_ 0) := hF.1
     clear hF; subst h36_
     exact does_fieldAddr (ev rfl) fa73_0
   refine R_p (fun u hu hF => ?_) fun v146 => ?_
   · have h37_ : v145 = (Pt b_ 0) := hF.1
     clear hF; subst h37_
     exact does_load (u := (Pt g_b g_o)) (ev rfl) Try.isAgg46 (Cells.at ((((((((((MX.c0 hX40).ext E54).wr W63 (Nat.ne_of_lt n59)).ext E71).wr W81 (Nat.ne_of_lt n76)).ext E93).ext E117).wr W123 (Nat.ne_of_lt n76)).ext E132).ext hu) 0 rfl)
   refine R_p (fun u hu _ => does_loadAgg (cs := [(Iv x), (Iv y), (Iv z)]) (ev rfl) Try.isAgg69 Try.sizeOf69 (Blk.cells (((((((hz75.ext E71).wr W81 (Nat.ne_of_lt n74)).ext E93).ext E117).wr W123 (Nat.ne_of_lt n74)).ext E132).ext hu)) rfl) fun v147 => ?_
   refine R_p (fun u hu _ => does_move (u := (Iv el1.b)) (ev rfl)) fun v148 => ?_
   refine R_d (fun u hu hF => ?_) (fun v149 => ?_)
   ·have h39_ : v147 = (.agg #[(Iv x), (Iv y), (Iv z)]) := hF.1
    have h40_ : v148 = (Iv el1.b) := hF.2.1
    clear hF
    refine doesG_un rfl ?_
    obtain rfl := h39_
    obtain rfl := h40_
    refine (does_call (args := #[(.agg #[(Iv x), (Iv y), (Iv z)]), (Iv el1.b)]) cal58 (evs rfl) (c_impl_corner x y z el1.b _ (by omega) (by omega))).mono ?_; rintro v u' ⟨hx, hv⟩
    exact ⟨hv, hx⟩
   refine R_d (fun u hu hF => ?_) (fun v150 => ?_)
   ·have h38_ : v146 = (Pt g_b g_o) := hF.1
    have h41_ : v149 = (.agg #[(Iv (x + el1.b % 2)), (Iv (y + el1.b / 2 % 2)), (Iv (z + el1.b / 4))]) := hF.2.1
    clear hF
    refine doesG_un rfl ?_
    obtain rfl := h38_
    obtain rfl := h41_
    refine (does_call (args := #[(Pt g_b g_o), (.agg #[(Iv (x + el1.b % 2)), (Iv (y + el1.b / 2 % 2)), (Iv (z + el1.b / 4))])]) cal57 (evs rfl) (c_impl_Grid_index g_b g_o [(Fl r1), (Fl r3), (Fl r5), (Fl r7), (Iv A_g.x), (Iv A_g.y), (Iv A_g.z), (.slice p11 A_g.vals.length q12)] A_g (x + el1.b % 2) (y + el1.b / 2 % 2) (z + el1.b / 4) _ ((hc_g.ext (Ext.gr X126 E132)).ext hu) ⟨r1, r3, r5, r7, (.slice p11 A_g.vals.length q12), rfl, h2, h4, h6, h8, (Sl.ext (Sl.ext hs13 RF.mono (Ext.gr X126 E132)) RF.mono hu)⟩)).mono ?_; rintro v u' ⟨hx, hv⟩
    exact ⟨hv, hx⟩
   refine R_d (fun u hu hF => ?_) (fun v151 => ?_)
   ·have h34_ : v142 = (.slice p11 A_g.vals.length q12) := hF.1
    have h42_ : v150 = (Iv (idxG A_g (x + el1.b % 2) (y + el1.b / 2 % 2) (z + el1.b / 4))) := hF.2.1
    clear hF
    refine doesG_un rfl ?_
    obtain rfl := h34_
    obtain rfl := h42_
    refine (does_indexSl (R := RF) (i := idxG A_g (x + el1.b % 2) (y + el1.b / 2 % 2) (z + el1.b / 4)) (xs := A_g.vals) (e := el3) Try.underlying25 Try.sizeOf22 (ev rfl) (ev rfl) (Sl.ext (Sl.ext hs13 RF.mono (Ext.gr X126 E132)) RF.mono hu) (by omega) hel3).mono ?_; rintro v u' ⟨b, of, cs, hv, hc, hR, hu'⟩; subst hu'
    exact ⟨⟨b, of, cs, hv, hc, hR⟩, Ext.refl _⟩
   refine R_d (fun u hu hF => ?_) (fun v152 => ?_)
   ·have h43_ : PtrR RF u v151 el3 := hF.1
    clear hF
    refine doesG_un rfl ?_
    obtain ⟨b43_, o43_, _, rfl, hc43_, ⟨r43_1, rfl, h43_2⟩⟩ := h43_
    refine (does_load (u := (Fl r43_1)) (ev rfl) Try.isAgg22 (Cells.at hc43_ 0 rfl)).mono ?_; rintro _ _ ⟨rfl, rfl⟩
    exact ⟨⟨r43_1, rfl, (by simp only [h43_2])⟩, Ext.refl _⟩
   refine R_d (fun u hu hF => ?_) (fun v153 => ?_)
   ·have h44_ : ∃ r_1 : Nat, v152 = (Fl r_1) ∧ cf .f32 r_1 = el3 := hF.1
    clear hF
    refine doesG_un rfl ?_
    obtain ⟨r44_1, rfl, h44_2⟩ := h44_
    refine (does_fcmp (.inr (.inr (.inl rfl))) (ev rfl) (ev rfl)).mono ?_; rintro _ _ ⟨rfl, rfl⟩
    exact ⟨(by first | rfl | (show _ = _; simp only [hβ2, h44_2]; done) | (show _ = _; simp only [hβ2, h44_2]; rfl)), Ext.refl _⟩
   refine R_p (fun u hu hF => ?_) fun v154 => ?_
   · have h27_ : v135 = (Iv 1) := hF.1
     clear hF; subst h27_
     exact does_indexAt_run (r := (Pt b68 1)) (ev rfl) (ev rfl) (fun w => ia97_1 _ _ w)
   refine RW_fin ?_; intro w155 E156 hP157
   obtain ⟨⟨⟨⟨⟨⟨⟨⟨⟨⟨⟨⟨⟨⟨⟨⟨⟨⟨⟨⟨-, -⟩, -⟩, -⟩, -⟩, -⟩, -⟩, -⟩, -⟩, -⟩, -⟩, -⟩, -⟩, -⟩, -⟩, -⟩, -⟩, -⟩, -⟩, q158⟩, q159⟩ := hP157
   have X160 := Ext.gr X134 E156
   have q158 : v153 = (Bo β2) := q158
   obtain rfl := q158
   have q159 : v154 = (Pt b68 1) := q159
   obtain rfl := q159
   refine fz ?_
   have hz161 := ((hB124.ext E132).ext E156)
   refine sn (does_store (n := 1) (cs := [(Bo β1), (Bo false), (Bo false), (Bo false)]) (u := (Bo β2)) (ev rfl) (ev rfl) Try.sizeOf4 rfl hz161 (Nat.le_of_ble_eq_true rfl) rfl) ?_; rintro _ w164 ⟨rfl, W162, hB163⟩
   change Blk _ _ [(Bo β1), (Bo β2), (Bo false), (Bo false)] at hB163
   have X165 := Below.wr X160 W162 g79
   refine wn K129 ?_
   refine wp_region_lit ?_
   refine jj (does_iarith (p := 1) (q := 1) (r := (2)) (ev rfl) (ev rfl) (.inl ⟨rfl, rfl⟩)) ?_
   refine jm (Iv 2) ?_
   refine wpList_nil ?_
   refine un_step ?_
   refine wr fun _ K166 => ?_
   refine jj (does_icmp (p := 2) (q := 4) (.inr (.inr (.inl rfl))) (ev rfl) (ev rfl)) ?_
   refine wn K166 ?_
   refine ws fun _ K167 => ?_
   refine wp_cond_true (ev rfl) ?_
   refine wp_skip (K167 _ _ ?_)
   refine ws fun _ K168 => ?_
   refine wp_block ?_
   refine wr fun _ K169 => ?_
   refine jm (Iv 2) ?_
   refine jj (does_index_run (r := (Iv el1.c)) (ev rfl) (ev rfl) (fun w => ix94_2 _ _ _ _ w)) ?_
   refine ja (Iv 2) ?_
   refine ja (Iv el1.c) ?_
   refine wn K169 ?_
   obtain ⟨el4, hel4⟩ : ∃ e, A_g.vals[(idxG A_g (x + el1.c % 2) (y + el1.c / 2 % 2) (z + el1.c / 4)).toNat]? = some e := ⟨_, List.getElem?_eq_getElem (by omega)⟩
   obtain ⟨β3, hβ3⟩ : ∃ b : Bool, b = (fcmp .lss (ford .f32 el4 (cf .f32 0))) := ⟨_, rfl⟩
   refine region_draw (
    [Fact.pure [] (fun v => v = (Iv 2)),
  Fact.pure [] (fun v => v = (Pt b_ 0)),
  Fact.pure [28] (fun v => v = (Pt b_ 0)),
  Fact.pure [29] (fun v => v = (Pt b_ 0)),
  Fact.pure [30] (fun v => v = (Pt g_b g_o)),
  Fact.pure [31] (fun v => v = (Pt g_b g_o)),
  Fact.pure [32] (fun v => v = (Pt g_b (g_o + 7))),
  Fact.pure [33] (fun v => v = (.slice p11 A_g.vals.length q12)),
  Fact.pure [] (fun v => v = (Pt b_ 0)),
  Fact.pure [35] (fun v => v = (Pt b_ 0)),
  Fact.pure [36] (fun v => v = (Pt b_ 0)),
  Fact.pure [37] (fun v => v = (Pt g_b g_o)),
  Fact.pure [] (fun v => v = (.agg #[(Iv x), (Iv y), (Iv z)])),
  Fact.pure [] (fun v => v = (Iv el1.c)),
  Fact.pure [39, 40] (fun v => v = (.agg #[(Iv (x + el1.c % 2)), (Iv (y + el1.c / 2 % 2)), (Iv (z + el1.c / 4))])),
  Fact.pure [38, 41] (fun v => v = (Iv (idxG A_g (x + el1.c % 2) (y + el1.c / 2 % 2) (z + el1.c / 4)))),
  Fact.mem [34, 42] (fun v w' => PtrR RF w' v el4) (by intro v w1 w2 hx h; exact h.ext RF.mono hx),
  Fact.pure [43] (fun v => ∃ r_1 : Nat, v = (Fl r_1) ∧ cf .f32 r_1 = el4),
  Fact.pure [44] (fun v => v = (Bo β3)),
  Fact.pure [27] (fun v => v = (Pt b68 2))]) mixed (by kernel_rfl) (by intro _ _ d _ _ h; cases d <;> exact h) ?_
   obtain ⟨w170, hw172⟩ : ∃ w', w' = World.drew w164 := ⟨_, rfl⟩; rw [← hw172]; have E171 : Ext w164 w170 := by rw [hw172]; exact Ext.draw _
   clear hw172
   have X173 := Ext.gr X165 E171
   refine R_p (fun u hu _ => does_move (u := (Iv 2)) (ev rfl)) fun v174 => ?_
   refine R_p (fun u hu _ => does_move (u := (Pt b_ 0)) (ev rfl)) fun v175 => ?_
   refine R_p (fun u hu hF => ?_) fun v176 => ?_
   · have h28_ : v175 = (Pt b_ 0) := hF.1
     clear hF; subst h28_
     exact does_nilCheck (ev rfl)
   refine R_p (fun u hu hF => ?_) fun v177 => ?_
   · have h29_ : v176 = (Pt b_ 0) := hF.1
     clear hF; subst h29_
     exact does_fieldAddr (ev rfl) fa73_0
   refine R_p (fun u hu hF => ?_) fun v178 => ?_
   · have h30_ : v177 = (Pt b_ 0) := hF.1
     clear hF; subst h30_
     exact does_load (u := (Pt g_b g_o)) (ev rfl) Try.isAgg46 (Cells.at (((((((((((((MX.c0 hX40).ext E54).wr W63 (Nat.ne_of_lt n59)).ext E71).wr W81 (Nat.ne_of_lt n76)).ext E93).ext E117).wr W123 (Nat.ne_of_lt n76)).ext E132).ext E156).wr W162 (Nat.ne_of_lt n76)).ext E171).ext hu) 0 rfl)
   refine R_p (fun u hu hF => ?_) fun v179 => ?_
   · have h31_ : v178 = (Pt g_b g_o) := hF.1
     clear hF; subst h31_
     exact does_nilCheck (ev rfl)
   refine R_p (fun u hu hF => ?_) fun v180 => ?_
   · have h32_ : v179 = (Pt g_b g_o) := hF.1
     clear hF; subst h32_
     exact does_fieldAddr (ev rfl) fa37_5
   refine R_p (fun u hu hF => ?_) fun v181 => ?_
   · have h33_ : v180 = (Pt g_b (g_o + 7)) := hF.1
     clear hF; subst h33_
     exact does_load (u := (.slice p11 A_g.vals.length q12)) (ev rfl) Try.isAgg25 (Cells.at ((hc_g.ext (Ext.gr X165 E171)).ext hu) 7 rfl)
   refine R_p (fun u hu _ => does_move (u := (Pt b_ 0)) (ev rfl)) fun v182 => ?_
   refine R_p (fun u hu hF => ?_) fun v183 => ?_
   · have h35_ : v182 = (Pt b_ 0) := hF.1
     clear hF; subst h35_
     exact does_nilCheck (ev rfl)
   refine R_p (fun u hu hF => ?_) fun v184 => ?_
   · have h36_ : v183 = (Pt b_ 0) := hF.1
     clear hF; subst h36_
     exact does_fieldAddr (ev rfl) fa73_0
   refine R_p (fun u hu hF => ?_) fun v185 => ?_
   · have h37_ : v184 = (Pt b_ 0) := hF.1
     clear hF; subst h37_
     exact does_load (u := (Pt g_b g_o)) (ev rfl) Try.isAgg46 (Cells.at (((((((((((((MX.c0 hX40).ext E54).wr W63 (Nat.ne_of_lt n59)).ext E71).wr W81 (Nat.ne_of_lt n76)).ext E93).ext E117).wr W123 (Nat.ne_of_lt n76)).ext E132).ext E156).wr W162 (Nat.ne_of_lt n76)).ext E171).ext hu) 0 rfl)
   refine R_p (fun u hu _ => does_loadAgg (cs := [(Iv x), (Iv y), (Iv z)]) (ev rfl) Try.isAgg69 Try.sizeOf69 (Blk.cells ((((((((((hz75.ext E71).wr W81 (Nat.ne_of_lt n74)).ext E93).ext E117).wr W123 (Nat.ne_of_lt n74)).ext E132).ext E156).wr W162 (Nat.ne_of_lt n74)).ext E171).ext hu)) rfl) fun v186 => ?_
   refine R_p (fun u hu _ => does_move (u := (Iv el1.c)) (ev rfl)) fun v187 => ?_
   refine R_d (fun u hu hF => ?_) (fun v188 => ?_)
   ·have h39_ : v186 = (.agg #[(Iv x), (Iv y), (Iv z)]) := hF.1
    have h40_ : v187 = (Iv el1.c) := hF.2.1
    clear hF
    refine doesG_un rfl ?_
    obtain rfl := h39_
    obtain rfl := h40_
    refine (does_call (args := #[(.agg #[(Iv x), (Iv y), (Iv z)]), (Iv el1.c)]) cal58 (evs rfl) (c_impl_corner x y z el1.c _ (by omega) (by omega))).mono ?_; rintro v u' ⟨hx, hv⟩
    exact ⟨hv, hx⟩
   refine R_d (fun u hu hF => ?_) (fun v189 => ?_)
   ·have h38_ : v185 = (Pt g_b g_o) := hF.1
    have h41_ : v188 = (.agg #[(Iv (x + el1.c % 2)), (Iv (y + el1.c / 2 % 2)), (Iv (z + el1.c / 4))]) := hF.2.1
    clear hF
    refine doesG_un rfl ?_
    obtain rfl := h38_
    obtain rfl := h41_
    refine (does_call (args := #[(Pt g_b g_o), (.agg #[(Iv (x + el1.c % 2)), (Iv (y + el1.c / 2 % 2)), (Iv (z + el1.c / 4))])]) cal57 (evs rfl) (c_impl_Grid_index g_b g_o [(Fl r1), (Fl r3), (Fl r5), (Fl r7), (Iv A_g.x), (Iv A_g.y), (Iv A_g.z), (.slice p11 A_g.vals.length q12)] A_g (x + el1.c % 2) (y + el1.c / 2 % 2) (z + el1.c / 4) _ ((hc_g.ext (Ext.gr X165 E171)).ext hu) ⟨r1, r3, r5, r7, (.slice p11 A_g.vals.length q12), rfl, h2, h4, h6, h8, (Sl.ext (Sl.ext hs13 RF.mono (Ext.gr X165 E171)) RF.mono hu)⟩)).mono ?_; rintro v u' ⟨hx, hv⟩
    exact ⟨hv, hx⟩
   refine R_d (fun u hu hF => ?_) (fun v190 => ?_)
   ·have h34_ : v181 = (.slice p11 A_g.vals.length q12) := hF.1
    have h42_ : v189 = (Iv (idxG A_g (x + el1.c % 2) (y + el1.c / 2 % 2) (z + el1.c / 4))) := hF.2.1
    clear hF
    refine doesG_un rfl ?_
    obtain rfl := h34_
    obtain rfl := h42_
    refine (does_indexSl (R := RF) (i := idxG A_g (x + el1.c % 2) (y + el1.c / 2 % 2) (z + el1.c / 4)) (xs := A_g.vals) (e := el4) Try.underlying25 Try.sizeOf22 (ev rfl) (ev rfl) (Sl.ext (Sl.ext hs13 RF.mono (Ext.gr X165 E171)) RF.mono hu) (by omega) hel4).mono ?_; rintro v u' ⟨b, of, cs, hv, hc, hR, hu'⟩; subst hu'
    exact ⟨⟨b, of, cs, hv, hc, hR⟩, Ext.refl _⟩
   refine R_d (fun u hu hF => ?_) (fun v191 => ?_)
   ·have h43_ : PtrR RF u v190 el4 := hF.1
    clear hF
    refine doesG_un rfl ?_
    obtain ⟨b43_, o43_, _, rfl, hc43_, ⟨r43_1, rfl, h43_2⟩⟩ := h43_
    refine (does_load (u := (Fl r43_1)) (ev rfl) Try.isAgg22 (Cells.at hc43_ 0 rfl)).mono ?_; rintro _ _ ⟨rfl, rfl⟩
    exact ⟨⟨r43_1, rfl, (by simp only [h43_2])⟩, Ext.refl _⟩
   refine R_d (fun u hu hF => ?_) (fun v192 => ?_)
   ·have h44_ : ∃ r_1 : Nat, v191 = (Fl r_1) ∧ cf .f32 r_1 = el4 := hF.1
    clear hF
    refine doesG_un rfl ?_
    obtain ⟨r44_1, rfl, h44_2⟩ := h44_
    refine (does_fcmp (.inr (.inr (.inl rfl))) (ev rfl) (ev rfl)).mono ?_; rintro _ _ ⟨rfl, rfl⟩
    exact ⟨(by first | rfl | (show _ = _; simp only [hβ3, h44_2]; done) | (show _ = _; simp only [hβ3, h44_2]; rfl)), Ext.refl _⟩
   refine R_p (fun u hu hF => ?_) fun v193 => ?_
   · have h27_ : v174 = (Iv 2) := hF.1
     clear hF; subst h27_
     exact does_indexAt_run (r := (Pt b68 2)) (ev rfl) (ev rfl) (fun w => ia97_2 _ _ w)
   refine RW_fin ?_; intro w194 E195 hP196
   obtain ⟨⟨⟨⟨⟨⟨⟨⟨⟨⟨⟨⟨⟨⟨⟨⟨⟨⟨⟨⟨-, -⟩, -⟩, -⟩, -⟩, -⟩, -⟩, -⟩, -⟩, -⟩, -⟩, -⟩, -⟩, -⟩, -⟩, -⟩, -⟩, -⟩, -⟩, q197⟩, q198⟩ := hP196
   have X199 := Ext.gr X173 E195
   have q197 : v192 = (Bo β3) := q197
   obtain rfl := q197
   have q198 : v193 = (Pt b68 2) := q198
   obtain rfl := q198
   refine fz ?_
   have hz200 := ((hB163.ext E171).ext E195)
   refine sn (does_store (n := 1) (cs := [(Bo β1), (Bo β2), (Bo false), (Bo false)]) (u := (Bo β3)) (ev rfl) (ev rfl) Try.sizeOf4 rfl hz200 (Nat.le_of_ble_eq_true rfl) rfl) ?_; rintro _ w203 ⟨rfl, W201, hB202⟩
   change Blk _ _ [(Bo β1), (Bo β2), (Bo β3), (Bo false)] at hB202
   have X204 := Below.wr X199 W201 g79
   refine wn K168 ?_
   refine wp_region_lit ?_
   refine jj (does_iarith (p := 2) (q := 1) (r := (3)) (ev rfl) (ev rfl) (.inl ⟨rfl, rfl⟩)) ?_
   refine jm (Iv 3) ?_
   refine wpList_nil ?_
   refine un_step ?_
   refine wr fun _ K205 => ?_
   refine jj (does_icmp (p := 3) (q := 4) (.inr (.inr (.inl rfl))) (ev rfl) (ev rfl)) ?_
   refine wn K205 ?_
   refine ws fun _ K206 => ?_
   refine wp_cond_true (ev rfl) ?_
   refine wp_skip (K206 _ _ ?_)
   refine ws fun _ K207 => ?_
   refine wp_block ?_
   refine wr fun _ K208 => ?_
   refine jm (Iv 3) ?_
   refine jj (does_index_run (r := (Iv el1.d)) (ev rfl) (ev rfl) (fun w => ix94_3 _ _ _ _ w)) ?_
   refine ja (Iv 3) ?_
   refine ja (Iv el1.d) ?_
   refine wn K208 ?_
   obtain ⟨el5, hel5⟩ : ∃ e, A_g.vals[(idxG A_g (x + el1.d % 2) (y + el1.d / 2 % 2) (z + el1.d / 4)).toNat]? = some e := ⟨_, List.getElem?_eq_getElem (by omega)⟩
   obtain ⟨β4, hβ4⟩ : ∃ b : Bool, b = (fcmp .lss (ford .f32 el5 (cf .f32 0))) := ⟨_, rfl⟩
   refine region_draw (
    [Fact.pure [] (fun v => v = (Iv 3)),
  Fact.pure [] (fun v => v = (Pt b_ 0)),
  Fact.pure [28] (fun v => v = (Pt b_ 0)),
  Fact.pure [29] (fun v => v = (Pt b_ 0)),
  Fact.pure [30] (fun v => v = (Pt g_b g_o)),
  Fact.pure [31] (fun v => v = (Pt g_b g_o)),
  Fact.pure [32] (fun v => v = (Pt g_b (g_o + 7))),
  Fact.pure [33] (fun v => v = (.slice p11 A_g.vals.length q12)),
  Fact.pure [] (fun v => v = (Pt b_ 0)),
  Fact.pure [35] (fun v => v = (Pt b_ 0)),
  Fact.pure [36] (fun v => v = (Pt b_ 0)),
  Fact.pure [37] (fun v => v = (Pt g_b g_o)),
  Fact.pure [] (fun v => v = (.agg #[(Iv x), (Iv y), (Iv z)])),
  Fact.pure [] (fun v => v = (Iv el1.d)),
  Fact.pure [39, 40] (fun v => v = (.agg #[(Iv (x + el1.d % 2)), (Iv (y + el1.d / 2 % 2)), (Iv (z + el1.d / 4))])),
  Fact.pure [38, 41] (fun v => v = (Iv (idxG A_g (x + el1.d % 2) (y + el1.d / 2 % 2) (z + el1.d / 4)))),
  Fact.mem [34, 42] (fun v w' => PtrR RF w' v el5) (by intro v w1 w2 hx h; exact h.ext RF.mono hx),
  Fact.pure [43] (fun v => ∃ r_1 : Nat, v = (Fl r_1) ∧ cf .f32 r_1 = el5),
  Fact.pure [44] (fun v => v = (Bo β4)),
  Fact.pure [27] (fun v => v = (Pt b68 3))]) mixed (by kernel_rfl) (by intro _ _ d _ _ h; cases d <;> exact h) ?_
   obtain ⟨w209, hw211⟩ : ∃ w', w' = World.drew w203 := ⟨_, rfl⟩; rw [← hw211]; have E210 : Ext w203 w209 := by rw [hw211]; exact Ext.draw _
   clear hw211
   have X212 := Ext.gr X204 E210
   refine R_p (fun u hu _ => does_move (u := (Iv 3)) (ev rfl)) fun v213 => ?_
   refine R_p (fun u hu _ => does_move (u := (Pt b_ 0)) (ev rfl)) fun v214 => ?_
   refine R_p (fun u hu hF => ?_) fun v215 => ?_
   · have h28_ : v214 = (Pt b_ 0) := hF.1
     clear hF; subst h28_
     exact does_nilCheck (ev rfl)
   refine R_p (fun u hu hF => ?_) fun v216 => ?_
   · have h29_ : v215 = (Pt b_ 0) := hF.1
     clear hF; subst h29_
     exact does_fieldAddr (ev rfl) fa73_0
   refine R_p (fun u hu hF => ?_) fun v217 => ?_
   · have h30_ : v216 = (Pt b_ 0) := hF.1
     clear hF; subst h30_
     exact does_load (u := (Pt g_b g_o)) (ev rfl) Try.isAgg46 (Cells.at ((((((((((((((((MX.c0 hX40).ext E54).wr W63 (Nat.ne_of_lt n59)).ext E71).wr W81 (Nat.ne_of_lt n76)).ext E93).ext E117).wr W123 (Nat.ne_of_lt n76)).ext E132).ext E156).wr W162 (Nat.ne_of_lt n76)).ext E171).ext E195).wr W201 (Nat.ne_of_lt n76)).ext E210).ext hu) 0 rfl)
   refine R_p (fun u hu hF => ?_) fun v218 => ?_
   · have h31_ : v217 = (Pt g_b g_o) := hF.1
     clear hF; subst h31_
     exact does_nilCheck (ev rfl)
   refine R_p (fun u hu hF => ?_) fun v219 => ?_
   · have h32_ : v218 = (Pt g_b g_o) := hF.1
     clear hF; subst h32_
     exact does_fieldAddr (ev rfl) fa37_5
   refine R_p (fun u hu hF => ?_) fun v220 => ?_
   · have h33_ : v219 = (Pt g_b (g_o + 7)) := hF.1
     clear hF; subst h33_
     exact does_load (u := (.slice p11 A_g.vals.length q12)) (ev rfl) Try.isAgg25 (Cells.at ((hc_g.ext (Ext.gr X204 E210)).ext hu) 7 rfl)
   refine R_p (fun u hu _ => does_move (u := (Pt b_ 0)) (ev rfl)) fun v221 => ?_
   refine R_p (fun u hu hF => ?_) fun v222 => ?_
   · have h35_ : v221 = (Pt b_ 0) := hF.1
     clear hF; subst h35_
     exact does_nilCheck (ev rfl)
   refine R_p (fun u hu hF => ?_) fun v223 => ?_
   · have h36_ : v222 = (Pt b_ 0) := hF.1
     clear hF; subst h36_
     exact does_fieldAddr (ev rfl) fa73_0
   refine R_p (fun u hu hF => ?_) fun v224 => ?_
   · have h37_ : v223 = (Pt b_ 0) := hF.1
     clear hF; subst h37_
     exact does_load (u := (Pt g_b g_o)) (ev rfl) Try.isAgg46 (Cells.at ((((((((((((((((MX.c0 hX40).ext E54).wr W63 (Nat.ne_of_lt n59)).ext E71).wr W81 (Nat.ne_of_lt n76)).ext E93).ext E117).wr W123 (Nat.ne_of_lt n76)).ext E132).ext E156).wr W162 (Nat.ne_of_lt n76)).ext E171).ext E195).wr W201 (Nat.ne_of_lt n76)).ext E210).ext hu) 0 rfl)
   refine R_p (fun u hu _ => does_loadAgg (cs := [(Iv x), (Iv y), (Iv z)]) (ev rfl) Try.isAgg69 Try.sizeOf69 (Blk.cells (((((((((((((hz75.ext E71).wr W81 (Nat.ne_of_lt n74)).ext E93).ext E117).wr W123 (Nat.ne_of_lt n74)).ext E132).ext E156).wr W162 (Nat.ne_of_lt n74)).ext E171).ext E195).wr W201 (Nat.ne_of_lt n74)).ext E210).ext hu)) rfl) fun v225 => ?_
   refine R_p (fun u hu _ => does_move (u := (Iv el1.d)) (ev rfl)) fun v226 => ?_
   refine R_d (fun u hu hF => ?_) (fun v227 => ?_)
   ·have h39_ : v225 = (.agg #[(Iv x), (Iv y), (Iv z)]) := hF.1
    have h40_ : v226 = (Iv el1.d) := hF.2.1
    clear hF
    refine doesG_un rfl ?_
    obtain rfl := h39_
    obtain rfl := h40_
    refine (does_call (args := #[(.agg #[(Iv x), (Iv y), (Iv z)]), (Iv el1.d)]) cal58 (evs rfl) (c_impl_corner x y z el1.d _ (by omega) (by omega))).mono ?_; rintro v u' ⟨hx, hv⟩
    exact ⟨hv, hx⟩
   refine R_d (fun u hu hF => ?_) (fun v228 => ?_)
   ·have h38_ : v224 = (Pt g_b g_o) := hF.1
    have h41_ : v227 = (.agg #[(Iv (x + el1.d % 2)), (Iv (y + el1.d / 2 % 2)), (Iv (z + el1.d / 4))]) := hF.2.1
    clear hF
    refine doesG_un rfl ?_
    obtain rfl := h38_
    obtain rfl := h41_
    refine (does_call (args := #[(Pt g_b g_o), (.agg #[(Iv (x + el1.d % 2)), (Iv (y + el1.d / 2 % 2)), (Iv (z + el1.d / 4))])]) cal57 (evs rfl) (c_impl_Grid_index g_b g_o [(Fl r1), (Fl r3), (Fl r5), (Fl r7), (Iv A_g.x), (Iv A_g.y), (Iv A_g.z), (.slice p11 A_g.vals.length q12)] A_g (x + el1.d % 2) (y + el1.d / 2 % 2) (z + el1.d / 4) _ ((hc_g.ext (Ext.gr X204 E210)).ext hu) ⟨r1, r3, r5, r7, (.slice p11 A_g.vals.length q12), rfl, h2, h4, h6, h8, (Sl.ext (Sl.ext hs13 RF.mono (Ext.gr X204 E210)) RF.mono hu)⟩)).mono ?_; rintro v u' ⟨hx, hv⟩
    exact ⟨hv, hx⟩
   refine R_d (fun u hu hF => ?_) (fun v229 => ?_)
   ·have h34_ : v220 = (.slice p11 A_g.vals.length q12) := hF.1
    have h42_ : v228 = (Iv (idxG A_g (x + el1.d % 2) (y + el1.d / 2 % 2) (z + el1.d / 4))) := hF.2.1
    clear hF
    refine doesG_un rfl ?_
    obtain rfl := h34_
    obtain rfl := h42_
    refine (does_indexSl (R := RF) (i := idxG A_g (x + el1.d % 2) (y + el1.d / 2 % 2) (z + el1.d / 4)) (xs := A_g.vals) (e := el5) Try.underlying25 Try.sizeOf22 (ev rfl) (ev rfl) (Sl.ext (Sl.ext hs13 RF.mono (Ext.gr X204 E210)) RF.mono hu) (by omega) hel5).mono ?_; rintro v u' ⟨b, of, cs, hv, hc, hR, hu'⟩; subst hu'
    exact ⟨⟨b, of, cs, hv, hc, hR⟩, Ext.refl _⟩
   refine R_d (fun u hu hF => ?_) (fun v230 => ?_)
   ·have h43_ : PtrR RF u v229 el5 := hF.1
    clear hF
    refine doesG_un rfl ?_
    obtain ⟨b43_, o43_, _, rfl, hc43_, ⟨r43_1, rfl, h43_2⟩⟩ := h43_
    refine (does_load (u := (Fl r43_1)) (ev rfl) Try.isAgg22 (Cells.at hc43_ 0 rfl)).mono ?_; rintro _ _ ⟨rfl, rfl⟩
    exact ⟨⟨r43_1, rfl, (by simp only [h43_2])⟩, Ext.refl _⟩
   refine R_d (fun u hu hF => ?_) (fun v231 => ?_)
   ·have h44_ : ∃ r_1 : Nat, v230 = (Fl r_1) ∧ cf .f32 r_1 = el5 := hF.1
    clear hF
    refine doesG_un rfl ?_
    obtain ⟨r44_1, rfl, h44_2⟩ := h44_
    refine (does_fcmp (.inr (.inr (.inl rfl))) (ev rfl) (ev rfl)).mono ?_; rintro _ _ ⟨rfl, rfl⟩
    exact ⟨(by first | rfl | (show _ = _; simp only [hβ4, h44_2]; done) | (show _ = _; simp only [hβ4, h44_2]; rfl)), Ext.refl _⟩
   refine R_p (fun u hu hF => ?_) fun v232 => ?_
   · have h27_ : v213 = (Iv 3) := hF.1
     clear hF; subst h27_
     exact does_indexAt_run (r := (Pt b68 3)) (ev rfl) (ev rfl) (fun w => ia97_3 _ _ w)
   refine RW_fin ?_; intro w233 E234 hP235
   obtain ⟨⟨⟨⟨⟨⟨⟨⟨⟨⟨⟨⟨⟨⟨⟨⟨⟨⟨⟨⟨-, -⟩, -⟩, -⟩, -⟩, -⟩, -⟩, -⟩, -⟩, -⟩, -⟩, -⟩, -⟩, -⟩, -⟩, -⟩, -⟩, -⟩, -⟩, q236⟩, q237⟩ := hP235
   have X238 := Ext.gr X212 E234
   have q236 : v231 = (Bo β4) := q236
   obtain rfl := q236
   have q237 : v232 = (Pt b68 3) := q237
   obtain rfl := q237
   refine fz ?_
   have hz239 := ((hB202.ext E210).ext E234)
   refine sn (does_store (n := 1) (cs := [(Bo β1), (Bo β2), (Bo β3), (Bo false)]) (u := (Bo β4)) (ev rfl) (ev rfl) Try.sizeOf4 rfl hz239 (Nat.le_of_ble_eq_true rfl) rfl) ?_; rintro _ w242 ⟨rfl, W240, hB241⟩
   change Blk _ _ [(Bo β1), (Bo β2), (Bo β3), (Bo β4)] at hB241
   have X243 := Below.wr X238 W240 g79
   refine wn K207 ?_
   refine wp_region_lit ?_
   refine jj (does_iarith (p := 3) (q := 1) (r := (4)) (ev rfl) (ev rfl) (.inl ⟨rfl, rfl⟩)) ?_
   refine jm (Iv 4) ?_
   refine wpList_nil ?_
   refine un_step ?_
   refine wr fun _ K244 => ?_
   refine jj (does_icmp (p := 4) (q := 4) (.inr (.inr (.inl rfl))) (ev rfl) (ev rfl)) ?_
   refine wn K244 ?_
   refine ws fun _ K245 => ?_
   refine wp_cond_false (ev rfl) ?_
   refine wp_exit ?_
   refine K85 _ _ ?_
   refine wr fun _ K246 => ?_
   refine jj (does_loadAgg (cs := [(Bo β1), (Bo β2), (Bo β3), (Bo β4)]) (ev rfl) Try.isAgg97 Try.sizeOf97 (Blk.cells hB241) rfl) ?_
   have hinq : [β1, β2, β3, β4] = inQ A_g x y z q := inQ_bs hcn (hβ1.trans (negAt_of hel2).symm) (hβ2.trans (negAt_of hel3).symm) (hβ3.trans (negAt_of hel4).symm) (hβ4.trans (negAt_of hel5).symm)
   clear hβ1 hβ2 hβ3 hβ4
   refine sd (does_call (args := #[(.agg #[(Bo β1), (Bo β2), (Bo β3), (Bo β4)])]) cal59 (evs rfl) (c_impl_trianglesOf β1 β2 β3 β4 _)) ?_; rintro _ w248 ⟨E247, ⟨y250, rfl, hh249⟩⟩
   have X251 := Ext.gr X243 E247
   have n252 : b15 < w242.heap.size := Blk.lt ((((((((((((((hz75.ext E71).wr W81 (Nat.ne_of_lt n74)).ext E93).ext E117).wr W123 (Nat.ne_of_lt n74)).ext E132).ext E156).wr W162 (Nat.ne_of_lt n74)).ext E171).ext E195).wr W201 (Nat.ne_of_lt n74)).ext E210).ext E234).wr W240 (Nat.ne_of_lt n74))
   have n253 : b51 < w242.heap.size := Blk.lt ((((((((((((hz87.ext E93).ext E117).wr W123 (Nat.ne_of_lt n78)).ext E132).ext E156).wr W162 (Nat.ne_of_lt n78)).ext E171).ext E195).wr W201 (Nat.ne_of_lt n78)).ext E210).ext E234).wr W240 (Nat.ne_of_lt n78))
   obtain ⟨p255, q256, rfl⟩ := Sl.shape hh249.get
   refine fz ?_
   refine jj (does_len_slice Try.underlying100 (ev rfl)) ?_
   refine jm (Iv 0) ?_
   refine wn K246 ?_
   refine wp_block ?_
   have z257 := (Nat.le_trans (Below.size E54) (Nat.le_of_eq (Eq.symm (Wr.size W63))))
   have hz258 := (MX.ext KI.good (MX.kl KI.good (MX.ext KI.good (MX.ext KI.good (MX.kl KI.good (MX.ext KI.good (MX.ext KI.good (MX.kl KI.good (MX.ext KI.good (MX.ext KI.good (MX.kl KI.good (MX.ext KI.good (MX.ext KI.good (MX.kl KI.good (MX.ext KI.good (MX.kl KI.good (MX.ext KI.good hX40 E54) (KpL.of_wr W63) (fun c_ hc_ hm_ => (List.mem_cons.1 hm_).elim (fun e_ => (fun hc_ => absurd (Nat.lt_of_lt_of_le ((MX.bnd hX40) _ hc_).2 (Nat.le_trans (Nat.le_refl _) hb52)) (Nat.lt_irrefl _)) (e_ ▸ hc_)) (fun hm_ => nomatch hm_))) E71) (KpL.of_wr W81) (fun c_ hc_ hm_ => (List.mem_cons.1 hm_).elim (fun e_ => (fun hc_ => absurd (Nat.lt_of_lt_of_le ((MX.bnd hX40) _ hc_).2 (Nat.le_trans z257 hb69)) (Nat.lt_irrefl _)) (e_ ▸ hc_)) (fun hm_ => nomatch hm_))) E93) E117) (KpL.of_wr W123) (fun c_ hc_ hm_ => (List.mem_cons.1 hm_).elim (fun e_ => (fun hc_ => absurd (Nat.lt_of_lt_of_le ((MX.bnd hX40) _ hc_).2 (Nat.le_trans z257 hb69)) (Nat.lt_irrefl _)) (e_ ▸ hc_)) (fun hm_ => nomatch hm_))) E132) E156) (KpL.of_wr W162) (fun c_ hc_ hm_ => (List.mem_cons.1 hm_).elim (fun e_ => (fun hc_ => absurd (Nat.lt_of_lt_of_le ((MX.bnd hX40) _ hc_).2 (Nat.le_trans z257 hb69)) (Nat.lt_irrefl _)) (e_ ▸ hc_)) (fun hm_ => nomatch hm_))) E171) E195) (KpL.of_wr W201) (fun c_ hc_ hm_ => (List.mem_cons.1 hm_).elim (fun e_ => (fun hc_ => absurd (Nat.lt_of_lt_of_le ((MX.bnd hX40) _ hc_).2 (Nat.le_trans z257 hb69)) (Nat.lt_irrefl _)) (e_ ▸ hc_)) (fun hm_ => nomatch hm_))) E210) E234) (KpL.of_wr W240) (fun c_ hc_ hm_ => (List.mem_cons.1 hm_).elim (fun e_ => (fun hc_ => absurd (Nat.lt_of_lt_of_le ((MX.bnd hX40) _ hc_).2 (Nat.le_trans z257 hb69)) (Nat.lt_irrefl _)) (e_ ▸ hc_)) (fun hm_ => nomatch hm_))) E247)
   refine loop_ghost (σ := Nat) (fun j a w' => ∃ u259 : Nat → Value, a = fr [(Pt b_ 0), (.agg #[(Iv x), (Iv y), (Iv z)]), Ud, (Pt b15 0), Ud, (Pt b51 0), (Pt b68 0), (Iv 3), (Iv el1.d), Ud, (u259 10), (u259 11), Ud, (u259 13), (.slice p31 quaL.length q32), (Iv (quaL.length : Int)), (Iv (q : Int)), (Bo (icmp .lss (q : Int) (quaL.length : Int))), (Pt b47 o48), (.agg #[(Iv el1.a), (Iv el1.b), (Iv el1.c), (Iv el1.d), (Bo el1.t)]), (.agg #[(Bo false), (Bo false), (Bo false), (Bo false)]), (Pt b51 0), (.agg #[(Iv el1.a), (Iv el1.b), (Iv el1.c), (Iv el1.d)]), (Iv 4), (Bo false), (Iv 3), (Iv el1.d), v213, v214, v215, v216, v217, v218, v219, v220, v221, v222, v223, v224, v225, v226, v227, v228, v229, v230, (Bo β4), (Pt b68 3), (Iv 4), (.agg #[(Bo β1), (Bo β2), (Bo β3), (Bo β4)]), (.slice p255 ((grp (edB [β1, β2, β3, β4])).length) q256), (Iv (((grp (edB [β1, β2, β3, β4])).length) : Int)), (Iv (j : Int)), (u259 52), (u259 53), (u259 54), (u259 55), (u259 56), (u259 57), (u259 58), (u259 59), (u259 60), (u259 61), (u259 62), (u259 63), (u259 64), (u259 65), (u259 66), (u259 67), (u259 68), (u259 69), (u259 70), (u259 71), (u259 72), (u259 73), (u259 74), (u259 75), (u259 76), (u259 77), (u259 78), (u259 79), (u259 80), (u259 81), (u259 82), (u259 83), (u259 84), (u259 85), (u259 86), (u259 87), (u259 88), (u259 89), (u259 90), (u259 91), (u259 92), (u259 93), (u259 94), (u259 95), (u259 96), (u259 97), (u259 98), (u259 99), (u259 100), (u259 101), (u34 102)] ∧ KpL Lm39 w248 w' ∧ (∃ L', MX (KI 35 65 g_b g_o A_g) w.heap.size A_g b_ L' w' (ksA (celS A_g x y z S q).1 (keysQ A_g x y z q) (3 * j), (celS A_g x y z S q).2 ++ trsA (celS A_g x y z S q).1 (keysQ A_g x y z q) (tuQ q) j) ∧ ∀ c ∈ L', c ∈ Lm39 ∨ w248.heap.size ≤ c) ∧ (j ≤ (grp (edB [β1, β2, β3, β4])).length)) (fun j => (grp (edB [β1, β2, β3, β4])).length - j) 0 ?_ ?_
   ·refine ⟨pk [(10, u34 10), (11, u34 11), (13, u34 13), (52, u34 52), (53, u34 53), (54, u34 54), (55, u34 55), (56, u34 56), (57, u34 57), (58, u34 58), (59, u34 59), (60, u34 60), (61, u34 61), (62, u34 62), (63, u34 63), (64, u34 64), (65, u34 65), (66, u34 66), (67, u34 67), (68, u34 68), (69, u34 69), (70, u34 70), (71, u34 71), (72, u34 72), (73, u34 73), (74, u34 74), (75, u34 75), (76, u34 76), (77, u34 77), (78, u34 78), (79, u34 79), (80, u34 80), (81, u34 81), (82, u34 82), (83, u34 83), (84, u34 84), (85, u34 85), (86, u34 86), (87, u34 87), (88, u34 88), (89, u34 89), (90, u34 90), (91, u34 91), (92, u34 92), (93, u34 93), (94, u34 94), (95, u34 95), (96, u34 96), (97, u34 97), (98, u34 98), (99, u34 99), (100, u34 100), (101, u34 101)], rfl, KpL.refl _ _, ⟨Lm39, MX.cast hz258 (by (try dsimp only); exact qua_start), fun c_ hc_ => .inl hc_⟩, ?_⟩
    exact Nat.zero_le _
   ·rintro j a w260 ⟨u259, rfl, E261, hst, hj⟩
    have X263 := Below.kl X251 E261 (fun c_ hc_ => Nat.le_trans (Nat.le_refl _) ((MX.bnd hX40) c_ hc_).1) (Nat.le_refl _)
    obtain ⟨Lm264, hX265, hs266⟩ := hst
    refine wr fun _ K267 => ?_
    refine jj (does_icmp (p := (j : Int)) (q := (((grp (edB [β1, β2, β3, β4])).length) : Int)) (.inr (.inr (.inl rfl))) (ev rfl) (ev rfl)) ?_
    refine wn K267 ?_
    refine ws fun _ K268 => ?_
    refine wp_cond_split (t := icmp .lss (j : Int) (((grp (edB [β1, β2, β3, β4])).length) : Int)) (ev rfl) (fun c269 => ?_) (fun c269 => ?_)
    ·have c269' := c269
     (try simp only [icmp, bs] at c269')
     refine wp_skip (K268 _ _ ?_)
     refine ws fun _ K270 => ?_
     refine wp_block ?_
     refine wr fun _ K271 => ?_
     obtain ⟨el6, hel6⟩ : ∃ e, (grp (edB [β1, β2, β3, β4]))[j]? = some e := ⟨_, List.getElem?_eq_getElem (by omega)⟩
     have z272 := (Nat.le_trans (Nat.le_trans (Nat.le_trans (Nat.le_trans (Nat.le_trans (Nat.le_trans (Nat.le_trans (Nat.le_trans (Nat.le_trans (Nat.le_trans (Nat.le_trans (Nat.le_trans (Nat.le_trans (Nat.le_trans z257 (Below.size E71)) (Nat.le_of_eq (Eq.symm (Wr.size W81)))) (Below.size E93)) (Below.size E117)) (Nat.le_of_eq (Eq.symm (Wr.size W123)))) (Below.size E132)) (Below.size E156)) (Nat.le_of_eq (Eq.symm (Wr.size W162)))) (Below.size E171)) (Below.size E195)) (Nat.le_of_eq (Eq.symm (Wr.size W201)))) (Below.size E210)) (Below.size E234)) (Nat.le_of_eq (Eq.symm (Wr.size W240))))
     refine sd (does_indexSl (R := RI6T) (i := (j : Int)) (xs := (grp (edB [β1, β2, β3, β4]))) (e := el6) Try.underlying100 Try.sizeOf104 (ev rfl) (ev rfl) (hh249 _ ((Same.refl _ _).kl E261 (fun c_ hc_ => Or.inl (Nat.lt_of_lt_of_le ((MX.bnd hX40) _ hc_).2 z272)))) (by omega) hel6) ?_; rintro _ w260 ⟨b273, o274, _, rfl, hc276, rfl, rfl⟩
     refine fz ?_
     obtain ⟨hj2, ⟨hea, heb, hec, hed, hee, hef⟩, ⟨hp1, hp2, hp3⟩, ⟨hk1, hk2, hk3⟩, ⟨hr1, hr2, hr3⟩, hok0⟩ := tri_all hgr hcel.1 hcel.2 hq6 hinq hcn hel6 hc0.1
     refine jj (does_loadAgg (cs := [(Iv el6.a), (Iv el6.b), (Iv el6.c), (Iv el6.d), (Iv el6.e), (Iv el6.f)]) (ev rfl) Try.isAgg104 Try.sizeOf104 hc276 rfl) ?_
     refine sd (does_alloc z104) ?_; rintro _ w281 ⟨b277, rfl, hb278, hB279, E280⟩
     have hz284 := ((((((((((((((((hz75.ext E71).wr W81 (Nat.ne_of_lt n74)).ext E93).ext E117).wr W123 (Nat.ne_of_lt n74)).ext E132).ext E156).wr W162 (Nat.ne_of_lt n74)).ext E171).ext E195).wr W201 (Nat.ne_of_lt n74)).ext E210).ext E234).wr W240 (Nat.ne_of_lt n74)).ext E247).kl E261 (fun hc_ => ((hs41 _ hc_).elim (fun h_ => absurd (Nat.lt_of_lt_of_le ((MX.bnd h) _ h_).2 (Nat.le_trans (Nat.le_refl _) hb16)) (Nat.lt_irrefl _)) (fun h_ => absurd h_ (Nat.not_le_of_lt (Nat.lt_of_lt_of_le n30 (Below.size E25)))))))
     have n283 : b15 < b277 := Nat.lt_of_lt_of_le (Blk.lt hz284) hb278
     have hz287 := ((((((((((((((hz87.ext E93).ext E117).wr W123 (Nat.ne_of_lt n78)).ext E132).ext E156).wr W162 (Nat.ne_of_lt n78)).ext E171).ext E195).wr W201 (Nat.ne_of_lt n78)).ext E210).ext E234).wr W240 (Nat.ne_of_lt n78)).ext E247).kl E261 (fun hc_ => absurd (Nat.lt_of_lt_of_le ((MX.bnd hX40) _ hc_).2 (Nat.le_trans (Nat.le_refl _) hb52)) (Nat.lt_irrefl _)))
     have n286 : b51 < b277 := Nat.lt_of_lt_of_le (Blk.lt hz287) hb278
     have g292 : w.heap.size ≤ b277 := Nat.le_trans (Below.size X263) hb278
     change Blk _ _ [(Iv 0), (Iv 0), (Iv 0), (Iv 0), (Iv 0), (Iv 0)] at hB279
     have X293 := Ext.gr X263 E280
     refine fz ?_
     refine sn (does_store (n := 6) (cs := [(Iv 0), (Iv 0), (Iv 0), (Iv 0), (Iv 0), (Iv 0)]) (u := (.agg #[(Iv el6.a), (Iv el6.b), (Iv el6.c), (Iv el6.d), (Iv el6.e), (Iv el6.f)])) (ev rfl) (ev rfl) Try.sizeOf104 rfl hB279 (Nat.le_of_ble_eq_true rfl) rfl) ?_; rintro _ w296 ⟨rfl, W294, hB295⟩
     change Blk _ _ [(Iv el6.a), (Iv el6.b), (Iv el6.c), (Iv el6.d), (Iv el6.e), (Iv el6.f)] at hB295
     have X297 := Below.wr X293 W294 g292
     refine wn K271 ?_
     refine wr fun _ K298 => ?_
     have z306 := (Nat.le_trans (Nat.le_trans (Nat.le_trans (Below.size E247) (KpL.size E261)) (Below.size E280)) (Nat.le_of_eq (Eq.symm (Wr.size W294))))
     have n307 : b15 < w296.heap.size := (Nat.lt_of_lt_of_le n252 z306)
     have n308 : b51 < w296.heap.size := (Nat.lt_of_lt_of_le n253 z306)
     refine sd (does_slice0 (e := 2) (fun _ => by kernel_rfl)) ?_; rintro _ w304 ⟨b299, rfl, hb300, hl301, hO302, E303⟩
     have X313 := Ext.gr X297 E303
     have hO314 := hO302 _ RI 1
     refine fz ?_
     refine ja (.slice (some ⟨b299, 0, none⟩) 0 0) ?_
     refine wn K298 ?_
     refine ws fun _ K316 => ?_
     refine wr fun _ K317 => ?_
     refine jj (does_loadAgg (cs := [(Iv el6.a), (Iv el6.b), (Iv el6.c), (Iv el6.d), (Iv el6.e), (Iv el6.f)]) (ev rfl) Try.isAgg104 Try.sizeOf104 (Blk.cells (hB295.ext E303)) rfl) ?_
     refine jm (Iv 0) ?_
     refine wn K317 ?_
     refine wp_block ?_
     refine loop_unroll 4 ?_
     refine un_step ?_
     refine wr fun _ K318 => ?_
     refine jj (does_icmp (p := 0) (q := 3) (.inr (.inr (.inl rfl))) (ev rfl) (ev rfl)) ?_
     refine wn K318 ?_
     refine ws fun _ K319 => ?_
     refine wp_cond_true (ev rfl) ?_
     refine wp_skip (K319 _ _ ?_)
     refine ws fun _ K320 => ?_
     refine wp_block ?_
     refine wr fun _ K321 => ?_
     refine jj (does_index_run (r := (.agg #[(Iv el6.a), (Iv el6.b)])) (ev rfl) (ev rfl) (fun w => ix104_0 _ _ _ _ _ _ w)) ?_
     refine sd (does_alloc z103) ?_; rintro _ w326 ⟨b322, rfl, hb323, hB324, E325⟩
     have hz329 := (((hz284.ext E280).wr W294 (Nat.ne_of_lt n283)).ext E303)
     have n328 : b15 < b322 := Nat.lt_of_lt_of_le (Blk.lt hz329) hb323
     have hz332 := (((hz287.ext E280).wr W294 (Nat.ne_of_lt n286)).ext E303)
     have n331 : b51 < b322 := Nat.lt_of_lt_of_le (Blk.lt hz332) hb323
     have g338 : w.heap.size ≤ b322 := Nat.le_trans (Below.size X313) hb323
     change Blk _ _ [(Iv 0), (Iv 0)] at hB324
     have X339 := Ext.gr X313 E325
     refine fz ?_
     refine sn (does_store (n := 2) (cs := [(Iv 0), (Iv 0)]) (u := (.agg #[(Iv el6.a), (Iv el6.b)])) (ev rfl) (ev rfl) Try.sizeOf103 rfl hB324 (Nat.le_of_ble_eq_true rfl) rfl) ?_; rintro _ w342 ⟨rfl, W340, hB341⟩
     change Blk _ _ [(Iv el6.a), (Iv el6.b)] at hB341
     have X343 := Below.wr X339 W340 g338
     refine wn K321 ?_
     have z347 := (Nat.le_trans (Nat.le_trans (Below.size E303) (Below.size E325)) (Nat.le_of_eq (Eq.symm (Wr.size W340))))
     have n349 : b15 < w342.heap.size := (Nat.lt_of_lt_of_le n307 z347)
     have n350 : b51 < w342.heap.size := (Nat.lt_of_lt_of_le n308 z347)
     have z371 := (Nat.le_trans (Nat.le_trans (Below.size E280) (Nat.le_of_eq (Eq.symm (Wr.size W294)))) (Below.size E303))
     have hz372 := (MX.kl KI.good (MX.ext KI.good (MX.ext KI.good (MX.kl KI.good (MX.ext KI.good hX265 E280) (KpL.of_wr W294) (fun c_ hc_ hm_ => (List.mem_cons.1 hm_).elim (fun e_ => (fun hc_ => absurd (Nat.lt_of_lt_of_le ((MX.bnd hX265) _ hc_).2 (Nat.le_trans (Nat.le_refl _) hb278)) (Nat.lt_irrefl _)) (e_ ▸ hc_)) (fun hm_ => nomatch hm_))) E303) E325) (KpL.of_wr W340) (fun c_ hc_ hm_ => (List.mem_cons.1 hm_).elim (fun e_ => (fun hc_ => absurd (Nat.lt_of_lt_of_le ((MX.bnd hX265) _ hc_).2 (Nat.le_trans z371 hb323)) (Nat.lt_irrefl _)) (e_ ▸ hc_)) (fun hm_ => nomatch hm_)))
     obtain ⟨vp356, vt357, mb358, gp359, hB360, hO361, hT362, hb363, hb364, hb365, hne366, hne367, hne368, hin369, hcl370⟩ := MX.place hz372
     have z377 := (Nat.le_trans (Nat.le_trans (Nat.le_trans (Nat.le_trans (Nat.le_trans (Nat.le_trans (Nat.le_trans (Nat.le_trans (Nat.le_trans (Nat.le_trans (Nat.le_trans (Nat.le_trans (Nat.le_trans (Nat.le_trans (Nat.le_trans (Nat.le_trans (Nat.le_trans (Nat.le_trans (Below.size E25) (KpL.size E36)) (Below.size E54)) (Nat.le_of_eq (Eq.symm (Wr.size W63)))) (Below.size E71)) (Nat.le_of_eq (Eq.symm (Wr.size W81)))) (Below.size E93)) (Below.size E117)) (Nat.le_of_eq (Eq.symm (Wr.size W123)))) (Below.size E132)) (Below.size E156)) (Nat.le_of_eq (Eq.symm (Wr.size W162)))) (Below.size E171)) (Below.size E195)) (Nat.le_of_eq (Eq.symm (Wr.size W201)))) (Below.size E210)) (Below.size E234)) (Nat.le_of_eq (Eq.symm (Wr.size W240)))) (Below.size E247))
     obtain ⟨S383, hS384⟩ : ∃ S_ : MshS, S_ = (addK ((ksA (celS A_g x y z S q).1 (keysQ A_g x y z q) (3 * j), (celS A_g x y z S q).2 ++ trsA (celS A_g x y z S q).1 (keysQ A_g x y z q) (tuQ q) j)).1 (keyE A_g x y z (min (iAt [el1.a, el1.b, el1.c, el1.d] el6.a.toNat) (iAt [el1.a, el1.b, el1.c, el1.d] el6.b.toNat)) (max (iAt [el1.a, el1.b, el1.c, el1.d] el6.a.toNat) (iAt [el1.a, el1.b, el1.c, el1.d] el6.b.toNat))), ((ksA (celS A_g x y z S q).1 (keysQ A_g x y z q) (3 * j), (celS A_g x y z S q).2 ++ trsA (celS A_g x y z S q).1 (keysQ A_g x y z q) (tuQ q) j)).2) := ⟨_, rfl⟩
     obtain ⟨nk385, hn386⟩ : ∃ n_ : Int, n_ = (numK (addK ((ksA (celS A_g x y z S q).1 (keysQ A_g x y z q) (3 * j), (celS A_g x y z S q).2 ++ trsA (celS A_g x y z S q).1 (keysQ A_g x y z q) (tuQ q) j)).1 (keyE A_g x y z (min (iAt [el1.a, el1.b, el1.c, el1.d] el6.a.toNat) (iAt [el1.a, el1.b, el1.c, el1.d] el6.b.toNat)) (max (iAt [el1.a, el1.b, el1.c, el1.d] el6.a.toNat) (iAt [el1.a, el1.b, el1.c, el1.d] el6.b.toNat)))) (keyE A_g x y z (min (iAt [el1.a, el1.b, el1.c, el1.d] el6.a.toNat) (iAt [el1.a, el1.b, el1.c, el1.d] el6.b.toNat)) (max (iAt [el1.a, el1.b, el1.c, el1.d] el6.a.toNat) (iAt [el1.a, el1.b, el1.c, el1.d] el6.b.toNat)))) := ⟨_, rfl⟩
     refine region_any2 [b_, gp359, mb358] [0, 0, 0, 0, 8, 0, 56, 120, 0, 256, 0, 1792, 3840, 8190, 16382, 32767, 65535] [0, 1, 2] (
      [FactW.pure [] [0, 1, 2] [0, 1, 2] true (fun v => v = (.slice (some ⟨b299, 0, none⟩) 0 0)),
       FactW.pure [] [] [0, 1, 2] true (fun v => v = (Pt b_ 0)),
       FactW.pure [] [] [0, 1, 2] true (fun v => v = (.agg #[(Iv x), (Iv y), (Iv z)])),
       FactW.pure [] [] [0, 1, 2] true (fun v => v = (Pt b322 0)),
       FactW.pure [3] [] [0, 1, 2] true (fun v => v = (Iv el6.a)),
       FactW.pure [] [] [0, 1, 2] true (fun v => v = (Pt b51 0)),
       FactW.pure [5, 4] [] [0, 1, 2] true (fun v => v = (Pt b51 (0 + el6.a.toNat * 1))),
       FactW.pure [6] [] [0, 1, 2] true (fun v => v = (Iv (iAt [el1.a, el1.b, el1.c, el1.d] el6.a.toNat))),
       FactW.pure [] [] [0, 1, 2] true (fun v => v = (Pt b322 1)),
       FactW.pure [8] [] [0, 1, 2] true (fun v => v = (Iv el6.b)),
       FactW.pure [] [] [0, 1, 2] true (fun v => v = (Pt b51 0)),
       FactW.pure [10, 9] [] [0, 1, 2] true (fun v => v = (Pt b51 (0 + el6.b.toNat * 1))),
       FactW.pure [11] [] [0, 1, 2] true (fun v => v = (Iv (iAt [el1.a, el1.b, el1.c, el1.d] el6.b.toNat))),
       FactW.mem [1, 2, 7, 12] [] [0, 1, 2] [] true (fun v w' => v = (Iv nk385) ∧ ∃ vp' : Value, Blk w' b_ ((KI 35 65 g_b g_o A_g).box vp' vt357 mb358) ∧ Own RV3 3 35 gp359 w342.heap.size w' vp' ((S383).1.map (plK A_g)) ∧ (KI 35 65 g_b g_o A_g).T mb358 w' (S383).1) (by rintro v w1 w2 hx ⟨hv, vp', hB, hO, hM⟩; replace hx : KpL [] w1 w2 := hx; exact ⟨hv, vp', hB.kl hx nin0, Own.klB hO RV3.flat hx all0, (KI.good).T hM hx nin0⟩),
       FactW.mem [13] [0, 1, 2] [] [] true (fun v w' => ∃ b : Nat, v = .slice (some ⟨b, 0, none⟩) 1 1 ∧ w342.heap.size ≤ b ∧ Blk w' b [(Iv nk385)]) (by rintro v w1 w2 hx' ⟨b, rfl, hb, hB⟩; have hx := KpL.toExt hx'; exact ⟨b, rfl, hb, (hB.ext hx)⟩)]) mixed (by kernel_rfl) ?_
     obtain ⟨w344, hw346⟩ : ∃ w', w' = World.drew w342 := ⟨_, rfl⟩; rw [← hw346]; have E345 : Ext w342 w344 := by rw [hw346]; exact Ext.draw _
     have hsz383 : w344.heap.size = w342.heap.size := by rw [hw346]; rfl
     clear hw346
     have X384 := Ext.gr X343 E345
     refine R2_d (fun u hu hF => ?_) (fun v385 => ?_)
     ·replace hu : KpL [b_, gp359, mb358] _ _ := hu
      clear hF
      refine doesG_un rfl ?_
      refine (does_move (u := (.slice (some ⟨b299, 0, none⟩) 0 0)) (ev rfl)).mono ?_; rintro _ _ ⟨rfl, rfl⟩
      exact ⟨rfl, KpL.refl _ _⟩
     refine R2_p (fun u hu _ => does_move (u := (Pt b_ 0)) (ev rfl)) fun v386 => ?_
     refine R2_p (fun u hu _ => does_loadAgg (cs := [(Iv x), (Iv y), (Iv z)]) (ev rfl) Try.isAgg69 Try.sizeOf69 (Blk.cells ((((hz329.ext E325).wr W340 (Nat.ne_of_lt n328)).ext E345).ext (KpL.toExt hu))) rfl) fun v387 => ?_
     refine R2_p (fun u hu _ => does_indexAt_run (r := (Pt b322 0)) (ev rfl) (ev rfl) (fun w => ia103_0 _ _ w)) fun v388 => ?_
     refine R2_p (fun u hu hF => ?_) fun v389 => ?_
     · have h63_ : v388 = (Pt b322 0) := hF.1
       clear hF; subst h63_
       exact does_load (u := (Iv el6.a)) (ev rfl) Try.isAgg3 (Cells.at (Blk.cells ((hB341.ext E345).ext (KpL.toExt hu))) 0 rfl)
     refine R2_p (fun u hu _ => does_fieldAddr (ev rfl) fa96_0) fun v390 => ?_
     refine R2_p (fun u hu hF => ?_) fun v391 => ?_
     · have h65_ : v390 = (Pt b51 0) := hF.1
       have h64_ : v389 = (Iv el6.a) := hF.2.1
       clear hF; subst h65_ h64_
       exact does_indexAtV (n := 4) (i := el6.a) (k := 1) (by kernel_rfl) (by kernel_rfl) (fun _ => by kernel_rfl) (ev rfl) (ev rfl) (by omega) (by omega)
     refine R2_p (fun u hu hF => ?_) fun v392 => ?_
     · have h66_ : v391 = (Pt b51 (0 + el6.a.toNat * 1)) := hF.1
       clear hF; subst h66_
       exact does_loadVI (o := 0) (i := el6.a.toNat) (l := [el1.a, el1.b, el1.c, el1.d]) (ev rfl) Try.isAgg3 (Cells.sub (Blk.cells ((((hz332.ext E325).wr W340 (Nat.ne_of_lt n331)).ext E345).ext (KpL.toExt hu))) 0 4) rfl (show _ < 4 by omega)
     refine R2_p (fun u hu _ => does_indexAt_run (r := (Pt b322 1)) (ev rfl) (ev rfl) (fun w => ia103_1 _ _ w)) fun v393 => ?_
     refine R2_p (fun u hu hF => ?_) fun v394 => ?_
     · have h68_ : v393 = (Pt b322 1) := hF.1
       clear hF; subst h68_
       exact does_load (u := (Iv el6.b)) (ev rfl) Try.isAgg3 (Cells.at (Blk.cells ((hB341.ext E345).ext (KpL.toExt hu))) 1 rfl)
     refine R2_p (fun u hu _ => does_fieldAddr (ev rfl) fa96_0) fun v395 => ?_
     refine R2_p (fun u hu hF => ?_) fun v396 => ?_
     · have h70_ : v395 = (Pt b51 0) := hF.1
       have h69_ : v394 = (Iv el6.b) := hF.2.1
       clear hF; subst h70_ h69_
       exact does_indexAtV (n := 4) (i := el6.b) (k := 1) (by kernel_rfl) (by kernel_rfl) (fun _ => by kernel_rfl) (ev rfl) (ev rfl) (by omega) (by omega)
     refine R2_p (fun u hu hF => ?_) fun v397 => ?_
     · have h71_ : v396 = (Pt b51 (0 + el6.b.toNat * 1)) := hF.1
       clear hF; subst h71_
       exact does_loadVI (o := 0) (i := el6.b.toNat) (l := [el1.a, el1.b, el1.c, el1.d]) (ev rfl) Try.isAgg3 (Cells.sub (Blk.cells ((((hz332.ext E325).wr W340 (Nat.ne_of_lt n331)).ext E345).ext (KpL.toExt hu))) 0 4) rfl (show _ < 4 by omega)
     refine R2_d (fun u hu hF => ?_) (fun v398 => ?_)
     ·replace hu : KpL [] _ _ := hu
      have h61_ : v386 = (Pt b_ 0) := hF.1
      have h62_ : v387 = (.agg #[(Iv x), (Iv y), (Iv z)]) := hF.2.1
      have h67_ : v392 = (Iv (iAt [el1.a, el1.b, el1.c, el1.d] el6.a.toNat)) := hF.2.2.1
      have h72_ : v397 = (Iv (iAt [el1.a, el1.b, el1.c, el1.d] el6.b.toNat)) := hF.2.2.2.1
      clear hF
      refine doesG_un rfl ?_
      obtain rfl := h61_
      obtain rfl := h62_
      obtain rfl := h67_
      obtain rfl := h72_
      subst hS384 hn386
      refine (does_callK (args := #[(Pt b_ 0), (.agg #[(Iv x), (Iv y), (Iv z)]), (Iv (iAt [el1.a, el1.b, el1.c, el1.d] el6.a.toNat)), (Iv (iAt [el1.a, el1.b, el1.c, el1.d] el6.b.toNat))]) cal60 (evs rfl) (cq_impl_mesher_place (b := b_) (S := (ksA (celS A_g x y z S q).1 (keysQ A_g x y z q) (3 * j), (celS A_g x y z S q).2 ++ trsA (celS A_g x y z S q).1 (keysQ A_g x y z q) (tuQ q) j)) (g_b := g_b) (g_o := g_o) (g := [(Fl r1), (Fl r3), (Fl r5), (Fl r7), (Iv A_g.x), (Iv A_g.y), (Iv A_g.z), (.slice p11 A_g.vals.length q12)]) (A_g := A_g) (w := w) (hc_g := hc_g) (hv_g := ⟨r1, r3, r5, r7, (.slice p11 A_g.vals.length q12), rfl, h2, h4, h6, h8, hs13⟩) (x := x) (y := y) (z := z) (c_ := (iAt [el1.a, el1.b, el1.c, el1.d] el6.a.toNat)) (d_ := (iAt [el1.a, el1.b, el1.c, el1.d] el6.b.toNat)) (hgr := by first | assumption | omega) (hcel := by first | assumption | omega) (hpq := by first | exact hp1 | exact hp2 | exact hp3) (hok := by skip; first | exact hok0 | exact hok0.add hr1 | exact (hok0.add hr1).add hr2) (vp := vp356) (vt := vt357) (m := mb358) (gp := gp359) (w1 := u) (hx1 := (Ext.gr (Ext.gr X343 E345) (KpL.toExt hu))) (hB := (((show Blk _ _ [(Pt g_b g_o), vp356, vt357, (.map (some mb358))] from hB360).ext E345).ext (KpL.toExt hu))) (hO := (Own.klA (Own.klA hO361 RV3.flat (KpL.of_ext (L := []) E345) nin0) RV3.flat (KpL.of_ext (L := []) (KpL.toExt hu)) nin0)) (hT := (MapL.ext (MapL.ext (show MapL encP (Value.int .i64) okP _ mb358 (mdK A_g ((ksA (celS A_g x y z S q).1 (keysQ A_g x y z q) (3 * j), (celS A_g x y z S q).2 ++ trsA (celS A_g x y z S q).1 (keysQ A_g x y z q) (tuQ q) j)).1) from hT362) E345) (KpL.toExt hu))) (hb0 := hb363) (hg0 := hb364) (hm0 := hb365) (h1 := hne366) (h2 := hne367) (h3 := hne368))).mono ?_; rintro v u' ⟨hK, hv, vp', hB, hO, hM⟩; exact ⟨⟨hv, vp', hB, Own.leB hO (Nat.le_trans (Below.size E345) (KpL.size hu)), hM⟩, hK⟩
     refine R2_d (fun u hu hF => ?_) (fun v399 => ?_)
     ·replace hu : KpL [b_, gp359, mb358] _ _ := hu
      have h73_ : v398 = (Iv nk385) := hF.1.1
      clear hF
      refine doesG_un rfl ?_
      obtain rfl := h73_
      refine (does_buildSlice (e := 2) (parts' := [(0, (Iv nk385))]) (cells := [(Iv nk385)]) (evp rfl) (fun _ => by kernel_rfl)).mono ?_; rintro _ _ ⟨b, rfl, hb, hB, hx⟩
      exact ⟨⟨b, rfl, Nat.le_trans (Nat.le_trans (Below.size E345) (KpL.size hu)) hb, hB⟩, (KpL.of_ext hx)⟩
     refine RW2_fin ?_; intro w400 E401 hP402; replace E401 : KpL [b_, gp359, mb358] _ _ := E401
     obtain ⟨⟨⟨⟨⟨⟨⟨⟨⟨⟨⟨⟨⟨⟨⟨-, q403⟩, -⟩, -⟩, -⟩, -⟩, -⟩, -⟩, -⟩, -⟩, -⟩, -⟩, -⟩, -⟩, q404⟩, q405⟩ := hP402
     have KL406 : KpL Lm264 _ _ := (KpL.refl _ _).more E401 (fun c_ hc_ => (hin369 c_ hc_).imp id (fun h_ => by rw [hsz383]; exact h_))
     have hv407 : v398 = (Iv nk385) := (q404 rfl).1; subst hv407
     obtain ⟨_, vp408, hB409, hO410, hM411⟩ := q404 rfl
     obtain ⟨Lm413, hX414, hs415⟩ := hcl370 _ _ vp408 _ (KpL.more (KpL.of_ext E345) E401 (fun c_ hc_ => .inl hc_)) (fun c_ hc_ => .inl hc_) hB409 hO410 hM411
     have X416 := Below.kl X384 KL406 (fun c_ hc_ => Nat.le_trans (Nat.le_refl _) ((MX.bnd hX265) c_ hc_).1) (Nat.le_refl _)
     have q403 : v385 = (.slice (some ⟨b299, 0, none⟩) 0 0) := q403 rfl
     obtain rfl := q403
     have q405 : ∃ b : Nat, v399 = .slice (some ⟨b, 0, none⟩) 1 1 ∧ w342.heap.size ≤ b ∧ Blk w400 b [(Iv nk385)] := q405 rfl
     obtain ⟨b417, rfl, hb418, hB419⟩ := q405
     refine fz ?_
     have z433 := (Nat.le_trans (Below.size E345) (KpL.size KL406))
     have n435 : b15 < w400.heap.size := (Nat.lt_of_lt_of_le n349 z433)
     have n436 : b51 < w400.heap.size := (Nat.lt_of_lt_of_le n350 z433)
     have z444 := (Nat.le_trans (Below.size E280) (Nat.le_of_eq (Eq.symm (Wr.size W294))))
     obtain ⟨gg429, hg430, hg431, hlt443, hA432⟩ := Own.startX hO314 (Own.same hO314 RI.flat (((((Same.refl _ _).ext E325).wr W340 (.inr (Nat.le_trans (Nat.le_refl _) hb323))).ext E345).kl KL406 (fun c_ hc_ => Or.inl (Nat.lt_of_lt_of_le ((MX.bnd hX265) _ hc_).2 z444))) hb300 (Below.size E303)) (show _ = some b299 from rfl)
     have hN445 : w296.heap.size ≤ gg429 := by rcases hg430 with h | h; exact h ▸ hb300; exact Nat.le_trans (Below.size E303) h
     have z447 := (Nat.le_trans (Nat.le_trans (Nat.le_trans (Nat.le_trans (Nat.le_trans (Nat.le_trans (Nat.le_trans (Nat.le_trans (Nat.le_trans (Nat.le_trans (Nat.le_trans (Nat.le_trans (Nat.le_trans (Nat.le_trans (Nat.le_trans (Nat.le_trans (Nat.le_trans (Nat.le_trans (Nat.le_trans (Nat.le_trans (Nat.le_trans (Nat.le_trans (Nat.le_trans (Below.size hx1) (Below.size E18)) (Below.size E25)) (KpL.size E36)) (Below.size E54)) (Nat.le_of_eq (Eq.symm (Wr.size W63)))) (Below.size E71)) (Nat.le_of_eq (Eq.symm (Wr.size W81)))) (Below.size E93)) (Below.size E117)) (Nat.le_of_eq (Eq.symm (Wr.size W123)))) (Below.size E132)) (Below.size E156)) (Nat.le_of_eq (Eq.symm (Wr.size W162)))) (Below.size E171)) (Below.size E195)) (Nat.le_of_eq (Eq.symm (Wr.size W201)))) (Below.size E210)) (Below.size E234)) (Nat.le_of_eq (Eq.symm (Wr.size W240)))) (Below.size E247)) (KpL.size E261)) (Below.size E280)) (Nat.le_of_eq (Eq.symm (Wr.size W294))))
     have z450 := (Nat.le_trans (Below.size E325) (Nat.le_of_eq (Eq.symm (Wr.size W340))))
     have hni451 : gg429 ∉ Lm264 := hg430.elim (fun e_ => by rw [e_]; exact (fun hc_ => absurd (Nat.lt_of_lt_of_le ((MX.bnd hX265) _ hc_).2 (Nat.le_trans z444 hb300)) (Nat.lt_irrefl _))) (fun h_ hc_ => absurd (Nat.lt_of_lt_of_le ((MX.bnd hX265) _ hc_).2 (Nat.le_trans z371 h_)) (Nat.lt_irrefl _))
     have z452 := (Nat.le_trans (Nat.le_trans z347 (Below.size E345)) (KpL.size KL406))
     refine sd (does_append (R := RI) (k := 1) (g0 := gg429) (B := w400.heap.size) (xs := ([])) (ys := [nk385]) Try.underlying65 inf2 rfl (by decide) (ev rfl) (ev rfl) (hA432 _) RI.flat hB419 rfl rfl rfl (fun i_ x_ hi_ => lit1 (R := RI) (cs := [(Iv nk385)]) (y := nk385)  rfl i_ x_ hi_) (by first | (simp only [List.length_append, List.length_cons, List.length_nil]; omega) | omega) (Nat.le_refl _)) ?_; rintro y' w454 ⟨gg455, hg456, K457, hO458⟩
     have hni459 : gg455 ∉ Lm413 := hg456.elim (fun e_ => by rw [e_]; exact (fun hc_ => ((hs415 _ hc_).elim (fun h_ => absurd h_ hni451) (fun h_ => absurd h_ (Nat.not_le_of_lt (Nat.lt_of_lt_of_le hlt443 z450)))))) (fun h_ hc_ => absurd (Nat.lt_of_lt_of_le ((MX.bnd hX414) _ hc_).2 (Nat.le_trans (Nat.le_refl _) h_)) (Nat.lt_irrefl _))
     have hN460 : w296.heap.size ≤ gg455 := by rcases hg456 with h | h; exact h ▸ hN445; exact Nat.le_trans z452 h
     have g461 : w.heap.size ≤ gg455 := Nat.le_trans z447 hN460
     have n463 : b15 ≠ gg455 := hg456.elim (fun h => by rw [h]; exact (Nat.ne_of_lt (Nat.lt_of_lt_of_le n307 hN445))) (fun h => Nat.ne_of_lt (Nat.lt_of_lt_of_le n435 h))
     have n464 : b51 ≠ gg455 := hg456.elim (fun h => by rw [h]; exact (Nat.ne_of_lt (Nat.lt_of_lt_of_le n308 hN445))) (fun h => Nat.ne_of_lt (Nat.lt_of_lt_of_le n436 h))
     have X471 := Below.kl X416 K457 (allS g461 all0) (Nat.le_refl _)
     replace hO458 := hO458.cast (List.nil_append _)
     obtain ⟨p472, q473, rfl⟩ := Own.shape hO458
     have n480 : b15 < w454.heap.size := (Nat.lt_of_lt_of_le n435 (KpL.size K457))
     have n481 : b51 < w454.heap.size := (Nat.lt_of_lt_of_le n436 (KpL.size K457))
     obtain ⟨gg475, hg476, hlt487, hA478⟩ := Own.startP hO458 hO458 (by simp)
     have hN488 : w296.heap.size ≤ gg475 := by rcases hg476 with h | h; exact h ▸ hN445; exact Nat.le_trans z452 h
     have n491 : b15 ≠ gg475 := hg476.elim (fun h => by rw [h]; exact (Nat.ne_of_lt (Nat.lt_of_lt_of_le n307 hN445))) (fun h => Nat.ne_of_lt (Nat.lt_of_lt_of_le n435 h))
     have n492 : b51 ≠ gg475 := hg476.elim (fun h => by rw [h]; exact (Nat.ne_of_lt (Nat.lt_of_lt_of_le n308 hN445))) (fun h => Nat.ne_of_lt (Nat.lt_of_lt_of_le n436 h))
     have hni499 : gg475 ∉ Lm413 := hg476.elim (fun e_ => by rw [e_]; exact (fun hc_ => ((hs415 _ hc_).elim (fun h_ => absurd h_ hni451) (fun h_ => absurd h_ (Nat.not_le_of_lt (Nat.lt_of_lt_of_le hlt443 z450)))))) (fun h_ hc_ => absurd (Nat.lt_of_lt_of_le ((MX.bnd hX414) _ hc_).2 (Nat.le_trans (Nat.le_refl _) h_)) (Nat.lt_irrefl _))
     have z500 := (Nat.le_trans z452 (KpL.size K457))
     refine fz ?_
     refine ja (.slice p472 (([nk385]).length) q473) ?_
     refine wn K320 ?_
     refine wp_region_lit ?_
     refine jj (does_iarith (p := 0) (q := 1) (r := (1)) (ev rfl) (ev rfl) (.inl ⟨rfl, rfl⟩)) ?_
     refine jm (Iv 1) ?_
     refine wpList_nil ?_
     refine un_step ?_
     refine wr fun _ K502 => ?_
     refine jj (does_icmp (p := 1) (q := 3) (.inr (.inr (.inl rfl))) (ev rfl) (ev rfl)) ?_
     refine wn K502 ?_
     refine ws fun _ K503 => ?_
     refine wp_cond_true (ev rfl) ?_
     refine wp_skip (K503 _ _ ?_)
     refine ws fun _ K504 => ?_
     refine wp_block ?_
     refine wr fun _ K505 => ?_
     refine jj (does_index_run (r := (.agg #[(Iv el6.c), (Iv el6.d)])) (ev rfl) (ev rfl) (fun w => ix104_1 _ _ _ _ _ _ w)) ?_
     refine sd (does_alloc z103) ?_; rintro _ w510 ⟨b506, rfl, hb507, hB508, E509⟩
     have hz513 := (((((hz329.ext E325).wr W340 (Nat.ne_of_lt n328)).ext E345).kl KL406 (fun hc_ => ((hs266 _ hc_).elim (fun h_ => ((hs41 _ h_).elim (fun h_ => absurd (Nat.lt_of_lt_of_le ((MX.bnd h) _ h_).2 (Nat.le_trans (Nat.le_refl _) hb16)) (Nat.lt_irrefl _)) (fun h_ => absurd h_ (Nat.not_le_of_lt (Nat.lt_of_lt_of_le n30 (Below.size E25)))))) (fun h_ => absurd h_ (Nat.not_le_of_lt (Nat.lt_of_lt_of_le n30 z377)))))).kl K457 (ninS n463 nin0))
     have n512 : b15 < b506 := Nat.lt_of_lt_of_le (Blk.lt hz513) hb507
     have hz516 := (((((hz332.ext E325).wr W340 (Nat.ne_of_lt n331)).ext E345).kl KL406 (fun hc_ => ((hs266 _ hc_).elim (fun h_ => absurd (Nat.lt_of_lt_of_le ((MX.bnd hX40) _ h_).2 (Nat.le_trans (Nat.le_refl _) hb52)) (Nat.lt_irrefl _)) (fun h_ => absurd h_ (Nat.not_le_of_lt (Nat.lt_of_lt_of_le n253 (Below.size E247))))))).kl K457 (ninS n464 nin0))
     have n515 : b51 < b506 := Nat.lt_of_lt_of_le (Blk.lt hz516) hb507
     have g525 : w.heap.size ≤ b506 := Nat.le_trans (Below.size X471) hb507
     change Blk _ _ [(Iv 0), (Iv 0)] at hB508
     have X526 := Ext.gr X471 E509
     refine fz ?_
     refine sn (does_store (n := 2) (cs := [(Iv 0), (Iv 0)]) (u := (.agg #[(Iv el6.c), (Iv el6.d)])) (ev rfl) (ev rfl) Try.sizeOf103 rfl hB508 (Nat.le_of_ble_eq_true rfl) rfl) ?_; rintro _ w529 ⟨rfl, W527, hB528⟩
     change Blk _ _ [(Iv el6.c), (Iv el6.d)] at hB528
     have X530 := Below.wr X526 W527 g525
     refine wn K505 ?_
     have z534 := (Nat.le_trans (Below.size E509) (Nat.le_of_eq (Eq.symm (Wr.size W527))))
     have n536 : b15 < w529.heap.size := (Nat.lt_of_lt_of_le n480 z534)
     have n537 : b51 < w529.heap.size := (Nat.lt_of_lt_of_le n481 z534)
     have hz559 := (MX.kl KI.good (MX.ext KI.good (MX.kl KI.good hX414 K457 (fun c_ hc_ hm_ => (List.mem_cons.1 hm_).elim (fun e_ => (fun hc_ => absurd hc_ hni459) (e_ ▸ hc_)) (fun hm_ => nomatch hm_))) E509) (KpL.of_wr W527) (fun c_ hc_ hm_ => (List.mem_cons.1 hm_).elim (fun e_ => (fun hc_ => absurd (Nat.lt_of_lt_of_le ((MX.bnd hX414) _ hc_).2 (Nat.le_trans (KpL.size K457) hb507)) (Nat.lt_irrefl _)) (e_ ▸ hc_)) (fun hm_ => nomatch hm_)))
     obtain ⟨vp544, vt545, mb546, gp547, hB548, hO549, hT550, hb551, hb552, hb553, hne554, hne555, hne556, hin557, hcl558⟩ := MX.place hz559
     have z564 := (Nat.le_trans (Nat.le_trans (Nat.le_trans (Nat.le_trans (Nat.le_trans (Nat.le_trans z377 (KpL.size E261)) (Below.size E280)) (Nat.le_of_eq (Eq.symm (Wr.size W294)))) (Below.size E303)) (Below.size E325)) (Nat.le_of_eq (Eq.symm (Wr.size W340))))
     have z566 := (Nat.le_trans (Nat.le_trans (Nat.le_trans z306 (Below.size E303)) (Below.size E325)) (Nat.le_of_eq (Eq.symm (Wr.size W340))))
     obtain ⟨S572, hS573⟩ : ∃ S_ : MshS, S_ = (addK (S383).1 (keyE A_g x y z (min (iAt [el1.a, el1.b, el1.c, el1.d] el6.c.toNat) (iAt [el1.a, el1.b, el1.c, el1.d] el6.d.toNat)) (max (iAt [el1.a, el1.b, el1.c, el1.d] el6.c.toNat) (iAt [el1.a, el1.b, el1.c, el1.d] el6.d.toNat))), (S383).2) := ⟨_, rfl⟩
     obtain ⟨nk574, hn575⟩ : ∃ n_ : Int, n_ = (numK (addK (S383).1 (keyE A_g x y z (min (iAt [el1.a, el1.b, el1.c, el1.d] el6.c.toNat) (iAt [el1.a, el1.b, el1.c, el1.d] el6.d.toNat)) (max (iAt [el1.a, el1.b, el1.c, el1.d] el6.c.toNat) (iAt [el1.a, el1.b, el1.c, el1.d] el6.d.toNat)))) (keyE A_g x y z (min (iAt [el1.a, el1.b, el1.c, el1.d] el6.c.toNat) (iAt [el1.a, el1.b, el1.c, el1.d] el6.d.toNat)) (max (iAt [el1.a, el1.b, el1.c, el1.d] el6.c.toNat) (iAt [el1.a, el1.b, el1.c, el1.d] el6.d.toNat)))) := ⟨_, rfl⟩
     refine region_any2 [b_, gp547, mb546] [0, 0, 0, 0, 8, 0, 56, 120, 0, 256, 0, 1792, 3840, 8190, 16382, 32767, 65535] [0, 1, 2] (
      [FactW.pure [] [0, 1, 2] [0, 1, 2] true (fun v => v = (.slice p472 (([nk385]).length) q473)),
       FactW.pure [] [] [0, 1, 2] true (fun v => v = (Pt b_ 0)),
       FactW.pure [] [] [0, 1, 2] true (fun v => v = (.agg #[(Iv x), (Iv y), (Iv z)])),
       FactW.pure [] [] [0, 1, 2] true (fun v => v = (Pt b506 0)),
       FactW.pure [3] [] [0, 1, 2] true (fun v => v = (Iv el6.c)),
       FactW.pure [] [] [0, 1, 2] true (fun v => v = (Pt b51 0)),
       FactW.pure [5, 4] [] [0, 1, 2] true (fun v => v = (Pt b51 (0 + el6.c.toNat * 1))),
       FactW.pure [6] [] [0, 1, 2] true (fun v => v = (Iv (iAt [el1.a, el1.b, el1.c, el1.d] el6.c.toNat))),
       FactW.pure [] [] [0, 1, 2] true (fun v => v = (Pt b506 1)),
       FactW.pure [8] [] [0, 1, 2] true (fun v => v = (Iv el6.d)),
       FactW.pure [] [] [0, 1, 2] true (fun v => v = (Pt b51 0)),
       FactW.pure [10, 9] [] [0, 1, 2] true (fun v => v = (Pt b51 (0 + el6.d.toNat * 1))),
       FactW.pure [11] [] [0, 1, 2] true (fun v => v = (Iv (iAt [el1.a, el1.b, el1.c, el1.d] el6.d.toNat))),
       FactW.mem [1, 2, 7, 12] [] [0, 1, 2] [] true (fun v w' => v = (Iv nk574) ∧ ∃ vp' : Value, Blk w' b_ ((KI 35 65 g_b g_o A_g).box vp' vt545 mb546) ∧ Own RV3 3 35 gp547 w529.heap.size w' vp' ((S572).1.map (plK A_g)) ∧ (KI 35 65 g_b g_o A_g).T mb546 w' (S572).1) (by rintro v w1 w2 hx ⟨hv, vp', hB, hO, hM⟩; replace hx : KpL [] w1 w2 := hx; exact ⟨hv, vp', hB.kl hx nin0, Own.klB hO RV3.flat hx all0, (KI.good).T hM hx nin0⟩),
       FactW.mem [13] [0, 1, 2] [] [] true (fun v w' => ∃ b : Nat, v = .slice (some ⟨b, 0, none⟩) 1 1 ∧ w529.heap.size ≤ b ∧ Blk w' b [(Iv nk574)]) (by rintro v w1 w2 hx' ⟨b, rfl, hb, hB⟩; have hx := KpL.toExt hx'; exact ⟨b, rfl, hb, (hB.ext hx)⟩)]) mixed (by kernel_rfl) ?_
     obtain ⟨w531, hw533⟩ : ∃ w', w' = World.drew w529 := ⟨_, rfl⟩; rw [← hw533]; have E532 : Ext w529 w531 := by rw [hw533]; exact Ext.draw _
     have hsz572 : w531.heap.size = w529.heap.size := by rw [hw533]; rfl
     clear hw533
     have X573 := Ext.gr X530 E532
     refine R2_d (fun u hu hF => ?_) (fun v574 => ?_)
     ·replace hu : KpL [b_, gp547, mb546] _ _ := hu
      clear hF
      refine doesG_un rfl ?_
      refine (does_move (u := (.slice p472 (([nk385]).length) q473)) (ev rfl)).mono ?_; rintro _ _ ⟨rfl, rfl⟩
      exact ⟨rfl, KpL.refl _ _⟩
     refine R2_p (fun u hu _ => does_move (u := (Pt b_ 0)) (ev rfl)) fun v575 => ?_
     refine R2_p (fun u hu _ => does_loadAgg (cs := [(Iv x), (Iv y), (Iv z)]) (ev rfl) Try.isAgg69 Try.sizeOf69 (Blk.cells ((((hz513.ext E509).wr W527 (Nat.ne_of_lt n512)).ext E532).ext (KpL.toExt hu))) rfl) fun v576 => ?_
     refine R2_p (fun u hu _ => does_indexAt_run (r := (Pt b506 0)) (ev rfl) (ev rfl) (fun w => ia103_0 _ _ w)) fun v577 => ?_
     refine R2_p (fun u hu hF => ?_) fun v578 => ?_
     · have h63_ : v577 = (Pt b506 0) := hF.1
       clear hF; subst h63_
       exact does_load (u := (Iv el6.c)) (ev rfl) Try.isAgg3 (Cells.at (Blk.cells ((hB528.ext E532).ext (KpL.toExt hu))) 0 rfl)
     refine R2_p (fun u hu _ => does_fieldAddr (ev rfl) fa96_0) fun v579 => ?_
     refine R2_p (fun u hu hF => ?_) fun v580 => ?_
     · have h65_ : v579 = (Pt b51 0) := hF.1
       have h64_ : v578 = (Iv el6.c) := hF.2.1
       clear hF; subst h65_ h64_
       exact does_indexAtV (n := 4) (i := el6.c) (k := 1) (by kernel_rfl) (by kernel_rfl) (fun _ => by kernel_rfl) (ev rfl) (ev rfl) (by omega) (by omega)
     refine R2_p (fun u hu hF => ?_) fun v581 => ?_
     · have h66_ : v580 = (Pt b51 (0 + el6.c.toNat * 1)) := hF.1
       clear hF; subst h66_
       exact does_loadVI (o := 0) (i := el6.c.toNat) (l := [el1.a, el1.b, el1.c, el1.d]) (ev rfl) Try.isAgg3 (Cells.sub (Blk.cells ((((hz516.ext E509).wr W527 (Nat.ne_of_lt n515)).ext E532).ext (KpL.toExt hu))) 0 4) rfl (show _ < 4 by omega)
     refine R2_p (fun u hu _ => does_indexAt_run (r := (Pt b506 1)) (ev rfl) (ev rfl) (fun w => ia103_1 _ _ w)) fun v582 => ?_
     refine R2_p (fun u hu hF => ?_) fun v583 => ?_
     · have h68_ : v582 = (Pt b506 1) := hF.1
       clear hF; subst h68_
       exact does_load (u := (Iv el6.d)) (ev rfl) Try.isAgg3 (Cells.at (Blk.cells ((hB528.ext E532).ext (KpL.toExt hu))) 1 rfl)
     refine R2_p (fun u hu _ => does_fieldAddr (ev rfl) fa96_0) fun v584 => ?_
     refine R2_p (fun u hu hF => ?_) fun v585 => ?_
     · have h70_ : v584 = (Pt b51 0) := hF.1
       have h69_ : v583 = (Iv el6.d) := hF.2.1
       clear hF; subst h70_ h69_
       exact does_indexAtV (n := 4) (i := el6.d) (k := 1) (by kernel_rfl) (by kernel_rfl) (fun _ => by kernel_rfl) (ev rfl) (ev rfl) (by omega) (by omega)
     refine R2_p (fun u hu hF => ?_) fun v586 => ?_
     · have h71_ : v585 = (Pt b51 (0 + el6.d.toNat * 1)) := hF.1
       clear hF; subst h71_
       exact does_loadVI (o := 0) (i := el6.d.toNat) (l := [el1.a, el1.b, el1.c, el1.d]) (ev rfl) Try.isAgg3 (Cells.sub (Blk.cells ((((hz516.ext E509).wr W527 (Nat.ne_of_lt n515)).ext E532).ext (KpL.toExt hu))) 0 4) rfl (show _ < 4 by omega)
     refine R2_d (fun u hu hF => ?_) (fun v587 => ?_)
     ·replace hu : KpL [] _ _ := hu
      have h61_ : v575 = (Pt b_ 0) := hF.1
      have h62_ : v576 = (.agg #[(Iv x), (Iv y), (Iv z)]) := hF.2.1
      have h67_ : v581 = (Iv (iAt [el1.a, el1.b, el1.c, el1.d] el6.c.toNat)) := hF.2.2.1
      have h72_ : v586 = (Iv (iAt [el1.a, el1.b, el1.c, el1.d] el6.d.toNat)) := hF.2.2.2.1
      clear hF
      refine doesG_un rfl ?_
      obtain rfl := h61_
      obtain rfl := h62_
      obtain rfl := h67_
      obtain rfl := h72_
      subst hS573 hn575
      refine (does_callK (args := #[(Pt b_ 0), (.agg #[(Iv x), (Iv y), (Iv z)]), (Iv (iAt [el1.a, el1.b, el1.c, el1.d] el6.c.toNat)), (Iv (iAt [el1.a, el1.b, el1.c, el1.d] el6.d.toNat))]) cal60 (evs rfl) (cq_impl_mesher_place (b := b_) (S := S383) (g_b := g_b) (g_o := g_o) (g := [(Fl r1), (Fl r3), (Fl r5), (Fl r7), (Iv A_g.x), (Iv A_g.y), (Iv A_g.z), (.slice p11 A_g.vals.length q12)]) (A_g := A_g) (w := w) (hc_g := hc_g) (hv_g := ⟨r1, r3, r5, r7, (.slice p11 A_g.vals.length q12), rfl, h2, h4, h6, h8, hs13⟩) (x := x) (y := y) (z := z) (c_ := (iAt [el1.a, el1.b, el1.c, el1.d] el6.c.toNat)) (d_ := (iAt [el1.a, el1.b, el1.c, el1.d] el6.d.toNat)) (hgr := by first | assumption | omega) (hcel := by first | assumption | omega) (hpq := by first | exact hp1 | exact hp2 | exact hp3) (hok := by subst hS384; first | exact hok0 | exact hok0.add hr1 | exact (hok0.add hr1).add hr2) (vp := vp544) (vt := vt545) (m := mb546) (gp := gp547) (w1 := u) (hx1 := (Ext.gr (Ext.gr X530 E532) (KpL.toExt hu))) (hB := (((show Blk _ _ [(Pt g_b g_o), vp544, vt545, (.map (some mb546))] from hB548).ext E532).ext (KpL.toExt hu))) (hO := (Own.klA (Own.klA hO549 RV3.flat (KpL.of_ext (L := []) E532) nin0) RV3.flat (KpL.of_ext (L := []) (KpL.toExt hu)) nin0)) (hT := (MapL.ext (MapL.ext (show MapL encP (Value.int .i64) okP _ mb546 (mdK A_g (S383).1) from hT550) E532) (KpL.toExt hu))) (hb0 := hb551) (hg0 := hb552) (hm0 := hb553) (h1 := hne554) (h2 := hne555) (h3 := hne556))).mono ?_; rintro v u' ⟨hK, hv, vp', hB, hO, hM⟩; exact ⟨⟨hv, vp', hB, Own.leB hO (Nat.le_trans (Below.size E532) (KpL.size hu)), hM⟩, hK⟩
     refine R2_d (fun u hu hF => ?_) (fun v588 => ?_)
     ·replace hu : KpL [b_, gp547, mb546] _ _ := hu
      have h73_ : v587 = (Iv nk574) := hF.1.1
      clear hF
      refine doesG_un rfl ?_
      obtain rfl := h73_
      refine (does_buildSlice (e := 2) (parts' := [(0, (Iv nk574))]) (cells := [(Iv nk574)]) (evp rfl) (fun _ => by kernel_rfl)).mono ?_; rintro _ _ ⟨b, rfl, hb, hB, hx⟩
      exact ⟨⟨b, rfl, Nat.le_trans (Nat.le_trans (Below.size E532) (KpL.size hu)) hb, hB⟩, (KpL.of_ext hx)⟩
     refine RW2_fin ?_; intro w589 E590 hP591; replace E590 : KpL [b_, gp547, mb546] _ _ := E590
     obtain ⟨⟨⟨⟨⟨⟨⟨⟨⟨⟨⟨⟨⟨⟨⟨-, q592⟩, -⟩, -⟩, -⟩, -⟩, -⟩, -⟩, -⟩, -⟩, -⟩, -⟩, -⟩, -⟩, q593⟩, q594⟩ := hP591
     have KL595 : KpL Lm413 _ _ := (KpL.refl _ _).more E590 (fun c_ hc_ => (hin557 c_ hc_).imp id (fun h_ => by rw [hsz572]; exact h_))
     have hv596 : v587 = (Iv nk574) := (q593 rfl).1; subst hv596
     obtain ⟨_, vp597, hB598, hO599, hM600⟩ := q593 rfl
     obtain ⟨Lm602, hX603, hs604⟩ := hcl558 _ _ vp597 _ (KpL.more (KpL.of_ext E532) E590 (fun c_ hc_ => .inl hc_)) (fun c_ hc_ => .inl hc_) hB598 hO599 hM600
     have X605 := Below.kl X573 KL595 (fun c_ hc_ => Nat.le_trans (Nat.le_refl _) ((MX.bnd hX414) c_ hc_).1) (Nat.le_refl _)
     have q592 : v574 = (.slice p472 (([nk385]).length) q473) := q592 rfl
     obtain rfl := q592
     have q594 : ∃ b : Nat, v588 = .slice (some ⟨b, 0, none⟩) 1 1 ∧ w529.heap.size ≤ b ∧ Blk w589 b [(Iv nk574)] := q594 rfl
     obtain ⟨b606, rfl, hb607, hB608⟩ := q594
     refine fz ?_
     have z619 := (Nat.le_trans (Below.size E532) (KpL.size KL595))
     have n621 : b15 < w589.heap.size := (Nat.lt_of_lt_of_le n536 z619)
     have n622 : b51 < w589.heap.size := (Nat.lt_of_lt_of_le n537 z619)
     have z630 := (Nat.le_trans (Nat.le_trans (Nat.le_trans (Nat.le_trans z500 (Below.size E509)) (Nat.le_of_eq (Eq.symm (Wr.size W527)))) (Below.size E532)) (KpL.size KL595))
     refine sd (does_append (R := RI) (k := 1) (g0 := gg475) (B := w589.heap.size) (xs := ([nk385])) (ys := [nk574]) Try.underlying65 inf2 rfl (by decide) (ev rfl) (ev rfl) ((Own.klA' (fun B_ => Own.ext ((Own.klA' (fun B_ => Own.ext (hA478 B_) RI.flat E509) RI.flat (KpL.of_wr W527) (allS (Nat.ne_of_gt (Nat.lt_of_lt_of_le hlt487 hb507)) all0)) B_) RI.flat E532) RI.flat KL595 (fun c_ hc_ e_ => (fun hc_ => absurd hc_ hni499) (e_ ▸ hc_))) _) RI.flat hB608 rfl rfl rfl (fun i_ x_ hi_ => lit1 (R := RI) (cs := [(Iv nk574)]) (y := nk574)  rfl i_ x_ hi_) (by first | (simp only [List.length_append, List.length_cons, List.length_nil]; omega) | omega) (Nat.le_refl _)) ?_; rintro y' w631 ⟨gg632, hg633, K634, hO635⟩
     have hni636 : gg632 ∉ Lm602 := hg633.elim (fun e_ => by rw [e_]; exact (fun hc_ => ((hs604 _ hc_).elim (fun h_ => absurd h_ hni499) (fun h_ => absurd h_ (Nat.not_le_of_lt (Nat.lt_of_lt_of_le hlt487 z534)))))) (fun h_ hc_ => absurd (Nat.lt_of_lt_of_le ((MX.bnd hX603) _ hc_).2 (Nat.le_trans (Nat.le_refl _) h_)) (Nat.lt_irrefl _))
     have hN637 : w296.heap.size ≤ gg632 := by rcases hg633 with h | h; exact h ▸ hN488; exact Nat.le_trans z630 h
     have g638 : w.heap.size ≤ gg632 := Nat.le_trans z447 hN637
     have n640 : b15 ≠ gg632 := hg633.elim (fun h => by rw [h]; exact n491) (fun h => Nat.ne_of_lt (Nat.lt_of_lt_of_le n621 h))
     have n641 : b51 ≠ gg632 := hg633.elim (fun h => by rw [h]; exact n492) (fun h => Nat.ne_of_lt (Nat.lt_of_lt_of_le n622 h))
     have X649 := Below.kl X605 K634 (allS g638 all0) (Nat.le_refl _)
     obtain ⟨p650, q651, rfl⟩ := Own.shape hO635
     have n659 : b51 < w631.heap.size := (Nat.lt_of_lt_of_le n622 (KpL.size K634))
     obtain ⟨gg653, hg654, hlt666, hA656⟩ := Own.startP hO635 hO635 (by simp)
     have hN667 : w296.heap.size ≤ gg653 := by rcases hg654 with h | h; exact h ▸ hN488; exact Nat.le_trans z630 h
     have n671 : b51 ≠ gg653 := hg654.elim (fun h => by rw [h]; exact n492) (fun h => Nat.ne_of_lt (Nat.lt_of_lt_of_le n622 h))
     have hni679 : gg653 ∉ Lm602 := hg654.elim (fun e_ => by rw [e_]; exact (fun hc_ => ((hs604 _ hc_).elim (fun h_ => absurd h_ hni499) (fun h_ => absurd h_ (Nat.not_le_of_lt (Nat.lt_of_lt_of_le hlt487 z534)))))) (fun h_ hc_ => absurd (Nat.lt_of_lt_of_le ((MX.bnd hX603) _ hc_).2 (Nat.le_trans (Nat.le_refl _) h_)) (Nat.lt_irrefl _))
     have z680 := (Nat.le_trans z630 (KpL.size K634))
     refine fz ?_
     refine ja (.slice p650 ((([nk385]) ++ [nk574]).length) q651) ?_
     refine wn K504 ?_
     refine wp_region_lit ?_
     refine jj (does_iarith (p := 1) (q := 1) (r := (2)) (ev rfl) (ev rfl) (.inl ⟨rfl, rfl⟩)) ?_
     refine jm (Iv 2) ?_
     refine wpList_nil ?_
     refine un_step ?_
     refine wr fun _ K682 => ?_
     refine jj (does_icmp (p := 2) (q := 3) (.inr (.inr (.inl rfl))) (ev rfl) (ev rfl)) ?_
     refine wn K682 ?_
     refine ws fun _ K683 => ?_
     refine wp_cond_true (ev rfl) ?_
     refine wp_skip (K683 _ _ ?_)
     refine ws fun _ K684 => ?_
     refine wp_block ?_
     refine wr fun _ K685 => ?_
     refine jj (does_index_run (r := (.agg #[(Iv el6.e), (Iv el6.f)])) (ev rfl) (ev rfl) (fun w => ix104_2 _ _ _ _ _ _ w)) ?_
     refine sd (does_alloc z103) ?_; rintro _ w690 ⟨b686, rfl, hb687, hB688, E689⟩
     have hz693 := (((((hz513.ext E509).wr W527 (Nat.ne_of_lt n512)).ext E532).kl KL595 (fun hc_ => ((hs415 _ hc_).elim (fun h_ => ((hs266 _ h_).elim (fun h_ => ((hs41 _ h_).elim (fun h_ => absurd (Nat.lt_of_lt_of_le ((MX.bnd h) _ h_).2 (Nat.le_trans (Nat.le_refl _) hb16)) (Nat.lt_irrefl _)) (fun h_ => absurd h_ (Nat.not_le_of_lt (Nat.lt_of_lt_of_le n30 (Below.size E25)))))) (fun h_ => absurd h_ (Nat.not_le_of_lt (Nat.lt_of_lt_of_le n30 z377))))) (fun h_ => absurd h_ (Nat.not_le_of_lt (Nat.lt_of_lt_of_le n30 z564)))))).kl K634 (ninS n640 nin0))
     have n692 : b15 < b686 := Nat.lt_of_lt_of_le (Blk.lt hz693) hb687
     have hz696 := (((((hz516.ext E509).wr W527 (Nat.ne_of_lt n515)).ext E532).kl KL595 (fun hc_ => ((hs415 _ hc_).elim (fun h_ => ((hs266 _ h_).elim (fun h_ => absurd (Nat.lt_of_lt_of_le ((MX.bnd hX40) _ h_).2 (Nat.le_trans (Nat.le_refl _) hb52)) (Nat.lt_irrefl _)) (fun h_ => absurd h_ (Nat.not_le_of_lt (Nat.lt_of_lt_of_le n253 (Below.size E247)))))) (fun h_ => absurd h_ (Nat.not_le_of_lt (Nat.lt_of_lt_of_le n253 z566)))))).kl K634 (ninS n641 nin0))
     have n695 : b51 < b686 := Nat.lt_of_lt_of_le (Blk.lt hz696) hb687
     have g707 : w.heap.size ≤ b686 := Nat.le_trans (Below.size X649) hb687
     change Blk _ _ [(Iv 0), (Iv 0)] at hB688
     have X708 := Ext.gr X649 E689
     refine fz ?_
     refine sn (does_store (n := 2) (cs := [(Iv 0), (Iv 0)]) (u := (.agg #[(Iv el6.e), (Iv el6.f)])) (ev rfl) (ev rfl) Try.sizeOf103 rfl hB688 (Nat.le_of_ble_eq_true rfl) rfl) ?_; rintro _ w711 ⟨rfl, W709, hB710⟩
     change Blk _ _ [(Iv el6.e), (Iv el6.f)] at hB710
     have X712 := Below.wr X708 W709 g707
     refine wn K685 ?_
     have z716 := (Nat.le_trans (Below.size E689) (Nat.le_of_eq (Eq.symm (Wr.size W709))))
     have n719 : b51 < w711.heap.size := (Nat.lt_of_lt_of_le n659 z716)
     have hz742 := (MX.kl KI.good (MX.ext KI.good (MX.kl KI.good hX603 K634 (fun c_ hc_ hm_ => (List.mem_cons.1 hm_).elim (fun e_ => (fun hc_ => absurd hc_ hni636) (e_ ▸ hc_)) (fun hm_ => nomatch hm_))) E689) (KpL.of_wr W709) (fun c_ hc_ hm_ => (List.mem_cons.1 hm_).elim (fun e_ => (fun hc_ => absurd (Nat.lt_of_lt_of_le ((MX.bnd hX603) _ hc_).2 (Nat.le_trans (KpL.size K634) hb687)) (Nat.lt_irrefl _)) (e_ ▸ hc_)) (fun hm_ => nomatch hm_)))
     obtain ⟨vp727, vt728, mb729, gp730, hB731, hO732, hT733, hb734, hb735, hb736, hne737, hne738, hne739, hin740, hcl741⟩ := MX.place hz742
     have z749 := (Nat.le_trans (Nat.le_trans (Nat.le_trans (Nat.le_trans (Nat.le_trans z566 (Below.size E345)) (KpL.size KL406)) (KpL.size K457)) (Below.size E509)) (Nat.le_of_eq (Eq.symm (Wr.size W527))))
     obtain ⟨S758, hS759⟩ : ∃ S_ : MshS, S_ = (addK (S572).1 (keyE A_g x y z (min (iAt [el1.a, el1.b, el1.c, el1.d] el6.e.toNat) (iAt [el1.a, el1.b, el1.c, el1.d] el6.f.toNat)) (max (iAt [el1.a, el1.b, el1.c, el1.d] el6.e.toNat) (iAt [el1.a, el1.b, el1.c, el1.d] el6.f.toNat))), (S572).2) := ⟨_, rfl⟩
     obtain ⟨nk760, hn761⟩ : ∃ n_ : Int, n_ = (numK (addK (S572).1 (keyE A_g x y z (min (iAt [el1.a, el1.b, el1.c, el1.d] el6.e.toNat) (iAt [el1.a, el1.b, el1.c, el1.d] el6.f.toNat)) (max (iAt [el1.a, el1.b, el1.c, el1.d] el6.e.toNat) (iAt [el1.a, el1.b, el1.c, el1.d] el6.f.toNat)))) (keyE A_g x y z (min (iAt [el1.a, el1.b, el1.c, el1.d] el6.e.toNat) (iAt [el1.a, el1.b, el1.c, el1.d] el6.f.toNat)) (max (iAt [el1.a, el1.b, el1.c, el1.d] el6.e.toNat) (iAt [el1.a, el1.b, el1.c, el1.d] el6.f.toNat)))) := ⟨_, rfl⟩
     refine region_any2 [b_, gp730, mb729] [0, 0, 0, 0, 8, 0, 56, 120, 0, 256, 0, 1792, 3840, 8190, 16382, 32767, 65535] [0, 1, 2] (
      [FactW.pure [] [0, 1, 2] [0, 1, 2] true (fun v => v = (.slice p650 ((([nk385]) ++ [nk574]).length) q651)),
       FactW.pure [] [] [0, 1, 2] true (fun v => v = (Pt b_ 0)),
       FactW.pure [] [] [0, 1, 2] true (fun v => v = (.agg #[(Iv x), (Iv y), (Iv z)])),
       FactW.pure [] [] [0, 1, 2] true (fun v => v = (Pt b686 0)),
       FactW.pure [3] [] [0, 1, 2] true (fun v => v = (Iv el6.e)),
       FactW.pure [] [] [0, 1, 2] true (fun v => v = (Pt b51 0)),
       FactW.pure [5, 4] [] [0, 1, 2] true (fun v => v = (Pt b51 (0 + el6.e.toNat * 1))),
       FactW.pure [6] [] [0, 1, 2] true (fun v => v = (Iv (iAt [el1.a, el1.b, el1.c, el1.d] el6.e.toNat))),
       FactW.pure [] [] [0, 1, 2] true (fun v => v = (Pt b686 1)),
       FactW.pure [8] [] [0, 1, 2] true (fun v => v = (Iv el6.f)),
       FactW.pure [] [] [0, 1, 2] true (fun v => v = (Pt b51 0)),
       FactW.pure [10, 9] [] [0, 1, 2] true (fun v => v = (Pt b51 (0 + el6.f.toNat * 1))),
       FactW.pure [11] [] [0, 1, 2] true (fun v => v = (Iv (iAt [el1.a, el1.b, el1.c, el1.d] el6.f.toNat))),
       FactW.mem [1, 2, 7, 12] [] [0, 1, 2] [] true (fun v w' => v = (Iv nk760) ∧ ∃ vp' : Value, Blk w' b_ ((KI 35 65 g_b g_o A_g).box vp' vt728 mb729) ∧ Own RV3 3 35 gp730 w711.heap.size w' vp' ((S758).1.map (plK A_g)) ∧ (KI 35 65 g_b g_o A_g).T mb729 w' (S758).1) (by rintro v w1 w2 hx ⟨hv, vp', hB, hO, hM⟩; replace hx : KpL [] w1 w2 := hx; exact ⟨hv, vp', hB.kl hx nin0, Own.klB hO RV3.flat hx all0, (KI.good).T hM hx nin0⟩),
       FactW.mem [13] [0, 1, 2] [] [] true (fun v w' => ∃ b : Nat, v = .slice (some ⟨b, 0, none⟩) 1 1 ∧ w711.heap.size ≤ b ∧ Blk w' b [(Iv nk760)]) (by rintro v w1 w2 hx' ⟨b, rfl, hb, hB⟩; have hx := KpL.toExt hx'; exact ⟨b, rfl, hb, (hB.ext hx)⟩)]) mixed (by kernel_rfl) ?_
     obtain ⟨w713, hw715⟩ : ∃ w', w' = World.drew w711 := ⟨_, rfl⟩; rw [← hw715]; have E714 : Ext w711 w713 := by rw [hw715]; exact Ext.draw _
     have hsz758 : w713.heap.size = w711.heap.size := by rw [hw715]; rfl
     clear hw715
     refine R2_d (fun u hu hF => ?_) (fun v760 => ?_)
     ·replace hu : KpL [b_, gp730, mb729] _ _ := hu
      clear hF
      refine doesG_un rfl ?_
      refine (does_move (u := (.slice p650 ((([nk385]) ++ [nk574]).length) q651)) (ev rfl)).mono ?_; rintro _ _ ⟨rfl, rfl⟩
      exact ⟨rfl, KpL.refl _ _⟩
     refine R2_p (fun u hu _ => does_move (u := (Pt b_ 0)) (ev rfl)) fun v761 => ?_
     refine R2_p (fun u hu _ => does_loadAgg (cs := [(Iv x), (Iv y), (Iv z)]) (ev rfl) Try.isAgg69 Try.sizeOf69 (Blk.cells ((((hz693.ext E689).wr W709 (Nat.ne_of_lt n692)).ext E714).ext (KpL.toExt hu))) rfl) fun v762 => ?_
     refine R2_p (fun u hu _ => does_indexAt_run (r := (Pt b686 0)) (ev rfl) (ev rfl) (fun w => ia103_0 _ _ w)) fun v763 => ?_
     refine R2_p (fun u hu hF => ?_) fun v764 => ?_
     · have h63_ : v763 = (Pt b686 0) := hF.1
       clear hF; subst h63_
       exact does_load (u := (Iv el6.e)) (ev rfl) Try.isAgg3 (Cells.at (Blk.cells ((hB710.ext E714).ext (KpL.toExt hu))) 0 rfl)
     refine R2_p (fun u hu _ => does_fieldAddr (ev rfl) fa96_0) fun v765 => ?_
     refine R2_p (fun u hu hF => ?_) fun v766 => ?_
     · have h65_ : v765 = (Pt b51 0) := hF.1
       have h64_ : v764 = (Iv el6.e) := hF.2.1
       clear hF; subst h65_ h64_
       exact does_indexAtV (n := 4) (i := el6.e) (k := 1) (by kernel_rfl) (by kernel_rfl) (fun _ => by kernel_rfl) (ev rfl) (ev rfl) (by omega) (by omega)
     refine R2_p (fun u hu hF => ?_) fun v767 => ?_
     · have h66_ : v766 = (Pt b51 (0 + el6.e.toNat * 1)) := hF.1
       clear hF; subst h66_
       exact does_loadVI (o := 0) (i := el6.e.toNat) (l := [el1.a, el1.b, el1.c, el1.d]) (ev rfl) Try.isAgg3 (Cells.sub (Blk.cells ((((hz696.ext E689).wr W709 (Nat.ne_of_lt n695)).ext E714).ext (KpL.toExt hu))) 0 4) rfl (show _ < 4 by omega)
     refine R2_p (fun u hu _ => does_indexAt_run (r := (Pt b686 1)) (ev rfl) (ev rfl) (fun w => ia103_1 _ _ w)) fun v768 => ?_
     refine R2_p (fun u hu hF => ?_) fun v769 => ?_
     · have h68_ : v768 = (Pt b686 1) := hF.1
       clear hF; subst h68_
       exact does_load (u := (Iv el6.f)) (ev rfl) Try.isAgg3 (Cells.at (Blk.cells ((hB710.ext E714).ext (KpL.toExt hu))) 1 rfl)
     refine R2_p (fun u hu _ => does_fieldAddr (ev rfl) fa96_0) fun v770 => ?_
     refine R2_p (fun u hu hF => ?_) fun v771 => ?_
     · have h70_ : v770 = (Pt b51 0) := hF.1
       have h69_ : v769 = (Iv el6.f) := hF.2.1
       clear hF; subst h70_ h69_
       exact does_indexAtV (n := 4) (i := el6.f) (k := 1) (by kernel_rfl) (by kernel_rfl) (fun _ => by kernel_rfl) (ev rfl) (ev rfl) (by omega) (by omega)
     refine R2_p (fun u hu hF => ?_) fun v772 => ?_
     · have h71_ : v771 = (Pt b51 (0 + el6.f.toNat * 1)) := hF.1
       clear hF; subst h71_
       exact does_loadVI (o := 0) (i := el6.f.toNat) (l := [el1.a, el1.b, el1.c, el1.d]) (ev rfl) Try.isAgg3 (Cells.sub (Blk.cells ((((hz696.ext E689).wr W709 (Nat.ne_of_lt n695)).ext E714).ext (KpL.toExt hu))) 0 4) rfl (show _ < 4 by omega)
     refine R2_d (fun u hu hF => ?_) (fun v773 => ?_)
     ·replace hu : KpL [] _ _ := hu
      have h61_ : v761 = (Pt b_ 0) := hF.1
      have h62_ : v762 = (.agg #[(Iv x), (Iv y), (Iv z)]) := hF.2.1
      have h67_ : v767 = (Iv (iAt [el1.a, el1.b, el1.c, el1.d] el6.e.toNat)) := hF.2.2.1
      have h72_ : v772 = (Iv (iAt [el1.a, el1.b, el1.c, el1.d] el6.f.toNat)) := hF.2.2.2.1
      clear hF
      refine doesG_un rfl ?_
      obtain rfl := h61_
      obtain rfl := h62_
      obtain rfl := h67_
      obtain rfl := h72_
      subst hS759 hn761
      refine (does_callK (args := #[(Pt b_ 0), (.agg #[(Iv x), (Iv y), (Iv z)]), (Iv (iAt [el1.a, el1.b, el1.c, el1.d] el6.e.toNat)), (Iv (iAt [el1.a, el1.b, el1.c, el1.d] el6.f.toNat))]) cal60 (evs rfl) (cq_impl_mesher_place (b := b_) (S := S572) (g_b := g_b) (g_o := g_o) (g := [(Fl r1), (Fl r3), (Fl r5), (Fl r7), (Iv A_g.x), (Iv A_g.y), (Iv A_g.z), (.slice p11 A_g.vals.length q12)]) (A_g := A_g) (w := w) (hc_g := hc_g) (hv_g := ⟨r1, r3, r5, r7, (.slice p11 A_g.vals.length q12), rfl, h2, h4, h6, h8, hs13⟩) (x := x) (y := y) (z := z) (c_ := (iAt [el1.a, el1.b, el1.c, el1.d] el6.e.toNat)) (d_ := (iAt [el1.a, el1.b, el1.c, el1.d] el6.f.toNat)) (hgr := by first | assumption | omega) (hcel := by first | assumption | omega) (hpq := by first | exact hp1 | exact hp2 | exact hp3) (hok := by subst hS384 hS573; first | exact hok0 | exact hok0.add hr1 | exact (hok0.add hr1).add hr2) (vp := vp727) (vt := vt728) (m := mb729) (gp := gp730) (w1 := u) (hx1 := (Ext.gr (Ext.gr X712 E714) (KpL.toExt hu))) (hB := (((show Blk _ _ [(Pt g_b g_o), vp727, vt728, (.map (some mb729))] from hB731).ext E714).ext (KpL.toExt hu))) (hO := (Own.klA (Own.klA hO732 RV3.flat (KpL.of_ext (L := []) E714) nin0) RV3.flat (KpL.of_ext (L := []) (KpL.toExt hu)) nin0)) (hT := (MapL.ext (MapL.ext (show MapL encP (Value.int .i64) okP _ mb729 (mdK A_g (S572).1) from hT733) E714) (KpL.toExt hu))) (hb0 := hb734) (hg0 := hb735) (hm0 := hb736) (h1 := hne737) (h2 := hne738) (h3 := hne739))).mono ?_; rintro v u' ⟨hK, hv, vp', hB, hO, hM⟩; exact ⟨⟨hv, vp', hB, Own.leB hO (Nat.le_trans (Below.size E714) (KpL.size hu)), hM⟩, hK⟩
     refine R2_d (fun u hu hF => ?_) (fun v774 => ?_)
     ·replace hu : KpL [b_, gp730, mb729] _ _ := hu
      have h73_ : v773 = (Iv nk760) := hF.1.1
      clear hF
      refine doesG_un rfl ?_
      obtain rfl := h73_
      refine (does_buildSlice (e := 2) (parts' := [(0, (Iv nk760))]) (cells := [(Iv nk760)]) (evp rfl) (fun _ => by kernel_rfl)).mono ?_; rintro _ _ ⟨b, rfl, hb, hB, hx⟩
      exact ⟨⟨b, rfl, Nat.le_trans (Nat.le_trans (Below.size E714) (KpL.size hu)) hb, hB⟩, (KpL.of_ext hx)⟩
     refine RW2_fin ?_; intro w775 E776 hP777; replace E776 : KpL [b_, gp730, mb729] _ _ := E776
     obtain ⟨⟨⟨⟨⟨⟨⟨⟨⟨⟨⟨⟨⟨⟨⟨-, q778⟩, -⟩, -⟩, -⟩, -⟩, -⟩, -⟩, -⟩, -⟩, -⟩, -⟩, -⟩, -⟩, q779⟩, q780⟩ := hP777
     have KL781 : KpL Lm602 _ _ := (KpL.refl _ _).more E776 (fun c_ hc_ => (hin740 c_ hc_).imp id (fun h_ => by rw [hsz758]; exact h_))
     have hv782 : v773 = (Iv nk760) := (q779 rfl).1; subst hv782
     obtain ⟨_, vp783, hB784, hO785, hM786⟩ := q779 rfl
     obtain ⟨Lm788, hX789, hs790⟩ := hcl741 _ _ vp783 _ (KpL.more (KpL.of_ext E714) E776 (fun c_ hc_ => .inl hc_)) (fun c_ hc_ => .inl hc_) hB784 hO785 hM786
     have q778 : v760 = (.slice p650 ((([nk385]) ++ [nk574]).length) q651) := q778 rfl
     obtain rfl := q778
     have q780 : ∃ b : Nat, v774 = .slice (some ⟨b, 0, none⟩) 1 1 ∧ w711.heap.size ≤ b ∧ Blk w775 b [(Iv nk760)] := q780 rfl
     obtain ⟨b792, rfl, hb793, hB794⟩ := q780
     refine fz ?_
     have z806 := (Nat.le_trans (Below.size E714) (KpL.size KL781))
     have n809 : b51 < w775.heap.size := (Nat.lt_of_lt_of_le n719 z806)
     have z818 := (Nat.le_trans (Nat.le_trans (Nat.le_trans (Nat.le_trans z680 (Below.size E689)) (Nat.le_of_eq (Eq.symm (Wr.size W709)))) (Below.size E714)) (KpL.size KL781))
     refine sd (does_append (R := RI) (k := 1) (g0 := gg653) (B := w775.heap.size) (xs := (([nk385]) ++ [nk574])) (ys := [nk760]) Try.underlying65 inf2 rfl (by decide) (ev rfl) (ev rfl) ((Own.klA' (fun B_ => Own.ext ((Own.klA' (fun B_ => Own.ext (hA656 B_) RI.flat E689) RI.flat (KpL.of_wr W709) (allS (Nat.ne_of_gt (Nat.lt_of_lt_of_le hlt666 hb687)) all0)) B_) RI.flat E714) RI.flat KL781 (fun c_ hc_ e_ => (fun hc_ => absurd hc_ hni679) (e_ ▸ hc_))) _) RI.flat hB794 rfl rfl rfl (fun i_ x_ hi_ => lit1 (R := RI) (cs := [(Iv nk760)]) (y := nk760)  rfl i_ x_ hi_) (by first | (simp only [List.length_append, List.length_cons, List.length_nil]; omega) | omega) (Nat.le_refl _)) ?_; rintro y' w819 ⟨gg820, hg821, K822, hO823⟩
     have hni824 : gg820 ∉ Lm788 := hg821.elim (fun e_ => by rw [e_]; exact (fun hc_ => ((hs790 _ hc_).elim (fun h_ => absurd h_ hni679) (fun h_ => absurd h_ (Nat.not_le_of_lt (Nat.lt_of_lt_of_le hlt666 z716)))))) (fun h_ hc_ => absurd (Nat.lt_of_lt_of_le ((MX.bnd hX789) _ hc_).2 (Nat.le_trans (Nat.le_refl _) h_)) (Nat.lt_irrefl _))
     have hN825 : w296.heap.size ≤ gg820 := by rcases hg821 with h | h; exact h ▸ hN667; exact Nat.le_trans z818 h
     have n829 : b51 ≠ gg820 := hg821.elim (fun h => by rw [h]; exact n671) (fun h => Nat.ne_of_lt (Nat.lt_of_lt_of_le n809 h))
     obtain ⟨p839, q840, rfl⟩ := Own.shape hO823
     obtain ⟨gg842, hg843, hlt856, hA845⟩ := Own.startP hO823 hO823 (by simp)
     have hN857 : w296.heap.size ≤ gg842 := by rcases hg843 with h | h; exact h ▸ hN667; exact Nat.le_trans z818 h
     have hni870 : gg842 ∉ Lm788 := hg843.elim (fun e_ => by rw [e_]; exact (fun hc_ => ((hs790 _ hc_).elim (fun h_ => absurd h_ hni679) (fun h_ => absurd h_ (Nat.not_le_of_lt (Nat.lt_of_lt_of_le hlt666 z716)))))) (fun h_ hc_ => absurd (Nat.lt_of_lt_of_le ((MX.bnd hX789) _ hc_).2 (Nat.le_trans (Nat.le_refl _) h_)) (Nat.lt_irrefl _))
     have z871 := (Nat.le_trans z818 (KpL.size K822))
     refine fz ?_
     refine ja (.slice p839 (((([nk385]) ++ [nk574]) ++ [nk760]).length) q840) ?_
     refine wn K684 ?_
     refine wp_region_lit ?_
     refine jj (does_iarith (p := 2) (q := 1) (r := (3)) (ev rfl) (ev rfl) (.inl ⟨rfl, rfl⟩)) ?_
     refine jm (Iv 3) ?_
     refine wpList_nil ?_
     refine un_step ?_
     refine wr fun _ K873 => ?_
     refine jj (does_icmp (p := 3) (q := 3) (.inr (.inr (.inl rfl))) (ev rfl) (ev rfl)) ?_
     refine wn K873 ?_
     refine ws fun _ K874 => ?_
     refine wp_cond_false (ev rfl) ?_
     refine wp_exit ?_
     refine K316 _ _ ?_
     refine ws fun _ K875 => ?_
     refine ws fun _ K876 => ?_
     have hl884 : ((([nk385]) ++ [nk574]) ++ [nk760]).length = 3 := rfl
     obtain ⟨gr877, hp878, hg883, hR880, hcap881⟩ := Own.rowg (show Own RI 1 2 gg842 w819.heap.size w819 (.slice p839 (((([nk385]) ++ [nk574]) ++ [nk760]).length) q840) ((([nk385]) ++ [nk574]) ++ [nk760]) from (hA845 _)) (by omega)
     have he885 : gr877 = gg842 := hg883.resolve_right (fun h_ => absurd (RowG.lt hR880) (Nat.not_lt_of_le h_))
     have hni886 : gr877 ∉ Lm788 := by rw [he885]; exact (fun hc_ => absurd hc_ hni870)
     have hB882 : w296.heap.size ≤ gr877 := by rcases hg883 with h | h; exact h ▸ hN857; exact Nat.le_trans z871 h
     subst hp878
     refine wp_region_lit ?_
     refine jj (does_fieldAddr (ev rfl) fa96_1) ?_
     have hz893 := (((((hz696.ext E689).wr W709 (Nat.ne_of_lt n695)).ext E714).kl KL781 (fun hc_ => ((hs604 _ hc_).elim (fun h_ => ((hs415 _ h_).elim (fun h_ => ((hs266 _ h_).elim (fun h_ => absurd (Nat.lt_of_lt_of_le ((MX.bnd hX40) _ h_).2 (Nat.le_trans (Nat.le_refl _) hb52)) (Nat.lt_irrefl _)) (fun h_ => absurd h_ (Nat.not_le_of_lt (Nat.lt_of_lt_of_le n253 (Below.size E247)))))) (fun h_ => absurd h_ (Nat.not_le_of_lt (Nat.lt_of_lt_of_le n253 z566))))) (fun h_ => absurd h_ (Nat.not_le_of_lt (Nat.lt_of_lt_of_le n253 z749)))))).kl K822 (ninS n829 nin0))
     refine jj (does_load (u := (Bo el1.t)) (ev rfl) Try.isAgg4 (Cells.at (Blk.cells hz893) 4 rfl)) ?_
     refine wn K876 ?_
     refine wp_cond_split (t := el1.t) (ev rfl) (fun c894 => ?_) (fun c894 => ?_)
     ·have c894' := c894
      obtain ⟨el7, hel7⟩ : ∃ e, ((([nk385]) ++ [nk574]) ++ [nk760])[2]? = some e := ⟨_, List.getElem?_eq_getElem (by first | assumption | omega | (simp only [List.length_set, List.length_replicate]; omega) | (simp only [List.length_set, List.length_replicate]; done) | exact rfl)⟩
      obtain ⟨el8, hel8⟩ : ∃ e, ((([nk385]) ++ [nk574]) ++ [nk760])[1]? = some e := ⟨_, List.getElem?_eq_getElem (by first | assumption | omega | (simp only [List.length_set, List.length_replicate]; omega) | (simp only [List.length_set, List.length_replicate]; done) | exact rfl)⟩
      refine region_any2 [gr877] [0, 0, 0, 4, 12, 0, 32, 96, 253, 509, 1023, 2047] [0] (
       [FactW.pure [] [] [0] true (fun v => v = (.slice (some ⟨gr877, 0, none⟩) (((([nk385]) ++ [nk574]) ++ [nk760]).length) q840)),
        FactW.pure [] [0] [0] true (fun v => v = (.slice (some ⟨gr877, 0, none⟩) (((([nk385]) ++ [nk574]) ++ [nk760]).length) q840)),
        FactW.pure [] [] [0] true (fun v => v = (.slice (some ⟨gr877, 0, none⟩) (((([nk385]) ++ [nk574]) ++ [nk760]).length) q840)),
        FactW.pure [2] [] [0] true (fun v => v = (Pt gr877 (2 * 1))),
        FactW.pure [3] [] [0] true (fun v => v = (Iv el7)),
        FactW.pure [] [] [0] true (fun v => v = (.slice (some ⟨gr877, 0, none⟩) (((([nk385]) ++ [nk574]) ++ [nk760]).length) q840)),
        FactW.pure [5] [] [0] true (fun v => v = (Pt gr877 (1 * 1))),
        FactW.pure [6] [] [0] true (fun v => v = (Iv el8)),
        FactW.pure [0] [] [0] true (fun v => v = (Pt gr877 (1 * 1))),
        FactW.mem [8, 4] [] [0] [] true (fun v w' => RowG RI 1 w' gr877 (((([nk385]) ++ [nk574]) ++ [nk760]).set 1 el7)) (by intro v w1 w2 hx h; exact RowG.kl h RI.flat hx nin0)]) mixed (by kernel_rfl) ?_
      obtain ⟨w895, hw897⟩ : ∃ w', w' = World.drew w819 := ⟨_, rfl⟩; rw [← hw897]; have E896 : Ext w819 w895 := by rw [hw897]; exact Ext.draw _
      clear hw897
      refine R2_p (fun u hu _ => does_move (u := (.slice (some ⟨gr877, 0, none⟩) (((([nk385]) ++ [nk574]) ++ [nk760]).length) q840)) (ev rfl)) fun v901 => ?_
      refine R2_d (fun u hu hF => ?_) (fun v902 => ?_)
      ·replace hu : KpL [gr877] _ _ := hu
       clear hF
       refine doesG_un rfl ?_
       refine (does_move (u := (.slice (some ⟨gr877, 0, none⟩) (((([nk385]) ++ [nk574]) ++ [nk760]).length) q840)) (ev rfl)).mono ?_; rintro _ _ ⟨rfl, rfl⟩
       exact ⟨rfl, KpL.refl _ _⟩
      refine R2_p (fun u hu _ => does_move (u := (.slice (some ⟨gr877, 0, none⟩) (((([nk385]) ++ [nk574]) ++ [nk760]).length) q840)) (ev rfl)) fun v903 => ?_
      refine R2_p (fun u hu hF => ?_) fun v904 => ?_
      · have h81_ : v903 = (.slice (some ⟨gr877, 0, none⟩) (((([nk385]) ++ [nk574]) ++ [nk760]).length) q840) := hF.1
        clear hF; subst h81_
        exact does_indexOwn (b := gr877) (n := ((([nk385]) ++ [nk574]) ++ [nk760]).length) (i := 2) Try.underlying65 Try.sizeOf2 (ev rfl) (ev rfl) (by omega) (by omega)
      refine R2_p (fun u hu hF => ?_) fun v905 => ?_
      · have h82_ : v904 = (Pt gr877 (2 * 1)) := hF.1
        clear hF; subst h82_
        exact does_loadRowI (xs := ((([nk385]) ++ [nk574]) ++ [nk760])) (i := 2) (e := el7) (ev rfl) Try.isAgg2 (RowG.ext (RowG.ext hR880 RI.flat E896) RI.flat (KpL.toExt hu)) rfl hel7
      refine R2_p (fun u hu _ => does_move (u := (.slice (some ⟨gr877, 0, none⟩) (((([nk385]) ++ [nk574]) ++ [nk760]).length) q840)) (ev rfl)) fun v906 => ?_
      refine R2_p (fun u hu hF => ?_) fun v907 => ?_
      · have h84_ : v906 = (.slice (some ⟨gr877, 0, none⟩) (((([nk385]) ++ [nk574]) ++ [nk760]).length) q840) := hF.1
        clear hF; subst h84_
        exact does_indexOwn (b := gr877) (n := ((([nk385]) ++ [nk574]) ++ [nk760]).length) (i := 1) Try.underlying65 Try.sizeOf2 (ev rfl) (ev rfl) (by omega) (by omega)
      refine R2_p (fun u hu hF => ?_) fun v908 => ?_
      · have h85_ : v907 = (Pt gr877 (1 * 1)) := hF.1
        clear hF; subst h85_
        exact does_loadRowI (xs := ((([nk385]) ++ [nk574]) ++ [nk760])) (i := 1) (e := el8) (ev rfl) Try.isAgg2 (RowG.ext (RowG.ext hR880 RI.flat E896) RI.flat (KpL.toExt hu)) rfl hel8
      refine R2_p (fun u hu hF => ?_) fun v909 => ?_
      · have h79_ : v901 = (.slice (some ⟨gr877, 0, none⟩) (((([nk385]) ++ [nk574]) ++ [nk760]).length) q840) := hF.1
        clear hF; subst h79_
        exact does_indexOwn (b := gr877) (n := ((([nk385]) ++ [nk574]) ++ [nk760]).length) (i := 1) Try.underlying65 Try.sizeOf2 (ev rfl) (ev rfl) (by omega) (by omega)
      refine RW2_n rfl (fun u hu hF => ?_) (fun v910 => ?_)
      ·replace hu : KpL [] _ _ := hu
       have h87_ : v909 = (Pt gr877 (1 * 1)) := hF.1
       have h83_ : v905 = (Iv el7) := hF.2.1
       clear hF
       refine doesG_un rfl ?_
       obtain rfl := h87_
       obtain rfl := h83_
       refine (does_storeRowG (R := RI) (k := 1) (xs := ((([nk385]) ++ [nk574]) ++ [nk760])) (i := 1) (u := (Iv el7)) (e := el7) (ev rfl) (ev rfl) Try.sizeOf2 rfl rfl RI.flat (RowG.ext (RowG.ext hR880 RI.flat E896) RI.flat (KpL.toExt hu)) rfl (by first | assumption | omega | (simp only [List.length_set, List.length_replicate]; omega) | (simp only [List.length_set, List.length_replicate]; done) | exact rfl) rfl).mono ?_; rintro _ _ ⟨rfl, hW, hB⟩
       exact ⟨hB, KpL.of_wr hW⟩
      refine RW2_fin ?_; intro w911 E912 hP913; replace E912 : KpL [gr877] _ _ := E912
      obtain ⟨⟨⟨⟨⟨⟨⟨⟨⟨⟨-, -⟩, q914⟩, -⟩, -⟩, -⟩, -⟩, -⟩, q915⟩, -⟩, q916⟩ := hP913
      have hB918 := q916 rfl
      have q914 : v902 = (.slice (some ⟨gr877, 0, none⟩) (((([nk385]) ++ [nk574]) ++ [nk760]).length) q840) := q914 rfl
      obtain rfl := q914
      have q915 : v908 = (Iv el8) := q915 rfl
      obtain rfl := q915
      refine fz ?_
      refine jj (does_indexOwn (b := gr877) (n := ((([nk385]) ++ [nk574]) ++ [nk760]).length) (i := 2) Try.underlying65 Try.sizeOf2 (ev rfl) (ev rfl) (by omega) (by omega)) ?_
      refine sn (does_storeRowG (R := RI) (k := 1) (xs := (((([nk385]) ++ [nk574]) ++ [nk760]).set 1 el7)) (i := 2) (u := (Iv el8)) (e := el8) (ev rfl) (ev rfl) Try.sizeOf2 rfl rfl RI.flat hB918 rfl (by first | assumption | omega | (simp only [List.length_set, List.length_replicate]; omega) | (simp only [List.length_set, List.length_replicate]; done) | exact rfl) rfl) ?_; rintro _ w921 ⟨rfl, W919, hR920⟩
      refine wn K875 ?_
      have hz940 := (MX.kl KI.good (MX.kl KI.good (MX.ext KI.good (MX.kl KI.good hX789 K822 (fun c_ hc_ hm_ => (List.mem_cons.1 hm_).elim (fun e_ => (fun hc_ => absurd hc_ hni824) (e_ ▸ hc_)) (fun hm_ => nomatch hm_))) E896) E912 (fun c_ hc_ hm_ => (List.mem_cons.1 hm_).elim (fun e_ => (fun hc_ => absurd hc_ hni886) (e_ ▸ hc_)) (fun hm_ => nomatch hm_))) (KpL.of_wr W919) (fun c_ hc_ hm_ => (List.mem_cons.1 hm_).elim (fun e_ => (fun hc_ => absurd hc_ hni886) (e_ ▸ hc_)) (fun hm_ => nomatch hm_)))
      obtain ⟨vp923, vt924, mb925, Lt926, hq927⟩ := hz940
      refine wp_region_lit ?_
      refine jm (Pt b_ 0) ?_
      refine jm (Pt b_ 0) ?_
      refine jj (does_nilCheck (ev rfl)) ?_
      refine jj (does_fieldAddr (ev rfl) fa73_1) ?_
      refine jj (does_fieldAddr (ev rfl) fa32_1) ?_
      refine jj (does_load (u := vt924) (ev rfl) Try.isAgg30 (Cells.at (Blk.cells (show Blk _ _ [(Pt g_b g_o), vp923, vt924, (.map (some mb925))] from hq927.2.2.2.1)) 2 rfl)) ?_
      refine jm (.slice (some ⟨gr877, 0, none⟩) (((([nk385]) ++ [nk574]) ++ [nk760]).length) q840) ?_
      refine sd (does_buildSlice (e := 65) (parts' := [(0, (.slice (some ⟨gr877, 0, none⟩) (((([nk385]) ++ [nk574]) ++ [nk760]).length) q840))]) (cells := [(.slice (some ⟨gr877, 0, none⟩) (((([nk385]) ++ [nk574]) ++ [nk760]).length) q840)]) (evp rfl) (fun _ => by kernel_rfl)) ?_; rintro _ w947 ⟨b943, rfl, hb944, hB945, E946⟩
      refine fz ?_
      refine sd (does_appT (K := KI 35 65 g_b g_o A_g) (tr := ((((([nk385]) ++ [nk574]) ++ [nk760]).set 1 el7).set 2 el8)) (c1 := gr877) KI.good Try.underlying30 inf65 rfl (ev rfl) (ev rfl) (MXq.ext KI.good hq927 E946) hB945 (InS.row (RowG.ext hR920 RI.flat E946) (by first | assumption | omega | (simp only [List.length_set, List.length_replicate]; omega) | (simp only [List.length_set, List.length_replicate]; done) | exact rfl) hcap881 (by omega)) (fun hc_ => absurd hc_ hni886) (Nat.le_trans z447 hB882) (by have hc2 := hc0.2; subst hS384 hS573 hS759; show ((celS A_g x y z S q).2 ++ trsA _ _ _ j).length ≤ _; rw [List.length_append]; simp only [trsA, List.length_map, List.length_range]; omega)) ?_; rintro vt974 w973 ⟨K969, Lm970, hq971, hs972⟩
      obtain ⟨p987, n988, q989, rfl⟩ := MXq.shape hq971
      have z992 := (Nat.le_trans (Nat.le_trans (Nat.le_trans (Nat.le_trans z871 (Below.size E896)) (KpL.size E912)) (Nat.le_of_eq (Eq.symm (Wr.size W919)))) (Below.size E946))
      have hs991 : ∀ c_ ∈ Lm970, c_ ∈ Lm788 ∨ w296.heap.size ≤ c_ := fun c_ hc_ => (hs972 c_ hc_).imp id (fun h_ => h_.elim (fun e_ => by rw [e_]; exact hB882) (fun h_ => Nat.le_trans z992 h_))
      refine fz ?_
      refine jj (does_nilCheck (ev rfl)) ?_
      refine jj (does_fieldAddr (ev rfl) fa73_1) ?_
      refine jj (does_fieldAddr (ev rfl) fa32_1) ?_
      refine sn (does_store (n := 1) (cs := [(Pt g_b g_o), vp923, vt924, (.map (some mb925))]) (u := (.slice p987 n988 q989)) (ev rfl) (ev rfl) Try.sizeOf30 rfl (show Blk _ _ [(Pt g_b g_o), vp923, vt924, (.map (some mb925))] from hq971.2.2.2.1) (Nat.le_of_ble_eq_true rfl) rfl) ?_; rintro _ w995 ⟨rfl, W993, hB994⟩
      change Blk _ _ [(Pt g_b g_o), vp923, (.slice p987 n988 q989), (.map (some mb925))] at hB994
      have hX996 := MXq.close KI.good hq971 W993 hB994
      have K997 : KpL Lm970 _ _ := (KpL.of_wr W993).mono (fun c_ hc_ => by rw [List.mem_singleton] at hc_; rw [hc_, hq971.1]; exact FP_mem.2 (.inl (by simp)))
      refine wn K270 ?_
      refine wp_region_lit ?_
      refine jj (does_iarith (p := (j : Int)) (q := 1) (r := (j : Int) + 1) (ev rfl) (ev rfl) (.inl ⟨rfl, (in_i64 (by omega) (by omega)).symm⟩)) ?_
      refine jm (Iv ((j : Int) + 1)) ?_
      refine wpList_nil ?_
      have z999 := (Nat.le_trans (Nat.le_trans (Nat.le_trans (KpL.size E261) (Below.size E280)) (Nat.le_of_eq (Eq.symm (Wr.size W294)))) (Below.size E303))
      have z1000 := (Nat.le_trans (Nat.le_trans (KpL.size E261) (Below.size E280)) (Nat.le_of_eq (Eq.symm (Wr.size W294))))
      have z1001 := (Nat.le_trans (Nat.le_trans (Nat.le_trans (Nat.le_trans (Nat.le_trans z999 (Below.size E325)) (Nat.le_of_eq (Eq.symm (Wr.size W340)))) (Below.size E345)) (KpL.size KL406)) (KpL.size K457))
      have z1002 := (Nat.le_trans (Nat.le_trans z999 (Below.size E325)) (Nat.le_of_eq (Eq.symm (Wr.size W340))))
      have z1003 := (Nat.le_trans (Nat.le_trans (Nat.le_trans (Nat.le_trans (Nat.le_trans z1001 (Below.size E509)) (Nat.le_of_eq (Eq.symm (Wr.size W527)))) (Below.size E532)) (KpL.size KL595)) (KpL.size K634))
      have z1004 := (Nat.le_trans (Nat.le_trans z1001 (Below.size E509)) (Nat.le_of_eq (Eq.symm (Wr.size W527))))
      have z1005 := (Nat.le_trans (Nat.le_trans z1003 (Below.size E689)) (Nat.le_of_eq (Eq.symm (Wr.size W709))))
      refine ⟨j + 1, ⟨pk [(10, Pt b277 0), (11, (.slice (some ⟨gr877, 0, none⟩) (((([nk385]) ++ [nk574]) ++ [nk760]).length) q840)), (13, Pt b686 0), (52, Bo (icmp .lss (j : Int) (((grp (edB [β1, β2, β3, β4])).length) : Int))), (53, Pt b273 o274), (54, .agg #[(Iv el6.a), (Iv el6.b), (Iv el6.c), (Iv el6.d), (Iv el6.e), (Iv el6.f)]), (55, (.slice (some ⟨b299, 0, none⟩) 0 0)), (56, .agg #[(Iv el6.a), (Iv el6.b), (Iv el6.c), (Iv el6.d), (Iv el6.e), (Iv el6.f)]), (57, Iv 3), (58, Bo false), (59, .agg #[(Iv el6.e), (Iv el6.f)]), (60, (.slice p650 ((([nk385]) ++ [nk574]).length) q651)), (61, v761), (62, v762), (63, v763), (64, v764), (65, v765), (66, v766), (67, v767), (68, v768), (69, v769), (70, v770), (71, v771), (72, v772), (73, Iv nk760), (74, (.slice (some ⟨b792, 0, none⟩) 1 1)), (75, (.slice (some ⟨gr877, 0, none⟩) (((([nk385]) ++ [nk574]) ++ [nk760]).length) q840)), (76, Iv 3), (77, Pt b51 4), (78, Bo el1.t), (79, v901), (80, (.slice (some ⟨gr877, 0, none⟩) (((([nk385]) ++ [nk574]) ++ [nk760]).length) q840)), (81, v903), (82, v904), (83, v905), (84, v906), (85, v907), (86, Iv el8), (87, v909), (88, Pt gr877 (2 * 1)), (89, Pt b_ 0), (90, Pt b_ 0), (91, Pt b_ 0), (92, Pt b_ 1), (93, Pt b_ 2), (94, vt924), (95, (.slice (some ⟨gr877, 0, none⟩) (((([nk385]) ++ [nk574]) ++ [nk760]).length) q840)), (96, (.slice (some ⟨b943, 0, none⟩) 1 1)), (97, (.slice p987 n988 q989)), (98, Pt b_ 0), (99, Pt b_ 1), (100, Pt b_ 2), (101, Iv ((j : Int) + 1))], ?_, (KpL.more (KpL.more (KpL.ext (KpL.more (KpL.more (KpL.ext (KpL.more (KpL.more (KpL.ext (KpL.more (KpL.ext (KpL.more (KpL.more (KpL.ext (KpL.more (KpL.ext (KpL.more (KpL.more (KpL.ext (KpL.more (KpL.ext (KpL.ext (KpL.more (KpL.ext E261 E280) (KpL.of_wr W294) (allS (.inr (Nat.le_trans (KpL.size E261) hb278)) all0)) E303) E325) (KpL.of_wr W340) (allS (.inr (Nat.le_trans z999 hb323)) all0)) E345) KL406 (fun c_ hc_ => ((hs266 _ hc_).elim (fun h_ => Or.inl h_) (fun h_ => Or.inr (Nat.le_trans (Nat.le_refl _) h_))))) K457 (allS (.inr (Nat.le_trans z1000 hN460)) all0)) E509) (KpL.of_wr W527) (allS (.inr (Nat.le_trans z1001 hb507)) all0)) E532) KL595 (fun c_ hc_ => ((hs415 _ hc_).elim (fun h_ => ((hs266 _ h_).elim (fun h_ => Or.inl h_) (fun h_ => Or.inr (Nat.le_trans (Nat.le_refl _) h_)))) (fun h_ => Or.inr (Nat.le_trans z1002 h_))))) K634 (allS (.inr (Nat.le_trans z1000 hN637)) all0)) E689) (KpL.of_wr W709) (allS (.inr (Nat.le_trans z1003 hb687)) all0)) E714) KL781 (fun c_ hc_ => ((hs604 _ hc_).elim (fun h_ => ((hs415 _ h_).elim (fun h_ => ((hs266 _ h_).elim (fun h_ => Or.inl h_) (fun h_ => Or.inr (Nat.le_trans (Nat.le_refl _) h_)))) (fun h_ => Or.inr (Nat.le_trans z1002 h_)))) (fun h_ => Or.inr (Nat.le_trans z1004 h_))))) K822 (allS (.inr (Nat.le_trans z1000 hN825)) all0)) E896) E912 (allS (.inr (Nat.le_trans z1000 hB882)) all0)) (KpL.of_wr W919) (allS (.inr (Nat.le_trans z1000 hB882)) all0)) E946) K969 (fun c_ hc_ => ((hs790 _ hc_).elim (fun h_ => ((hs604 _ h_).elim (fun h_ => ((hs415 _ h_).elim (fun h_ => ((hs266 _ h_).elim (fun h_ => Or.inl h_) (fun h_ => Or.inr (Nat.le_trans (Nat.le_refl _) h_)))) (fun h_ => Or.inr (Nat.le_trans z1002 h_)))) (fun h_ => Or.inr (Nat.le_trans z1004 h_)))) (fun h_ => Or.inr (Nat.le_trans z1005 h_))))) K997 (fun c_ hc_ => ((hs991 _ hc_).elim (fun h_ => ((hs790 _ h_).elim (fun h_ => ((hs604 _ h_).elim (fun h_ => ((hs415 _ h_).elim (fun h_ => ((hs266 _ h_).elim (fun h_ => Or.inl h_) (fun h_ => Or.inr (Nat.le_trans (Nat.le_refl _) h_)))) (fun h_ => Or.inr (Nat.le_trans z1002 h_)))) (fun h_ => Or.inr (Nat.le_trans z1004 h_)))) (fun h_ => Or.inr (Nat.le_trans z1005 h_)))) (fun h_ => Or.inr (Nat.le_trans z1000 h_))))), ⟨Lm970, MX.cast hX996 (by (try dsimp only); have ht7 := htu; (try simp only [List.singleton_append, List.cons_append, List.nil_append, List.getElem?_cons_succ, List.getElem?_cons_zero, Option.some.injEq] at hel7 hel8); first | (rw [‹el1.t = true›] at ht7; subst hel7 hel8; subst hn386 hn575 hn761; subst hS384 hS573 hS759; exact tri_step hk1 hk2 hk3 (by rw [ht7]; rfl)) | (rw [‹el1.t = false›] at ht7; subst hn386 hn575 hn761; subst hS384 hS573 hS759; exact tri_step hk1 hk2 hk3 (by rw [ht7]; rfl))), (fun c_ hc_ => ((hs991 _ hc_).elim (fun h_ => ((hs790 _ h_).elim (fun h_ => ((hs604 _ h_).elim (fun h_ => ((hs415 _ h_).elim (fun h_ => ((hs266 _ h_).elim (fun h_ => Or.inl h_) (fun h_ => Or.inr (Nat.le_trans (Nat.le_refl _) h_)))) (fun h_ => Or.inr (Nat.le_trans z1002 h_)))) (fun h_ => Or.inr (Nat.le_trans z1004 h_)))) (fun h_ => Or.inr (Nat.le_trans z1005 h_)))) (fun h_ => Or.inr (Nat.le_trans z1000 h_))))⟩, ?_⟩, ?_⟩
      ·first | rfl | (simp only [Int.natCast_add, Int.natCast_one]; rfl)
      ·(try dsimp only); omega
      ·omega
     have c894' := c894
     refine wp_skip (K875 _ _ ?_)
     obtain ⟨vp1006, vt1007, mb1008, Lt1009, hq1010⟩ := (MX.kl KI.good hX789 K822 (fun c_ hc_ hm_ => (List.mem_cons.1 hm_).elim (fun e_ => (fun hc_ => absurd hc_ hni824) (e_ ▸ hc_)) (fun hm_ => nomatch hm_)))
     refine wp_region_lit ?_
     refine jm (Pt b_ 0) ?_
     refine jm (Pt b_ 0) ?_
     refine jj (does_nilCheck (ev rfl)) ?_
     refine jj (does_fieldAddr (ev rfl) fa73_1) ?_
     refine jj (does_fieldAddr (ev rfl) fa32_1) ?_
     refine jj (does_load (u := vt1007) (ev rfl) Try.isAgg30 (Cells.at (Blk.cells (show Blk _ _ [(Pt g_b g_o), vp1006, vt1007, (.map (some mb1008))] from hq1010.2.2.2.1)) 2 rfl)) ?_
     refine jm (.slice (some ⟨gr877, 0, none⟩) (((([nk385]) ++ [nk574]) ++ [nk760]).length) q840) ?_
     refine sd (does_buildSlice (e := 65) (parts' := [(0, (.slice (some ⟨gr877, 0, none⟩) (((([nk385]) ++ [nk574]) ++ [nk760]).length) q840))]) (cells := [(.slice (some ⟨gr877, 0, none⟩) (((([nk385]) ++ [nk574]) ++ [nk760]).length) q840)]) (evp rfl) (fun _ => by kernel_rfl)) ?_; rintro _ w1017 ⟨b1013, rfl, hb1014, hB1015, E1016⟩
     refine fz ?_
     refine sd (does_appT (K := KI 35 65 g_b g_o A_g) (tr := ((([nk385]) ++ [nk574]) ++ [nk760])) (c1 := gr877) KI.good Try.underlying30 inf65 rfl (ev rfl) (ev rfl) (MXq.ext KI.good hq1010 E1016) hB1015 (InS.row (RowG.ext hR880 RI.flat E1016) (by first | assumption | omega | (simp only [List.length_set, List.length_replicate]; omega) | (simp only [List.length_set, List.length_replicate]; done) | exact rfl) hcap881 (by omega)) (fun hc_ => absurd hc_ hni886) (Nat.le_trans z447 hB882) (by have hc2 := hc0.2; subst hS384 hS573 hS759; show ((celS A_g x y z S q).2 ++ trsA _ _ _ j).length ≤ _; rw [List.length_append]; simp only [trsA, List.length_map, List.length_range]; omega)) ?_; rintro vt1043 w1042 ⟨K1038, Lm1039, hq1040, hs1041⟩
     obtain ⟨p1056, n1057, q1058, rfl⟩ := MXq.shape hq1040
     have z1061 := (Nat.le_trans z871 (Below.size E1016))
     have hs1060 : ∀ c_ ∈ Lm1039, c_ ∈ Lm788 ∨ w296.heap.size ≤ c_ := fun c_ hc_ => (hs1041 c_ hc_).imp id (fun h_ => h_.elim (fun e_ => by rw [e_]; exact hB882) (fun h_ => Nat.le_trans z1061 h_))
     refine fz ?_
     refine jj (does_nilCheck (ev rfl)) ?_
     refine jj (does_fieldAddr (ev rfl) fa73_1) ?_
     refine jj (does_fieldAddr (ev rfl) fa32_1) ?_
     refine sn (does_store (n := 1) (cs := [(Pt g_b g_o), vp1006, vt1007, (.map (some mb1008))]) (u := (.slice p1056 n1057 q1058)) (ev rfl) (ev rfl) Try.sizeOf30 rfl (show Blk _ _ [(Pt g_b g_o), vp1006, vt1007, (.map (some mb1008))] from hq1040.2.2.2.1) (Nat.le_of_ble_eq_true rfl) rfl) ?_; rintro _ w1064 ⟨rfl, W1062, hB1063⟩
     change Blk _ _ [(Pt g_b g_o), vp1006, (.slice p1056 n1057 q1058), (.map (some mb1008))] at hB1063
     have hX1065 := MXq.close KI.good hq1040 W1062 hB1063
     have K1066 : KpL Lm1039 _ _ := (KpL.of_wr W1062).mono (fun c_ hc_ => by rw [List.mem_singleton] at hc_; rw [hc_, hq1040.1]; exact FP_mem.2 (.inl (by simp)))
     refine wn K270 ?_
     refine wp_region_lit ?_
     refine jj (does_iarith (p := (j : Int)) (q := 1) (r := (j : Int) + 1) (ev rfl) (ev rfl) (.inl ⟨rfl, (in_i64 (by omega) (by omega)).symm⟩)) ?_
     refine jm (Iv ((j : Int) + 1)) ?_
     refine wpList_nil ?_
     have z1068 := (Nat.le_trans (Nat.le_trans (Nat.le_trans (KpL.size E261) (Below.size E280)) (Nat.le_of_eq (Eq.symm (Wr.size W294)))) (Below.size E303))
     have z1069 := (Nat.le_trans (Nat.le_trans (KpL.size E261) (Below.size E280)) (Nat.le_of_eq (Eq.symm (Wr.size W294))))
     have z1070 := (Nat.le_trans (Nat.le_trans (Nat.le_trans (Nat.le_trans (Nat.le_trans z1068 (Below.size E325)) (Nat.le_of_eq (Eq.symm (Wr.size W340)))) (Below.size E345)) (KpL.size KL406)) (KpL.size K457))
     have z1071 := (Nat.le_trans (Nat.le_trans z1068 (Below.size E325)) (Nat.le_of_eq (Eq.symm (Wr.size W340))))
     have z1072 := (Nat.le_trans (Nat.le_trans (Nat.le_trans (Nat.le_trans (Nat.le_trans z1070 (Below.size E509)) (Nat.le_of_eq (Eq.symm (Wr.size W527)))) (Below.size E532)) (KpL.size KL595)) (KpL.size K634))
     have z1073 := (Nat.le_trans (Nat.le_trans z1070 (Below.size E509)) (Nat.le_of_eq (Eq.symm (Wr.size W527))))
     have z1074 := (Nat.le_trans (Nat.le_trans z1072 (Below.size E689)) (Nat.le_of_eq (Eq.symm (Wr.size W709))))
     refine ⟨j + 1, ⟨pk [(10, Pt b277 0), (11, (.slice (some ⟨gr877, 0, none⟩) (((([nk385]) ++ [nk574]) ++ [nk760]).length) q840)), (13, Pt b686 0), (52, Bo (icmp .lss (j : Int) (((grp (edB [β1, β2, β3, β4])).length) : Int))), (53, Pt b273 o274), (54, .agg #[(Iv el6.a), (Iv el6.b), (Iv el6.c), (Iv el6.d), (Iv el6.e), (Iv el6.f)]), (55, (.slice (some ⟨b299, 0, none⟩) 0 0)), (56, .agg #[(Iv el6.a), (Iv el6.b), (Iv el6.c), (Iv el6.d), (Iv el6.e), (Iv el6.f)]), (57, Iv 3), (58, Bo false), (59, .agg #[(Iv el6.e), (Iv el6.f)]), (60, (.slice p650 ((([nk385]) ++ [nk574]).length) q651)), (61, v761), (62, v762), (63, v763), (64, v764), (65, v765), (66, v766), (67, v767), (68, v768), (69, v769), (70, v770), (71, v771), (72, v772), (73, Iv nk760), (74, (.slice (some ⟨b792, 0, none⟩) 1 1)), (75, (.slice (some ⟨gr877, 0, none⟩) (((([nk385]) ++ [nk574]) ++ [nk760]).length) q840)), (76, Iv 3), (77, Pt b51 4), (78, Bo el1.t), (79, u259 79), (80, u259 80), (81, u259 81), (82, u259 82), (83, u259 83), (84, u259 84), (85, u259 85), (86, u259 86), (87, u259 87), (88, u259 88), (89, Pt b_ 0), (90, Pt b_ 0), (91, Pt b_ 0), (92, Pt b_ 1), (93, Pt b_ 2), (94, vt1007), (95, (.slice (some ⟨gr877, 0, none⟩) (((([nk385]) ++ [nk574]) ++ [nk760]).length) q840)), (96, (.slice (some ⟨b1013, 0, none⟩) 1 1)), (97, (.slice p1056 n1057 q1058)), (98, Pt b_ 0), (99, Pt b_ 1), (100, Pt b_ 2), (101, Iv ((j : Int) + 1))], ?_, (KpL.more (KpL.more (KpL.ext (KpL.more (KpL.more (KpL.ext (KpL.more (KpL.ext (KpL.more (KpL.more (KpL.ext (KpL.more (KpL.ext (KpL.more (KpL.more (KpL.ext (KpL.more (KpL.ext (KpL.ext (KpL.more (KpL.ext E261 E280) (KpL.of_wr W294) (allS (.inr (Nat.le_trans (KpL.size E261) hb278)) all0)) E303) E325) (KpL.of_wr W340) (allS (.inr (Nat.le_trans z1068 hb323)) all0)) E345) KL406 (fun c_ hc_ => ((hs266 _ hc_).elim (fun h_ => Or.inl h_) (fun h_ => Or.inr (Nat.le_trans (Nat.le_refl _) h_))))) K457 (allS (.inr (Nat.le_trans z1069 hN460)) all0)) E509) (KpL.of_wr W527) (allS (.inr (Nat.le_trans z1070 hb507)) all0)) E532) KL595 (fun c_ hc_ => ((hs415 _ hc_).elim (fun h_ => ((hs266 _ h_).elim (fun h_ => Or.inl h_) (fun h_ => Or.inr (Nat.le_trans (Nat.le_refl _) h_)))) (fun h_ => Or.inr (Nat.le_trans z1071 h_))))) K634 (allS (.inr (Nat.le_trans z1069 hN637)) all0)) E689) (KpL.of_wr W709) (allS (.inr (Nat.le_trans z1072 hb687)) all0)) E714) KL781 (fun c_ hc_ => ((hs604 _ hc_).elim (fun h_ => ((hs415 _ h_).elim (fun h_ => ((hs266 _ h_).elim (fun h_ => Or.inl h_) (fun h_ => Or.inr (Nat.le_trans (Nat.le_refl _) h_)))) (fun h_ => Or.inr (Nat.le_trans z1071 h_)))) (fun h_ => Or.inr (Nat.le_trans z1073 h_))))) K822 (allS (.inr (Nat.le_trans z1069 hN825)) all0)) E1016) K1038 (fun c_ hc_ => ((hs790 _ hc_).elim (fun h_ => ((hs604 _ h_).elim (fun h_ => ((hs415 _ h_).elim (fun h_ => ((hs266 _ h_).elim (fun h_ => Or.inl h_) (fun h_ => Or.inr (Nat.le_trans (Nat.le_refl _) h_)))) (fun h_ => Or.inr (Nat.le_trans z1071 h_)))) (fun h_ => Or.inr (Nat.le_trans z1073 h_)))) (fun h_ => Or.inr (Nat.le_trans z1074 h_))))) K1066 (fun c_ hc_ => ((hs1060 _ hc_).elim (fun h_ => ((hs790 _ h_).elim (fun h_ => ((hs604 _ h_).elim (fun h_ => ((hs415 _ h_).elim (fun h_ => ((hs266 _ h_).elim (fun h_ => Or.inl h_) (fun h_ => Or.inr (Nat.le_trans (Nat.le_refl _) h_)))) (fun h_ => Or.inr (Nat.le_trans z1071 h_)))) (fun h_ => Or.inr (Nat.le_trans z1073 h_)))) (fun h_ => Or.inr (Nat.le_trans z1074 h_)))) (fun h_ => Or.inr (Nat.le_trans z1069 h_))))), ⟨Lm1039, MX.cast hX1065 (by (try dsimp only); have ht7 := htu; (try simp only [List.singleton_append, List.cons_append, List.nil_append, List.getElem?_cons_succ, List.getElem?_cons_zero, Option.some.injEq] at hel7 hel8); first | (rw [‹el1.t = true›] at ht7; subst hel7 hel8; subst hn386 hn575 hn761; subst hS384 hS573 hS759; exact tri_step hk1 hk2 hk3 (by rw [ht7]; rfl)) | (rw [‹el1.t = false›] at ht7; subst hn386 hn575 hn761; subst hS384 hS573 hS759; exact tri_step hk1 hk2 hk3 (by rw [ht7]; rfl))), (fun c_ hc_ => ((hs1060 _ hc_).elim (fun h_ => ((hs790 _ h_).elim (fun h_ => ((hs604 _ h_).elim (fun h_ => ((hs415 _ h_).elim (fun h_ => ((hs266 _ h_).elim (fun h_ => Or.inl h_) (fun h_ => Or.inr (Nat.le_trans (Nat.le_refl _) h_)))) (fun h_ => Or.inr (Nat.le_trans z1071 h_)))) (fun h_ => Or.inr (Nat.le_trans z1073 h_)))) (fun h_ => Or.inr (Nat.le_trans z1074 h_)))) (fun h_ => Or.inr (Nat.le_trans z1069 h_))))⟩, ?_⟩, ?_⟩
     ·first | rfl | (simp only [Int.natCast_add, Int.natCast_one]; rfl)
     ·(try dsimp only); omega
     ·omega
    have c269' := c269
    (try simp only [icmp, bs] at c269')
    refine wp_exit ?_
    refine K45 _ _ ?_
    refine wp_region_lit ?_
    refine jj (does_iarith (p := (q : Int)) (q := 1) (r := (q : Int) + 1) (ev rfl) (ev rfl) (.inl ⟨rfl, (in_i64 (by omega) (by omega)).symm⟩)) ?_
    refine jm (Iv ((q : Int) + 1)) ?_
    refine wpList_nil ?_
    have z1075 := (Nat.le_trans (Nat.le_trans (KpL.size E36) (Below.size E54)) (Nat.le_of_eq (Eq.symm (Wr.size W63))))
    have z1076 := (Nat.le_trans (Nat.le_trans (Nat.le_trans (Nat.le_trans (Nat.le_trans (Nat.le_trans (Nat.le_trans (Nat.le_trans (Nat.le_trans (Nat.le_trans (Nat.le_trans (Nat.le_trans (Nat.le_trans (Nat.le_trans (Nat.le_trans z1075 (Below.size E71)) (Nat.le_of_eq (Eq.symm (Wr.size W81)))) (Below.size E93)) (Below.size E117)) (Nat.le_of_eq (Eq.symm (Wr.size W123)))) (Below.size E132)) (Below.size E156)) (Nat.le_of_eq (Eq.symm (Wr.size W162)))) (Below.size E171)) (Below.size E195)) (Nat.le_of_eq (Eq.symm (Wr.size W201)))) (Below.size E210)) (Below.size E234)) (Nat.le_of_eq (Eq.symm (Wr.size W240)))) (Below.size E247))
    refine ⟨q + 1, ⟨pk [(5, Pt b51 0), (6, Pt b68 0), (7, Iv 3), (8, Iv el1.d), (10, u259 10), (11, u259 11), (13, u259 13), (17, Bo (icmp .lss (q : Int) (quaL.length : Int))), (18, Pt b47 o48), (19, .agg #[(Iv el1.a), (Iv el1.b), (Iv el1.c), (Iv el1.d), (Bo el1.t)]), (20, .agg #[(Bo false), (Bo false), (Bo false), (Bo false)]), (21, Pt b51 0), (22, .agg #[(Iv el1.a), (Iv el1.b), (Iv el1.c), (Iv el1.d)]), (23, Iv 4), (24, Bo false), (25, Iv 3), (26, Iv el1.d), (27, v213), (28, v214), (29, v215), (30, v216), (31, v217), (32, v218), (33, v219), (34, v220), (35, v221), (36, v222), (37, v223), (38, v224), (39, v225), (40, v226), (41, v227), (42, v228), (43, v229), (44, v230), (45, Bo β4), (46, Pt b68 3), (47, Iv 4), (48, .agg #[(Bo β1), (Bo β2), (Bo β3), (Bo β4)]), (49, (.slice p255 ((grp (edB [β1, β2, β3, β4])).length) q256)), (50, Iv (((grp (edB [β1, β2, β3, β4])).length) : Int)), (51, Iv (j : Int)), (52, Bo (icmp .lss (j : Int) (((grp (edB [β1, β2, β3, β4])).length) : Int))), (53, u259 53), (54, u259 54), (55, u259 55), (56, u259 56), (57, u259 57), (58, u259 58), (59, u259 59), (60, u259 60), (61, u259 61), (62, u259 62), (63, u259 63), (64, u259 64), (65, u259 65), (66, u259 66), (67, u259 67), (68, u259 68), (69, u259 69), (70, u259 70), (71, u259 71), (72, u259 72), (73, u259 73), (74, u259 74), (75, u259 75), (76, u259 76), (77, u259 77), (78, u259 78), (79, u259 79), (80, u259 80), (81, u259 81), (82, u259 82), (83, u259 83), (84, u259 84), (85, u259 85), (86, u259 86), (87, u259 87), (88, u259 88), (89, u259 89), (90, u259 90), (91, u259 91), (92, u259 92), (93, u259 93), (94, u259 94), (95, u259 95), (96, u259 96), (97, u259 97), (98, u259 98), (99, u259 99), (100, u259 100), (101, u259 101), (102, Iv ((q : Int) + 1))], ?_, (KpL.more (KpL.ext (KpL.more (KpL.ext (KpL.ext (KpL.more (KpL.ext (KpL.ext (KpL.more (KpL.ext (KpL.ext (KpL.more (KpL.ext (KpL.ext (KpL.more (KpL.ext (KpL.more (KpL.ext E36 E54) (KpL.of_wr W63) (allS (.inr (Nat.le_trans (KpL.size E36) hb52)) all0)) E71) (KpL.of_wr W81) (allS (.inr (Nat.le_trans z1075 hb69)) all0)) E93) E117) (KpL.of_wr W123) (allS (.inr (Nat.le_trans z1075 hb69)) all0)) E132) E156) (KpL.of_wr W162) (allS (.inr (Nat.le_trans z1075 hb69)) all0)) E171) E195) (KpL.of_wr W201) (allS (.inr (Nat.le_trans z1075 hb69)) all0)) E210) E234) (KpL.of_wr W240) (allS (.inr (Nat.le_trans z1075 hb69)) all0)) E247) E261 (fun c_ hc_ => ((hs41 _ hc_).elim (fun h_ => Or.inl h_) (fun h_ => Or.inr (Nat.le_trans (Nat.le_refl _) h_))))), ⟨Lm264, MX.cast hX265 (by (try dsimp only); exact qua_end hq6 (by rw [← hinq]; omega)), (fun c_ hc_ => ((hs266 _ hc_).elim (fun h_ => ((hs41 _ h_).elim (fun h_ => Or.inl h_) (fun h_ => Or.inr (Nat.le_trans (Nat.le_refl _) h_)))) (fun h_ => Or.inr (Nat.le_trans z1076 h_))))⟩, ?_⟩, ?_⟩
    ·first | rfl | (simp only [Int.natCast_add, Int.natCast_one]; rfl)
    ·(try dsimp only); omega
    ·omega
  have c44' := c44
  (try simp only [icmp, bs] at c44')
  refine wp_exit ?_
  (try dsimp only [Exit.then, Exit.inBlock])
  (try rw [if_pos rfl])
  refine ret_valKN (v := (.tuple #[])) ?_ (KpL.more (KpL.ext (KpL.ext (KpL.refl _ _) E18) E25) E36 (fun c_ hc_ => Or.inl hc_)) ?_
  ·exact res_0 rfl
  have z1077 := (Nat.le_trans (Below.size E18) (Below.size E25))
  exact ⟨(by first | rfl | (rfl)), Lm39, MX.cast hX40 (by rw [show q = 6 by omega]), (fun c_ hc_ => ((hs41 _ hc_).elim (fun h_ => Or.inl h_) (fun h_ => Or.inr (Nat.le_trans z1077 h_))))⟩

end Go.Proofs.Ytjopopmipdakkaa
