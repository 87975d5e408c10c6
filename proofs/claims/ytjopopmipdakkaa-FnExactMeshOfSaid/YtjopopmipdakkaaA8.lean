/- contracts of functions, each walked once -/
import Derived.Test.YtjopopmipdakkaaA2
import Derived.Test.YtjopopmipdakkaaA3
namespace Go.Proofs.Ytjopopmipdakkaa
open Go Go.RowKit
set_option maxRecDepth 100000
set_option maxHeartbeats 3200000
set_option linter.unusedVariables false
set_option linter.unusedSimpArgs false

/- spec.l07Quarter -/
theorem c_spec_l07Quarter (b_ : Nat) (g_b : Nat) (g_o : Nat) (g : List Value) (A_g : GridT) (x : Int) (y : Int) (z : Int) (q_ : Int) (cap : Nat) (L : List Nat) (S : MshS) (w : World) (w1 : World) (hx1 : Ext w w1) (hc_g : Cells w g_b g_o g) (hv_g : RGridT w A_g g) (h : MX (KW 35 65 cap A_g) w.heap.size A_g b_ L w1 S) (hgr : isGrid A_g = true) (hcel : isCel A_g x y z = true ∧ 0 ≤ x ∧ 0 ≤ y ∧ 0 ≤ z) (hq : 0 ≤ q_ ∧ q_ ≤ 5) (hcap : 8 * A_g.vals.length ≤ cap) (hok : okS A_g S.1) (hts : S.2.length ≤ 50000) : GivesK L Try.prog 34 #[(Pt b_ 0), (Pt g_b g_o), (Iv x), (Iv y), (Iv z), (Iv q_)] w1 (fun v w' => (v = .tuple #[]) ∧ ∃ L', MX (KW 35 65 cap A_g) w.heap.size A_g b_ L' w' (quaS A_g x y z q_.toNat S) ∧ ∀ c ∈ L', c ∈ L ∨ w1.heap.size ≤ c) := by
 obtain ⟨r1, r3, r5, r7, y9, rfl, h2, h4, h6, h8, h10⟩ := hv_g
 have hs13 := h10; have hs13l := Sl.len h10; obtain ⟨p11, q12, rfl⟩ := Sl.shape h10
 have hgc := isGrid_cnt hgr
 have hcl := isCel_iff.1 hcel.1
 have hcc := cel_all hgr hcel.1 hcel.2
 have hq6 : q_.toNat < 6 := by omega
 have hc4 := cnQ_len q_.toNat
 have hq4 : (inQ A_g x y z q_.toNat).length = 4 := inQ_len
 refine enterK [(Pt b_ 0), (Pt g_b g_o), (Iv x), (Iv y), (Iv z), (Iv q_), Ud, Ud, Ud, Ud, Ud, Ud, Ud, Ud, Ud, Ud, Ud, Ud, Ud, Ud, Ud, Ud, Ud, Ud, Ud, Ud, Ud, Ud, Ud, Ud, Ud, Ud, Ud, Ud, Ud, Ud, Ud, Ud, Ud, Ud, Ud, Ud, Ud, Ud, Ud, Ud, Ud, Ud, Ud, Ud, Ud, Ud, Ud, Ud, Ud, Ud, Ud, Ud, Ud, Ud, Ud, Ud, Ud, Ud, Ud, Ud, Ud, Ud, Ud, Ud, Ud, Ud, Ud, Ud, Ud, Ud, Ud, Ud, Ud, Ud, Ud, Ud, Ud, Ud, Ud, Ud, Ud, Ud, Ud, Ud, Ud, Ud, Ud, Ud, Ud, Ud, Ud, Ud, Ud, Ud, Ud, Ud, Ud, Ud, Ud, Ud, Ud, Ud, Ud, Ud, Ud, Ud, Ud, Ud, Ud, Ud, Ud, Ud, Ud, Ud, Ud] Try.func34 rfl Try.ntmps34 rfl ?_
 refine wr fun _ K14 => ?_
 refine jm (Iv q_) ?_
 refine sd (does_call (args := #[(Iv q_)]) cal48 (evs rfl) (c_spec_l07Corners q_ _ (by omega))) ?_; rintro _ w16 ⟨E15, ⟨y18, rfl, hh17⟩⟩
 have X19 := Ext.gr hx1 E15
 obtain ⟨p20, q21, rfl⟩ := Sl.shape hh17.get
 refine fz ?_
 refine jm (.tuple #[(.slice p20 ((cnQ q_.toNat).length) q21), (Bo (tuQ q_.toNat))]) ?_
 refine jj (does_extract (vs := #[(.slice p20 ((cnQ q_.toNat).length) q21), (Bo (tuQ q_.toNat))]) (u := (.slice p20 ((cnQ q_.toNat).length) q21)) (ev rfl) rfl) ?_
 refine jj (does_extract (vs := #[(.slice p20 ((cnQ q_.toNat).length) q21), (Bo (tuQ q_.toNat))]) (u := (Bo (tuQ q_.toNat))) (ev rfl) rfl) ?_
 refine ja (.slice p20 ((cnQ q_.toNat).length) q21) ?_
 refine ja (Bo (tuQ q_.toNat)) ?_
 refine wn K14 ?_
 refine wr fun _ K22 => ?_
 refine sd (does_slice0 (e := 4) (fun _ => by kernel_rfl)) ?_; rintro _ w28 ⟨b23, rfl, hb24, hl25, hO26, E27⟩
 have X30 := Ext.gr X19 E27
 have hO31 := hO26 _ RBo 1
 refine fz ?_
 refine ja (.slice (some ⟨b23, 0, none⟩) 0 0) ?_
 refine wn K22 ?_
 refine ws fun _ K33 => ?_
 refine wr fun _ K34 => ?_
 refine jm (.slice p20 ((cnQ q_.toNat).length) q21) ?_
 refine jj (does_len_slice Try.underlying65 (ev rfl)) ?_
 refine jm (Iv 0) ?_
 refine wn K34 ?_
 refine wp_block ?_
 obtain ⟨gg36, hg37, hg38, hO39⟩ := Own.start' hO31 hO31
 have hN41 : w16.heap.size ≤ gg36 := by rcases hg37 with h | h; exact h ▸ hb24; exact Nat.le_trans (Below.size E27) h
 have z43 := (Nat.le_trans (Below.size hx1) (Below.size E15))
 have g42 : w.heap.size ≤ gg36 := Nat.le_trans z43 hN41
 refine loop_ghost (σ := Nat) (fun k a w' => ∃ u35 : Nat → Value, ∃ y14 : Value, a = fr [(Pt b_ 0), (Pt g_b g_o), (Iv x), (Iv y), (Iv z), (Iv q_), Ud, Ud, Ud, Ud, Ud, Ud, (.slice p20 ((cnQ q_.toNat).length) q21), (Bo (tuQ q_.toNat)), y14, (u35 15), Ud, Ud, Ud, Ud, Ud, (.tuple #[(.slice p20 ((cnQ q_.toNat).length) q21), (Bo (tuQ q_.toNat))]), (Iv q_), (.tuple #[(.slice p20 ((cnQ q_.toNat).length) q21), (Bo (tuQ q_.toNat))]), (.slice p20 ((cnQ q_.toNat).length) q21), (Bo (tuQ q_.toNat)), (.slice (some ⟨b23, 0, none⟩) 0 0), (.slice p20 ((cnQ q_.toNat).length) q21), (Iv (((cnQ q_.toNat).length) : Int)), (Iv (k : Int)), (u35 30), (u35 31), (u35 32), (u35 33), (u35 34), (u35 35), (u35 36), (u35 37), (u35 38), (u35 39), (u35 40), (u35 41), (u35 42), (u35 43), (u35 44), (u35 45), (u35 46), (u35 47), (u35 48), (u35 49), (u35 50), (u35 51), Ud, Ud, Ud, Ud, Ud, Ud, Ud, Ud, Ud, Ud, Ud, Ud, Ud, Ud, Ud, Ud, Ud, Ud, Ud, Ud, Ud, Ud, Ud, Ud, Ud, Ud, Ud, Ud, Ud, Ud, Ud, Ud, Ud, Ud, Ud, Ud, Ud, Ud, Ud, Ud, Ud, Ud, Ud, Ud, Ud, Ud, Ud, Ud, Ud, Ud, Ud, Ud, Ud, Ud, Ud, Ud, Ud, Ud, Ud, Ud, Ud, Ud, Ud, Ud, Ud, Ud, Ud, Ud, Ud] ∧ KpL [gg36] w28 w' ∧ Own RBo 1 4 gg36 w28.heap.size w' y14 ((inQ A_g x y z q_.toNat).take k) ∧ (k ≤ 4)) (fun k => 4 - k) 0 ?_ ?_
 ·refine ⟨pk [], (.slice (some ⟨b23, 0, none⟩) 0 0), rfl, KpL.refl _ _, (Own.cast hO39 (by rfl)), ?_⟩
  exact Nat.zero_le _
 ·rintro k a w45 ⟨u35, y14, rfl, E46, hO48, hk⟩
  have X49 := Below.kl X30 E46 (allS g42 all0) (Nat.le_refl _)
  obtain ⟨p50, q51, rfl⟩ := Own.shape hO48
  have hH52 : Hang w16.heap.size w45 (fun u => Sl RBo 1 u (.slice p50 (((inQ A_g x y z q_.toNat).take k).length) q51) ((inQ A_g x y z q_.toNat).take k)) := Own.hang hO48 RBo.flat (by decide) hN41 (Below.size E27)
  refine wr fun _ K53 => ?_
  refine jj (does_icmp (p := (k : Int)) (q := (((cnQ q_.toNat).length) : Int)) (.inr (.inr (.inl rfl))) (ev rfl) (ev rfl)) ?_
  refine wn K53 ?_
  refine ws fun _ K54 => ?_
  refine wp_cond_split (t := icmp .lss (k : Int) (((cnQ q_.toNat).length) : Int)) (ev rfl) (fun c55 => ?_) (fun c55 => ?_)
  ·have c55' := c55
   (try simp only [icmp, bs] at c55')
   refine wp_skip (K54 _ _ ?_)
   refine ws fun _ K56 => ?_
   refine wp_block ?_
   refine wr fun _ K57 => ?_
   refine jm (Iv (k : Int)) ?_
   refine ja (Iv (k : Int)) ?_
   refine wn K57 ?_
   obtain ⟨el1, hel1⟩ : ∃ e, (cnQ q_.toNat)[k]? = some e := ⟨_, List.getElem?_eq_getElem (by omega)⟩
   have hcr := hcc el1 (cnQ_rng hel1)
   obtain ⟨el2, hel2⟩ : ∃ e, A_g.vals[(crnI A_g x y z el1).toNat]? = some e := ⟨_, List.getElem?_eq_getElem (by omega)⟩
   obtain ⟨β1, hβ1⟩ : ∃ b : Bool, b = (fcmp .lss (ford .f32 el2 (cf .f32 0))) := ⟨_, rfl⟩
   refine region_any2 [] [0, 0, 2, 6, 14, 0, 0, 0, 0, 0, 0, 1536, 3584, 8160, 16382, 32766, 65534, 131070, 262143, 524287] [] (
    [FactW.pure [] [] [] true (fun v => v = (.slice p50 (((inQ A_g x y z q_.toNat).take k).length) q51)),
     FactW.pure [] [] [] true (fun v => v = (Pt g_b g_o)),
     FactW.pure [1] [] [] true (fun v => v = (Pt g_b g_o)),
     FactW.pure [2] [] [] true (fun v => v = (Pt g_b (g_o + 7))),
     FactW.pure [3] [] [] true (fun v => v = (.slice p11 A_g.vals.length q12)),
     FactW.pure [] [] [] true (fun v => v = (Pt g_b g_o)),
     FactW.pure [] [] [] true (fun v => v = (Iv x)),
     FactW.pure [] [] [] true (fun v => v = (Iv y)),
     FactW.pure [] [] [] true (fun v => v = (Iv z)),
     FactW.pure [] [] [] true (fun v => v = (.slice p20 ((cnQ q_.toNat).length) q21)),
     FactW.pure [] [] [] true (fun v => v = (Iv (k : Int))),
     FactW.mem [9, 10] [] [] [] true (fun v w' => PtrR RI w' v el1) (by intro v w1 w2 hx' h; have hx := KpL.toExt hx'; exact h.ext RI.mono hx),
     FactW.pure [11] [] [] true (fun v => v = (Iv el1)),
     FactW.pure [5, 6, 7, 8, 12] [] [] true (fun v => v = (Iv (crnI A_g x y z el1))),
     FactW.mem [4, 13] [] [] [] true (fun v w' => PtrR RF w' v el2) (by intro v w1 w2 hx' h; have hx := KpL.toExt hx'; exact h.ext RF.mono hx),
     FactW.pure [14] [] [] true (fun v => ∃ r_1 : Nat, v = (Fl r_1) ∧ cf .f32 r_1 = el2),
     FactW.pure [15] [] [] true (fun v => v = (Bo β1)),
     FactW.mem [16] [] [] [] true (fun v w' => ∃ b : Nat, v = .slice (some ⟨b, 0, none⟩) 1 1 ∧ w45.heap.size ≤ b ∧ Blk w' b [(Bo β1)]) (by rintro v w1 w2 hx' ⟨b, rfl, hb, hB⟩; have hx := KpL.toExt hx'; exact ⟨b, rfl, hb, (hB.ext hx)⟩)]) mixed (by kernel_rfl) ?_
   obtain ⟨w58, hw60⟩ : ∃ w', w' = World.drew w45 := ⟨_, rfl⟩; rw [← hw60]; have E59 : Ext w45 w58 := by rw [hw60]; exact Ext.draw _
   clear hw60
   refine R2_p (fun u hu _ => does_move (u := (.slice p50 (((inQ A_g x y z q_.toNat).take k).length) q51)) (ev rfl)) fun v63 => ?_
   refine R2_p (fun u hu _ => does_move (u := (Pt g_b g_o)) (ev rfl)) fun v64 => ?_
   refine R2_p (fun u hu hF => ?_) fun v65 => ?_
   · have h33_ : v64 = (Pt g_b g_o) := hF.1
     clear hF; subst h33_
     exact does_nilCheck (ev rfl)
   refine R2_p (fun u hu hF => ?_) fun v66 => ?_
   · have h34_ : v65 = (Pt g_b g_o) := hF.1
     clear hF; subst h34_
     exact does_fieldAddr (ev rfl) fa37_5
   refine R2_p (fun u hu hF => ?_) fun v67 => ?_
   · have h35_ : v66 = (Pt g_b (g_o + 7)) := hF.1
     clear hF; subst h35_
     exact does_load (u := (.slice p11 A_g.vals.length q12)) (ev rfl) Try.isAgg25 (Cells.at (hc_g.ext (Ext.gr (Ext.gr X49 E59) (KpL.toExt hu))) 7 rfl)
   refine R2_p (fun u hu _ => does_move (u := (Pt g_b g_o)) (ev rfl)) fun v68 => ?_
   refine R2_p (fun u hu _ => does_move (u := (Iv x)) (ev rfl)) fun v69 => ?_
   refine R2_p (fun u hu _ => does_move (u := (Iv y)) (ev rfl)) fun v70 => ?_
   refine R2_p (fun u hu _ => does_move (u := (Iv z)) (ev rfl)) fun v71 => ?_
   refine R2_p (fun u hu _ => does_move (u := (.slice p20 ((cnQ q_.toNat).length) q21)) (ev rfl)) fun v72 => ?_
   refine R2_p (fun u hu _ => does_move (u := (Iv (k : Int))) (ev rfl)) fun v73 => ?_
   refine R2_d (fun u hu hF => ?_) (fun v74 => ?_)
   ·replace hu : KpL [] _ _ := hu
    have h41_ : v72 = (.slice p20 ((cnQ q_.toNat).length) q21) := hF.1
    have h42_ : v73 = (Iv (k : Int)) := hF.2.1
    clear hF
    refine doesG_un rfl ?_
    obtain rfl := h41_
    obtain rfl := h42_
    refine (does_indexSl (R := RI) (i := (k : Int)) (xs := (cnQ q_.toNat)) (e := el1) Try.underlying65 Try.sizeOf2 (ev rfl) (ev rfl) (hh17 _ (((((Same.refl _ _).ext E27).kl E46 (allS (.inr (Nat.le_trans (Nat.le_refl _) hN41)) all0)).ext E59).ext (KpL.toExt hu))) (by omega) hel1).mono ?_; rintro v u' ⟨b, of, cs, hv, hc, hR, hu'⟩; subst hu'
    exact ⟨⟨b, of, cs, hv, hc, hR⟩, KpL.refl _ _⟩
   refine R2_d (fun u hu hF => ?_) (fun v75 => ?_)
   ·replace hu : KpL [] _ _ := hu
    have h43_ : PtrR RI u v74 el1 := hF.1
    clear hF
    refine doesG_un rfl ?_
    obtain ⟨b43_, o43_, _, rfl, hc43_, rfl⟩ := h43_
    refine (does_load (u := (Iv el1)) (ev rfl) Try.isAgg2 (Cells.at hc43_ 0 rfl)).mono ?_; rintro _ _ ⟨rfl, rfl⟩
    exact ⟨rfl, KpL.refl _ _⟩
   refine R2_d (fun u hu hF => ?_) (fun v76 => ?_)
   ·replace hu : KpL [] _ _ := hu
    have h37_ : v68 = (Pt g_b g_o) := hF.1
    have h38_ : v69 = (Iv x) := hF.2.1
    have h39_ : v70 = (Iv y) := hF.2.2.1
    have h40_ : v71 = (Iv z) := hF.2.2.2.1
    have h44_ : v75 = (Iv el1) := hF.2.2.2.2.1
    clear hF
    refine doesG_un rfl ?_
    obtain rfl := h37_
    obtain rfl := h38_
    obtain rfl := h39_
    obtain rfl := h40_
    obtain rfl := h44_
    refine (does_call (args := #[(Pt g_b g_o), (Iv x), (Iv y), (Iv z), (Iv el1)]) cal49 (evs rfl) (c_spec_l07Corner g_b g_o [(Fl r1), (Fl r3), (Fl r5), (Fl r7), (Iv A_g.x), (Iv A_g.y), (Iv A_g.z), (.slice p11 A_g.vals.length q12)] A_g x y z el1 _ (hc_g.ext (Ext.gr (Ext.gr X49 E59) (KpL.toExt hu))) ⟨r1, r3, r5, r7, (.slice p11 A_g.vals.length q12), rfl, h2, h4, h6, h8, (Sl.ext hs13 RF.mono (Ext.gr (Ext.gr X49 E59) (KpL.toExt hu)))⟩ (by omega) (by exact cnQ_rng hel1))).mono ?_; rintro v u' ⟨hx, hv⟩
    exact ⟨hv, (KpL.of_ext hx)⟩
   refine R2_d (fun u hu hF => ?_) (fun v77 => ?_)
   ·replace hu : KpL [] _ _ := hu
    have h36_ : v67 = (.slice p11 A_g.vals.length q12) := hF.1
    have h45_ : v76 = (Iv (crnI A_g x y z el1)) := hF.2.1
    clear hF
    refine doesG_un rfl ?_
    obtain rfl := h36_
    obtain rfl := h45_
    refine (does_indexSl (R := RF) (i := crnI A_g x y z el1) (xs := A_g.vals) (e := el2) Try.underlying25 Try.sizeOf22 (ev rfl) (ev rfl) (Sl.ext hs13 RF.mono (Ext.gr (Ext.gr X49 E59) (KpL.toExt hu))) (by omega) hel2).mono ?_; rintro v u' ⟨b, of, cs, hv, hc, hR, hu'⟩; subst hu'
    exact ⟨⟨b, of, cs, hv, hc, hR⟩, KpL.refl _ _⟩
   refine R2_d (fun u hu hF => ?_) (fun v78 => ?_)
   ·replace hu : KpL [] _ _ := hu
    have h46_ : PtrR RF u v77 el2 := hF.1
    clear hF
    refine doesG_un rfl ?_
    obtain ⟨b46_, o46_, _, rfl, hc46_, ⟨r46_1, rfl, h46_2⟩⟩ := h46_
    refine (does_load (u := (Fl r46_1)) (ev rfl) Try.isAgg22 (Cells.at hc46_ 0 rfl)).mono ?_; rintro _ _ ⟨rfl, rfl⟩
    exact ⟨⟨r46_1, rfl, (by simp only [h46_2])⟩, KpL.refl _ _⟩
   refine R2_d (fun u hu hF => ?_) (fun v79 => ?_)
   ·replace hu : KpL [] _ _ := hu
    have h47_ : ∃ r_1 : Nat, v78 = (Fl r_1) ∧ cf .f32 r_1 = el2 := hF.1
    clear hF
    refine doesG_un rfl ?_
    obtain ⟨r47_1, rfl, h47_2⟩ := h47_
    refine (does_fcmp (.inr (.inr (.inl rfl))) (ev rfl) (ev rfl)).mono ?_; rintro _ _ ⟨rfl, rfl⟩
    exact ⟨(by first | rfl | (show _ = _; simp only [hβ1, h47_2]; done) | (show _ = _; simp only [hβ1, h47_2]; rfl)), KpL.refl _ _⟩
   refine R2_d (fun u hu hF => ?_) (fun v80 => ?_)
   ·replace hu : KpL [] _ _ := hu
    have h48_ : v79 = (Bo β1) := hF.1
    clear hF
    refine doesG_un rfl ?_
    obtain rfl := h48_
    refine (does_buildSlice (e := 4) (parts' := [(0, (Bo β1))]) (cells := [(Bo β1)]) (evp rfl) (fun _ => by kernel_rfl)).mono ?_; rintro _ _ ⟨b, rfl, hb, hB, hx⟩
    exact ⟨⟨b, rfl, Nat.le_trans (Nat.le_trans (Below.size E59) (KpL.size hu)) hb, hB⟩, (KpL.of_ext hx)⟩
   refine RW2_fin ?_; intro w81 E82 hP83; replace E82 : KpL [] _ _ := E82
   obtain ⟨⟨⟨⟨⟨⟨⟨⟨⟨⟨⟨⟨⟨⟨⟨⟨⟨⟨-, q84⟩, -⟩, -⟩, -⟩, -⟩, -⟩, -⟩, -⟩, -⟩, -⟩, -⟩, -⟩, -⟩, -⟩, -⟩, -⟩, -⟩, q85⟩ := hP83
   have q84 : v63 = (.slice p50 (((inQ A_g x y z q_.toNat).take k).length) q51) := q84 rfl
   obtain rfl := q84
   have q85 : ∃ b : Nat, v80 = .slice (some ⟨b, 0, none⟩) 1 1 ∧ w45.heap.size ≤ b ∧ Blk w81 b [(Bo β1)] := q85 rfl
   obtain ⟨b87, rfl, hb88, hB89⟩ := q85
   refine fz ?_
   have z92 := (Nat.le_trans (Nat.le_trans (KpL.size E46) (Below.size E59)) (KpL.size E82))
   obtain ⟨gg93, hg94, hg95, hA96⟩ := Own.startA hO48 (Own.same hO48 RBo.flat (((Same.refl _ _).ext E59).kl E82 all0) hN41 (Below.size E27))
   refine sd (does_append (R := RBo) (k := 1) (g0 := gg93) (B := w81.heap.size) (xs := ((inQ A_g x y z q_.toNat).take k)) (ys := [β1]) Try.underlying83 inf4 rfl (by decide) (ev rfl) (ev rfl) (hA96 _) RBo.flat hB89 rfl rfl rfl (fun i_ x_ hi_ => lit1 (R := RBo) (cs := [(Bo β1)]) (y := β1)  rfl i_ x_ hi_) (by first | (simp only [List.length_append, List.length_cons, List.length_nil]; omega) | first | omega | (simp only [List.length_take]; omega)) (Nat.le_refl _)) ?_; rintro y' w108 ⟨gg109, hg110, K111, hO112⟩
   obtain ⟨p120, q121, rfl⟩ := Own.shape hO112
   obtain ⟨gg123, hg124, hlt128, hA126⟩ := Own.startP hO112 hO112 (by simp)
   refine fz ?_
   refine ja (.slice p120 ((((inQ A_g x y z q_.toNat).take k) ++ [β1]).length) q121) ?_
   refine wn K56 ?_
   refine wp_region_lit ?_
   refine jj (does_iarith (p := (k : Int)) (q := 1) (r := (k : Int) + 1) (ev rfl) (ev rfl) (.inl ⟨rfl, (in_i64 (by omega) (by omega)).symm⟩)) ?_
   refine jm (Iv ((k : Int) + 1)) ?_
   refine wpList_nil ?_
   have hO136 := Own.cast (ys := ((fun (k : Nat) => (inQ A_g x y z q_.toNat).take k) (k + 1))) (Own.back (hA126 _) (hg124.elim (fun e_ => by rw [e_]; exact (hg94.elim (fun e_ => by rw [e_]; exact (.inl rfl)) (fun h_ => .inr (Nat.le_trans (Nat.le_refl _) h_)))) (fun h_ => .inr (Nat.le_trans z92 h_))) (Nat.le_refl _)) (by (try dsimp only); first | exact inQ_put hel1 hel2 | (rw [hβ1]; exact inQ_put hel1 hel2))
   refine ⟨k + 1, ⟨pk [(15, Iv (k : Int)), (30, Bo (icmp .lss (k : Int) (((cnQ q_.toNat).length) : Int))), (31, Iv (k : Int)), (32, (.slice p50 (((inQ A_g x y z q_.toNat).take k).length) q51)), (33, v64), (34, v65), (35, v66), (36, v67), (37, v68), (38, v69), (39, v70), (40, v71), (41, v72), (42, v73), (43, v74), (44, v75), (45, v76), (46, v77), (47, v78), (48, v79), (49, (.slice (some ⟨b87, 0, none⟩) 1 1)), (50, (.slice p120 ((((inQ A_g x y z q_.toNat).take k) ++ [β1]).length) q121)), (51, Iv ((k : Int) + 1))], (.slice p120 ((((inQ A_g x y z q_.toNat).take k) ++ [β1]).length) q121), ?_, (KpL.more (KpL.more (KpL.ext E46 E59) E82 all0) K111 (allS (hg110.elim (fun e_ => by rw [e_]; exact (hg94.imp (fun h => by simp [h]) id)) (fun h_ => .inr (Nat.le_trans z92 h_))) all0)), hO136, ?_⟩, ?_⟩
   ·first | rfl | (simp only [Int.natCast_add, Int.natCast_one]; rfl)
   ·omega
   ·omega
  have c55' := c55
  (try simp only [icmp, bs] at c55')
  refine wp_exit ?_
  refine K33 _ _ ?_
  refine wr fun _ K137 => ?_
  refine jm (.slice p50 (((inQ A_g x y z q_.toNat).take k).length) q51) ?_
  refine sd (does_call (args := #[(.slice p50 (((inQ A_g x y z q_.toNat).take k).length) q51)]) cal50 (evs rfl) (c_spec_l07Edges (.slice p50 (((inQ A_g x y z q_.toNat).take k).length) q51) ((inQ A_g x y z q_.toNat).take k) _ hH52.get (by rw [List.length_take, hq4]; omega))) ?_; rintro _ w139 ⟨E138, ⟨y141, rfl, hh140⟩⟩
  have X142 := Ext.gr X49 E138
  obtain ⟨p143, q144, rfl⟩ := Sl.shape hh140.get
  refine fz ?_
  refine ja (.slice p143 ((flE (edB ((inQ A_g x y z q_.toNat).take k))).length) q144) ?_
  refine wn K137 ?_
  refine wr fun _ K145 => ?_
  have hk4 : ((inQ A_g x y z q_.toNat).take k) = inQ A_g x y z q_.toNat := List.take_of_length_le (by omega)
  have hall := quw_all hq6 hk4
  refine sd (does_slice0 (e := 2) (fun _ => by kernel_rfl)) ?_; rintro _ w151 ⟨b146, rfl, hb147, hl148, hO149, E150⟩
  have X154 := Ext.gr X142 E150
  have hO155 := hO149 _ RI 1
  refine fz ?_
  refine ja (.slice (some ⟨b146, 0, none⟩) 0 0) ?_
  refine wn K145 ?_
  refine wr fun _ K157 => ?_
  refine jm (.slice p143 ((flE (edB ((inQ A_g x y z q_.toNat).take k))).length) q144) ?_
  refine jj (does_len_slice Try.underlying85 (ev rfl)) ?_
  refine jm (Iv 0) ?_
  refine wn K157 ?_
  refine wp_block ?_
  have hz159 := (MX.ext KW.good (MX.ext KW.good (MX.kl KW.good (MX.ext KW.good (MX.ext KW.good h E15) E27) E46 (fun c_ hc_ hm_ => (List.mem_cons.1 hm_).elim (fun e_ => (fun hc_ => absurd (Nat.lt_of_lt_of_le ((MX.bnd h) _ hc_).2 (Nat.le_trans (Below.size E15) hN41)) (Nat.lt_irrefl _)) (e_ ▸ hc_)) (fun hm_ => nomatch hm_))) E138) E150)
  have n160 : b146 < w151.heap.size := Nat.lt_of_lt_of_le hl148 (Nat.le_refl _)
  have z166 := (Nat.le_trans (Nat.le_trans (Nat.le_trans (Below.size E15) (Below.size E27)) (KpL.size E46)) (Below.size E138))
  have hni165 : b146 ∉ L := (fun hc_ => absurd (Nat.lt_of_lt_of_le ((MX.bnd h) _ hc_).2 (Nat.le_trans z166 hb147)) (Nat.lt_irrefl _))
  obtain ⟨Lk161, hq162⟩ : ∃ l, l = b146 :: L := ⟨_, rfl⟩
  have z167 := (Nat.le_trans (Nat.le_trans (Nat.le_trans z43 (Below.size E27)) (KpL.size E46)) (Below.size E138))
  have z168 := (Nat.le_trans z166 (Below.size E150))
  have hb163 : ∀ c_ ∈ Lk161, w.heap.size ≤ c_ ∧ c_ < w151.heap.size := fun c_ hc_ => (List.mem_cons.1 (hq162 ▸ hc_)).elim (fun h_ => by rw [h_]; exact ⟨(Nat.le_trans z167 hb147), n160⟩) (fun h_ => ⟨((MX.bnd h) c_ h_).1, Nat.lt_of_lt_of_le ((MX.bnd h) c_ h_).2 z168⟩)
  have hs164 : ∀ c_ ∈ Lk161, c_ ∈ L ∨ w139.heap.size ≤ c_ := fun c_ hc_ => (List.mem_cons.1 (hq162 ▸ hc_)).elim (fun h_ => .inr (by rw [h_]; exact hb147)) .inl
  refine loop_ghost (σ := Nat) (fun i a w' => ∃ u169 : Nat → Value, ∃ y17 : Value, a = fr [(Pt b_ 0), (Pt g_b g_o), (Iv x), (Iv y), (Iv z), (Iv q_), Ud, Ud, Ud, Ud, Ud, Ud, (.slice p20 ((cnQ q_.toNat).length) q21), (Bo (tuQ q_.toNat)), (.slice p50 (((inQ A_g x y z q_.toNat).take k).length) q51), (u35 15), (.slice p143 ((flE (edB ((inQ A_g x y z q_.toNat).take k))).length) q144), y17, (u169 18), (u169 19), (u169 20), (.tuple #[(.slice p20 ((cnQ q_.toNat).length) q21), (Bo (tuQ q_.toNat))]), (Iv q_), (.tuple #[(.slice p20 ((cnQ q_.toNat).length) q21), (Bo (tuQ q_.toNat))]), (.slice p20 ((cnQ q_.toNat).length) q21), (Bo (tuQ q_.toNat)), (.slice (some ⟨b23, 0, none⟩) 0 0), (.slice p20 ((cnQ q_.toNat).length) q21), (Iv (((cnQ q_.toNat).length) : Int)), (Iv (k : Int)), (Bo (icmp .lss (k : Int) (((cnQ q_.toNat).length) : Int))), (u35 31), (u35 32), (u35 33), (u35 34), (u35 35), (u35 36), (u35 37), (u35 38), (u35 39), (u35 40), (u35 41), (u35 42), (u35 43), (u35 44), (u35 45), (u35 46), (u35 47), (u35 48), (u35 49), (u35 50), (u35 51), (.slice p50 (((inQ A_g x y z q_.toNat).take k).length) q51), (.slice p143 ((flE (edB ((inQ A_g x y z q_.toNat).take k))).length) q144), (.slice (some ⟨b146, 0, none⟩) 0 0), (.slice p143 ((flE (edB ((inQ A_g x y z q_.toNat).take k))).length) q144), (Iv (((flE (edB ((inQ A_g x y z q_.toNat).take k))).length) : Int)), (Iv (i : Int)), (u169 58), (u169 59), (u169 60), (u169 61), (u169 62), (u169 63), (u169 64), (u169 65), (u169 66), (u169 67), (u169 68), (u169 69), (u169 70), (u169 71), (u169 72), (u169 73), (u169 74), (u169 75), (u169 76), (u169 77), (u169 78), (u169 79), (u169 80), (u169 81), (u169 82), (u169 83), (u169 84), (u169 85), (u169 86), (u169 87), (u169 88), (u169 89), (u169 90), (u169 91), (u169 92), (u169 93), (u169 94), (u169 95), (u169 96), (u169 97), (u169 98), (u169 99), (u169 100), (u169 101), (u169 102), (u169 103), (u169 104), (u169 105), (u169 106), (u169 107), (u169 108), (u169 109), (u169 110), (u169 111), (u169 112), (u169 113), (u169 114), (u169 115), (u169 116), (u169 117), (u169 118), (u169 119), (u169 120)] ∧ KpL Lk161 w151 w' ∧ (∃ (L' : List Nat) (g' : Nat), MX (KW 35 65 cap A_g) w.heap.size A_g b_ L' w' (ksA S.1 (keysQ A_g x y z q_.toNat) i, S.2 ++ trsA S.1 (keysQ A_g x y z q_.toNat) (tuQ q_.toNat) (i / 3)) ∧ (∀ c ∈ L', c ∈ Lk161 ∨ w151.heap.size ≤ c) ∧ (g' = b146 ∨ w151.heap.size ≤ g') ∧ g' ∉ L' ∧ g' < w'.heap.size ∧ ∀ B, Own RI 1 2 g' B w' y17 (triP S.1 (keysQ A_g x y z q_.toNat) i)) ∧ (i ≤ (flE (edB ((inQ A_g x y z q_.toNat).take k))).length)) (fun i => (flE (edB ((inQ A_g x y z q_.toNat).take k))).length - i) 0 ?_ ?_
  ·refine ⟨pk [], (.slice (some ⟨b146, 0, none⟩) 0 0), rfl, KpL.refl _ _, ⟨L, b146, MX.cast hz159 (by (try dsimp only); exact quw_start), fun c_ hc_ => .inl (by rw [hq162]; exact List.mem_cons_of_mem _ hc_), .inl rfl, hni165, n160, fun B_ => Own.cast ((fun (B_ : Nat) => Own.reB (C := B_) hO155) B_) (by (try dsimp only); rfl)⟩, ?_⟩
   exact Nat.zero_le _
  ·rintro i a w170 ⟨u169, y17, rfl, E171, hst, hi⟩
   have X173 := Below.kl X154 E171 (fun c_ hc_ => Nat.le_trans (Nat.le_refl _) (hb163 c_ hc_).1) (Nat.le_refl _)
   obtain ⟨Lm174, gg175, hX176, hs177, hg178, hni179, n180, hA181⟩ := hst
   obtain ⟨p182, q183, rfl⟩ := Own.shape (hA181 0)
   have hN184 : w139.heap.size ≤ gg175 := hg178.elim (fun e_ => by rw [e_]; exact hb147) (fun h_ => Nat.le_trans (Below.size E150) h_)
   have z186 := (Nat.le_trans (Below.size E150) (KpL.size E171))
   refine wr fun _ K188 => ?_
   refine jj (does_icmp (p := (i : Int)) (q := (((flE (edB ((inQ A_g x y z q_.toNat).take k))).length) : Int)) (.inr (.inr (.inl rfl))) (ev rfl) (ev rfl)) ?_
   refine wn K188 ?_
   refine ws fun _ K189 => ?_
   refine wp_cond_split (t := icmp .lss (i : Int) (((flE (edB ((inQ A_g x y z q_.toNat).take k))).length) : Int)) (ev rfl) (fun c190 => ?_) (fun c190 => ?_)
   ·have c190' := c190
    (try simp only [icmp, bs] at c190')
    refine wp_skip (K189 _ _ ?_)
    refine ws fun _ K191 => ?_
    refine wp_block ?_
    refine wr fun _ K192 => ?_
    refine jm (Iv (i : Int)) ?_
    refine ja (Iv (i : Int)) ?_
    refine wn K192 ?_
    refine wr fun _ K193 => ?_
    refine jm (.slice p20 ((cnQ q_.toNat).length) q21) ?_
    refine jm (.slice p143 ((flE (edB ((inQ A_g x y z q_.toNat).take k))).length) q144) ?_
    refine jm (Iv (i : Int)) ?_
    obtain ⟨el3, hel3⟩ : ∃ e, (flE (edB ((inQ A_g x y z q_.toNat).take k)))[i]? = some e := ⟨_, List.getElem?_eq_getElem (by omega)⟩
    have z194 := (Nat.le_trans (Nat.le_trans (Below.size E15) (Below.size E27)) (KpL.size E46))
    refine sd (does_indexSl (R := (RS RI 1)) (i := (i : Int)) (xs := (flE (edB ((inQ A_g x y z q_.toNat).take k)))) (e := el3) Try.underlying85 Try.sizeOf87 (ev rfl) (ev rfl) (hh140 _ (((Same.refl _ _).ext E150).kl E171 (fun c_ hc_ => ((hs164 _ hc_).elim (fun h_ => Or.inl (Nat.lt_of_lt_of_le ((MX.bnd h) _ h_).2 z194)) (fun h_ => Or.inr (Nat.le_trans (Nat.le_refl _) h_)))))) (by omega) hel3) ?_; rintro _ w170 ⟨b195, o196, _, rfl, hc198, ⟨y199, rfl, h200⟩, rfl⟩
    have hs203 := h200; have hs203l := Sl.len h200; obtain ⟨p201, q202, rfl⟩ := Sl.shape h200
    refine fz ?_
    refine jj (does_load (u := (.slice p201 el3.length q202)) (ev rfl) Try.isAgg87 (Cells.at hc198 0 rfl)) ?_
    have hel := quw_el hq6 hk4 hel3
    have hel2l := hel.1
    obtain ⟨el4, hel4⟩ : ∃ e, el3[0]? = some e := ⟨_, List.getElem?_eq_getElem (by omega)⟩
    refine sd (does_indexSl (R := RI) (i := 0) (xs := el3) (e := el4) Try.underlying87 Try.sizeOf3 (ev rfl) (ev rfl) hs203 (by omega) hel4) ?_; rintro _ w170 ⟨b204, o205, _, rfl, hc207, rfl, rfl⟩
    refine fz ?_
    refine jj (does_load (u := (Iv el4)) (ev rfl) Try.isAgg3 (Cells.at hc207 0 rfl)) ?_
    have her4 := hel.2 _ _ hel4
    obtain ⟨el5, hel5⟩ : ∃ e, (cnQ q_.toNat)[el4.toNat]? = some e := ⟨_, List.getElem?_eq_getElem (by omega)⟩
    have z208 := (Nat.le_trans (Nat.le_trans (Below.size E27) (KpL.size E46)) (Below.size E138))
    refine sd (does_indexSl (R := RI) (i := el4) (xs := (cnQ q_.toNat)) (e := el5) Try.underlying65 Try.sizeOf2 (ev rfl) (ev rfl) (hh17 _ ((((((Same.refl _ _).ext E27).kl E46 (allS (.inr (Nat.le_trans (Nat.le_refl _) hN41)) all0)).ext E138).ext E150).kl E171 (fun c_ hc_ => ((hs164 _ hc_).elim (fun h_ => Or.inl (Nat.lt_of_lt_of_le ((MX.bnd h) _ h_).2 (Nat.le_refl _))) (fun h_ => Or.inr (Nat.le_trans z208 h_)))))) (by omega) hel5) ?_; rintro _ w170 ⟨b209, o210, _, rfl, hc212, rfl, rfl⟩
    refine fz ?_
    refine jj (does_load (u := (Iv el5)) (ev rfl) Try.isAgg2 (Cells.at hc212 0 rfl)) ?_
    refine ja (Iv el5) ?_
    refine wn K193 ?_
    refine wr fun _ K213 => ?_
    refine jm (.slice p20 ((cnQ q_.toNat).length) q21) ?_
    refine jm (.slice p143 ((flE (edB ((inQ A_g x y z q_.toNat).take k))).length) q144) ?_
    refine jm (Iv (i : Int)) ?_
    refine sd (does_indexSl (R := (RS RI 1)) (i := (i : Int)) (xs := (flE (edB ((inQ A_g x y z q_.toNat).take k)))) (e := el3) Try.underlying85 Try.sizeOf87 (ev rfl) (ev rfl) (hh140 _ (((Same.refl _ _).ext E150).kl E171 (fun c_ hc_ => ((hs164 _ hc_).elim (fun h_ => Or.inl (Nat.lt_of_lt_of_le ((MX.bnd h) _ h_).2 z194)) (fun h_ => Or.inr (Nat.le_trans (Nat.le_refl _) h_)))))) (by omega) hel3) ?_; rintro _ w170 ⟨b214, o215, _, rfl, hc217, ⟨y218, rfl, h219⟩, rfl⟩
    have hs222 := h219; have hs222l := Sl.len h219; obtain ⟨p220, q221, rfl⟩ := Sl.shape h219
    refine fz ?_
    refine jj (does_load (u := (.slice p220 el3.length q221)) (ev rfl) Try.isAgg87 (Cells.at hc217 0 rfl)) ?_
    obtain ⟨el6, hel6⟩ : ∃ e, el3[1]? = some e := ⟨_, List.getElem?_eq_getElem (by omega)⟩
    refine sd (does_indexSl (R := RI) (i := 1) (xs := el3) (e := el6) Try.underlying87 Try.sizeOf3 (ev rfl) (ev rfl) hs222 (by omega) hel6) ?_; rintro _ w170 ⟨b223, o224, _, rfl, hc226, rfl, rfl⟩
    refine fz ?_
    refine jj (does_load (u := (Iv el6)) (ev rfl) Try.isAgg3 (Cells.at hc226 0 rfl)) ?_
    have her6 := hel.2 _ _ hel6
    obtain ⟨el7, hel7⟩ : ∃ e, (cnQ q_.toNat)[el6.toNat]? = some e := ⟨_, List.getElem?_eq_getElem (by omega)⟩
    refine sd (does_indexSl (R := RI) (i := el6) (xs := (cnQ q_.toNat)) (e := el7) Try.underlying65 Try.sizeOf2 (ev rfl) (ev rfl) (hh17 _ ((((((Same.refl _ _).ext E27).kl E46 (allS (.inr (Nat.le_trans (Nat.le_refl _) hN41)) all0)).ext E138).ext E150).kl E171 (fun c_ hc_ => ((hs164 _ hc_).elim (fun h_ => Or.inl (Nat.lt_of_lt_of_le ((MX.bnd h) _ h_).2 (Nat.le_refl _))) (fun h_ => Or.inr (Nat.le_trans z208 h_)))))) (by omega) hel7) ?_; rintro _ w170 ⟨b227, o228, _, rfl, hc230, rfl, rfl⟩
    refine fz ?_
    refine jj (does_load (u := (Iv el7)) (ev rfl) Try.isAgg2 (Cells.at hc230 0 rfl)) ?_
    refine ja (Iv el7) ?_
    refine wn K213 ?_
    refine wr fun _ K231 => ?_
    refine jm (.slice p182 ((triP S.1 (keysQ A_g x y z q_.toNat) i).length) q183) ?_
    refine jm (Pt b_ 0) ?_
    refine jm (Pt g_b g_o) ?_
    refine jm (Iv x) ?_
    refine jm (Iv y) ?_
    refine jm (Iv z) ?_
    have hed := quw_edge (M := max el7 el5) hgr hcel.1 hcel.2 hq6 hk4 hel3 hel4 hel6 hel5 hel7 (by omega)
    refine jm (Iv el5) ?_
    refine jm (Iv el7) ?_
    refine sd (does_call (args := #[(Iv el5), (Iv el7)]) cal52 (evs rfl) (c_spec_l00Min el5 el7 _)) ?_; rintro _ w233 ⟨E232, rfl⟩
    have X234 := Ext.gr X173 E232
    refine fz ?_
    refine jm (Iv el5) ?_
    refine jm (Iv el7) ?_
    refine sd (does_call (args := #[(Iv el5), (Iv el7)]) cal53 (evs rfl) (c_spec_l00Max el5 el7 _)) ?_; rintro _ w236 ⟨E235, rfl⟩
    have X237 := Ext.gr X234 E235
    refine fz ?_
    have hz238 := (MX.ext KW.good (MX.ext KW.good hX176 E232) E235)
    have z239 := (Nat.le_trans (Nat.le_trans (KpL.size E171) (Below.size E232)) (Below.size E235))
    refine sd (does_callK (args := #[(Pt b_ 0), (Pt g_b g_o), (Iv x), (Iv y), (Iv z), (Iv (min el5 el7)), (Iv (max el7 el5))]) cal51 (evs rfl) (cm_spec_l07Place (b := b_) (L := Lm174) (S := (ksA S.1 (keysQ A_g x y z q_.toNat) i, S.2 ++ trsA S.1 (keysQ A_g x y z q_.toNat) (tuQ q_.toNat) (i / 3))) (g_b := g_b) (g_o := g_o) (g := [(Fl r1), (Fl r3), (Fl r5), (Fl r7), (Iv A_g.x), (Iv A_g.y), (Iv A_g.z), (.slice p11 A_g.vals.length q12)]) (A_g := A_g) (w := w) (hc_g := hc_g) (hv_g := ⟨r1, r3, r5, r7, (.slice p11 A_g.vals.length q12), rfl, h2, h4, h6, h8, hs13⟩) (x := x) (y := y) (z := z) (p_ := (min el5 el7)) (q_ := (max el7 el5)) (hgr := by first | assumption | omega) (hcel := by first | assumption | omega) (hpq := by exact hed.1) (hok := by exact hok.ksA (keysQ_rng hgr hcel.1 hcel.2 hq6) i) (w1 := w236) (hx1 := X237) (h := hz238) (cap := cap) (hcap := hcap))) ?_; rintro _ w251 ⟨K247, rfl, Lm248, hX249, hs250⟩
    refine fz ?_
    have htl := triP_len (ks := S.1) (K := (keysQ A_g x y z q_.toNat)) (i := i)
    refine sd (does_buildSlice (e := 2) (parts' := [(0, (Iv (numK (addK ((ksA S.1 (keysQ A_g x y z q_.toNat) i, S.2 ++ trsA S.1 (keysQ A_g x y z q_.toNat) (tuQ q_.toNat) (i / 3))).1 (keyE A_g x y z (min el5 el7) (max el7 el5))) (keyE A_g x y z (min el5 el7) (max el7 el5)))))]) (cells := [(Iv (numK (addK ((ksA S.1 (keysQ A_g x y z q_.toNat) i, S.2 ++ trsA S.1 (keysQ A_g x y z q_.toNat) (tuQ q_.toNat) (i / 3))).1 (keyE A_g x y z (min el5 el7) (max el7 el5))) (keyE A_g x y z (min el5 el7) (max el7 el5))))]) (evp rfl) (fun _ => by kernel_rfl)) ?_; rintro _ w257 ⟨b253, rfl, hb254, hB255, E256⟩
    refine fz ?_
    have z277 := (Nat.le_trans (Nat.le_trans (Nat.le_trans (Nat.le_trans z186 (Below.size E232)) (Below.size E235)) (KpL.size K247)) (Below.size E256))
    refine sd (does_append (R := RI) (k := 1) (g0 := gg175) (B := w257.heap.size) (xs := (triP S.1 (keysQ A_g x y z q_.toNat) i)) (ys := [(numK (addK ((ksA S.1 (keysQ A_g x y z q_.toNat) i, S.2 ++ trsA S.1 (keysQ A_g x y z q_.toNat) (tuQ q_.toNat) (i / 3))).1 (keyE A_g x y z (min el5 el7) (max el7 el5))) (keyE A_g x y z (min el5 el7) (max el7 el5)))]) Try.underlying65 inf2 rfl (by decide) (ev rfl) (ev rfl) ((fun B_ => Own.ext ((Own.klA' (fun B_ => Own.ext ((fun B_ => Own.ext (hA181 B_) RI.flat E232) B_) RI.flat E235) RI.flat K247 (fun c_ hc_ e_ => (fun hc_ => absurd hc_ hni179) (e_ ▸ hc_))) B_) RI.flat E256) _) RI.flat hB255 rfl rfl rfl (fun i_ x_ hi_ => lit1 (R := RI) (cs := [(Iv (numK (addK ((ksA S.1 (keysQ A_g x y z q_.toNat) i, S.2 ++ trsA S.1 (keysQ A_g x y z q_.toNat) (tuQ q_.toNat) (i / 3))).1 (keyE A_g x y z (min el5 el7) (max el7 el5))) (keyE A_g x y z (min el5 el7) (max el7 el5))))]) (y := (numK (addK ((ksA S.1 (keysQ A_g x y z q_.toNat) i, S.2 ++ trsA S.1 (keysQ A_g x y z q_.toNat) (tuQ q_.toNat) (i / 3))).1 (keyE A_g x y z (min el5 el7) (max el7 el5))) (keyE A_g x y z (min el5 el7) (max el7 el5))))  rfl i_ x_ hi_) (by first | (simp only [List.length_append, List.length_cons, List.length_nil]; omega) | first | omega | (simp only [List.length_take]; omega)) (Nat.le_refl _)) ?_; rintro y' w278 ⟨gg279, hg280, K281, hO282⟩
    have z284 := (Nat.le_trans (Below.size E232) (Below.size E235))
    have hni283 : gg279 ∉ Lm248 := hg280.elim (fun e_ => by rw [e_]; exact (fun hc_ => ((hs250 _ hc_).elim (fun h_ => absurd h_ hni179) (fun h_ => absurd h_ (Nat.not_le_of_lt (Nat.lt_of_lt_of_le n180 z284)))))) (fun h_ hc_ => absurd (Nat.lt_of_lt_of_le ((MX.bnd hX249) _ hc_).2 (Nat.le_trans (Below.size E256) h_)) (Nat.lt_irrefl _))
    obtain ⟨p291, q292, rfl⟩ := Own.shape hO282
    obtain ⟨gg294, hg295, hlt305, hA297⟩ := Own.startP hO282 hO282 (by simp)
    have hN306 : w139.heap.size ≤ gg294 := by rcases hg295 with h | h; exact h ▸ hN184; exact Nat.le_trans z277 h
    have hni310 : gg294 ∉ Lm248 := hg295.elim (fun e_ => by rw [e_]; exact (fun hc_ => ((hs250 _ hc_).elim (fun h_ => absurd h_ hni179) (fun h_ => absurd h_ (Nat.not_le_of_lt (Nat.lt_of_lt_of_le n180 z284)))))) (fun h_ hc_ => absurd (Nat.lt_of_lt_of_le ((MX.bnd hX249) _ hc_).2 (Nat.le_trans (Below.size E256) h_)) (Nat.lt_irrefl _))
    have z311 := (Nat.le_trans z277 (KpL.size K281))
    refine fz ?_
    refine ja (.slice p291 (((triP S.1 (keysQ A_g x y z q_.toNat) i) ++ [(numK (addK ((ksA S.1 (keysQ A_g x y z q_.toNat) i, S.2 ++ trsA S.1 (keysQ A_g x y z q_.toNat) (tuQ q_.toNat) (i / 3))).1 (keyE A_g x y z (min el5 el7) (max el7 el5))) (keyE A_g x y z (min el5 el7) (max el7 el5)))]).length) q292) ?_
    refine wn K231 ?_
    refine ws fun _ K313 => ?_
    refine wr fun _ K314 => ?_
    refine jm (.slice p291 (((triP S.1 (keysQ A_g x y z q_.toNat) i) ++ [(numK (addK ((ksA S.1 (keysQ A_g x y z q_.toNat) i, S.2 ++ trsA S.1 (keysQ A_g x y z q_.toNat) (tuQ q_.toNat) (i / 3))).1 (keyE A_g x y z (min el5 el7) (max el7 el5))) (keyE A_g x y z (min el5 el7) (max el7 el5)))]).length) q292) ?_
    refine jj (does_len_slice Try.underlying65 (ev rfl)) ?_
    refine jj (does_icmp (p := ((((triP S.1 (keysQ A_g x y z q_.toNat) i) ++ [(numK (addK ((ksA S.1 (keysQ A_g x y z q_.toNat) i, S.2 ++ trsA S.1 (keysQ A_g x y z q_.toNat) (tuQ q_.toNat) (i / 3))).1 (keyE A_g x y z (min el5 el7) (max el7 el5))) (keyE A_g x y z (min el5 el7) (max el7 el5)))]).length) : Int)) (q := 3) (.inr (.inr (.inl rfl))) (ev rfl) (ev rfl)) ?_
    refine wn K314 ?_
    refine wp_cond_split (t := icmp .lss ((((triP S.1 (keysQ A_g x y z q_.toNat) i) ++ [(numK (addK ((ksA S.1 (keysQ A_g x y z q_.toNat) i, S.2 ++ trsA S.1 (keysQ A_g x y z q_.toNat) (tuQ q_.toNat) (i / 3))).1 (keyE A_g x y z (min el5 el7) (max el7 el5))) (keyE A_g x y z (min el5 el7) (max el7 el5)))]).length) : Int) 3) (ev rfl) (fun c315 => ?_) (fun c315 => ?_)
    ·have c315' := c315
     (try simp only [icmp, bs] at c315')
     have h3 : i % 3 ≠ 2 := by have hc_ := c315'; simp only [List.length_append, List.length_cons, List.length_nil, triP_len] at hc_; omega
     refine wp_exit ?_
     refine K191 _ _ ?_
     refine wp_region_lit ?_
     refine jj (does_iarith (p := (i : Int)) (q := 1) (r := (i : Int) + 1) (ev rfl) (ev rfl) (.inl ⟨rfl, (in_i64 (by omega) (by omega)).symm⟩)) ?_
     refine jm (Iv ((i : Int) + 1)) ?_
     refine wpList_nil ?_
     have z316 := (Nat.le_trans (Nat.le_trans z239 (KpL.size K247)) (Below.size E256))
     have hO317 := hA297
     have hz318 := (MX.kl KW.good (MX.ext KW.good hX249 E256) K281 (fun c_ hc_ hm_ => (List.mem_cons.1 hm_).elim (fun e_ => (fun hc_ => absurd hc_ hni283) (e_ ▸ hc_)) (fun hm_ => nomatch hm_)))
     refine ⟨i + 1, ⟨pk [(18, Iv (i : Int)), (19, Iv el5), (20, Iv el7), (58, Bo (icmp .lss (i : Int) (((flE (edB ((inQ A_g x y z q_.toNat).take k))).length) : Int))), (59, Iv (i : Int)), (60, (.slice p20 ((cnQ q_.toNat).length) q21)), (61, (.slice p143 ((flE (edB ((inQ A_g x y z q_.toNat).take k))).length) q144)), (62, Iv (i : Int)), (63, Pt b195 o196), (64, (.slice p201 el3.length q202)), (65, Pt b204 o205), (66, Iv el4), (67, Pt b209 o210), (68, Iv el5), (69, (.slice p20 ((cnQ q_.toNat).length) q21)), (70, (.slice p143 ((flE (edB ((inQ A_g x y z q_.toNat).take k))).length) q144)), (71, Iv (i : Int)), (72, Pt b214 o215), (73, (.slice p220 el3.length q221)), (74, Pt b223 o224), (75, Iv el6), (76, Pt b227 o228), (77, Iv el7), (78, (.slice p182 ((triP S.1 (keysQ A_g x y z q_.toNat) i).length) q183)), (79, Pt b_ 0), (80, Pt g_b g_o), (81, Iv x), (82, Iv y), (83, Iv z), (84, Iv el5), (85, Iv el7), (86, Iv (min el5 el7)), (87, Iv el5), (88, Iv el7), (89, Iv (max el7 el5)), (90, Iv (numK (addK ((ksA S.1 (keysQ A_g x y z q_.toNat) i, S.2 ++ trsA S.1 (keysQ A_g x y z q_.toNat) (tuQ q_.toNat) (i / 3))).1 (keyE A_g x y z (min el5 el7) (max el7 el5))) (keyE A_g x y z (min el5 el7) (max el7 el5)))), (91, (.slice (some ⟨b253, 0, none⟩) 1 1)), (92, (.slice p291 (((triP S.1 (keysQ A_g x y z q_.toNat) i) ++ [(numK (addK ((ksA S.1 (keysQ A_g x y z q_.toNat) i, S.2 ++ trsA S.1 (keysQ A_g x y z q_.toNat) (tuQ q_.toNat) (i / 3))).1 (keyE A_g x y z (min el5 el7) (max el7 el5))) (keyE A_g x y z (min el5 el7) (max el7 el5)))]).length) q292)), (93, (.slice p291 (((triP S.1 (keysQ A_g x y z q_.toNat) i) ++ [(numK (addK ((ksA S.1 (keysQ A_g x y z q_.toNat) i, S.2 ++ trsA S.1 (keysQ A_g x y z q_.toNat) (tuQ q_.toNat) (i / 3))).1 (keyE A_g x y z (min el5 el7) (max el7 el5))) (keyE A_g x y z (min el5 el7) (max el7 el5)))]).length) q292)), (94, Iv ((((triP S.1 (keysQ A_g x y z q_.toNat) i) ++ [(numK (addK ((ksA S.1 (keysQ A_g x y z q_.toNat) i, S.2 ++ trsA S.1 (keysQ A_g x y z q_.toNat) (tuQ q_.toNat) (i / 3))).1 (keyE A_g x y z (min el5 el7) (max el7 el5))) (keyE A_g x y z (min el5 el7) (max el7 el5)))]).length) : Int)), (95, Bo (icmp .lss ((((triP S.1 (keysQ A_g x y z q_.toNat) i) ++ [(numK (addK ((ksA S.1 (keysQ A_g x y z q_.toNat) i, S.2 ++ trsA S.1 (keysQ A_g x y z q_.toNat) (tuQ q_.toNat) (i / 3))).1 (keyE A_g x y z (min el5 el7) (max el7 el5))) (keyE A_g x y z (min el5 el7) (max el7 el5)))]).length) : Int) 3)), (96, u169 96), (97, u169 97), (98, u169 98), (99, u169 99), (100, u169 100), (101, u169 101), (102, u169 102), (103, u169 103), (104, u169 104), (105, u169 105), (106, u169 106), (107, u169 107), (108, u169 108), (109, u169 109), (110, u169 110), (111, u169 111), (112, u169 112), (113, u169 113), (114, u169 114), (115, u169 115), (116, u169 116), (117, u169 117), (118, u169 118), (119, u169 119), (120, Iv ((i : Int) + 1))], (.slice p291 (((triP S.1 (keysQ A_g x y z q_.toNat) i) ++ [(numK (addK ((ksA S.1 (keysQ A_g x y z q_.toNat) i, S.2 ++ trsA S.1 (keysQ A_g x y z q_.toNat) (tuQ q_.toNat) (i / 3))).1 (keyE A_g x y z (min el5 el7) (max el7 el5))) (keyE A_g x y z (min el5 el7) (max el7 el5)))]).length) q292), ?_, (KpL.more (KpL.ext (KpL.more (KpL.ext (KpL.ext E171 E232) E235) K247 (fun c_ hc_ => ((hs177 _ hc_).elim (fun h_ => Or.inl h_) (fun h_ => Or.inr (Nat.le_trans (Nat.le_refl _) h_))))) E256) K281 (allS (((hg280.elim (fun e_ => by rw [e_]; exact hg178) (fun h_ => Or.inr (Nat.le_trans z316 h_))) : gg279 = b146 ∨ w151.heap.size ≤ gg279).elim (fun e_ => Or.inl (by rw [hq162, e_]; simp)) Or.inr) all0)), ⟨Lm248, gg294, MX.cast hz318 (by (try dsimp only); first | exact quw_a hed.2.1 h3 | exact quw_f hed.2.1 h3 htu | exact quw_t hed.2.1 h3 htu (by assumption) (by assumption) (by assumption)), (fun c_ hc_ => ((hs250 _ hc_).elim (fun h_ => ((hs177 _ h_).elim (fun h_ => Or.inl h_) (fun h_ => Or.inr (Nat.le_trans (Nat.le_refl _) h_)))) (fun h_ => Or.inr (Nat.le_trans z239 h_)))), (hg295.elim (fun e_ => by rw [e_]; exact hg178) (fun h_ => Or.inr (Nat.le_trans z316 h_))), (fun hc_ => absurd hc_ hni310), hlt305, fun B_ => Own.cast (hO317 B_) (by (try dsimp only); first | exact triP_put hed.2.1 h3 | exact triP_nil h3)⟩, ?_⟩, ?_⟩
     ·first | rfl | (simp only [Int.natCast_add, Int.natCast_one]; rfl)
     ·(try dsimp only); omega
     ·omega
    have c315' := c315
    (try simp only [icmp, bs] at c315')
    have h3 : i % 3 = 2 := by have hc_ := c315'; simp only [List.length_append, List.length_cons, List.length_nil, triP_len] at hc_; omega
    have hlth3 : (((triP S.1 (keysQ A_g x y z q_.toNat) i) ++ [(numK (addK ((ksA S.1 (keysQ A_g x y z q_.toNat) i, S.2 ++ trsA S.1 (keysQ A_g x y z q_.toNat) (tuQ q_.toNat) (i / 3))).1 (keyE A_g x y z (min el5 el7) (max el7 el5))) (keyE A_g x y z (min el5 el7) (max el7 el5)))]).length) = 3 := by simp only [List.length_append, List.length_cons, List.length_nil, triP_len]; omega
    refine wp_skip (K313 _ _ ?_)
    refine ws fun _ K319 => ?_
    refine wr fun _ K320 => ?_
    refine jm (Bo (tuQ q_.toNat)) ?_
    refine wn K320 ?_
    refine wp_cond_split (t := tuQ q_.toNat) (ev rfl) (fun c321 => ?_) (fun c321 => ?_)
    ·have c321' := c321
     have htu : tuQ q_.toNat = true := c321
     obtain ⟨gr322, hp323, hg328, hR325, hcap326⟩ := Own.rowg (show Own RI 1 2 gg294 w278.heap.size w278 (.slice p291 (((triP S.1 (keysQ A_g x y z q_.toNat) i) ++ [(numK (addK ((ksA S.1 (keysQ A_g x y z q_.toNat) i, S.2 ++ trsA S.1 (keysQ A_g x y z q_.toNat) (tuQ q_.toNat) (i / 3))).1 (keyE A_g x y z (min el5 el7) (max el7 el5))) (keyE A_g x y z (min el5 el7) (max el7 el5)))]).length) q292) ((triP S.1 (keysQ A_g x y z q_.toNat) i) ++ [(numK (addK ((ksA S.1 (keysQ A_g x y z q_.toNat) i, S.2 ++ trsA S.1 (keysQ A_g x y z q_.toNat) (tuQ q_.toNat) (i / 3))).1 (keyE A_g x y z (min el5 el7) (max el7 el5))) (keyE A_g x y z (min el5 el7) (max el7 el5)))]) from (hA297 _)) (by omega)
     have he329 : gr322 = gg294 := hg328.resolve_right (fun h_ => absurd (RowG.lt hR325) (Nat.not_lt_of_le h_))
     have hB327 : w139.heap.size ≤ gr322 := by rcases hg328 with h | h; exact h ▸ hN306; exact Nat.le_trans z311 h
     subst hp323
     obtain ⟨el8, hel8⟩ : ∃ e, ((triP S.1 (keysQ A_g x y z q_.toNat) i) ++ [(numK (addK ((ksA S.1 (keysQ A_g x y z q_.toNat) i, S.2 ++ trsA S.1 (keysQ A_g x y z q_.toNat) (tuQ q_.toNat) (i / 3))).1 (keyE A_g x y z (min el5 el7) (max el7 el5))) (keyE A_g x y z (min el5 el7) (max el7 el5)))])[0]? = some e := ⟨_, List.getElem?_eq_getElem (by first | assumption | omega | (simp only [flE_len, List.length_set, List.length_replicate]; omega) | (simp only [flE_len, List.length_set, List.length_replicate]; done) | exact rfl)⟩
     obtain ⟨el9, hel9⟩ : ∃ e, ((triP S.1 (keysQ A_g x y z q_.toNat) i) ++ [(numK (addK ((ksA S.1 (keysQ A_g x y z q_.toNat) i, S.2 ++ trsA S.1 (keysQ A_g x y z q_.toNat) (tuQ q_.toNat) (i / 3))).1 (keyE A_g x y z (min el5 el7) (max el7 el5))) (keyE A_g x y z (min el5 el7) (max el7 el5)))])[2]? = some e := ⟨_, List.getElem?_eq_getElem (by first | assumption | omega | (simp only [flE_len, List.length_set, List.length_replicate]; omega) | (simp only [flE_len, List.length_set, List.length_replicate]; done) | exact rfl)⟩
     obtain ⟨el10, hel10⟩ : ∃ e, ((triP S.1 (keysQ A_g x y z q_.toNat) i) ++ [(numK (addK ((ksA S.1 (keysQ A_g x y z q_.toNat) i, S.2 ++ trsA S.1 (keysQ A_g x y z q_.toNat) (tuQ q_.toNat) (i / 3))).1 (keyE A_g x y z (min el5 el7) (max el7 el5))) (keyE A_g x y z (min el5 el7) (max el7 el5)))])[1]? = some e := ⟨_, List.getElem?_eq_getElem (by first | assumption | omega | (simp only [flE_len, List.length_set, List.length_replicate]; omega) | (simp only [flE_len, List.length_set, List.length_replicate]; done) | exact rfl)⟩
     refine region_draw (
      [Fact.pure [] (fun v => v = (.slice (some ⟨gr322, 0, none⟩) (((triP S.1 (keysQ A_g x y z q_.toNat) i) ++ [(numK (addK ((ksA S.1 (keysQ A_g x y z q_.toNat) i, S.2 ++ trsA S.1 (keysQ A_g x y z q_.toNat) (tuQ q_.toNat) (i / 3))).1 (keyE A_g x y z (min el5 el7) (max el7 el5))) (keyE A_g x y z (min el5 el7) (max el7 el5)))]).length) q292)),
  Fact.pure [97] (fun v => v = (Pt gr322 (0 * 1))),
  Fact.pure [98] (fun v => v = (Iv el8)),
  Fact.pure [] (fun v => v = (.slice (some ⟨gr322, 0, none⟩) (((triP S.1 (keysQ A_g x y z q_.toNat) i) ++ [(numK (addK ((ksA S.1 (keysQ A_g x y z q_.toNat) i, S.2 ++ trsA S.1 (keysQ A_g x y z q_.toNat) (tuQ q_.toNat) (i / 3))).1 (keyE A_g x y z (min el5 el7) (max el7 el5))) (keyE A_g x y z (min el5 el7) (max el7 el5)))]).length) q292)),
  Fact.pure [100] (fun v => v = (Pt gr322 (2 * 1))),
  Fact.pure [101] (fun v => v = (Iv el9)),
  Fact.pure [] (fun v => v = (.slice (some ⟨gr322, 0, none⟩) (((triP S.1 (keysQ A_g x y z q_.toNat) i) ++ [(numK (addK ((ksA S.1 (keysQ A_g x y z q_.toNat) i, S.2 ++ trsA S.1 (keysQ A_g x y z q_.toNat) (tuQ q_.toNat) (i / 3))).1 (keyE A_g x y z (min el5 el7) (max el7 el5))) (keyE A_g x y z (min el5 el7) (max el7 el5)))]).length) q292)),
  Fact.pure [103] (fun v => v = (Pt gr322 (1 * 1))),
  Fact.pure [104] (fun v => v = (Iv el10)),
  Fact.mem [99, 102, 105] (fun v w' => ∃ b : Nat, v = .slice (some ⟨b, 0, none⟩) 3 3 ∧ w278.heap.size ≤ b ∧ Blk w' b [(Iv el8), (Iv el9), (Iv el10)]) (by rintro v w1 w2 hx ⟨b, rfl, hb, hB⟩; exact ⟨b, rfl, hb, (hB.ext hx)⟩)]) mixed (by kernel_rfl) (by intro _ _ d _ _ h; cases d <;> exact h) ?_
     obtain ⟨w333, hw335⟩ : ∃ w', w' = World.drew w278 := ⟨_, rfl⟩; rw [← hw335]; have E334 : Ext w278 w333 := by rw [hw335]; exact Ext.draw _
     clear hw335
     refine R_p (fun u hu _ => does_move (u := (.slice (some ⟨gr322, 0, none⟩) (((triP S.1 (keysQ A_g x y z q_.toNat) i) ++ [(numK (addK ((ksA S.1 (keysQ A_g x y z q_.toNat) i, S.2 ++ trsA S.1 (keysQ A_g x y z q_.toNat) (tuQ q_.toNat) (i / 3))).1 (keyE A_g x y z (min el5 el7) (max el7 el5))) (keyE A_g x y z (min el5 el7) (max el7 el5)))]).length) q292)) (ev rfl)) fun v337 => ?_
     refine R_p (fun u hu hF => ?_) fun v338 => ?_
     · have h97_ : v337 = (.slice (some ⟨gr322, 0, none⟩) (((triP S.1 (keysQ A_g x y z q_.toNat) i) ++ [(numK (addK ((ksA S.1 (keysQ A_g x y z q_.toNat) i, S.2 ++ trsA S.1 (keysQ A_g x y z q_.toNat) (tuQ q_.toNat) (i / 3))).1 (keyE A_g x y z (min el5 el7) (max el7 el5))) (keyE A_g x y z (min el5 el7) (max el7 el5)))]).length) q292) := hF.1
       clear hF; subst h97_
       exact does_indexOwn (b := gr322) (n := ((triP S.1 (keysQ A_g x y z q_.toNat) i) ++ [(numK (addK ((ksA S.1 (keysQ A_g x y z q_.toNat) i, S.2 ++ trsA S.1 (keysQ A_g x y z q_.toNat) (tuQ q_.toNat) (i / 3))).1 (keyE A_g x y z (min el5 el7) (max el7 el5))) (keyE A_g x y z (min el5 el7) (max el7 el5)))]).length) (i := 0) Try.underlying65 Try.sizeOf2 (ev rfl) (ev rfl) (by omega) (by omega)
     refine R_p (fun u hu hF => ?_) fun v339 => ?_
     · have h98_ : v338 = (Pt gr322 (0 * 1)) := hF.1
       clear hF; subst h98_
       exact does_loadRowI (xs := ((triP S.1 (keysQ A_g x y z q_.toNat) i) ++ [(numK (addK ((ksA S.1 (keysQ A_g x y z q_.toNat) i, S.2 ++ trsA S.1 (keysQ A_g x y z q_.toNat) (tuQ q_.toNat) (i / 3))).1 (keyE A_g x y z (min el5 el7) (max el7 el5))) (keyE A_g x y z (min el5 el7) (max el7 el5)))])) (i := 0) (e := el8) (ev rfl) Try.isAgg2 (RowG.ext (RowG.ext hR325 RI.flat E334) RI.flat hu) rfl hel8
     refine R_p (fun u hu _ => does_move (u := (.slice (some ⟨gr322, 0, none⟩) (((triP S.1 (keysQ A_g x y z q_.toNat) i) ++ [(numK (addK ((ksA S.1 (keysQ A_g x y z q_.toNat) i, S.2 ++ trsA S.1 (keysQ A_g x y z q_.toNat) (tuQ q_.toNat) (i / 3))).1 (keyE A_g x y z (min el5 el7) (max el7 el5))) (keyE A_g x y z (min el5 el7) (max el7 el5)))]).length) q292)) (ev rfl)) fun v340 => ?_
     refine R_p (fun u hu hF => ?_) fun v341 => ?_
     · have h100_ : v340 = (.slice (some ⟨gr322, 0, none⟩) (((triP S.1 (keysQ A_g x y z q_.toNat) i) ++ [(numK (addK ((ksA S.1 (keysQ A_g x y z q_.toNat) i, S.2 ++ trsA S.1 (keysQ A_g x y z q_.toNat) (tuQ q_.toNat) (i / 3))).1 (keyE A_g x y z (min el5 el7) (max el7 el5))) (keyE A_g x y z (min el5 el7) (max el7 el5)))]).length) q292) := hF.1
       clear hF; subst h100_
       exact does_indexOwn (b := gr322) (n := ((triP S.1 (keysQ A_g x y z q_.toNat) i) ++ [(numK (addK ((ksA S.1 (keysQ A_g x y z q_.toNat) i, S.2 ++ trsA S.1 (keysQ A_g x y z q_.toNat) (tuQ q_.toNat) (i / 3))).1 (keyE A_g x y z (min el5 el7) (max el7 el5))) (keyE A_g x y z (min el5 el7) (max el7 el5)))]).length) (i := 2) Try.underlying65 Try.sizeOf2 (ev rfl) (ev rfl) (by omega) (by omega)
     refine R_p (fun u hu hF => ?_) fun v342 => ?_
     · have h101_ : v341 = (Pt gr322 (2 * 1)) := hF.1
       clear hF; subst h101_
       exact does_loadRowI (xs := ((triP S.1 (keysQ A_g x y z q_.toNat) i) ++ [(numK (addK ((ksA S.1 (keysQ A_g x y z q_.toNat) i, S.2 ++ trsA S.1 (keysQ A_g x y z q_.toNat) (tuQ q_.toNat) (i / 3))).1 (keyE A_g x y z (min el5 el7) (max el7 el5))) (keyE A_g x y z (min el5 el7) (max el7 el5)))])) (i := 2) (e := el9) (ev rfl) Try.isAgg2 (RowG.ext (RowG.ext hR325 RI.flat E334) RI.flat hu) rfl hel9
     refine R_p (fun u hu _ => does_move (u := (.slice (some ⟨gr322, 0, none⟩) (((triP S.1 (keysQ A_g x y z q_.toNat) i) ++ [(numK (addK ((ksA S.1 (keysQ A_g x y z q_.toNat) i, S.2 ++ trsA S.1 (keysQ A_g x y z q_.toNat) (tuQ q_.toNat) (i / 3))).1 (keyE A_g x y z (min el5 el7) (max el7 el5))) (keyE A_g x y z (min el5 el7) (max el7 el5)))]).length) q292)) (ev rfl)) fun v343 => ?_
     refine R_p (fun u hu hF => ?_) fun v344 => ?_
     · have h103_ : v343 = (.slice (some ⟨gr322, 0, none⟩) (((triP S.1 (keysQ A_g x y z q_.toNat) i) ++ [(numK (addK ((ksA S.1 (keysQ A_g x y z q_.toNat) i, S.2 ++ trsA S.1 (keysQ A_g x y z q_.toNat) (tuQ q_.toNat) (i / 3))).1 (keyE A_g x y z (min el5 el7) (max el7 el5))) (keyE A_g x y z (min el5 el7) (max el7 el5)))]).length) q292) := hF.1
       clear hF; subst h103_
       exact does_indexOwn (b := gr322) (n := ((triP S.1 (keysQ A_g x y z q_.toNat) i) ++ [(numK (addK ((ksA S.1 (keysQ A_g x y z q_.toNat) i, S.2 ++ trsA S.1 (keysQ A_g x y z q_.toNat) (tuQ q_.toNat) (i / 3))).1 (keyE A_g x y z (min el5 el7) (max el7 el5))) (keyE A_g x y z (min el5 el7) (max el7 el5)))]).length) (i := 1) Try.underlying65 Try.sizeOf2 (ev rfl) (ev rfl) (by omega) (by omega)
     refine R_p (fun u hu hF => ?_) fun v345 => ?_
     · have h104_ : v344 = (Pt gr322 (1 * 1)) := hF.1
       clear hF; subst h104_
       exact does_loadRowI (xs := ((triP S.1 (keysQ A_g x y z q_.toNat) i) ++ [(numK (addK ((ksA S.1 (keysQ A_g x y z q_.toNat) i, S.2 ++ trsA S.1 (keysQ A_g x y z q_.toNat) (tuQ q_.toNat) (i / 3))).1 (keyE A_g x y z (min el5 el7) (max el7 el5))) (keyE A_g x y z (min el5 el7) (max el7 el5)))])) (i := 1) (e := el10) (ev rfl) Try.isAgg2 (RowG.ext (RowG.ext hR325 RI.flat E334) RI.flat hu) rfl hel10
     refine R_d (fun u hu hF => ?_) (fun v346 => ?_)
     ·have h99_ : v339 = (Iv el8) := hF.1
      have h102_ : v342 = (Iv el9) := hF.2.1
      have h105_ : v345 = (Iv el10) := hF.2.2.1
      clear hF
      refine doesG_un rfl ?_
      obtain rfl := h99_
      obtain rfl := h102_
      obtain rfl := h105_
      refine (does_buildSlice (e := 2) (parts' := [(0, (Iv el8)), (1, (Iv el9)), (2, (Iv el10))]) (cells := [(Iv el8), (Iv el9), (Iv el10)]) (evp rfl) (fun _ => by kernel_rfl)).mono ?_; rintro _ _ ⟨b, rfl, hb, hB, hx⟩
      exact ⟨⟨b, rfl, Nat.le_trans (Nat.le_trans (Below.size E334) (Below.size hu)) hb, hB⟩, hx⟩
     refine RW_fin ?_; intro w347 E348 hP349
     obtain ⟨⟨⟨⟨⟨⟨⟨⟨⟨⟨-, -⟩, -⟩, -⟩, -⟩, -⟩, -⟩, -⟩, -⟩, -⟩, q350⟩ := hP349
     have q350 : ∃ b : Nat, v346 = .slice (some ⟨b, 0, none⟩) 3 3 ∧ w278.heap.size ≤ b ∧ Blk w347 b [(Iv el8), (Iv el9), (Iv el10)] := q350
     obtain ⟨b352, rfl, hb353, hB354⟩ := q350
     refine fz ?_
     refine ja (.slice (some ⟨b352, 0, none⟩) 3 3) ?_
     refine wn K319 ?_
     refine ws fun _ K364 => ?_
     have z365 := (Nat.le_trans (Below.size E334) (Below.size E348))
     have hR375 := RowG.lit3 hB354
     have hz381 := (MX.ext KW.good (MX.ext KW.good (MX.kl KW.good (MX.ext KW.good hX249 E256) K281 (fun c_ hc_ hm_ => (List.mem_cons.1 hm_).elim (fun e_ => (fun hc_ => absurd hc_ hni283) (e_ ▸ hc_)) (fun hm_ => nomatch hm_))) E334) E348)
     obtain ⟨vp376, vt377, mb378, Lt379, hq380⟩ := hz381
     refine wp_region_lit ?_
     refine jm (Pt b_ 0) ?_
     refine jm (Pt b_ 0) ?_
     refine jj (does_nilCheck (ev rfl)) ?_
     refine jj (does_fieldAddr (ev rfl) fa67_0) ?_
     refine jj (does_fieldAddr (ev rfl) fa32_1) ?_
     refine jj (does_load (u := vt377) (ev rfl) Try.isAgg30 (Cells.at (Blk.cells (show Blk _ _ [vp376, vt377, (.slice (some ⟨mb378, 0, none⟩) (8 * A_g.vals.length) cap)] from hq380.2.2.2.1)) 1 rfl)) ?_
     refine jm (.slice (some ⟨b352, 0, none⟩) 3 3) ?_
     refine sd (does_buildSlice (e := 65) (parts' := [(0, (.slice (some ⟨b352, 0, none⟩) 3 3))]) (cells := [(.slice (some ⟨b352, 0, none⟩) 3 3)]) (evp rfl) (fun _ => by kernel_rfl)) ?_; rintro _ w388 ⟨b384, rfl, hb385, hB386, E387⟩
     refine fz ?_
     have z401 := (Nat.le_trans (Below.size E256) (KpL.size K281))
     have z402 := (Nat.le_trans (Nat.le_trans (Nat.le_trans (Nat.le_trans (Nat.le_trans (Nat.le_trans (Nat.le_trans z167 (Below.size E150)) (KpL.size E171)) (Below.size E232)) (Below.size E235)) (KpL.size K247)) (Below.size E256)) (KpL.size K281))
     refine sd (does_appT (K := KW 35 65 cap A_g) (tr := ([el8, el9, el10])) (c1 := b352) KW.good Try.underlying30 inf65 rfl (ev rfl) (ev rfl) (MXq.ext KW.good hq380 E387) hB386 (InS.row (RowG.ext hR375 RI.flat E387) (by first | assumption | omega | (simp only [flE_len, List.length_set, List.length_replicate]; omega) | (simp only [flE_len, List.length_set, List.length_replicate]; done) | exact rfl) (Nat.le_refl _) (by omega)) (fun hc_ => absurd (Nat.lt_of_lt_of_le ((MX.bnd hX249) _ hc_).2 (Nat.le_trans z401 hb353)) (Nat.lt_irrefl _)) (Nat.le_trans z402 hb353) (by simp only [List.length_append, trsA, List.length_map, List.length_range]; omega)) ?_; rintro vt408 w407 ⟨K403, Lm404, hq405, hs406⟩
     obtain ⟨p420, n421, q422, rfl⟩ := MXq.shape hq405
     have z425 := (Nat.le_trans z365 (Below.size E387))
     have hs424 : ∀ c_ ∈ Lm404, c_ ∈ Lm248 ∨ w278.heap.size ≤ c_ := fun c_ hc_ => (hs406 c_ hc_).imp id (fun h_ => h_.elim (fun e_ => by rw [e_]; exact hb353) (fun h_ => Nat.le_trans z425 h_))
     obtain ⟨Lx426, hq427⟩ : ∃ l, l = b352 :: Lm248 := ⟨_, rfl⟩
     have hs428 : ∀ c_ ∈ Lm404, c_ ∈ Lx426 ∨ w388.heap.size ≤ c_ := fun c_ hc_ => (hs406 c_ hc_).elim (fun h_ => .inl (by rw [hq427]; exact List.mem_cons_of_mem _ h_)) (fun h_ => h_.elim (fun e_ => .inl (by rw [hq427, e_]; exact List.mem_cons_self)) .inr)
     refine fz ?_
     refine jj (does_nilCheck (ev rfl)) ?_
     refine jj (does_fieldAddr (ev rfl) fa67_0) ?_
     refine jj (does_fieldAddr (ev rfl) fa32_1) ?_
     refine sn (does_store (n := 1) (cs := [vp376, vt377, (.slice (some ⟨mb378, 0, none⟩) (8 * A_g.vals.length) cap)]) (u := (.slice p420 n421 q422)) (ev rfl) (ev rfl) Try.sizeOf30 rfl (show Blk _ _ [vp376, vt377, (.slice (some ⟨mb378, 0, none⟩) (8 * A_g.vals.length) cap)] from hq405.2.2.2.1) (Nat.le_of_ble_eq_true rfl) rfl) ?_; rintro _ w431 ⟨rfl, W429, hB430⟩
     change Blk _ _ [vp376, (.slice p420 n421 q422), (.slice (some ⟨mb378, 0, none⟩) (8 * A_g.vals.length) cap)] at hB430
     have hX432 := MXq.close KW.good hq405 W429 hB430
     have K433 : KpL Lm404 _ _ := (KpL.of_wr W429).mono (fun c_ hc_ => by rw [List.mem_singleton] at hc_; rw [hc_, hq405.1]; exact FP_mem.2 (.inl (by simp)))
     refine wn K364 ?_
     refine wp_region_lit ?_
     refine sd (does_slice0 (e := 2) (fun _ => by kernel_rfl)) ?_; rintro _ w440 ⟨b435, rfl, hb436, hl437, hO438, E439⟩
     have hO451 := hO438 _ RI 1
     refine fz ?_
     refine ja (.slice (some ⟨b435, 0, none⟩) 0 0) ?_
     refine wn K191 ?_
     refine wp_region_lit ?_
     refine jj (does_iarith (p := (i : Int)) (q := 1) (r := (i : Int) + 1) (ev rfl) (ev rfl) (.inl ⟨rfl, (in_i64 (by omega) (by omega)).symm⟩)) ?_
     refine jm (Iv ((i : Int) + 1)) ?_
     refine wpList_nil ?_
     have z453 := (Nat.le_trans (Nat.le_trans z239 (KpL.size K247)) (Below.size E256))
     have z454 := (Nat.le_trans z453 (KpL.size K281))
     have z455 := (Nat.le_trans (Nat.le_trans (Nat.le_trans z454 (Below.size E334)) (Below.size E348)) (Below.size E387))
     have hO456 := (fun (B_ : Nat) => Own.reB (C := B_) hO451)
     have z457 := (Nat.le_trans (Nat.le_trans z455 (KpL.size K403)) (KpL.size K433))
     refine ⟨i + 1, ⟨pk [(18, Iv (i : Int)), (19, Iv el5), (20, Iv el7), (58, Bo (icmp .lss (i : Int) (((flE (edB ((inQ A_g x y z q_.toNat).take k))).length) : Int))), (59, Iv (i : Int)), (60, (.slice p20 ((cnQ q_.toNat).length) q21)), (61, (.slice p143 ((flE (edB ((inQ A_g x y z q_.toNat).take k))).length) q144)), (62, Iv (i : Int)), (63, Pt b195 o196), (64, (.slice p201 el3.length q202)), (65, Pt b204 o205), (66, Iv el4), (67, Pt b209 o210), (68, Iv el5), (69, (.slice p20 ((cnQ q_.toNat).length) q21)), (70, (.slice p143 ((flE (edB ((inQ A_g x y z q_.toNat).take k))).length) q144)), (71, Iv (i : Int)), (72, Pt b214 o215), (73, (.slice p220 el3.length q221)), (74, Pt b223 o224), (75, Iv el6), (76, Pt b227 o228), (77, Iv el7), (78, (.slice p182 ((triP S.1 (keysQ A_g x y z q_.toNat) i).length) q183)), (79, Pt b_ 0), (80, Pt g_b g_o), (81, Iv x), (82, Iv y), (83, Iv z), (84, Iv el5), (85, Iv el7), (86, Iv (min el5 el7)), (87, Iv el5), (88, Iv el7), (89, Iv (max el7 el5)), (90, Iv (numK (addK ((ksA S.1 (keysQ A_g x y z q_.toNat) i, S.2 ++ trsA S.1 (keysQ A_g x y z q_.toNat) (tuQ q_.toNat) (i / 3))).1 (keyE A_g x y z (min el5 el7) (max el7 el5))) (keyE A_g x y z (min el5 el7) (max el7 el5)))), (91, (.slice (some ⟨b253, 0, none⟩) 1 1)), (92, (.slice (some ⟨gr322, 0, none⟩) (((triP S.1 (keysQ A_g x y z q_.toNat) i) ++ [(numK (addK ((ksA S.1 (keysQ A_g x y z q_.toNat) i, S.2 ++ trsA S.1 (keysQ A_g x y z q_.toNat) (tuQ q_.toNat) (i / 3))).1 (keyE A_g x y z (min el5 el7) (max el7 el5))) (keyE A_g x y z (min el5 el7) (max el7 el5)))]).length) q292)), (93, (.slice (some ⟨gr322, 0, none⟩) (((triP S.1 (keysQ A_g x y z q_.toNat) i) ++ [(numK (addK ((ksA S.1 (keysQ A_g x y z q_.toNat) i, S.2 ++ trsA S.1 (keysQ A_g x y z q_.toNat) (tuQ q_.toNat) (i / 3))).1 (keyE A_g x y z (min el5 el7) (max el7 el5))) (keyE A_g x y z (min el5 el7) (max el7 el5)))]).length) q292)), (94, Iv ((((triP S.1 (keysQ A_g x y z q_.toNat) i) ++ [(numK (addK ((ksA S.1 (keysQ A_g x y z q_.toNat) i, S.2 ++ trsA S.1 (keysQ A_g x y z q_.toNat) (tuQ q_.toNat) (i / 3))).1 (keyE A_g x y z (min el5 el7) (max el7 el5))) (keyE A_g x y z (min el5 el7) (max el7 el5)))]).length) : Int)), (95, Bo (icmp .lss ((((triP S.1 (keysQ A_g x y z q_.toNat) i) ++ [(numK (addK ((ksA S.1 (keysQ A_g x y z q_.toNat) i, S.2 ++ trsA S.1 (keysQ A_g x y z q_.toNat) (tuQ q_.toNat) (i / 3))).1 (keyE A_g x y z (min el5 el7) (max el7 el5))) (keyE A_g x y z (min el5 el7) (max el7 el5)))]).length) : Int) 3)), (96, Bo (tuQ q_.toNat)), (97, v337), (98, v338), (99, v339), (100, v340), (101, v341), (102, v342), (103, v343), (104, v344), (105, v345), (106, (.slice (some ⟨b352, 0, none⟩) 3 3)), (107, Pt b_ 0), (108, Pt b_ 0), (109, Pt b_ 0), (110, Pt b_ 0), (111, Pt b_ 1), (112, vt377), (113, (.slice (some ⟨b352, 0, none⟩) 3 3)), (114, (.slice (some ⟨b384, 0, none⟩) 1 1)), (115, (.slice p420 n421 q422)), (116, Pt b_ 0), (117, Pt b_ 0), (118, Pt b_ 1), (119, (.slice (some ⟨b435, 0, none⟩) 0 0)), (120, Iv ((i : Int) + 1))], (.slice (some ⟨b435, 0, none⟩) 0 0), ?_, (KpL.ext (KpL.more (KpL.more (KpL.ext (KpL.ext (KpL.ext (KpL.more (KpL.ext (KpL.more (KpL.ext (KpL.ext E171 E232) E235) K247 (fun c_ hc_ => ((hs177 _ hc_).elim (fun h_ => Or.inl h_) (fun h_ => Or.inr (Nat.le_trans (Nat.le_refl _) h_))))) E256) K281 (allS (((hg280.elim (fun e_ => by rw [e_]; exact hg178) (fun h_ => Or.inr (Nat.le_trans z453 h_))) : gg279 = b146 ∨ w151.heap.size ≤ gg279).elim (fun e_ => Or.inl (by rw [hq162, e_]; simp)) Or.inr) all0)) E334) E348) E387) K403 (fun c_ hc_ => ((hs250 _ hc_).elim (fun h_ => ((hs177 _ h_).elim (fun h_ => Or.inl h_) (fun h_ => Or.inr (Nat.le_trans (Nat.le_refl _) h_)))) (fun h_ => Or.inr (Nat.le_trans z239 h_))))) K433 (fun c_ hc_ => ((hs428 _ hc_).elim (fun h_ => ((List.mem_cons.1 (hq427 ▸ h_)).elim (fun h_ => (by rw [h_]; exact (((Or.inr (Nat.le_trans z454 hb353)) : b352 = b146 ∨ w151.heap.size ≤ b352).elim (fun e_ => Or.inl (by rw [hq162, e_]; simp)) Or.inr))) (fun h_ => ((hs250 _ h_).elim (fun h_ => ((hs177 _ h_).elim (fun h_ => Or.inl h_) (fun h_ => Or.inr (Nat.le_trans (Nat.le_refl _) h_)))) (fun h_ => Or.inr (Nat.le_trans z239 h_)))))) (fun h_ => Or.inr (Nat.le_trans z455 h_))))) E439), ⟨Lm404, b435, MX.cast (MX.ext KW.good hX432 E439) (by (try dsimp only); first | exact quw_a hed.2.1 h3 | exact quw_f hed.2.1 h3 htu | exact quw_t hed.2.1 h3 htu (by assumption) (by assumption) (by assumption)), (fun c_ hc_ => ((hs428 _ hc_).elim (fun h_ => ((List.mem_cons.1 (hq427 ▸ h_)).elim (fun h_ => (by rw [h_]; exact (((Or.inr (Nat.le_trans z454 hb353)) : b352 = b146 ∨ w151.heap.size ≤ b352).elim (fun e_ => Or.inl (by rw [hq162, e_]; simp)) Or.inr))) (fun h_ => ((hs250 _ h_).elim (fun h_ => ((hs177 _ h_).elim (fun h_ => Or.inl h_) (fun h_ => Or.inr (Nat.le_trans (Nat.le_refl _) h_)))) (fun h_ => Or.inr (Nat.le_trans z239 h_)))))) (fun h_ => Or.inr (Nat.le_trans z455 h_)))), (Or.inr (Nat.le_trans z457 hb436)), (fun hc_ => absurd (Nat.lt_of_lt_of_le ((MX.bnd hX432) _ hc_).2 (Nat.le_trans (Nat.le_refl _) hb436)) (Nat.lt_irrefl _)), (Nat.lt_of_lt_of_le hl437 (Nat.le_refl _)), fun B_ => Own.cast (hO456 B_) (by (try dsimp only); first | exact triP_put hed.2.1 h3 | exact triP_nil h3)⟩, ?_⟩, ?_⟩
     ·first | rfl | (simp only [Int.natCast_add, Int.natCast_one]; rfl)
     ·(try dsimp only); omega
     ·omega
    have c321' := c321
    have htu : tuQ q_.toNat = false := c321
    refine wp_skip (K319 _ _ ?_)
    refine ws fun _ K458 => ?_
    obtain ⟨gr459, hp460, hg465, hR462, hcap463⟩ := Own.rowg (show Own RI 1 2 gg294 w278.heap.size w278 (.slice p291 (((triP S.1 (keysQ A_g x y z q_.toNat) i) ++ [(numK (addK ((ksA S.1 (keysQ A_g x y z q_.toNat) i, S.2 ++ trsA S.1 (keysQ A_g x y z q_.toNat) (tuQ q_.toNat) (i / 3))).1 (keyE A_g x y z (min el5 el7) (max el7 el5))) (keyE A_g x y z (min el5 el7) (max el7 el5)))]).length) q292) ((triP S.1 (keysQ A_g x y z q_.toNat) i) ++ [(numK (addK ((ksA S.1 (keysQ A_g x y z q_.toNat) i, S.2 ++ trsA S.1 (keysQ A_g x y z q_.toNat) (tuQ q_.toNat) (i / 3))).1 (keyE A_g x y z (min el5 el7) (max el7 el5))) (keyE A_g x y z (min el5 el7) (max el7 el5)))]) from (hA297 _)) (by omega)
    have he466 : gr459 = gg294 := hg465.resolve_right (fun h_ => absurd (RowG.lt hR462) (Nat.not_lt_of_le h_))
    have hni467 : gr459 ∉ Lm248 := by rw [he466]; exact (fun hc_ => absurd hc_ hni310)
    have hB464 : w139.heap.size ≤ gr459 := by rcases hg465 with h | h; exact h ▸ hN306; exact Nat.le_trans z311 h
    subst hp460
    have hz475 := (MX.kl KW.good (MX.ext KW.good hX249 E256) K281 (fun c_ hc_ hm_ => (List.mem_cons.1 hm_).elim (fun e_ => (fun hc_ => absurd hc_ hni283) (e_ ▸ hc_)) (fun hm_ => nomatch hm_)))
    obtain ⟨vp470, vt471, mb472, Lt473, hq474⟩ := hz475
    refine wp_region_lit ?_
    refine jm (Pt b_ 0) ?_
    refine jm (Pt b_ 0) ?_
    refine jj (does_nilCheck (ev rfl)) ?_
    refine jj (does_fieldAddr (ev rfl) fa67_0) ?_
    refine jj (does_fieldAddr (ev rfl) fa32_1) ?_
    refine jj (does_load (u := vt471) (ev rfl) Try.isAgg30 (Cells.at (Blk.cells (show Blk _ _ [vp470, vt471, (.slice (some ⟨mb472, 0, none⟩) (8 * A_g.vals.length) cap)] from hq474.2.2.2.1)) 1 rfl)) ?_
    refine jm (.slice (some ⟨gr459, 0, none⟩) (((triP S.1 (keysQ A_g x y z q_.toNat) i) ++ [(numK (addK ((ksA S.1 (keysQ A_g x y z q_.toNat) i, S.2 ++ trsA S.1 (keysQ A_g x y z q_.toNat) (tuQ q_.toNat) (i / 3))).1 (keyE A_g x y z (min el5 el7) (max el7 el5))) (keyE A_g x y z (min el5 el7) (max el7 el5)))]).length) q292) ?_
    refine sd (does_buildSlice (e := 65) (parts' := [(0, (.slice (some ⟨gr459, 0, none⟩) (((triP S.1 (keysQ A_g x y z q_.toNat) i) ++ [(numK (addK ((ksA S.1 (keysQ A_g x y z q_.toNat) i, S.2 ++ trsA S.1 (keysQ A_g x y z q_.toNat) (tuQ q_.toNat) (i / 3))).1 (keyE A_g x y z (min el5 el7) (max el7 el5))) (keyE A_g x y z (min el5 el7) (max el7 el5)))]).length) q292))]) (cells := [(.slice (some ⟨gr459, 0, none⟩) (((triP S.1 (keysQ A_g x y z q_.toNat) i) ++ [(numK (addK ((ksA S.1 (keysQ A_g x y z q_.toNat) i, S.2 ++ trsA S.1 (keysQ A_g x y z q_.toNat) (tuQ q_.toNat) (i / 3))).1 (keyE A_g x y z (min el5 el7) (max el7 el5))) (keyE A_g x y z (min el5 el7) (max el7 el5)))]).length) q292)]) (evp rfl) (fun _ => by kernel_rfl)) ?_; rintro _ w482 ⟨b478, rfl, hb479, hB480, E481⟩
    refine fz ?_
    refine sd (does_appT (K := KW 35 65 cap A_g) (tr := ((triP S.1 (keysQ A_g x y z q_.toNat) i) ++ [(numK (addK ((ksA S.1 (keysQ A_g x y z q_.toNat) i, S.2 ++ trsA S.1 (keysQ A_g x y z q_.toNat) (tuQ q_.toNat) (i / 3))).1 (keyE A_g x y z (min el5 el7) (max el7 el5))) (keyE A_g x y z (min el5 el7) (max el7 el5)))])) (c1 := gr459) KW.good Try.underlying30 inf65 rfl (ev rfl) (ev rfl) (MXq.ext KW.good hq474 E481) hB480 (InS.row (RowG.ext hR462 RI.flat E481) (by first | assumption | omega | (simp only [flE_len, List.length_set, List.length_replicate]; omega) | (simp only [flE_len, List.length_set, List.length_replicate]; done) | exact rfl) hcap463 (by omega)) (fun hc_ => absurd hc_ hni467) (Nat.le_trans z167 hB464) (by simp only [List.length_append, trsA, List.length_map, List.length_range]; omega)) ?_; rintro vt499 w498 ⟨K494, Lm495, hq496, hs497⟩
    obtain ⟨p510, n511, q512, rfl⟩ := MXq.shape hq496
    have z515 := (Nat.le_trans z311 (Below.size E481))
    have hs514 : ∀ c_ ∈ Lm495, c_ ∈ Lm248 ∨ w139.heap.size ≤ c_ := fun c_ hc_ => (hs497 c_ hc_).imp id (fun h_ => h_.elim (fun e_ => by rw [e_]; exact hB464) (fun h_ => Nat.le_trans z515 h_))
    obtain ⟨Lx516, hq517⟩ : ∃ l, l = gr459 :: Lm248 := ⟨_, rfl⟩
    have hs518 : ∀ c_ ∈ Lm495, c_ ∈ Lx516 ∨ w482.heap.size ≤ c_ := fun c_ hc_ => (hs497 c_ hc_).elim (fun h_ => .inl (by rw [hq517]; exact List.mem_cons_of_mem _ h_)) (fun h_ => h_.elim (fun e_ => .inl (by rw [hq517, e_]; exact List.mem_cons_self)) .inr)
    refine fz ?_
    refine jj (does_nilCheck (ev rfl)) ?_
    refine jj (does_fieldAddr (ev rfl) fa67_0) ?_
    refine jj (does_fieldAddr (ev rfl) fa32_1) ?_
    refine sn (does_store (n := 1) (cs := [vp470, vt471, (.slice (some ⟨mb472, 0, none⟩) (8 * A_g.vals.length) cap)]) (u := (.slice p510 n511 q512)) (ev rfl) (ev rfl) Try.sizeOf30 rfl (show Blk _ _ [vp470, vt471, (.slice (some ⟨mb472, 0, none⟩) (8 * A_g.vals.length) cap)] from hq496.2.2.2.1) (Nat.le_of_ble_eq_true rfl) rfl) ?_; rintro _ w521 ⟨rfl, W519, hB520⟩
    change Blk _ _ [vp470, (.slice p510 n511 q512), (.slice (some ⟨mb472, 0, none⟩) (8 * A_g.vals.length) cap)] at hB520
    have hX522 := MXq.close KW.good hq496 W519 hB520
    have K523 : KpL Lm495 _ _ := (KpL.of_wr W519).mono (fun c_ hc_ => by rw [List.mem_singleton] at hc_; rw [hc_, hq496.1]; exact FP_mem.2 (.inl (by simp)))
    refine wn K458 ?_
    refine wp_region_lit ?_
    refine sd (does_slice0 (e := 2) (fun _ => by kernel_rfl)) ?_; rintro _ w530 ⟨b525, rfl, hb526, hl527, hO528, E529⟩
    have hO540 := hO528 _ RI 1
    refine fz ?_
    refine ja (.slice (some ⟨b525, 0, none⟩) 0 0) ?_
    refine wn K191 ?_
    refine wp_region_lit ?_
    refine jj (does_iarith (p := (i : Int)) (q := 1) (r := (i : Int) + 1) (ev rfl) (ev rfl) (.inl ⟨rfl, (in_i64 (by omega) (by omega)).symm⟩)) ?_
    refine jm (Iv ((i : Int) + 1)) ?_
    refine wpList_nil ?_
    have z542 := (Nat.le_trans (Nat.le_trans z239 (KpL.size K247)) (Below.size E256))
    have z543 := (Nat.le_trans (Nat.le_trans z542 (KpL.size K281)) (Below.size E481))
    have hO544 := (fun (B_ : Nat) => Own.reB (C := B_) hO540)
    have z545 := (Nat.le_trans (Nat.le_trans z543 (KpL.size K494)) (KpL.size K523))
    refine ⟨i + 1, ⟨pk [(18, Iv (i : Int)), (19, Iv el5), (20, Iv el7), (58, Bo (icmp .lss (i : Int) (((flE (edB ((inQ A_g x y z q_.toNat).take k))).length) : Int))), (59, Iv (i : Int)), (60, (.slice p20 ((cnQ q_.toNat).length) q21)), (61, (.slice p143 ((flE (edB ((inQ A_g x y z q_.toNat).take k))).length) q144)), (62, Iv (i : Int)), (63, Pt b195 o196), (64, (.slice p201 el3.length q202)), (65, Pt b204 o205), (66, Iv el4), (67, Pt b209 o210), (68, Iv el5), (69, (.slice p20 ((cnQ q_.toNat).length) q21)), (70, (.slice p143 ((flE (edB ((inQ A_g x y z q_.toNat).take k))).length) q144)), (71, Iv (i : Int)), (72, Pt b214 o215), (73, (.slice p220 el3.length q221)), (74, Pt b223 o224), (75, Iv el6), (76, Pt b227 o228), (77, Iv el7), (78, (.slice p182 ((triP S.1 (keysQ A_g x y z q_.toNat) i).length) q183)), (79, Pt b_ 0), (80, Pt g_b g_o), (81, Iv x), (82, Iv y), (83, Iv z), (84, Iv el5), (85, Iv el7), (86, Iv (min el5 el7)), (87, Iv el5), (88, Iv el7), (89, Iv (max el7 el5)), (90, Iv (numK (addK ((ksA S.1 (keysQ A_g x y z q_.toNat) i, S.2 ++ trsA S.1 (keysQ A_g x y z q_.toNat) (tuQ q_.toNat) (i / 3))).1 (keyE A_g x y z (min el5 el7) (max el7 el5))) (keyE A_g x y z (min el5 el7) (max el7 el5)))), (91, (.slice (some ⟨b253, 0, none⟩) 1 1)), (92, (.slice (some ⟨gr459, 0, none⟩) (((triP S.1 (keysQ A_g x y z q_.toNat) i) ++ [(numK (addK ((ksA S.1 (keysQ A_g x y z q_.toNat) i, S.2 ++ trsA S.1 (keysQ A_g x y z q_.toNat) (tuQ q_.toNat) (i / 3))).1 (keyE A_g x y z (min el5 el7) (max el7 el5))) (keyE A_g x y z (min el5 el7) (max el7 el5)))]).length) q292)), (93, (.slice (some ⟨gr459, 0, none⟩) (((triP S.1 (keysQ A_g x y z q_.toNat) i) ++ [(numK (addK ((ksA S.1 (keysQ A_g x y z q_.toNat) i, S.2 ++ trsA S.1 (keysQ A_g x y z q_.toNat) (tuQ q_.toNat) (i / 3))).1 (keyE A_g x y z (min el5 el7) (max el7 el5))) (keyE A_g x y z (min el5 el7) (max el7 el5)))]).length) q292)), (94, Iv ((((triP S.1 (keysQ A_g x y z q_.toNat) i) ++ [(numK (addK ((ksA S.1 (keysQ A_g x y z q_.toNat) i, S.2 ++ trsA S.1 (keysQ A_g x y z q_.toNat) (tuQ q_.toNat) (i / 3))).1 (keyE A_g x y z (min el5 el7) (max el7 el5))) (keyE A_g x y z (min el5 el7) (max el7 el5)))]).length) : Int)), (95, Bo (icmp .lss ((((triP S.1 (keysQ A_g x y z q_.toNat) i) ++ [(numK (addK ((ksA S.1 (keysQ A_g x y z q_.toNat) i, S.2 ++ trsA S.1 (keysQ A_g x y z q_.toNat) (tuQ q_.toNat) (i / 3))).1 (keyE A_g x y z (min el5 el7) (max el7 el5))) (keyE A_g x y z (min el5 el7) (max el7 el5)))]).length) : Int) 3)), (96, Bo (tuQ q_.toNat)), (97, u169 97), (98, u169 98), (99, u169 99), (100, u169 100), (101, u169 101), (102, u169 102), (103, u169 103), (104, u169 104), (105, u169 105), (106, u169 106), (107, Pt b_ 0), (108, Pt b_ 0), (109, Pt b_ 0), (110, Pt b_ 0), (111, Pt b_ 1), (112, vt471), (113, (.slice (some ⟨gr459, 0, none⟩) (((triP S.1 (keysQ A_g x y z q_.toNat) i) ++ [(numK (addK ((ksA S.1 (keysQ A_g x y z q_.toNat) i, S.2 ++ trsA S.1 (keysQ A_g x y z q_.toNat) (tuQ q_.toNat) (i / 3))).1 (keyE A_g x y z (min el5 el7) (max el7 el5))) (keyE A_g x y z (min el5 el7) (max el7 el5)))]).length) q292)), (114, (.slice (some ⟨b478, 0, none⟩) 1 1)), (115, (.slice p510 n511 q512)), (116, Pt b_ 0), (117, Pt b_ 0), (118, Pt b_ 1), (119, (.slice (some ⟨b525, 0, none⟩) 0 0)), (120, Iv ((i : Int) + 1))], (.slice (some ⟨b525, 0, none⟩) 0 0), ?_, (KpL.ext (KpL.more (KpL.more (KpL.ext (KpL.more (KpL.ext (KpL.more (KpL.ext (KpL.ext E171 E232) E235) K247 (fun c_ hc_ => ((hs177 _ hc_).elim (fun h_ => Or.inl h_) (fun h_ => Or.inr (Nat.le_trans (Nat.le_refl _) h_))))) E256) K281 (allS (((hg280.elim (fun e_ => by rw [e_]; exact hg178) (fun h_ => Or.inr (Nat.le_trans z542 h_))) : gg279 = b146 ∨ w151.heap.size ≤ gg279).elim (fun e_ => Or.inl (by rw [hq162, e_]; simp)) Or.inr) all0)) E481) K494 (fun c_ hc_ => ((hs250 _ hc_).elim (fun h_ => ((hs177 _ h_).elim (fun h_ => Or.inl h_) (fun h_ => Or.inr (Nat.le_trans (Nat.le_refl _) h_)))) (fun h_ => Or.inr (Nat.le_trans z239 h_))))) K523 (fun c_ hc_ => ((hs518 _ hc_).elim (fun h_ => ((List.mem_cons.1 (hq517 ▸ h_)).elim (fun h_ => (by rw [h_]; exact (((by rw [he466]; exact (hg295.elim (fun e_ => by rw [e_]; exact hg178) (fun h_ => Or.inr (Nat.le_trans z542 h_)))) : gr459 = b146 ∨ w151.heap.size ≤ gr459).elim (fun e_ => Or.inl (by rw [hq162, e_]; simp)) Or.inr))) (fun h_ => ((hs250 _ h_).elim (fun h_ => ((hs177 _ h_).elim (fun h_ => Or.inl h_) (fun h_ => Or.inr (Nat.le_trans (Nat.le_refl _) h_)))) (fun h_ => Or.inr (Nat.le_trans z239 h_)))))) (fun h_ => Or.inr (Nat.le_trans z543 h_))))) E529), ⟨Lm495, b525, MX.cast (MX.ext KW.good hX522 E529) (by (try dsimp only); first | exact quw_a hed.2.1 h3 | exact quw_f hed.2.1 h3 htu | exact quw_t hed.2.1 h3 htu (by assumption) (by assumption) (by assumption)), (fun c_ hc_ => ((hs518 _ hc_).elim (fun h_ => ((List.mem_cons.1 (hq517 ▸ h_)).elim (fun h_ => (by rw [h_]; exact (((by rw [he466]; exact (hg295.elim (fun e_ => by rw [e_]; exact hg178) (fun h_ => Or.inr (Nat.le_trans z542 h_)))) : gr459 = b146 ∨ w151.heap.size ≤ gr459).elim (fun e_ => Or.inl (by rw [hq162, e_]; simp)) Or.inr))) (fun h_ => ((hs250 _ h_).elim (fun h_ => ((hs177 _ h_).elim (fun h_ => Or.inl h_) (fun h_ => Or.inr (Nat.le_trans (Nat.le_refl _) h_)))) (fun h_ => Or.inr (Nat.le_trans z239 h_)))))) (fun h_ => Or.inr (Nat.le_trans z543 h_)))), (Or.inr (Nat.le_trans z545 hb526)), (fun hc_ => absurd (Nat.lt_of_lt_of_le ((MX.bnd hX522) _ hc_).2 (Nat.le_trans (Nat.le_refl _) hb526)) (Nat.lt_irrefl _)), (Nat.lt_of_lt_of_le hl527 (Nat.le_refl _)), fun B_ => Own.cast (hO544 B_) (by (try dsimp only); first | exact triP_put hed.2.1 h3 | exact triP_nil h3)⟩, ?_⟩, ?_⟩
    ·first | rfl | (simp only [Int.natCast_add, Int.natCast_one]; rfl)
    ·(try dsimp only); omega
    ·omega
   have c190' := c190
   (try simp only [icmp, bs] at c190')
   refine wp_exit ?_
   (try dsimp only [Exit.then, Exit.inBlock])
   (try rw [if_pos rfl])
   refine ret_valKN (v := (.tuple #[])) ?_ (KpL.more (KpL.ext (KpL.ext (KpL.more (KpL.ext (KpL.ext (KpL.refl _ _) E15) E27) E46 (allS (.inr (Nat.le_trans (Below.size E15) hN41)) all0)) E138) E150) E171 (fun c_ hc_ => ((hs164 _ hc_).elim (fun h_ => Or.inl h_) (fun h_ => Or.inr (Nat.le_trans z166 h_))))) ?_
   ·exact res_0 rfl
   exact ⟨(by first | rfl | (rfl)), Lm174, MX.cast hX176 (by exact quw_end (by omega)), (fun c_ hc_ => ((hs177 _ hc_).elim (fun h_ => ((hs164 _ h_).elim (fun h_ => Or.inl h_) (fun h_ => Or.inr (Nat.le_trans z166 h_)))) (fun h_ => Or.inr (Nat.le_trans z168 h_))))⟩

end Go.Proofs.Ytjopopmipdakkaa
