/- contracts of functions, each walked once -/
import Derived.Test.YtjopopmipdakkaaA0
namespace Go.Proofs.Ytjopopmipdakkaa
open Go Go.RowKit
set_option maxRecDepth 100000
set_option maxHeartbeats 3200000
set_option linter.unusedVariables false
set_option linter.unusedSimpArgs false

/- spec.l07Edges -/
theorem c_spec_l07Edges (in_ : Value) (L_in_ : List Bool) (w : World) (hv_in_ : Sl RBo 1 w in_ L_in_) (hbl0 : L_in_.length = 4) : Gives Try.prog 50 #[in_] w (fun v w' => ∃ y_1 : Value, v = y_1 ∧ Hang w.heap.size w' (fun u => Sl (RS RI 1) 1 u y_1 (flE (edB L_in_)))) := by
  have hlen_in_ := Sl.len hv_in_; obtain ⟨p_in_, q_in_, rfl⟩ := Sl.shape hv_in_
  refine enter [(.slice p_in_ L_in_.length q_in_), Ud, Ud, Ud, Ud, Ud, Ud, Ud, Ud, Ud, Ud, Ud, Ud, Ud, Ud, Ud, Ud, Ud, Ud, Ud, Ud, Ud, Ud, Ud, Ud, Ud, Ud, Ud, Ud, Ud, Ud, Ud, Ud, Ud, Ud, Ud, Ud, Ud, Ud, Ud, Ud, Ud, Ud, Ud, Ud, Ud, Ud, Ud, Ud, Ud, Ud, Ud, Ud, Ud, Ud, Ud, Ud, Ud, Ud, Ud, Ud, Ud, Ud, Ud, Ud, Ud, Ud, Ud, Ud, Ud, Ud, Ud, Ud, Ud, Ud, Ud, Ud, Ud, Ud, Ud, Ud, Ud, Ud, Ud, Ud, Ud, Ud, Ud, Ud, Ud, Ud, Ud, Ud, Ud, Ud, Ud, Ud, Ud, Ud, Ud, Ud, Ud, Ud, Ud, Ud, Ud, Ud, Ud, Ud, Ud, Ud, Ud, Ud, Ud, Ud, Ud, Ud, Ud, Ud, Ud, Ud, Ud, Ud, Ud, Ud, Ud, Ud, Ud, Ud, Ud, Ud, Ud, Ud, Ud, Ud, Ud, Ud, Ud, Ud, Ud] Try.func50 rfl Try.ntmps50 rfl ?_
  refine wr fun _ K1 => ?_
  refine ja (.slice none 0 0) ?_
  refine wn K1 ?_
  refine wr fun _ K2 => ?_
  refine sd (does_slice0 (e := 3) (fun _ => by kernel_rfl)) ?_; rintro _ w8 ⟨b3, rfl, hb4, hl5, hO6, E7⟩
  have X9 := Ext.gr (Ext.refl w) E7
  have hO10 := hO6 _ RI 1
  refine fz ?_
  refine ja (.slice (some ⟨b3, 0, none⟩) 0 0) ?_
  refine wn K2 ?_
  refine wr fun _ K12 => ?_
  refine sd (does_slice0 (e := 3) (fun _ => by kernel_rfl)) ?_; rintro _ w18 ⟨b13, rfl, hb14, hl15, hO16, E17⟩
  have X19 := Ext.gr X9 E17
  have hO20 := hO16 _ RI 1
  refine fz ?_
  refine ja (.slice (some ⟨b13, 0, none⟩) 0 0) ?_
  refine wn K12 ?_
  refine ws fun _ K22 => ?_
  refine wr fun _ K23 => ?_
  refine jm (.slice p_in_ L_in_.length q_in_) ?_
  refine jj (does_len_slice Try.underlying83 (ev rfl)) ?_
  refine jm (Iv 0) ?_
  refine wn K23 ?_
  refine wp_block ?_
  refine loop_ghost (σ := Nat) (fun k a w' => ∃ u24 : Nat → Value, ∃ y3 : Value, ∃ y4 : Value, a = fr [(.slice p_in_ L_in_.length q_in_), Ud, (.slice none 0 0), y3, y4, (u24 5), Ud, Ud, Ud, Ud, Ud, Ud, (.slice (some ⟨b3, 0, none⟩) 0 0), (.slice (some ⟨b13, 0, none⟩) 0 0), (.slice p_in_ L_in_.length q_in_), (Iv (L_in_.length : Int)), (Iv (k : Int)), (u24 17), (u24 18), (u24 19), (u24 20), (u24 21), (u24 22), (u24 23), (u24 24), (u24 25), (u24 26), (u24 27), (u24 28), (u24 29), (u24 30), (u24 31), Ud, Ud, Ud, Ud, Ud, Ud, Ud, Ud, Ud, Ud, Ud, Ud, Ud, Ud, Ud, Ud, Ud, Ud, Ud, Ud, Ud, Ud, Ud, Ud, Ud, Ud, Ud, Ud, Ud, Ud, Ud, Ud, Ud, Ud, Ud, Ud, Ud, Ud, Ud, Ud, Ud, Ud, Ud, Ud, Ud, Ud, Ud, Ud, Ud, Ud, Ud, Ud, Ud, Ud, Ud, Ud, Ud, Ud, Ud, Ud, Ud, Ud, Ud, Ud, Ud, Ud, Ud, Ud, Ud, Ud, Ud, Ud, Ud, Ud, Ud, Ud, Ud, Ud, Ud, Ud, Ud, Ud, Ud, Ud, Ud, Ud, Ud, Ud, Ud, Ud, Ud, Ud, Ud, Ud, Ud, Ud, Ud, Ud, Ud, Ud, Ud, Ud, Ud, Ud, Ud, Ud, Ud, Ud] ∧ Ext w w' ∧ Pair RI 1 3 w.heap.size w' y3 (posN true L_in_ k) y4 (posN false L_in_ k) ∧ (k ≤ 4)) (fun k => 4 - k) 0 ?_ ?_
  · refine ⟨pk [], (.slice (some ⟨b3, 0, none⟩) 0 0), (.slice (some ⟨b13, 0, none⟩) 0 0), rfl, X19, (Pair.cast (Pair.start (Own.same hO10 RI.flat ((Same.refl _ _).ext E17) hb4 (Below.size E7)) hO20 rfl rfl (by omega) (Nat.le_trans (Nat.le_refl _) hb4) (Nat.le_trans (Below.size E7) hb14)) rfl rfl), ?_⟩
    exact Nat.zero_le _
  · rintro k a w25 ⟨u24, y3, y4, rfl, E26, hst, hk⟩
    obtain ⟨gp28, gq29, hne30, hgN31, hgN32, hA33, hA34, hd35, hd36⟩ := Pair.names hst (Below.size E26)
    have hPr37 := hst; clear hst
    obtain ⟨p38, q39, rfl⟩ := Own.shape (hA33 0)
    have hH40 : Hang w.heap.size w25 (fun u => Sl RI 1 u (.slice p38 ((posN true L_in_ k).length) q39) (posN true L_in_ k)) := Own.hang (hA33 _) RI.flat (by decide) hgN31 (Below.size E26)
    obtain ⟨p41, q42, rfl⟩ := Own.shape (hA34 0)
    have hH43 : Hang w.heap.size w25 (fun u => Sl RI 1 u (.slice p41 ((posN false L_in_ k).length) q42) (posN false L_in_ k)) := Own.hang (hA34 _) RI.flat (by decide) hgN32 (Below.size E26)
    have hbl : (L_in_ : List Bool).length = 4 := hbl0
    have hpl := posN_len true L_in_ k
    have hql := posN_len false L_in_ k
    have hps := posN_sum L_in_ k (by omega)
    refine wr fun _ K44 => ?_
    refine jj (does_icmp (p := (k : Int)) (q := (L_in_.length : Int)) (.inr (.inr (.inl rfl))) (ev rfl) (ev rfl)) ?_
    refine wn K44 ?_
    refine ws fun _ K45 => ?_
    refine wp_cond_split (t := icmp .lss (k : Int) (L_in_.length : Int)) (ev rfl) (fun c46 => ?_) (fun c46 => ?_)
    · have c46' := c46
      (try simp only [icmp, bs] at c46')
      refine wp_skip (K45 _ _ ?_)
      refine ws fun _ K47 => ?_
      refine wp_block ?_
      refine wr fun _ K48 => ?_
      refine jm (Iv (k : Int)) ?_
      refine ja (Iv (k : Int)) ?_
      refine wn K48 ?_
      refine wr fun _ K49 => ?_
      refine jm (.slice p_in_ L_in_.length q_in_) ?_
      refine jm (Iv (k : Int)) ?_
      obtain ⟨el1, hel1⟩ : ∃ e, L_in_[k]? = some e := ⟨_, List.getElem?_eq_getElem (by omega)⟩
      refine sd (does_indexSl (R := RBo) (i := (k : Int)) (xs := L_in_) (e := el1) Try.underlying83 Try.sizeOf4 (ev rfl) (ev rfl) (Sl.ext hv_in_ RBo.mono E26) (by omega) hel1) ?_; rintro _ w25 ⟨b50, o51, _, rfl, hc53, rfl, rfl⟩
      refine fz ?_
      refine jj (does_load (u := (Bo el1)) (ev rfl) Try.isAgg4 (Cells.at hc53 0 rfl)) ?_
      refine wn K49 ?_
      refine wp_cond_split (t := el1) (ev rfl) (fun c54 => ?_) (fun c54 => ?_)
      · have c54' := c54
        refine wp_region_lit ?_
        refine jm (.slice p38 ((posN true L_in_ k).length) q39) ?_
        refine jm (Iv (k : Int)) ?_
        refine sd (does_buildSlice (e := 3) (parts' := [(0, (Iv (k : Int)))]) (cells := [(Iv (k : Int))]) (evp rfl) (fun _ => by kernel_rfl)) ?_; rintro _ w59 ⟨b55, rfl, hb56, hB57, E58⟩
        have X62 := Ext.gr E26 E58
        refine fz ?_
        refine sd (does_append (R := RI) (k := 1) (g0 := gp28) (B := w25.heap.size) (xs := (posN true L_in_ k)) (ys := [(k : Int)]) Try.underlying87 inf3 rfl (by decide) (ev rfl) (ev rfl) (Own.same (hA33 _) RI.flat ((Same.refl _ _).ext E58) hgN31 (Below.size E26)) RI.flat hB57 rfl rfl rfl (fun i_ x_ hi_ => lit1 (R := RI) (cs := [(Iv (k : Int))]) (y := (k : Int))  rfl i_ x_ hi_) (by first | (simp only [List.length_append, List.length_cons, List.length_nil]; omega) | omega) (Below.size E58)) ?_; rintro y' w63 ⟨gg64, hg65, K66, hO67⟩
        have hN68 : w.heap.size ≤ gg64 := by rcases hg65 with h | h; exact h ▸ hgN31; exact Nat.le_trans (Below.size E26) h
        have g69 : w.heap.size ≤ gg64 := Nat.le_trans (Nat.le_refl _) hN68
        have X70 := Below.kl X62 K66 (allS g69 all0) (Nat.le_refl _)
        obtain ⟨p71, q72, rfl⟩ := Own.shape hO67
        refine fz ?_
        refine ja (.slice p71 (((posN true L_in_ k) ++ [(k : Int)]).length) q72) ?_
        refine wn K47 ?_
        refine wp_region_lit ?_
        refine jj (does_iarith (p := (k : Int)) (q := 1) (r := (k : Int) + 1) (ev rfl) (ev rfl) (.inl ⟨rfl, (in_i64 (by omega) (by omega)).symm⟩)) ?_
        refine jm (Iv ((k : Int) + 1)) ?_
        refine wpList_nil ?_
        refine ⟨k + 1, ⟨pk [(5, Iv (k : Int)), (17, Bo (icmp .lss (k : Int) (L_in_.length : Int))), (18, Iv (k : Int)), (19, (.slice p_in_ L_in_.length q_in_)), (20, Iv (k : Int)), (21, Pt b50 o51), (22, Bo el1), (23, (.slice p38 ((posN true L_in_ k).length) q39)), (24, Iv (k : Int)), (25, (.slice (some ⟨b55, 0, none⟩) 1 1)), (26, (.slice p71 (((posN true L_in_ k) ++ [(k : Int)]).length) q72)), (27, u24 27), (28, u24 28), (29, u24 29), (30, u24 30), (31, Iv ((k : Int) + 1))], (.slice p71 (((posN true L_in_ k) ++ [(k : Int)]).length) q72), (.slice p41 ((posN false L_in_ k).length) q42), ?_, X70, (Pair.cast (Pair.step hO67 hPr37.2.1 RI.flat (KpL.more (KpL.ext (KpL.refl _ _) E58) K66 (allS (hg65.imp (fun h => by simp [h]) id) all0)) hd35 hgN31 (Below.size E26) hPr37.2.2.2.2) (by (try dsimp only); first | rfl | exact posN_put (by omega) (by assumption) rfl | exact posN_put' hel1 (by assumption) | exact posN_skip' (c := true) hel1 (by assumption) (by decide) | exact posN_skip' (c := false) hel1 (by assumption) (by decide) | exact posN_skip (b := true) (by omega) (by assumption) (by decide) | exact posN_skip (b := false) (by omega) (by assumption) (by decide)) (by (try dsimp only); first | rfl | exact posN_put (by omega) (by assumption) rfl | exact posN_put' hel1 (by assumption) | exact posN_skip' (c := true) hel1 (by assumption) (by decide) | exact posN_skip' (c := false) hel1 (by assumption) (by decide) | exact posN_skip (b := true) (by omega) (by assumption) (by decide) | exact posN_skip (b := false) (by omega) (by assumption) (by decide))), ?_⟩, ?_⟩
        · first | rfl | (simp only [Int.natCast_add, Int.natCast_one]; rfl)
        · omega
        · omega
      have c54' := c54
      refine wp_region_lit ?_
      refine jm (.slice p41 ((posN false L_in_ k).length) q42) ?_
      refine jm (Iv (k : Int)) ?_
      refine sd (does_buildSlice (e := 3) (parts' := [(0, (Iv (k : Int)))]) (cells := [(Iv (k : Int))]) (evp rfl) (fun _ => by kernel_rfl)) ?_; rintro _ w78 ⟨b74, rfl, hb75, hB76, E77⟩
      have X81 := Ext.gr E26 E77
      refine fz ?_
      refine sd (does_append (R := RI) (k := 1) (g0 := gq29) (B := w25.heap.size) (xs := (posN false L_in_ k)) (ys := [(k : Int)]) Try.underlying87 inf3 rfl (by decide) (ev rfl) (ev rfl) (Own.same (hA34 _) RI.flat ((Same.refl _ _).ext E77) hgN32 (Below.size E26)) RI.flat hB76 rfl rfl rfl (fun i_ x_ hi_ => lit1 (R := RI) (cs := [(Iv (k : Int))]) (y := (k : Int))  rfl i_ x_ hi_) (by first | (simp only [List.length_append, List.length_cons, List.length_nil]; omega) | omega) (Below.size E77)) ?_; rintro y' w82 ⟨gg83, hg84, K85, hO86⟩
      have hN87 : w.heap.size ≤ gg83 := by rcases hg84 with h | h; exact h ▸ hgN32; exact Nat.le_trans (Below.size E26) h
      have g88 : w.heap.size ≤ gg83 := Nat.le_trans (Nat.le_refl _) hN87
      have X89 := Below.kl X81 K85 (allS g88 all0) (Nat.le_refl _)
      obtain ⟨p90, q91, rfl⟩ := Own.shape hO86
      refine fz ?_
      refine ja (.slice p90 (((posN false L_in_ k) ++ [(k : Int)]).length) q91) ?_
      refine wn K47 ?_
      refine wp_region_lit ?_
      refine jj (does_iarith (p := (k : Int)) (q := 1) (r := (k : Int) + 1) (ev rfl) (ev rfl) (.inl ⟨rfl, (in_i64 (by omega) (by omega)).symm⟩)) ?_
      refine jm (Iv ((k : Int) + 1)) ?_
      refine wpList_nil ?_
      refine ⟨k + 1, ⟨pk [(5, Iv (k : Int)), (17, Bo (icmp .lss (k : Int) (L_in_.length : Int))), (18, Iv (k : Int)), (19, (.slice p_in_ L_in_.length q_in_)), (20, Iv (k : Int)), (21, Pt b50 o51), (22, Bo el1), (23, u24 23), (24, u24 24), (25, u24 25), (26, u24 26), (27, (.slice p41 ((posN false L_in_ k).length) q42)), (28, Iv (k : Int)), (29, (.slice (some ⟨b74, 0, none⟩) 1 1)), (30, (.slice p90 (((posN false L_in_ k) ++ [(k : Int)]).length) q91)), (31, Iv ((k : Int) + 1))], (.slice p38 ((posN true L_in_ k).length) q39), (.slice p90 (((posN false L_in_ k) ++ [(k : Int)]).length) q91), ?_, X89, (Pair.cast (Pair.swap (Pair.step hO86 hPr37.1 RI.flat (KpL.more (KpL.ext (KpL.refl _ _) E77) K85 (allS (hg84.imp (fun h => by simp [h]) id) all0)) hd36 hgN32 (Below.size E26) hPr37.2.2.2.1)) (by (try dsimp only); first | rfl | exact posN_put (by omega) (by assumption) rfl | exact posN_put' hel1 (by assumption) | exact posN_skip' (c := true) hel1 (by assumption) (by decide) | exact posN_skip' (c := false) hel1 (by assumption) (by decide) | exact posN_skip (b := true) (by omega) (by assumption) (by decide) | exact posN_skip (b := false) (by omega) (by assumption) (by decide)) (by (try dsimp only); first | rfl | exact posN_put (by omega) (by assumption) rfl | exact posN_put' hel1 (by assumption) | exact posN_skip' (c := true) hel1 (by assumption) (by decide) | exact posN_skip' (c := false) hel1 (by assumption) (by decide) | exact posN_skip (b := true) (by omega) (by assumption) (by decide) | exact posN_skip (b := false) (by omega) (by assumption) (by decide))), ?_⟩, ?_⟩
      · first | rfl | (simp only [Int.natCast_add, Int.natCast_one]; rfl)
      · omega
      · omega
    have c46' := c46
    (try simp only [icmp, bs] at c46')
    refine wp_exit ?_
    refine K22 _ _ ?_
    refine ws fun _ K93 => ?_
    refine wr fun _ K94 => ?_
    refine jm (.slice p38 ((posN true L_in_ k).length) q39) ?_
    refine jj (does_len_slice Try.underlying87 (ev rfl)) ?_
    refine wn K94 ?_
    refine wp_block ?_
    refine wr fun _ K95 => ?_
    refine jj (does_icmp (p := (((posN true L_in_ k).length) : Int)) (q := 1) (.inl rfl) (ev rfl) (ev rfl)) ?_
    refine ja (Bo (icmp .eql (((posN true L_in_ k).length) : Int) 1)) ?_
    refine wn K95 ?_
    refine wp_cond_split (t := icmp .eql (((posN true L_in_ k).length) : Int) 1) (ev rfl) (fun c96 => ?_) (fun c96 => ?_)
    · have c96' := c96
      (try simp only [icmp, bs] at c96')
      refine wr fun _ K97 => ?_
      refine jm (.slice p38 ((posN true L_in_ k).length) q39) ?_
      obtain ⟨el2, hel2⟩ : ∃ e, (posN true L_in_ k)[0]? = some e := ⟨_, List.getElem?_eq_getElem (by omega)⟩
      refine sd (does_indexSl (R := RI) (i := 0) (xs := posN true L_in_ k) (e := el2) Try.underlying87 Try.sizeOf3 (ev rfl) (ev rfl) hH40.get (by omega) hel2) ?_; rintro _ w25 ⟨b98, o99, _, rfl, hc101, rfl, rfl⟩
      refine fz ?_
      refine jj (does_load (u := (Iv el2)) (ev rfl) Try.isAgg3 (Cells.at hc101 0 rfl)) ?_
      refine sd (does_call (args := #[(Iv el2)]) cal65 (evs rfl) (c_spec_l07Rest el2 _)) ?_; rintro _ w103 ⟨E102, ⟨y105, rfl, hh104⟩⟩
      have X106 := Ext.gr E26 E102
      obtain ⟨p107, q108, rfl⟩ := Sl.shape hh104.get
      refine fz ?_
      refine ja (.slice p107 ((restL el2).length) q108) ?_
      refine wn K97 ?_
      refine ws fun _ K109 => ?_
      have hrl1 := restL_len el2
      obtain ⟨el3, hel3⟩ : ∃ e, (restL el2)[0]? = some e := ⟨_, List.getElem?_eq_getElem (by omega)⟩
      obtain ⟨el4, hel4⟩ : ∃ e, (restL el2)[1]? = some e := ⟨_, List.getElem?_eq_getElem (by omega)⟩
      obtain ⟨el5, hel5⟩ : ∃ e, (restL el2)[2]? = some e := ⟨_, List.getElem?_eq_getElem (by omega)⟩
      refine region_any2 [] [0, 1, 3, 0, 8, 24, 63, 0, 128, 384, 0, 1024, 3072, 8064, 0, 16384, 49152, 0, 131072, 393216, 1032192, 2097151, 4194303] [] (
        [FactW.pure [] [] [] true (fun v => v = (.slice p38 ((posN true L_in_ k).length) q39)),
          FactW.mem [0] [] [] [] true (fun v w' => PtrR RI w' v el2) (by intro v w1 w2 hx' h; have hx := KpL.toExt hx'; exact h.ext RI.mono hx),
          FactW.pure [1] [] [] true (fun v => v = (Iv el2)),
          FactW.pure [] [] [] true (fun v => v = (.slice p107 ((restL el2).length) q108)),
          FactW.mem [3] [] [] [] true (fun v w' => PtrR RI w' v el3) (by intro v w1 w2 hx' h; have hx := KpL.toExt hx'; exact h.ext RI.mono hx),
          FactW.pure [4] [] [] true (fun v => v = (Iv el3)),
          FactW.mem [2, 5] [] [] [] true (fun v w' => ∃ b : Nat, v = .slice (some ⟨b, 0, none⟩) 2 2 ∧ w103.heap.size ≤ b ∧ Blk w' b [(Iv el2), (Iv el3)]) (by rintro v w1 w2 hx' ⟨b, rfl, hb, hB⟩; have hx := KpL.toExt hx'; exact ⟨b, rfl, hb, (hB.ext hx)⟩),
          FactW.pure [] [] [] true (fun v => v = (.slice p38 ((posN true L_in_ k).length) q39)),
          FactW.mem [7] [] [] [] true (fun v w' => PtrR RI w' v el2) (by intro v w1 w2 hx' h; have hx := KpL.toExt hx'; exact h.ext RI.mono hx),
          FactW.pure [8] [] [] true (fun v => v = (Iv el2)),
          FactW.pure [] [] [] true (fun v => v = (.slice p107 ((restL el2).length) q108)),
          FactW.mem [10] [] [] [] true (fun v w' => PtrR RI w' v el4) (by intro v w1 w2 hx' h; have hx := KpL.toExt hx'; exact h.ext RI.mono hx),
          FactW.pure [11] [] [] true (fun v => v = (Iv el4)),
          FactW.mem [9, 12] [] [] [] true (fun v w' => ∃ b : Nat, v = .slice (some ⟨b, 0, none⟩) 2 2 ∧ w103.heap.size ≤ b ∧ Blk w' b [(Iv el2), (Iv el4)]) (by rintro v w1 w2 hx' ⟨b, rfl, hb, hB⟩; have hx := KpL.toExt hx'; exact ⟨b, rfl, hb, (hB.ext hx)⟩),
          FactW.pure [] [] [] true (fun v => v = (.slice p38 ((posN true L_in_ k).length) q39)),
          FactW.mem [14] [] [] [] true (fun v w' => PtrR RI w' v el2) (by intro v w1 w2 hx' h; have hx := KpL.toExt hx'; exact h.ext RI.mono hx),
          FactW.pure [15] [] [] true (fun v => v = (Iv el2)),
          FactW.pure [] [] [] true (fun v => v = (.slice p107 ((restL el2).length) q108)),
          FactW.mem [17] [] [] [] true (fun v w' => PtrR RI w' v el5) (by intro v w1 w2 hx' h; have hx := KpL.toExt hx'; exact h.ext RI.mono hx),
          FactW.pure [18] [] [] true (fun v => v = (Iv el5)),
          FactW.mem [16, 19] [] [] [] true (fun v w' => ∃ b : Nat, v = .slice (some ⟨b, 0, none⟩) 2 2 ∧ w103.heap.size ≤ b ∧ Blk w' b [(Iv el2), (Iv el5)]) (by rintro v w1 w2 hx' ⟨b, rfl, hb, hB⟩; have hx := KpL.toExt hx'; exact ⟨b, rfl, hb, (hB.ext hx)⟩)]) mixed (by kernel_rfl) ?_
      obtain ⟨w110, hw112⟩ : ∃ w', w' = World.drew w103 := ⟨_, rfl⟩; rw [← hw112]; have E111 : Ext w103 w110 := by rw [hw112]; exact Ext.draw _
      clear hw112
      have X114 := Ext.gr X106 E111
      refine R2_p (fun u hu _ => does_move (u := (.slice p38 ((posN true L_in_ k).length) q39)) (ev rfl)) fun v115 => ?_
      refine R2_d (fun u hu hF => ?_) (fun v116 => ?_)
      · replace hu : KpL [] _ _ := hu
        have h40_ : v115 = (.slice p38 ((posN true L_in_ k).length) q39) := hF.1
        clear hF
        refine doesG_un rfl ?_
        obtain rfl := h40_
        refine (does_indexSl (R := RI) (i := 0) (xs := posN true L_in_ k) (e := el2) Try.underlying87 Try.sizeOf3 (ev rfl) (ev rfl) (hH40 _ ((((Same.refl _ _).ext E102).ext E111).ext (KpL.toExt hu))) (by omega) hel2).mono ?_; rintro v u' ⟨b, of, cs, hv, hc, hR, hu'⟩; subst hu'
        exact ⟨⟨b, of, cs, hv, hc, hR⟩, KpL.refl _ _⟩
      refine R2_d (fun u hu hF => ?_) (fun v117 => ?_)
      · replace hu : KpL [] _ _ := hu
        have h41_ : PtrR RI u v116 el2 := hF.1
        clear hF
        refine doesG_un rfl ?_
        obtain ⟨b41_, o41_, _, rfl, hc41_, rfl⟩ := h41_
        refine (does_load (u := (Iv el2)) (ev rfl) Try.isAgg3 (Cells.at hc41_ 0 rfl)).mono ?_; rintro _ _ ⟨rfl, rfl⟩
        exact ⟨rfl, KpL.refl _ _⟩
      refine R2_p (fun u hu _ => does_move (u := (.slice p107 ((restL el2).length) q108)) (ev rfl)) fun v118 => ?_
      refine R2_d (fun u hu hF => ?_) (fun v119 => ?_)
      · replace hu : KpL [] _ _ := hu
        have h43_ : v118 = (.slice p107 ((restL el2).length) q108) := hF.1
        clear hF
        refine doesG_un rfl ?_
        obtain rfl := h43_
        refine (does_indexSl (R := RI) (i := 0) (xs := (restL el2)) (e := el3) Try.underlying87 Try.sizeOf3 (ev rfl) (ev rfl) (hh104 _ (((Same.refl _ _).ext E111).ext (KpL.toExt hu))) (by omega) hel3).mono ?_; rintro v u' ⟨b, of, cs, hv, hc, hR, hu'⟩; subst hu'
        exact ⟨⟨b, of, cs, hv, hc, hR⟩, KpL.refl _ _⟩
      refine R2_d (fun u hu hF => ?_) (fun v120 => ?_)
      · replace hu : KpL [] _ _ := hu
        have h44_ : PtrR RI u v119 el3 := hF.1
        clear hF
        refine doesG_un rfl ?_
        obtain ⟨b44_, o44_, _, rfl, hc44_, rfl⟩ := h44_
        refine (does_load (u := (Iv el3)) (ev rfl) Try.isAgg3 (Cells.at hc44_ 0 rfl)).mono ?_; rintro _ _ ⟨rfl, rfl⟩
        exact ⟨rfl, KpL.refl _ _⟩
      refine R2_d (fun u hu hF => ?_) (fun v121 => ?_)
      · replace hu : KpL [] _ _ := hu
        have h42_ : v117 = (Iv el2) := hF.1
        have h45_ : v120 = (Iv el3) := hF.2.1
        clear hF
        refine doesG_un rfl ?_
        obtain rfl := h42_
        obtain rfl := h45_
        refine (does_buildSlice (e := 3) (parts' := [(0, (Iv el2)), (1, (Iv el3))]) (cells := [(Iv el2), (Iv el3)]) (evp rfl) (fun _ => by kernel_rfl)).mono ?_; rintro _ _ ⟨b, rfl, hb, hB, hx⟩
        exact ⟨⟨b, rfl, Nat.le_trans (Nat.le_trans (Below.size E111) (KpL.size hu)) hb, hB⟩, (KpL.of_ext hx)⟩
      refine R2_p (fun u hu _ => does_move (u := (.slice p38 ((posN true L_in_ k).length) q39)) (ev rfl)) fun v122 => ?_
      refine R2_d (fun u hu hF => ?_) (fun v123 => ?_)
      · replace hu : KpL [] _ _ := hu
        have h47_ : v122 = (.slice p38 ((posN true L_in_ k).length) q39) := hF.1
        clear hF
        refine doesG_un rfl ?_
        obtain rfl := h47_
        refine (does_indexSl (R := RI) (i := 0) (xs := posN true L_in_ k) (e := el2) Try.underlying87 Try.sizeOf3 (ev rfl) (ev rfl) (hH40 _ ((((Same.refl _ _).ext E102).ext E111).ext (KpL.toExt hu))) (by omega) hel2).mono ?_; rintro v u' ⟨b, of, cs, hv, hc, hR, hu'⟩; subst hu'
        exact ⟨⟨b, of, cs, hv, hc, hR⟩, KpL.refl _ _⟩
      refine R2_d (fun u hu hF => ?_) (fun v124 => ?_)
      · replace hu : KpL [] _ _ := hu
        have h48_ : PtrR RI u v123 el2 := hF.1
        clear hF
        refine doesG_un rfl ?_
        obtain ⟨b48_, o48_, _, rfl, hc48_, rfl⟩ := h48_
        refine (does_load (u := (Iv el2)) (ev rfl) Try.isAgg3 (Cells.at hc48_ 0 rfl)).mono ?_; rintro _ _ ⟨rfl, rfl⟩
        exact ⟨rfl, KpL.refl _ _⟩
      refine R2_p (fun u hu _ => does_move (u := (.slice p107 ((restL el2).length) q108)) (ev rfl)) fun v125 => ?_
      refine R2_d (fun u hu hF => ?_) (fun v126 => ?_)
      · replace hu : KpL [] _ _ := hu
        have h50_ : v125 = (.slice p107 ((restL el2).length) q108) := hF.1
        clear hF
        refine doesG_un rfl ?_
        obtain rfl := h50_
        refine (does_indexSl (R := RI) (i := 1) (xs := (restL el2)) (e := el4) Try.underlying87 Try.sizeOf3 (ev rfl) (ev rfl) (hh104 _ (((Same.refl _ _).ext E111).ext (KpL.toExt hu))) (by omega) hel4).mono ?_; rintro v u' ⟨b, of, cs, hv, hc, hR, hu'⟩; subst hu'
        exact ⟨⟨b, of, cs, hv, hc, hR⟩, KpL.refl _ _⟩
      refine R2_d (fun u hu hF => ?_) (fun v127 => ?_)
      · replace hu : KpL [] _ _ := hu
        have h51_ : PtrR RI u v126 el4 := hF.1
        clear hF
        refine doesG_un rfl ?_
        obtain ⟨b51_, o51_, _, rfl, hc51_, rfl⟩ := h51_
        refine (does_load (u := (Iv el4)) (ev rfl) Try.isAgg3 (Cells.at hc51_ 0 rfl)).mono ?_; rintro _ _ ⟨rfl, rfl⟩
        exact ⟨rfl, KpL.refl _ _⟩
      refine R2_d (fun u hu hF => ?_) (fun v128 => ?_)
      · replace hu : KpL [] _ _ := hu
        have h49_ : v124 = (Iv el2) := hF.1
        have h52_ : v127 = (Iv el4) := hF.2.1
        clear hF
        refine doesG_un rfl ?_
        obtain rfl := h49_
        obtain rfl := h52_
        refine (does_buildSlice (e := 3) (parts' := [(0, (Iv el2)), (1, (Iv el4))]) (cells := [(Iv el2), (Iv el4)]) (evp rfl) (fun _ => by kernel_rfl)).mono ?_; rintro _ _ ⟨b, rfl, hb, hB, hx⟩
        exact ⟨⟨b, rfl, Nat.le_trans (Nat.le_trans (Below.size E111) (KpL.size hu)) hb, hB⟩, (KpL.of_ext hx)⟩
      refine R2_p (fun u hu _ => does_move (u := (.slice p38 ((posN true L_in_ k).length) q39)) (ev rfl)) fun v129 => ?_
      refine R2_d (fun u hu hF => ?_) (fun v130 => ?_)
      · replace hu : KpL [] _ _ := hu
        have h54_ : v129 = (.slice p38 ((posN true L_in_ k).length) q39) := hF.1
        clear hF
        refine doesG_un rfl ?_
        obtain rfl := h54_
        refine (does_indexSl (R := RI) (i := 0) (xs := posN true L_in_ k) (e := el2) Try.underlying87 Try.sizeOf3 (ev rfl) (ev rfl) (hH40 _ ((((Same.refl _ _).ext E102).ext E111).ext (KpL.toExt hu))) (by omega) hel2).mono ?_; rintro v u' ⟨b, of, cs, hv, hc, hR, hu'⟩; subst hu'
        exact ⟨⟨b, of, cs, hv, hc, hR⟩, KpL.refl _ _⟩
      refine R2_d (fun u hu hF => ?_) (fun v131 => ?_)
      · replace hu : KpL [] _ _ := hu
        have h55_ : PtrR RI u v130 el2 := hF.1
        clear hF
        refine doesG_un rfl ?_
        obtain ⟨b55_, o55_, _, rfl, hc55_, rfl⟩ := h55_
        refine (does_load (u := (Iv el2)) (ev rfl) Try.isAgg3 (Cells.at hc55_ 0 rfl)).mono ?_; rintro _ _ ⟨rfl, rfl⟩
        exact ⟨rfl, KpL.refl _ _⟩
      refine R2_p (fun u hu _ => does_move (u := (.slice p107 ((restL el2).length) q108)) (ev rfl)) fun v132 => ?_
      refine R2_d (fun u hu hF => ?_) (fun v133 => ?_)
      · replace hu : KpL [] _ _ := hu
        have h57_ : v132 = (.slice p107 ((restL el2).length) q108) := hF.1
        clear hF
        refine doesG_un rfl ?_
        obtain rfl := h57_
        refine (does_indexSl (R := RI) (i := 2) (xs := (restL el2)) (e := el5) Try.underlying87 Try.sizeOf3 (ev rfl) (ev rfl) (hh104 _ (((Same.refl _ _).ext E111).ext (KpL.toExt hu))) (by omega) hel5).mono ?_; rintro v u' ⟨b, of, cs, hv, hc, hR, hu'⟩; subst hu'
        exact ⟨⟨b, of, cs, hv, hc, hR⟩, KpL.refl _ _⟩
      refine R2_d (fun u hu hF => ?_) (fun v134 => ?_)
      · replace hu : KpL [] _ _ := hu
        have h58_ : PtrR RI u v133 el5 := hF.1
        clear hF
        refine doesG_un rfl ?_
        obtain ⟨b58_, o58_, _, rfl, hc58_, rfl⟩ := h58_
        refine (does_load (u := (Iv el5)) (ev rfl) Try.isAgg3 (Cells.at hc58_ 0 rfl)).mono ?_; rintro _ _ ⟨rfl, rfl⟩
        exact ⟨rfl, KpL.refl _ _⟩
      refine R2_d (fun u hu hF => ?_) (fun v135 => ?_)
      · replace hu : KpL [] _ _ := hu
        have h56_ : v131 = (Iv el2) := hF.1
        have h59_ : v134 = (Iv el5) := hF.2.1
        clear hF
        refine doesG_un rfl ?_
        obtain rfl := h56_
        obtain rfl := h59_
        refine (does_buildSlice (e := 3) (parts' := [(0, (Iv el2)), (1, (Iv el5))]) (cells := [(Iv el2), (Iv el5)]) (evp rfl) (fun _ => by kernel_rfl)).mono ?_; rintro _ _ ⟨b, rfl, hb, hB, hx⟩
        exact ⟨⟨b, rfl, Nat.le_trans (Nat.le_trans (Below.size E111) (KpL.size hu)) hb, hB⟩, (KpL.of_ext hx)⟩
      refine RW2_fin ?_; intro w136 E137 hP138; replace E137 : KpL [] _ _ := E137
      obtain ⟨⟨⟨⟨⟨⟨⟨⟨⟨⟨⟨⟨⟨⟨⟨⟨⟨⟨⟨⟨⟨-, -⟩, -⟩, -⟩, -⟩, -⟩, -⟩, q139⟩, -⟩, -⟩, -⟩, -⟩, -⟩, -⟩, q140⟩, -⟩, -⟩, -⟩, -⟩, -⟩, -⟩, q141⟩ := hP138
      have X142 := Below.kl X114 E137 all0 (Nat.le_refl _)
      have q139 : ∃ b : Nat, v121 = .slice (some ⟨b, 0, none⟩) 2 2 ∧ w103.heap.size ≤ b ∧ Blk w136 b [(Iv el2), (Iv el3)] := q139 rfl
      obtain ⟨b143, rfl, hb144, hB145⟩ := q139
      have g147 : w.heap.size ≤ b143 := Nat.le_trans (Below.size X106) hb144
      have q140 : ∃ b : Nat, v128 = .slice (some ⟨b, 0, none⟩) 2 2 ∧ w103.heap.size ≤ b ∧ Blk w136 b [(Iv el2), (Iv el4)] := q140 rfl
      obtain ⟨b148, rfl, hb149, hB150⟩ := q140
      have g152 : w.heap.size ≤ b148 := Nat.le_trans (Below.size X106) hb149
      have q141 : ∃ b : Nat, v135 = .slice (some ⟨b, 0, none⟩) 2 2 ∧ w103.heap.size ≤ b ∧ Blk w136 b [(Iv el2), (Iv el5)] := q141 rfl
      obtain ⟨b153, rfl, hb154, hB155⟩ := q141
      have g157 : w.heap.size ≤ b153 := Nat.le_trans (Below.size X106) hb154
      refine fz ?_
      refine sd (does_buildSlice (e := 87) (parts' := [(0, (.slice (some ⟨b143, 0, none⟩) 2 2)), (1, (.slice (some ⟨b148, 0, none⟩) 2 2)), (2, (.slice (some ⟨b153, 0, none⟩) 2 2))]) (cells := [(.slice (some ⟨b143, 0, none⟩) 2 2), (.slice (some ⟨b148, 0, none⟩) 2 2), (.slice (some ⟨b153, 0, none⟩) 2 2)]) (evp rfl) (fun _ => by kernel_rfl)) ?_; rintro _ w162 ⟨b158, rfl, hb159, hB160, E161⟩
      have g167 : w.heap.size ≤ b158 := Nat.le_trans (Below.size X142) hb159
      have X168 := Ext.gr X142 E161
      refine fz ?_
      refine ja (.slice (some ⟨b158, 0, none⟩) 3 3) ?_
      refine wn K109 ?_
      refine wp_ret ?_
      dsimp only [Exit.then, Exit.inBlock]
      refine ret_val (v := (.slice (some ⟨b158, 0, none⟩) 3 3)) (res_T rfl (slot rfl)) X168 ?_
      try simp only [hel2, hel3, hel4, hel5] at c46 c96
      have x169 : ([[el2, el3], [el2, el4], [el2, el5]]) = (flE (edB L_in_)) := by (obtain rfl : k = 4 := by omega); first | (rw [edB, edP_1 (by omega) (by assumption)]; first | rfl | (simp only [flE, List.map, iAt, hel2, hel3, hel4, hel5, c46, c96, Option.getD_some]; done)) | (rw [edB, edP_3 (by omega) (by assumption)]; first | rfl | (simp only [flE, List.map, iAt, hel2, hel3, hel4, hel5, c46, c96, Option.getD_some]; done)) | (rw [edB, edP_2a (by omega) (by assumption) (by assumption) (by assumption) (by assumption) (by first | assumption | omega)]; first | rfl | (simp only [flE, List.map, iAt, hel2, hel3, hel4, hel5, c46, c96, Option.getD_some]; done)) | (rw [edB, edP_2b (by omega) (by assumption) (by assumption) (by assumption) (by assumption) (by first | assumption | omega)]; first | rfl | (simp only [flE, List.map, iAt, hel2, hel3, hel4, hel5, c46, c96, Option.getD_some]; done)) | (rw [edB, edP_0 (by omega) (by omega) (by omega)]; first | rfl | (simp only [flE, List.map, iAt, hel2, hel3, hel4, hel5, c46, c96, Option.getD_some]; done))
      exact ⟨(.slice (some ⟨b158, 0, none⟩) 3 3), rfl, (Hang.castL (fun u hu => Sl_lit (Blk.hang hB160 g167 u hu) (by decide) (by simp) (fun i x hi => by match i, hi with | 0, hi => cases hi; exact ⟨⟨_, rfl, Sl_lit2 (Blk.hang (hB145.ext E161) g147 u hu) rfl rfl⟩, rfl⟩ | 1, hi => cases hi; exact ⟨⟨_, rfl, Sl_lit2 (Blk.hang (hB150.ext E161) g152 u hu) rfl rfl⟩, rfl⟩ | 2, hi => cases hi; exact ⟨⟨_, rfl, Sl_lit2 (Blk.hang (hB155.ext E161) g157 u hu) rfl rfl⟩, rfl⟩ | _ + 3, hi => simp at hi)) x169)⟩
    have c96' := c96
    (try simp only [icmp, bs] at c96')
    refine wr fun _ K170 => ?_
    refine jj (does_icmp (p := (((posN true L_in_ k).length) : Int)) (q := 3) (.inl rfl) (ev rfl) (ev rfl)) ?_
    refine ja (Bo (icmp .eql (((posN true L_in_ k).length) : Int) 3)) ?_
    refine wn K170 ?_
    refine wp_cond_split (t := icmp .eql (((posN true L_in_ k).length) : Int) 3) (ev rfl) (fun c171 => ?_) (fun c171 => ?_)
    · have c171' := c171
      (try simp only [icmp, bs] at c171')
      refine wr fun _ K172 => ?_
      refine jm (.slice p41 ((posN false L_in_ k).length) q42) ?_
      obtain ⟨el6, hel6⟩ : ∃ e, (posN false L_in_ k)[0]? = some e := ⟨_, List.getElem?_eq_getElem (by omega)⟩
      refine sd (does_indexSl (R := RI) (i := 0) (xs := posN false L_in_ k) (e := el6) Try.underlying87 Try.sizeOf3 (ev rfl) (ev rfl) hH43.get (by omega) hel6) ?_; rintro _ w25 ⟨b173, o174, _, rfl, hc176, rfl, rfl⟩
      refine fz ?_
      refine jj (does_load (u := (Iv el6)) (ev rfl) Try.isAgg3 (Cells.at hc176 0 rfl)) ?_
      refine sd (does_call (args := #[(Iv el6)]) cal65 (evs rfl) (c_spec_l07Rest el6 _)) ?_; rintro _ w178 ⟨E177, ⟨y180, rfl, hh179⟩⟩
      have X181 := Ext.gr E26 E177
      obtain ⟨p182, q183, rfl⟩ := Sl.shape hh179.get
      refine fz ?_
      refine ja (.slice p182 ((restL el6).length) q183) ?_
      refine wn K172 ?_
      refine ws fun _ K184 => ?_
      have hrl2 := restL_len el6
      obtain ⟨el7, hel7⟩ : ∃ e, (restL el6)[0]? = some e := ⟨_, List.getElem?_eq_getElem (by omega)⟩
      obtain ⟨el8, hel8⟩ : ∃ e, (restL el6)[2]? = some e := ⟨_, List.getElem?_eq_getElem (by omega)⟩
      obtain ⟨el9, hel9⟩ : ∃ e, (restL el6)[1]? = some e := ⟨_, List.getElem?_eq_getElem (by omega)⟩
      refine region_any2 [] [0, 1, 3, 0, 8, 24, 63, 0, 128, 384, 0, 1024, 3072, 8064, 0, 16384, 49152, 0, 131072, 393216, 1032192, 2097151, 4194303] [] (
        [FactW.pure [] [] [] true (fun v => v = (.slice p41 ((posN false L_in_ k).length) q42)),
          FactW.mem [0] [] [] [] true (fun v w' => PtrR RI w' v el6) (by intro v w1 w2 hx' h; have hx := KpL.toExt hx'; exact h.ext RI.mono hx),
          FactW.pure [1] [] [] true (fun v => v = (Iv el6)),
          FactW.pure [] [] [] true (fun v => v = (.slice p182 ((restL el6).length) q183)),
          FactW.mem [3] [] [] [] true (fun v w' => PtrR RI w' v el7) (by intro v w1 w2 hx' h; have hx := KpL.toExt hx'; exact h.ext RI.mono hx),
          FactW.pure [4] [] [] true (fun v => v = (Iv el7)),
          FactW.mem [2, 5] [] [] [] true (fun v w' => ∃ b : Nat, v = .slice (some ⟨b, 0, none⟩) 2 2 ∧ w178.heap.size ≤ b ∧ Blk w' b [(Iv el6), (Iv el7)]) (by rintro v w1 w2 hx' ⟨b, rfl, hb, hB⟩; have hx := KpL.toExt hx'; exact ⟨b, rfl, hb, (hB.ext hx)⟩),
          FactW.pure [] [] [] true (fun v => v = (.slice p41 ((posN false L_in_ k).length) q42)),
          FactW.mem [7] [] [] [] true (fun v w' => PtrR RI w' v el6) (by intro v w1 w2 hx' h; have hx := KpL.toExt hx'; exact h.ext RI.mono hx),
          FactW.pure [8] [] [] true (fun v => v = (Iv el6)),
          FactW.pure [] [] [] true (fun v => v = (.slice p182 ((restL el6).length) q183)),
          FactW.mem [10] [] [] [] true (fun v w' => PtrR RI w' v el8) (by intro v w1 w2 hx' h; have hx := KpL.toExt hx'; exact h.ext RI.mono hx),
          FactW.pure [11] [] [] true (fun v => v = (Iv el8)),
          FactW.mem [9, 12] [] [] [] true (fun v w' => ∃ b : Nat, v = .slice (some ⟨b, 0, none⟩) 2 2 ∧ w178.heap.size ≤ b ∧ Blk w' b [(Iv el6), (Iv el8)]) (by rintro v w1 w2 hx' ⟨b, rfl, hb, hB⟩; have hx := KpL.toExt hx'; exact ⟨b, rfl, hb, (hB.ext hx)⟩),
          FactW.pure [] [] [] true (fun v => v = (.slice p41 ((posN false L_in_ k).length) q42)),
          FactW.mem [14] [] [] [] true (fun v w' => PtrR RI w' v el6) (by intro v w1 w2 hx' h; have hx := KpL.toExt hx'; exact h.ext RI.mono hx),
          FactW.pure [15] [] [] true (fun v => v = (Iv el6)),
          FactW.pure [] [] [] true (fun v => v = (.slice p182 ((restL el6).length) q183)),
          FactW.mem [17] [] [] [] true (fun v w' => PtrR RI w' v el9) (by intro v w1 w2 hx' h; have hx := KpL.toExt hx'; exact h.ext RI.mono hx),
          FactW.pure [18] [] [] true (fun v => v = (Iv el9)),
          FactW.mem [16, 19] [] [] [] true (fun v w' => ∃ b : Nat, v = .slice (some ⟨b, 0, none⟩) 2 2 ∧ w178.heap.size ≤ b ∧ Blk w' b [(Iv el6), (Iv el9)]) (by rintro v w1 w2 hx' ⟨b, rfl, hb, hB⟩; have hx := KpL.toExt hx'; exact ⟨b, rfl, hb, (hB.ext hx)⟩)]) mixed (by kernel_rfl) ?_
      obtain ⟨w185, hw187⟩ : ∃ w', w' = World.drew w178 := ⟨_, rfl⟩; rw [← hw187]; have E186 : Ext w178 w185 := by rw [hw187]; exact Ext.draw _
      clear hw187
      have X189 := Ext.gr X181 E186
      refine R2_p (fun u hu _ => does_move (u := (.slice p41 ((posN false L_in_ k).length) q42)) (ev rfl)) fun v190 => ?_
      refine R2_d (fun u hu hF => ?_) (fun v191 => ?_)
      · replace hu : KpL [] _ _ := hu
        have h68_ : v190 = (.slice p41 ((posN false L_in_ k).length) q42) := hF.1
        clear hF
        refine doesG_un rfl ?_
        obtain rfl := h68_
        refine (does_indexSl (R := RI) (i := 0) (xs := posN false L_in_ k) (e := el6) Try.underlying87 Try.sizeOf3 (ev rfl) (ev rfl) (hH43 _ ((((Same.refl _ _).ext E177).ext E186).ext (KpL.toExt hu))) (by omega) hel6).mono ?_; rintro v u' ⟨b, of, cs, hv, hc, hR, hu'⟩; subst hu'
        exact ⟨⟨b, of, cs, hv, hc, hR⟩, KpL.refl _ _⟩
      refine R2_d (fun u hu hF => ?_) (fun v192 => ?_)
      · replace hu : KpL [] _ _ := hu
        have h69_ : PtrR RI u v191 el6 := hF.1
        clear hF
        refine doesG_un rfl ?_
        obtain ⟨b69_, o69_, _, rfl, hc69_, rfl⟩ := h69_
        refine (does_load (u := (Iv el6)) (ev rfl) Try.isAgg3 (Cells.at hc69_ 0 rfl)).mono ?_; rintro _ _ ⟨rfl, rfl⟩
        exact ⟨rfl, KpL.refl _ _⟩
      refine R2_p (fun u hu _ => does_move (u := (.slice p182 ((restL el6).length) q183)) (ev rfl)) fun v193 => ?_
      refine R2_d (fun u hu hF => ?_) (fun v194 => ?_)
      · replace hu : KpL [] _ _ := hu
        have h71_ : v193 = (.slice p182 ((restL el6).length) q183) := hF.1
        clear hF
        refine doesG_un rfl ?_
        obtain rfl := h71_
        refine (does_indexSl (R := RI) (i := 0) (xs := (restL el6)) (e := el7) Try.underlying87 Try.sizeOf3 (ev rfl) (ev rfl) (hh179 _ (((Same.refl _ _).ext E186).ext (KpL.toExt hu))) (by omega) hel7).mono ?_; rintro v u' ⟨b, of, cs, hv, hc, hR, hu'⟩; subst hu'
        exact ⟨⟨b, of, cs, hv, hc, hR⟩, KpL.refl _ _⟩
      refine R2_d (fun u hu hF => ?_) (fun v195 => ?_)
      · replace hu : KpL [] _ _ := hu
        have h72_ : PtrR RI u v194 el7 := hF.1
        clear hF
        refine doesG_un rfl ?_
        obtain ⟨b72_, o72_, _, rfl, hc72_, rfl⟩ := h72_
        refine (does_load (u := (Iv el7)) (ev rfl) Try.isAgg3 (Cells.at hc72_ 0 rfl)).mono ?_; rintro _ _ ⟨rfl, rfl⟩
        exact ⟨rfl, KpL.refl _ _⟩
      refine R2_d (fun u hu hF => ?_) (fun v196 => ?_)
      · replace hu : KpL [] _ _ := hu
        have h70_ : v192 = (Iv el6) := hF.1
        have h73_ : v195 = (Iv el7) := hF.2.1
        clear hF
        refine doesG_un rfl ?_
        obtain rfl := h70_
        obtain rfl := h73_
        refine (does_buildSlice (e := 3) (parts' := [(0, (Iv el6)), (1, (Iv el7))]) (cells := [(Iv el6), (Iv el7)]) (evp rfl) (fun _ => by kernel_rfl)).mono ?_; rintro _ _ ⟨b, rfl, hb, hB, hx⟩
        exact ⟨⟨b, rfl, Nat.le_trans (Nat.le_trans (Below.size E186) (KpL.size hu)) hb, hB⟩, (KpL.of_ext hx)⟩
      refine R2_p (fun u hu _ => does_move (u := (.slice p41 ((posN false L_in_ k).length) q42)) (ev rfl)) fun v197 => ?_
      refine R2_d (fun u hu hF => ?_) (fun v198 => ?_)
      · replace hu : KpL [] _ _ := hu
        have h75_ : v197 = (.slice p41 ((posN false L_in_ k).length) q42) := hF.1
        clear hF
        refine doesG_un rfl ?_
        obtain rfl := h75_
        refine (does_indexSl (R := RI) (i := 0) (xs := posN false L_in_ k) (e := el6) Try.underlying87 Try.sizeOf3 (ev rfl) (ev rfl) (hH43 _ ((((Same.refl _ _).ext E177).ext E186).ext (KpL.toExt hu))) (by omega) hel6).mono ?_; rintro v u' ⟨b, of, cs, hv, hc, hR, hu'⟩; subst hu'
        exact ⟨⟨b, of, cs, hv, hc, hR⟩, KpL.refl _ _⟩
      refine R2_d (fun u hu hF => ?_) (fun v199 => ?_)
      · replace hu : KpL [] _ _ := hu
        have h76_ : PtrR RI u v198 el6 := hF.1
        clear hF
        refine doesG_un rfl ?_
        obtain ⟨b76_, o76_, _, rfl, hc76_, rfl⟩ := h76_
        refine (does_load (u := (Iv el6)) (ev rfl) Try.isAgg3 (Cells.at hc76_ 0 rfl)).mono ?_; rintro _ _ ⟨rfl, rfl⟩
        exact ⟨rfl, KpL.refl _ _⟩
      refine R2_p (fun u hu _ => does_move (u := (.slice p182 ((restL el6).length) q183)) (ev rfl)) fun v200 => ?_
      refine R2_d (fun u hu hF => ?_) (fun v201 => ?_)
      · replace hu : KpL [] _ _ := hu
        have h78_ : v200 = (.slice p182 ((restL el6).length) q183) := hF.1
        clear hF
        refine doesG_un rfl ?_
        obtain rfl := h78_
        refine (does_indexSl (R := RI) (i := 2) (xs := (restL el6)) (e := el8) Try.underlying87 Try.sizeOf3 (ev rfl) (ev rfl) (hh179 _ (((Same.refl _ _).ext E186).ext (KpL.toExt hu))) (by omega) hel8).mono ?_; rintro v u' ⟨b, of, cs, hv, hc, hR, hu'⟩; subst hu'
        exact ⟨⟨b, of, cs, hv, hc, hR⟩, KpL.refl _ _⟩
      refine R2_d (fun u hu hF => ?_) (fun v202 => ?_)
      · replace hu : KpL [] _ _ := hu
        have h79_ : PtrR RI u v201 el8 := hF.1
        clear hF
        refine doesG_un rfl ?_
        obtain ⟨b79_, o79_, _, rfl, hc79_, rfl⟩ := h79_
        refine (does_load (u := (Iv el8)) (ev rfl) Try.isAgg3 (Cells.at hc79_ 0 rfl)).mono ?_; rintro _ _ ⟨rfl, rfl⟩
        exact ⟨rfl, KpL.refl _ _⟩
      refine R2_d (fun u hu hF => ?_) (fun v203 => ?_)
      · replace hu : KpL [] _ _ := hu
        have h77_ : v199 = (Iv el6) := hF.1
        have h80_ : v202 = (Iv el8) := hF.2.1
        clear hF
        refine doesG_un rfl ?_
        obtain rfl := h77_
        obtain rfl := h80_
        refine (does_buildSlice (e := 3) (parts' := [(0, (Iv el6)), (1, (Iv el8))]) (cells := [(Iv el6), (Iv el8)]) (evp rfl) (fun _ => by kernel_rfl)).mono ?_; rintro _ _ ⟨b, rfl, hb, hB, hx⟩
        exact ⟨⟨b, rfl, Nat.le_trans (Nat.le_trans (Below.size E186) (KpL.size hu)) hb, hB⟩, (KpL.of_ext hx)⟩
      refine R2_p (fun u hu _ => does_move (u := (.slice p41 ((posN false L_in_ k).length) q42)) (ev rfl)) fun v204 => ?_
      refine R2_d (fun u hu hF => ?_) (fun v205 => ?_)
      · replace hu : KpL [] _ _ := hu
        have h82_ : v204 = (.slice p41 ((posN false L_in_ k).length) q42) := hF.1
        clear hF
        refine doesG_un rfl ?_
        obtain rfl := h82_
        refine (does_indexSl (R := RI) (i := 0) (xs := posN false L_in_ k) (e := el6) Try.underlying87 Try.sizeOf3 (ev rfl) (ev rfl) (hH43 _ ((((Same.refl _ _).ext E177).ext E186).ext (KpL.toExt hu))) (by omega) hel6).mono ?_; rintro v u' ⟨b, of, cs, hv, hc, hR, hu'⟩; subst hu'
        exact ⟨⟨b, of, cs, hv, hc, hR⟩, KpL.refl _ _⟩
      refine R2_d (fun u hu hF => ?_) (fun v206 => ?_)
      · replace hu : KpL [] _ _ := hu
        have h83_ : PtrR RI u v205 el6 := hF.1
        clear hF
        refine doesG_un rfl ?_
        obtain ⟨b83_, o83_, _, rfl, hc83_, rfl⟩ := h83_
        refine (does_load (u := (Iv el6)) (ev rfl) Try.isAgg3 (Cells.at hc83_ 0 rfl)).mono ?_; rintro _ _ ⟨rfl, rfl⟩
        exact ⟨rfl, KpL.refl _ _⟩
      refine R2_p (fun u hu _ => does_move (u := (.slice p182 ((restL el6).length) q183)) (ev rfl)) fun v207 => ?_
      refine R2_d (fun u hu hF => ?_) (fun v208 => ?_)
      · replace hu : KpL [] _ _ := hu
        have h85_ : v207 = (.slice p182 ((restL el6).length) q183) := hF.1
        clear hF
        refine doesG_un rfl ?_
        obtain rfl := h85_
        refine (does_indexSl (R := RI) (i := 1) (xs := (restL el6)) (e := el9) Try.underlying87 Try.sizeOf3 (ev rfl) (ev rfl) (hh179 _ (((Same.refl _ _).ext E186).ext (KpL.toExt hu))) (by omega) hel9).mono ?_; rintro v u' ⟨b, of, cs, hv, hc, hR, hu'⟩; subst hu'
        exact ⟨⟨b, of, cs, hv, hc, hR⟩, KpL.refl _ _⟩
      refine R2_d (fun u hu hF => ?_) (fun v209 => ?_)
      · replace hu : KpL [] _ _ := hu
        have h86_ : PtrR RI u v208 el9 := hF.1
        clear hF
        refine doesG_un rfl ?_
        obtain ⟨b86_, o86_, _, rfl, hc86_, rfl⟩ := h86_
        refine (does_load (u := (Iv el9)) (ev rfl) Try.isAgg3 (Cells.at hc86_ 0 rfl)).mono ?_; rintro _ _ ⟨rfl, rfl⟩
        exact ⟨rfl, KpL.refl _ _⟩
      refine R2_d (fun u hu hF => ?_) (fun v210 => ?_)
      · replace hu : KpL [] _ _ := hu
        have h84_ : v206 = (Iv el6) := hF.1
        have h87_ : v209 = (Iv el9) := hF.2.1
        clear hF
        refine doesG_un rfl ?_
        obtain rfl := h84_
        obtain rfl := h87_
        refine (does_buildSlice (e := 3) (parts' := [(0, (Iv el6)), (1, (Iv el9))]) (cells := [(Iv el6), (Iv el9)]) (evp rfl) (fun _ => by kernel_rfl)).mono ?_; rintro _ _ ⟨b, rfl, hb, hB, hx⟩
        exact ⟨⟨b, rfl, Nat.le_trans (Nat.le_trans (Below.size E186) (KpL.size hu)) hb, hB⟩, (KpL.of_ext hx)⟩
      refine RW2_fin ?_; intro w211 E212 hP213; replace E212 : KpL [] _ _ := E212
      obtain ⟨⟨⟨⟨⟨⟨⟨⟨⟨⟨⟨⟨⟨⟨⟨⟨⟨⟨⟨⟨⟨-, -⟩, -⟩, -⟩, -⟩, -⟩, -⟩, q214⟩, -⟩, -⟩, -⟩, -⟩, -⟩, -⟩, q215⟩, -⟩, -⟩, -⟩, -⟩, -⟩, -⟩, q216⟩ := hP213
      have X217 := Below.kl X189 E212 all0 (Nat.le_refl _)
      have q214 : ∃ b : Nat, v196 = .slice (some ⟨b, 0, none⟩) 2 2 ∧ w178.heap.size ≤ b ∧ Blk w211 b [(Iv el6), (Iv el7)] := q214 rfl
      obtain ⟨b218, rfl, hb219, hB220⟩ := q214
      have g222 : w.heap.size ≤ b218 := Nat.le_trans (Below.size X181) hb219
      have q215 : ∃ b : Nat, v203 = .slice (some ⟨b, 0, none⟩) 2 2 ∧ w178.heap.size ≤ b ∧ Blk w211 b [(Iv el6), (Iv el8)] := q215 rfl
      obtain ⟨b223, rfl, hb224, hB225⟩ := q215
      have g227 : w.heap.size ≤ b223 := Nat.le_trans (Below.size X181) hb224
      have q216 : ∃ b : Nat, v210 = .slice (some ⟨b, 0, none⟩) 2 2 ∧ w178.heap.size ≤ b ∧ Blk w211 b [(Iv el6), (Iv el9)] := q216 rfl
      obtain ⟨b228, rfl, hb229, hB230⟩ := q216
      have g232 : w.heap.size ≤ b228 := Nat.le_trans (Below.size X181) hb229
      refine fz ?_
      refine sd (does_buildSlice (e := 87) (parts' := [(0, (.slice (some ⟨b218, 0, none⟩) 2 2)), (1, (.slice (some ⟨b223, 0, none⟩) 2 2)), (2, (.slice (some ⟨b228, 0, none⟩) 2 2))]) (cells := [(.slice (some ⟨b218, 0, none⟩) 2 2), (.slice (some ⟨b223, 0, none⟩) 2 2), (.slice (some ⟨b228, 0, none⟩) 2 2)]) (evp rfl) (fun _ => by kernel_rfl)) ?_; rintro _ w237 ⟨b233, rfl, hb234, hB235, E236⟩
      have g242 : w.heap.size ≤ b233 := Nat.le_trans (Below.size X217) hb234
      have X243 := Ext.gr X217 E236
      refine fz ?_
      refine ja (.slice (some ⟨b233, 0, none⟩) 3 3) ?_
      refine wn K184 ?_
      refine wp_ret ?_
      dsimp only [Exit.then, Exit.inBlock]
      refine ret_val (v := (.slice (some ⟨b233, 0, none⟩) 3 3)) (res_T rfl (slot rfl)) X243 ?_
      try simp only [hel6, hel7, hel8, hel9] at c46 c96 c171
      have x244 : ([[el6, el7], [el6, el8], [el6, el9]]) = (flE (edB L_in_)) := by (obtain rfl : k = 4 := by omega); first | (rw [edB, edP_1 (by omega) (by assumption)]; first | rfl | (simp only [flE, List.map, iAt, hel6, hel7, hel8, hel9, c46, c96, c171, Option.getD_some]; done)) | (rw [edB, edP_3 (by omega) (by assumption)]; first | rfl | (simp only [flE, List.map, iAt, hel6, hel7, hel8, hel9, c46, c96, c171, Option.getD_some]; done)) | (rw [edB, edP_2a (by omega) (by assumption) (by assumption) (by assumption) (by assumption) (by first | assumption | omega)]; first | rfl | (simp only [flE, List.map, iAt, hel6, hel7, hel8, hel9, c46, c96, c171, Option.getD_some]; done)) | (rw [edB, edP_2b (by omega) (by assumption) (by assumption) (by assumption) (by assumption) (by first | assumption | omega)]; first | rfl | (simp only [flE, List.map, iAt, hel6, hel7, hel8, hel9, c46, c96, c171, Option.getD_some]; done)) | (rw [edB, edP_0 (by omega) (by omega) (by omega)]; first | rfl | (simp only [flE, List.map, iAt, hel6, hel7, hel8, hel9, c46, c96, c171, Option.getD_some]; done))
      exact ⟨(.slice (some ⟨b233, 0, none⟩) 3 3), rfl, (Hang.castL (fun u hu => Sl_lit (Blk.hang hB235 g242 u hu) (by decide) (by simp) (fun i x hi => by match i, hi with | 0, hi => cases hi; exact ⟨⟨_, rfl, Sl_lit2 (Blk.hang (hB220.ext E236) g222 u hu) rfl rfl⟩, rfl⟩ | 1, hi => cases hi; exact ⟨⟨_, rfl, Sl_lit2 (Blk.hang (hB225.ext E236) g227 u hu) rfl rfl⟩, rfl⟩ | 2, hi => cases hi; exact ⟨⟨_, rfl, Sl_lit2 (Blk.hang (hB230.ext E236) g232 u hu) rfl rfl⟩, rfl⟩ | _ + 3, hi => simp at hi)) x244)⟩
    have c171' := c171
    (try simp only [icmp, bs] at c171')
    refine wr fun _ K245 => ?_
    refine jj (does_icmp (p := (((posN true L_in_ k).length) : Int)) (q := 2) (.inl rfl) (ev rfl) (ev rfl)) ?_
    refine ja (Bo (icmp .eql (((posN true L_in_ k).length) : Int) 2)) ?_
    refine wn K245 ?_
    refine wp_cond_split (t := icmp .eql (((posN true L_in_ k).length) : Int) 2) (ev rfl) (fun c246 => ?_) (fun c246 => ?_)
    · have c246' := c246
      (try simp only [icmp, bs] at c246')
      refine ws fun _ K247 => ?_
      obtain ⟨el10, hel10⟩ : ∃ e, (posN true L_in_ k)[0]? = some e := ⟨_, List.getElem?_eq_getElem (by omega)⟩
      obtain ⟨el11, hel11⟩ : ∃ e, (posN true L_in_ k)[1]? = some e := ⟨_, List.getElem?_eq_getElem (by omega)⟩
      obtain ⟨el12, hel12⟩ : ∃ e, (posN false L_in_ k)[0]? = some e := ⟨_, List.getElem?_eq_getElem (by omega)⟩
      obtain ⟨el13, hel13⟩ : ∃ e, (posN false L_in_ k)[1]? = some e := ⟨_, List.getElem?_eq_getElem (by omega)⟩
      refine region_any2 [] [0, 1, 3, 0, 8, 24, 0, 64, 192, 0, 512, 1536, 7, 4159, 12799, 32767] [] (
        [FactW.pure [] [] [] true (fun v => v = (.slice p38 ((posN true L_in_ k).length) q39)),
          FactW.mem [0] [] [] [] true (fun v w' => PtrR RI w' v el10) (by intro v w1 w2 hx' h; have hx := KpL.toExt hx'; exact h.ext RI.mono hx),
          FactW.pure [1] [] [] true (fun v => v = (Iv el10)),
          FactW.pure [] [] [] true (fun v => v = (.slice p38 ((posN true L_in_ k).length) q39)),
          FactW.mem [3] [] [] [] true (fun v w' => PtrR RI w' v el11) (by intro v w1 w2 hx' h; have hx := KpL.toExt hx'; exact h.ext RI.mono hx),
          FactW.pure [4] [] [] true (fun v => v = (Iv el11)),
          FactW.pure [] [] [] true (fun v => v = (.slice p41 ((posN false L_in_ k).length) q42)),
          FactW.mem [6] [] [] [] true (fun v w' => PtrR RI w' v el12) (by intro v w1 w2 hx' h; have hx := KpL.toExt hx'; exact h.ext RI.mono hx),
          FactW.pure [7] [] [] true (fun v => v = (Iv el12)),
          FactW.pure [] [] [] true (fun v => v = (.slice p41 ((posN false L_in_ k).length) q42)),
          FactW.mem [9] [] [] [] true (fun v w' => PtrR RI w' v el13) (by intro v w1 w2 hx' h; have hx := KpL.toExt hx'; exact h.ext RI.mono hx),
          FactW.pure [10] [] [] true (fun v => v = (Iv el13)),
          FactW.pure [2] [] [] true (fun v => v = (Iv el10)),
          FactW.pure [5] [] [] true (fun v => v = (Iv el11)),
          FactW.pure [8] [] [] true (fun v => v = (Iv el12))]) mixed (by kernel_rfl) ?_
      obtain ⟨w248, hw250⟩ : ∃ w', w' = World.drew w25 := ⟨_, rfl⟩; rw [← hw250]; have E249 : Ext w25 w248 := by rw [hw250]; exact Ext.draw _
      clear hw250
      have X252 := Ext.gr E26 E249
      refine R2_p (fun u hu _ => does_move (u := (.slice p38 ((posN true L_in_ k).length) q39)) (ev rfl)) fun v253 => ?_
      refine R2_d (fun u hu hF => ?_) (fun v254 => ?_)
      · replace hu : KpL [] _ _ := hu
        have h92_ : v253 = (.slice p38 ((posN true L_in_ k).length) q39) := hF.1
        clear hF
        refine doesG_un rfl ?_
        obtain rfl := h92_
        refine (does_indexSl (R := RI) (i := 0) (xs := posN true L_in_ k) (e := el10) Try.underlying87 Try.sizeOf3 (ev rfl) (ev rfl) (hH40 _ (((Same.refl _ _).ext E249).ext (KpL.toExt hu))) (by omega) hel10).mono ?_; rintro v u' ⟨b, of, cs, hv, hc, hR, hu'⟩; subst hu'
        exact ⟨⟨b, of, cs, hv, hc, hR⟩, KpL.refl _ _⟩
      refine R2_d (fun u hu hF => ?_) (fun v255 => ?_)
      · replace hu : KpL [] _ _ := hu
        have h93_ : PtrR RI u v254 el10 := hF.1
        clear hF
        refine doesG_un rfl ?_
        obtain ⟨b93_, o93_, _, rfl, hc93_, rfl⟩ := h93_
        refine (does_load (u := (Iv el10)) (ev rfl) Try.isAgg3 (Cells.at hc93_ 0 rfl)).mono ?_; rintro _ _ ⟨rfl, rfl⟩
        exact ⟨rfl, KpL.refl _ _⟩
      refine R2_p (fun u hu _ => does_move (u := (.slice p38 ((posN true L_in_ k).length) q39)) (ev rfl)) fun v256 => ?_
      refine R2_d (fun u hu hF => ?_) (fun v257 => ?_)
      · replace hu : KpL [] _ _ := hu
        have h95_ : v256 = (.slice p38 ((posN true L_in_ k).length) q39) := hF.1
        clear hF
        refine doesG_un rfl ?_
        obtain rfl := h95_
        refine (does_indexSl (R := RI) (i := 1) (xs := posN true L_in_ k) (e := el11) Try.underlying87 Try.sizeOf3 (ev rfl) (ev rfl) (hH40 _ (((Same.refl _ _).ext E249).ext (KpL.toExt hu))) (by omega) hel11).mono ?_; rintro v u' ⟨b, of, cs, hv, hc, hR, hu'⟩; subst hu'
        exact ⟨⟨b, of, cs, hv, hc, hR⟩, KpL.refl _ _⟩
      refine R2_d (fun u hu hF => ?_) (fun v258 => ?_)
      · replace hu : KpL [] _ _ := hu
        have h96_ : PtrR RI u v257 el11 := hF.1
        clear hF
        refine doesG_un rfl ?_
        obtain ⟨b96_, o96_, _, rfl, hc96_, rfl⟩ := h96_
        refine (does_load (u := (Iv el11)) (ev rfl) Try.isAgg3 (Cells.at hc96_ 0 rfl)).mono ?_; rintro _ _ ⟨rfl, rfl⟩
        exact ⟨rfl, KpL.refl _ _⟩
      refine R2_p (fun u hu _ => does_move (u := (.slice p41 ((posN false L_in_ k).length) q42)) (ev rfl)) fun v259 => ?_
      refine R2_d (fun u hu hF => ?_) (fun v260 => ?_)
      · replace hu : KpL [] _ _ := hu
        have h98_ : v259 = (.slice p41 ((posN false L_in_ k).length) q42) := hF.1
        clear hF
        refine doesG_un rfl ?_
        obtain rfl := h98_
        refine (does_indexSl (R := RI) (i := 0) (xs := posN false L_in_ k) (e := el12) Try.underlying87 Try.sizeOf3 (ev rfl) (ev rfl) (hH43 _ (((Same.refl _ _).ext E249).ext (KpL.toExt hu))) (by omega) hel12).mono ?_; rintro v u' ⟨b, of, cs, hv, hc, hR, hu'⟩; subst hu'
        exact ⟨⟨b, of, cs, hv, hc, hR⟩, KpL.refl _ _⟩
      refine R2_d (fun u hu hF => ?_) (fun v261 => ?_)
      · replace hu : KpL [] _ _ := hu
        have h99_ : PtrR RI u v260 el12 := hF.1
        clear hF
        refine doesG_un rfl ?_
        obtain ⟨b99_, o99_, _, rfl, hc99_, rfl⟩ := h99_
        refine (does_load (u := (Iv el12)) (ev rfl) Try.isAgg3 (Cells.at hc99_ 0 rfl)).mono ?_; rintro _ _ ⟨rfl, rfl⟩
        exact ⟨rfl, KpL.refl _ _⟩
      refine R2_p (fun u hu _ => does_move (u := (.slice p41 ((posN false L_in_ k).length) q42)) (ev rfl)) fun v262 => ?_
      refine R2_d (fun u hu hF => ?_) (fun v263 => ?_)
      · replace hu : KpL [] _ _ := hu
        have h101_ : v262 = (.slice p41 ((posN false L_in_ k).length) q42) := hF.1
        clear hF
        refine doesG_un rfl ?_
        obtain rfl := h101_
        refine (does_indexSl (R := RI) (i := 1) (xs := posN false L_in_ k) (e := el13) Try.underlying87 Try.sizeOf3 (ev rfl) (ev rfl) (hH43 _ (((Same.refl _ _).ext E249).ext (KpL.toExt hu))) (by omega) hel13).mono ?_; rintro v u' ⟨b, of, cs, hv, hc, hR, hu'⟩; subst hu'
        exact ⟨⟨b, of, cs, hv, hc, hR⟩, KpL.refl _ _⟩
      refine R2_d (fun u hu hF => ?_) (fun v264 => ?_)
      · replace hu : KpL [] _ _ := hu
        have h102_ : PtrR RI u v263 el13 := hF.1
        clear hF
        refine doesG_un rfl ?_
        obtain ⟨b102_, o102_, _, rfl, hc102_, rfl⟩ := h102_
        refine (does_load (u := (Iv el13)) (ev rfl) Try.isAgg3 (Cells.at hc102_ 0 rfl)).mono ?_; rintro _ _ ⟨rfl, rfl⟩
        exact ⟨rfl, KpL.refl _ _⟩
      refine R2_p (fun u hu hF => ?_) fun v265 => ?_
      · have h94_ : v255 = (Iv el10) := hF.1
        clear hF; subst h94_
        exact does_assign (u := (Iv el10)) (ev rfl)
      refine R2_p (fun u hu hF => ?_) fun v266 => ?_
      · have h97_ : v258 = (Iv el11) := hF.1
        clear hF; subst h97_
        exact does_assign (u := (Iv el11)) (ev rfl)
      refine R2_p (fun u hu hF => ?_) fun v267 => ?_
      · have h100_ : v261 = (Iv el12) := hF.1
        clear hF; subst h100_
        exact does_assign (u := (Iv el12)) (ev rfl)
      refine RW2_fin ?_; intro w268 E269 hP270; replace E269 : KpL [] _ _ := E269
      obtain ⟨⟨⟨⟨⟨⟨⟨⟨⟨⟨⟨⟨⟨⟨⟨-, -⟩, -⟩, -⟩, -⟩, -⟩, -⟩, -⟩, -⟩, -⟩, -⟩, -⟩, q271⟩, q272⟩, q273⟩, q274⟩ := hP270
      have X275 := Below.kl X252 E269 all0 (Nat.le_refl _)
      have q271 : v264 = (Iv el13) := q271 rfl
      obtain rfl := q271
      have q272 : v265 = (Iv el10) := q272 rfl
      obtain rfl := q272
      have q273 : v266 = (Iv el11) := q273 rfl
      obtain rfl := q273
      have q274 : v267 = (Iv el12) := q274 rfl
      obtain rfl := q274
      refine fz ?_
      refine ja (Iv el13) ?_
      refine wn K247 ?_
      refine ws fun _ K276 => ?_
      refine ws fun _ K277 => ?_
      obtain ⟨β1, hβ1⟩ : ∃ b : Bool, b = ((icmp .eql el10 0) && (icmp .eql el11 2)) := ⟨_, rfl⟩
      obtain ⟨β2, hβ2⟩ : ∃ b : Bool, b = ((icmp .eql el10 1) && (icmp .eql el11 3)) := ⟨_, rfl⟩
      refine region_text (
        [Fact.pure [] (fun v => v = (Iv el10)),
    Fact.pure [104] (fun v => v = (Bo (icmp .eql el10 0))),
    Fact.pure [105] (fun v => v = (Bo (icmp .eql el10 0))),
    Fact.pure [106] (fun v => (icmp .eql el10 0) = true → v = (Iv el11)),
    Fact.pure [107, 106] (fun v => (icmp .eql el10 0) = true → v = (Bo (icmp .eql el11 2))),
    Fact.pure [106, 108] (fun v => v = (Bo β1)),
    Fact.pure [109] (fun v => v = (Bo β1)),
    Fact.pure [110] (fun v => β1 = false → v = (Iv el10)),
    Fact.pure [111, 110] (fun v => β1 = false → v = (Bo (icmp .eql el10 1))),
    Fact.pure [112, 110] (fun v => (β1 = false → v = (Bo (icmp .eql el10 1))) ∧ (¬ (β1 = false) → v = undef)),
    Fact.pure [113] (fun v => β1 = false → (icmp .eql el10 1) = true → v = (Iv el11)),
    Fact.pure [114, 113] (fun v => β1 = false → (icmp .eql el10 1) = true → v = (Bo (icmp .eql el11 3))),
    Fact.pure [113, 115, 110] (fun v => β1 = false → v = (Bo β2)),
    Fact.pure [110, 116] (fun v => v = (Bo (β1 || β2)))]) (by simp [Fact.pure, Fact.mem]) ?_
      refine R_p (fun u hu _ => does_move (u := (Iv el10)) (ev rfl)) fun v278 => ?_
      refine R_p (fun u hu hF => ?_) fun v279 => ?_
      · have h104_ : v278 = (Iv el10) := hF.1
        clear hF; subst h104_
        exact does_icmp (p := el10) (q := 0) (.inl rfl) (ev rfl) (ev rfl)
      refine R_p (fun u hu hF => ?_) fun v280 => ?_
      · have h105_ : v279 = (Bo (icmp .eql el10 0)) := hF.1
        clear hF; subst h105_
        exact does_move (u := (Bo (icmp .eql el10 0))) (ev rfl)
      refine R_d (fun u hu hF => ?_) (fun v281 => ?_)
      · have h106_ : v280 = (Bo (icmp .eql el10 0)) := hF.1
        clear hF
        obtain rfl := h106_
        refine doesG_g (b := (icmp .eql el10 0)) rfl (yld rfl rfl) (fun hg1 => ?_) (fun hc => ⟨fun hg1 => absurd hg1 hc, Ext.refl _⟩)
        refine (does_move (u := (Iv el11)) (ev rfl)).mono ?_; rintro _ _ ⟨rfl, rfl⟩
        exact ⟨fun _ => rfl, Ext.refl _⟩
      refine R_d (fun u hu hF => ?_) (fun v282 => ?_)
      · have h107_ : (icmp .eql el10 0) = true → v281 = (Iv el11) := hF.1
        have h106_ : v280 = (Bo (icmp .eql el10 0)) := hF.2.1
        clear hF
        obtain rfl := h106_
        refine doesG_g (b := (icmp .eql el10 0)) rfl (yld rfl rfl) (fun hg1 => ?_) (fun hc => ⟨fun hg1 => absurd hg1 hc, Ext.refl _⟩)
        obtain rfl := h107_ hg1
        refine (does_icmp (p := el11) (q := 2) (.inl rfl) (ev rfl) (ev rfl)).mono ?_; rintro _ _ ⟨rfl, rfl⟩
        exact ⟨fun _ => rfl, Ext.refl _⟩
      refine R_d (fun u hu hF => ?_) (fun v283 => ?_)
      · have h106_ : v280 = (Bo (icmp .eql el10 0)) := hF.1
        have h108_ : (icmp .eql el10 0) = true → v282 = (Bo (icmp .eql el11 2)) := hF.2.1
        clear hF
        refine doesG_un rfl ?_
        skip
        obtain rfl := h106_
        refine (does_pick (b := (icmp .eql el10 0)) (u := v282) (v := (Bo false)) (ev rfl) (ev rfl) (ev rfl)).mono ?_; rintro _ _ ⟨rfl, rfl⟩; refine ⟨?_, Ext.refl _⟩; rw [hβ1]; skip
        cases hbb : (icmp .eql el10 0)
        all_goals first | (show _ = _; simp only [↓reduceIte, Bool.true_and, Bool.false_and, Bool.true_or, Bool.false_or, Bool.false_eq_true]; done) | (have e_ := h108_ hbb; subst e_; show _ = _; simp only [↓reduceIte, Bool.true_and, Bool.false_and, Bool.true_or, Bool.false_or, Bool.false_eq_true]; done) | rfl | (have e_ := h108_ hbb; subst e_; rfl) | (simp [hbb] at h108_ ⊢; first | done | rfl | (subst h108_; rfl) | simp_all) | (simp [hbb] at h108_ ⊢; done)
      refine R_p (fun u hu hF => ?_) fun v284 => ?_
      · have h109_ : v283 = (Bo β1) := hF.1
        clear hF; subst h109_
        exact does_move (u := (Bo β1)) (ev rfl)
      refine R_d (fun u hu hF => ?_) (fun v285 => ?_)
      · have h110_ : v284 = (Bo β1) := hF.1
        clear hF
        obtain rfl := h110_
        refine doesG_g (b := β1) rfl (yld rfl rfl) (fun hg1 => ?_) (fun hc => ⟨fun hg1 => absurd hg1 hc, Ext.refl _⟩)
        refine (does_move (u := (Iv el10)) (ev rfl)).mono ?_; rintro _ _ ⟨rfl, rfl⟩
        exact ⟨fun _ => rfl, Ext.refl _⟩
      refine R_d (fun u hu hF => ?_) (fun v286 => ?_)
      · have h111_ : β1 = false → v285 = (Iv el10) := hF.1
        have h110_ : v284 = (Bo β1) := hF.2.1
        clear hF
        obtain rfl := h110_
        refine doesG_g (b := β1) rfl (yld rfl rfl) (fun hg1 => ?_) (fun hc => ⟨fun hg1 => absurd hg1 hc, Ext.refl _⟩)
        obtain rfl := h111_ hg1
        refine (does_icmp (p := el10) (q := 1) (.inl rfl) (ev rfl) (ev rfl)).mono ?_; rintro _ _ ⟨rfl, rfl⟩
        exact ⟨fun _ => rfl, Ext.refl _⟩
      refine R_d (fun u hu hF => ?_) (fun v287 => ?_)
      · have h112_ : β1 = false → v286 = (Bo (icmp .eql el10 1)) := hF.1
        have h110_ : v284 = (Bo β1) := hF.2.1
        clear hF
        obtain rfl := h110_
        refine doesG_g (b := β1) rfl (yld rfl rfl) (fun hg1 => ?_) (fun hc => ⟨⟨fun hg1 => absurd hg1 hc, fun _ => rfl⟩, Ext.refl _⟩)
        obtain rfl := h112_ hg1
        refine (does_move (u := (Bo (icmp .eql el10 1))) (ev rfl)).mono ?_; rintro _ _ ⟨rfl, rfl⟩
        exact ⟨⟨fun _ => rfl, fun hn => absurd hg1 hn⟩, Ext.refl _⟩
      refine R_d (fun u hu hF => ?_) (fun v288 => ?_)
      · have h113_ : (β1 = false → v287 = (Bo (icmp .eql el10 1))) ∧ (¬ (β1 = false) → v287 = undef) := hF.1; have h113u := h113_.2; replace h113_ := h113_.1
        clear hF
        refine doesG_gg (b := (icmp .eql el10 1)) (c := β1 = false) rfl (fun hc => ?_) (fun hc => ?_) (fun hc hg2 => ?_) (fun hc => ⟨fun hg1 hg2 => absurd ⟨hg1, hg2⟩ hc, Ext.refl _⟩)
        · have hg1 := hc; obtain rfl := h113_ hg1; exact yld rfl rfl
        · obtain rfl := h113u hc; exact yldn rfl rfl
        have hg1 := hc
        obtain rfl := h113_ hg1
        refine (does_move (u := (Iv el11)) (ev rfl)).mono ?_; rintro _ _ ⟨rfl, rfl⟩
        exact ⟨fun _ _ => rfl, Ext.refl _⟩
      refine R_d (fun u hu hF => ?_) (fun v289 => ?_)
      · have h114_ : β1 = false → (icmp .eql el10 1) = true → v288 = (Iv el11) := hF.1
        have h113_ : (β1 = false → v287 = (Bo (icmp .eql el10 1))) ∧ (¬ (β1 = false) → v287 = undef) := hF.2.1; have h113u := h113_.2; replace h113_ := h113_.1
        clear hF
        refine doesG_gg (b := (icmp .eql el10 1)) (c := β1 = false) rfl (fun hc => ?_) (fun hc => ?_) (fun hc hg2 => ?_) (fun hc => ⟨fun hg1 hg2 => absurd ⟨hg1, hg2⟩ hc, Ext.refl _⟩)
        · have hg1 := hc; obtain rfl := h113_ hg1; exact yld rfl rfl
        · obtain rfl := h113u hc; exact yldn rfl rfl
        have hg1 := hc
        obtain rfl := h113_ hg1
        obtain rfl := h114_ hg1 hg2
        refine (does_icmp (p := el11) (q := 3) (.inl rfl) (ev rfl) (ev rfl)).mono ?_; rintro _ _ ⟨rfl, rfl⟩
        exact ⟨fun _ _ => rfl, Ext.refl _⟩
      refine R_d (fun u hu hF => ?_) (fun v290 => ?_)
      · have h113_ : (β1 = false → v287 = (Bo (icmp .eql el10 1))) ∧ (¬ (β1 = false) → v287 = undef) := hF.1; have h113u := h113_.2; replace h113_ := h113_.1
        have h115_ : β1 = false → (icmp .eql el10 1) = true → v289 = (Bo (icmp .eql el11 3)) := hF.2.1
        have h110_ : v284 = (Bo β1) := hF.2.2.1
        clear hF
        obtain rfl := h110_
        refine doesG_g (b := β1) rfl (yld rfl rfl) (fun hg1 => ?_) (fun hc => ⟨fun hg1 => absurd hg1 hc, Ext.refl _⟩)
        skip
        obtain rfl := h113_ hg1
        replace h115_ := h115_ hg1
        refine (does_pick (b := (icmp .eql el10 1)) (u := v289) (v := (Bo false)) (ev rfl) (ev rfl) (ev rfl)).mono ?_; rintro _ _ ⟨rfl, rfl⟩; refine ⟨fun _ => ?_, Ext.refl _⟩; rw [hβ2]; skip
        cases hbb : (icmp .eql el10 1)
        all_goals first | (show _ = _; simp only [↓reduceIte, Bool.true_and, Bool.false_and, Bool.true_or, Bool.false_or, Bool.false_eq_true]; done) | (have e_ := h115_ hbb; subst e_; show _ = _; simp only [↓reduceIte, Bool.true_and, Bool.false_and, Bool.true_or, Bool.false_or, Bool.false_eq_true]; done) | rfl | (have e_ := h115_ hbb; subst e_; rfl) | (simp [hbb] at h115_ ⊢; first | done | rfl | (subst h115_; rfl) | simp_all) | (simp [hbb] at h115_ ⊢; done)
      refine R_d (fun u hu hF => ?_) (fun v291 => ?_)
      · have h110_ : v284 = (Bo β1) := hF.1
        have h116_ : β1 = false → v290 = (Bo β2) := hF.2.1
        clear hF
        refine doesG_un rfl ?_
        skip
        obtain rfl := h110_
        refine (does_pick (b := β1) (u := (Bo true)) (v := v290) (ev rfl) (ev rfl) (ev rfl)).mono ?_; rintro _ _ ⟨rfl, rfl⟩; refine ⟨?_, Ext.refl _⟩; skip
        cases hbb : β1
        all_goals first | (show _ = _; simp only [↓reduceIte, Bool.true_and, Bool.false_and, Bool.true_or, Bool.false_or, Bool.false_eq_true]; done) | (have e_ := h116_ hbb; subst e_; show _ = _; simp only [↓reduceIte, Bool.true_and, Bool.false_and, Bool.true_or, Bool.false_or, Bool.false_eq_true]; done) | rfl | (have e_ := h116_ hbb; subst e_; rfl) | (simp [hbb] at h116_ ⊢; first | done | rfl | (subst h116_; rfl) | simp_all) | (simp [hbb] at h116_ ⊢; done)
      refine RW_fin ?_; intro w292 E293 hP294
      obtain ⟨⟨⟨⟨⟨⟨⟨⟨⟨⟨⟨⟨⟨⟨-, -⟩, -⟩, -⟩, -⟩, -⟩, -⟩, -⟩, -⟩, -⟩, -⟩, -⟩, -⟩, -⟩, q295⟩ := hP294
      have X296 := Ext.gr X275 E293
      have q295 : v291 = (Bo (β1 || β2)) := q295
      obtain rfl := q295
      refine fz ?_
      refine wn K277 ?_
      refine wp_cond_split (t := β1 || β2) (ev rfl) (fun c297 => ?_) (fun c297 => ?_)
      · have c297' := c297
        (try simp only [hβ1, hβ2] at c297')
        (try simp only [icmp, bs] at c297')
        refine wp_region_lit ?_
        refine jm (Iv el13) ?_
        refine jm (Iv el12) ?_
        refine ja (Iv el13) ?_
        refine ja (Iv el12) ?_
        refine wn K276 ?_
        refine wr fun _ K298 => ?_
        refine jm (Iv el10) ?_
        refine jm (Iv el13) ?_
        refine sd (does_buildSlice (e := 3) (parts' := [(0, (Iv el10)), (1, (Iv el13))]) (cells := [(Iv el10), (Iv el13)]) (evp rfl) (fun _ => by kernel_rfl)) ?_; rintro _ w303 ⟨b299, rfl, hb300, hB301, E302⟩
        have g304 : w.heap.size ≤ b299 := Nat.le_trans (Below.size X296) hb300
        have X305 := Ext.gr X296 E302
        refine fz ?_
        refine jm (Iv el10) ?_
        refine jm (Iv el12) ?_
        refine sd (does_buildSlice (e := 3) (parts' := [(0, (Iv el10)), (1, (Iv el12))]) (cells := [(Iv el10), (Iv el12)]) (evp rfl) (fun _ => by kernel_rfl)) ?_; rintro _ w310 ⟨b306, rfl, hb307, hB308, E309⟩
        have g312 : w.heap.size ≤ b306 := Nat.le_trans (Below.size X305) hb307
        have X313 := Ext.gr X305 E309
        refine fz ?_
        refine jm (Iv el11) ?_
        refine jm (Iv el12) ?_
        refine sd (does_buildSlice (e := 3) (parts' := [(0, (Iv el11)), (1, (Iv el12))]) (cells := [(Iv el11), (Iv el12)]) (evp rfl) (fun _ => by kernel_rfl)) ?_; rintro _ w318 ⟨b314, rfl, hb315, hB316, E317⟩
        have g321 : w.heap.size ≤ b314 := Nat.le_trans (Below.size X313) hb315
        have X322 := Ext.gr X313 E317
        refine fz ?_
        refine jm (Iv el10) ?_
        refine jm (Iv el13) ?_
        refine sd (does_buildSlice (e := 3) (parts' := [(0, (Iv el10)), (1, (Iv el13))]) (cells := [(Iv el10), (Iv el13)]) (evp rfl) (fun _ => by kernel_rfl)) ?_; rintro _ w327 ⟨b323, rfl, hb324, hB325, E326⟩
        have g331 : w.heap.size ≤ b323 := Nat.le_trans (Below.size X322) hb324
        have X332 := Ext.gr X322 E326
        refine fz ?_
        refine jm (Iv el11) ?_
        refine jm (Iv el12) ?_
        refine sd (does_buildSlice (e := 3) (parts' := [(0, (Iv el11)), (1, (Iv el12))]) (cells := [(Iv el11), (Iv el12)]) (evp rfl) (fun _ => by kernel_rfl)) ?_; rintro _ w337 ⟨b333, rfl, hb334, hB335, E336⟩
        have g342 : w.heap.size ≤ b333 := Nat.le_trans (Below.size X332) hb334
        have X343 := Ext.gr X332 E336
        refine fz ?_
        refine jm (Iv el11) ?_
        refine jm (Iv el13) ?_
        refine sd (does_buildSlice (e := 3) (parts' := [(0, (Iv el11)), (1, (Iv el13))]) (cells := [(Iv el11), (Iv el13)]) (evp rfl) (fun _ => by kernel_rfl)) ?_; rintro _ w348 ⟨b344, rfl, hb345, hB346, E347⟩
        have g354 : w.heap.size ≤ b344 := Nat.le_trans (Below.size X343) hb345
        have X355 := Ext.gr X343 E347
        refine fz ?_
        refine sd (does_buildSlice (e := 87) (parts' := [(0, (.slice (some ⟨b299, 0, none⟩) 2 2)), (1, (.slice (some ⟨b306, 0, none⟩) 2 2)), (2, (.slice (some ⟨b314, 0, none⟩) 2 2)), (3, (.slice (some ⟨b323, 0, none⟩) 2 2)), (4, (.slice (some ⟨b333, 0, none⟩) 2 2)), (5, (.slice (some ⟨b344, 0, none⟩) 2 2))]) (cells := [(.slice (some ⟨b299, 0, none⟩) 2 2), (.slice (some ⟨b306, 0, none⟩) 2 2), (.slice (some ⟨b314, 0, none⟩) 2 2), (.slice (some ⟨b323, 0, none⟩) 2 2), (.slice (some ⟨b333, 0, none⟩) 2 2), (.slice (some ⟨b344, 0, none⟩) 2 2)]) (evp rfl) (fun _ => by kernel_rfl)) ?_; rintro _ w360 ⟨b356, rfl, hb357, hB358, E359⟩
        have g367 : w.heap.size ≤ b356 := Nat.le_trans (Below.size X355) hb357
        have X368 := Ext.gr X355 E359
        refine fz ?_
        refine ja (.slice (some ⟨b356, 0, none⟩) 6 6) ?_
        refine wn K298 ?_
        refine wp_ret ?_
        dsimp only [Exit.then, Exit.inBlock]
        refine ret_val (v := (.slice (some ⟨b356, 0, none⟩) 6 6)) (res_T rfl (slot rfl)) X368 ?_
        try simp only [hel10, hel11, hel12, hel13, hβ1, hβ2] at c46 c96 c171 c246 c297
        have x369 : ([[el10, el13], [el10, el12], [el11, el12], [el10, el13], [el11, el12], [el11, el13]]) = (flE (edB L_in_)) := by (obtain rfl : k = 4 := by omega); first | (rw [edB, edP_1 (by omega) (by assumption)]; first | rfl | (simp only [flE, List.map, iAt, hel10, hel11, hel12, hel13, hβ1, hβ2, c46, c96, c171, c246, c297, Option.getD_some]; done)) | (rw [edB, edP_3 (by omega) (by assumption)]; first | rfl | (simp only [flE, List.map, iAt, hel10, hel11, hel12, hel13, hβ1, hβ2, c46, c96, c171, c246, c297, Option.getD_some]; done)) | (rw [edB, edP_2a (by omega) (by assumption) (by assumption) (by assumption) (by assumption) (by first | assumption | omega)]; first | rfl | (simp only [flE, List.map, iAt, hel10, hel11, hel12, hel13, hβ1, hβ2, c46, c96, c171, c246, c297, Option.getD_some]; done)) | (rw [edB, edP_2b (by omega) (by assumption) (by assumption) (by assumption) (by assumption) (by first | assumption | omega)]; first | rfl | (simp only [flE, List.map, iAt, hel10, hel11, hel12, hel13, hβ1, hβ2, c46, c96, c171, c246, c297, Option.getD_some]; done)) | (rw [edB, edP_0 (by omega) (by omega) (by omega)]; first | rfl | (simp only [flE, List.map, iAt, hel10, hel11, hel12, hel13, hβ1, hβ2, c46, c96, c171, c246, c297, Option.getD_some]; done))
        exact ⟨(.slice (some ⟨b356, 0, none⟩) 6 6), rfl, (Hang.castL (fun u hu => Sl_lit (Blk.hang hB358 g367 u hu) (by decide) (by simp) (fun i x hi => by match i, hi with | 0, hi => cases hi; exact ⟨⟨_, rfl, Sl_lit2 (Blk.hang ((((((hB301.ext E309).ext E317).ext E326).ext E336).ext E347).ext E359) g304 u hu) rfl rfl⟩, rfl⟩ | 1, hi => cases hi; exact ⟨⟨_, rfl, Sl_lit2 (Blk.hang (((((hB308.ext E317).ext E326).ext E336).ext E347).ext E359) g312 u hu) rfl rfl⟩, rfl⟩ | 2, hi => cases hi; exact ⟨⟨_, rfl, Sl_lit2 (Blk.hang ((((hB316.ext E326).ext E336).ext E347).ext E359) g321 u hu) rfl rfl⟩, rfl⟩ | 3, hi => cases hi; exact ⟨⟨_, rfl, Sl_lit2 (Blk.hang (((hB325.ext E336).ext E347).ext E359) g331 u hu) rfl rfl⟩, rfl⟩ | 4, hi => cases hi; exact ⟨⟨_, rfl, Sl_lit2 (Blk.hang ((hB335.ext E347).ext E359) g342 u hu) rfl rfl⟩, rfl⟩ | 5, hi => cases hi; exact ⟨⟨_, rfl, Sl_lit2 (Blk.hang (hB346.ext E359) g354 u hu) rfl rfl⟩, rfl⟩ | _ + 6, hi => simp at hi)) x369)⟩
      have c297' := c297
      (try simp only [hβ1, hβ2] at c297')
      (try simp only [icmp, bs] at c297')
      refine wp_skip (K276 _ _ ?_)
      refine wr fun _ K370 => ?_
      refine jm (Iv el10) ?_
      refine jm (Iv el12) ?_
      refine sd (does_buildSlice (e := 3) (parts' := [(0, (Iv el10)), (1, (Iv el12))]) (cells := [(Iv el10), (Iv el12)]) (evp rfl) (fun _ => by kernel_rfl)) ?_; rintro _ w375 ⟨b371, rfl, hb372, hB373, E374⟩
      have g376 : w.heap.size ≤ b371 := Nat.le_trans (Below.size X296) hb372
      have X377 := Ext.gr X296 E374
      refine fz ?_
      refine jm (Iv el10) ?_
      refine jm (Iv el13) ?_
      refine sd (does_buildSlice (e := 3) (parts' := [(0, (Iv el10)), (1, (Iv el13))]) (cells := [(Iv el10), (Iv el13)]) (evp rfl) (fun _ => by kernel_rfl)) ?_; rintro _ w382 ⟨b378, rfl, hb379, hB380, E381⟩
      have g384 : w.heap.size ≤ b378 := Nat.le_trans (Below.size X377) hb379
      have X385 := Ext.gr X377 E381
      refine fz ?_
      refine jm (Iv el11) ?_
      refine jm (Iv el13) ?_
      refine sd (does_buildSlice (e := 3) (parts' := [(0, (Iv el11)), (1, (Iv el13))]) (cells := [(Iv el11), (Iv el13)]) (evp rfl) (fun _ => by kernel_rfl)) ?_; rintro _ w390 ⟨b386, rfl, hb387, hB388, E389⟩
      have g393 : w.heap.size ≤ b386 := Nat.le_trans (Below.size X385) hb387
      have X394 := Ext.gr X385 E389
      refine fz ?_
      refine jm (Iv el10) ?_
      refine jm (Iv el12) ?_
      refine sd (does_buildSlice (e := 3) (parts' := [(0, (Iv el10)), (1, (Iv el12))]) (cells := [(Iv el10), (Iv el12)]) (evp rfl) (fun _ => by kernel_rfl)) ?_; rintro _ w399 ⟨b395, rfl, hb396, hB397, E398⟩
      have g403 : w.heap.size ≤ b395 := Nat.le_trans (Below.size X394) hb396
      have X404 := Ext.gr X394 E398
      refine fz ?_
      refine jm (Iv el11) ?_
      refine jm (Iv el13) ?_
      refine sd (does_buildSlice (e := 3) (parts' := [(0, (Iv el11)), (1, (Iv el13))]) (cells := [(Iv el11), (Iv el13)]) (evp rfl) (fun _ => by kernel_rfl)) ?_; rintro _ w409 ⟨b405, rfl, hb406, hB407, E408⟩
      have g414 : w.heap.size ≤ b405 := Nat.le_trans (Below.size X404) hb406
      have X415 := Ext.gr X404 E408
      refine fz ?_
      refine jm (Iv el11) ?_
      refine jm (Iv el12) ?_
      refine sd (does_buildSlice (e := 3) (parts' := [(0, (Iv el11)), (1, (Iv el12))]) (cells := [(Iv el11), (Iv el12)]) (evp rfl) (fun _ => by kernel_rfl)) ?_; rintro _ w420 ⟨b416, rfl, hb417, hB418, E419⟩
      have g426 : w.heap.size ≤ b416 := Nat.le_trans (Below.size X415) hb417
      have X427 := Ext.gr X415 E419
      refine fz ?_
      refine sd (does_buildSlice (e := 87) (parts' := [(0, (.slice (some ⟨b371, 0, none⟩) 2 2)), (1, (.slice (some ⟨b378, 0, none⟩) 2 2)), (2, (.slice (some ⟨b386, 0, none⟩) 2 2)), (3, (.slice (some ⟨b395, 0, none⟩) 2 2)), (4, (.slice (some ⟨b405, 0, none⟩) 2 2)), (5, (.slice (some ⟨b416, 0, none⟩) 2 2))]) (cells := [(.slice (some ⟨b371, 0, none⟩) 2 2), (.slice (some ⟨b378, 0, none⟩) 2 2), (.slice (some ⟨b386, 0, none⟩) 2 2), (.slice (some ⟨b395, 0, none⟩) 2 2), (.slice (some ⟨b405, 0, none⟩) 2 2), (.slice (some ⟨b416, 0, none⟩) 2 2)]) (evp rfl) (fun _ => by kernel_rfl)) ?_; rintro _ w432 ⟨b428, rfl, hb429, hB430, E431⟩
      have g439 : w.heap.size ≤ b428 := Nat.le_trans (Below.size X427) hb429
      have X440 := Ext.gr X427 E431
      refine fz ?_
      refine ja (.slice (some ⟨b428, 0, none⟩) 6 6) ?_
      refine wn K370 ?_
      refine wp_ret ?_
      dsimp only [Exit.then, Exit.inBlock]
      refine ret_val (v := (.slice (some ⟨b428, 0, none⟩) 6 6)) (res_T rfl (slot rfl)) X440 ?_
      try simp only [hel10, hel11, hel12, hel13, hβ1, hβ2] at c46 c96 c171 c246 c297
      have x441 : ([[el10, el12], [el10, el13], [el11, el13], [el10, el12], [el11, el13], [el11, el12]]) = (flE (edB L_in_)) := by (obtain rfl : k = 4 := by omega); first | (rw [edB, edP_1 (by omega) (by assumption)]; first | rfl | (simp only [flE, List.map, iAt, hel10, hel11, hel12, hel13, hβ1, hβ2, c46, c96, c171, c246, c297, Option.getD_some]; done)) | (rw [edB, edP_3 (by omega) (by assumption)]; first | rfl | (simp only [flE, List.map, iAt, hel10, hel11, hel12, hel13, hβ1, hβ2, c46, c96, c171, c246, c297, Option.getD_some]; done)) | (rw [edB, edP_2a (by omega) (by assumption) (by assumption) (by assumption) (by assumption) (by first | assumption | omega)]; first | rfl | (simp only [flE, List.map, iAt, hel10, hel11, hel12, hel13, hβ1, hβ2, c46, c96, c171, c246, c297, Option.getD_some]; done)) | (rw [edB, edP_2b (by omega) (by assumption) (by assumption) (by assumption) (by assumption) (by first | assumption | omega)]; first | rfl | (simp only [flE, List.map, iAt, hel10, hel11, hel12, hel13, hβ1, hβ2, c46, c96, c171, c246, c297, Option.getD_some]; done)) | (rw [edB, edP_0 (by omega) (by omega) (by omega)]; first | rfl | (simp only [flE, List.map, iAt, hel10, hel11, hel12, hel13, hβ1, hβ2, c46, c96, c171, c246, c297, Option.getD_some]; done))
      exact ⟨(.slice (some ⟨b428, 0, none⟩) 6 6), rfl, (Hang.castL (fun u hu => Sl_lit (Blk.hang hB430 g439 u hu) (by decide) (by simp) (fun i x hi => by match i, hi with | 0, hi => cases hi; exact ⟨⟨_, rfl, Sl_lit2 (Blk.hang ((((((hB373.ext E381).ext E389).ext E398).ext E408).ext E419).ext E431) g376 u hu) rfl rfl⟩, rfl⟩ | 1, hi => cases hi; exact ⟨⟨_, rfl, Sl_lit2 (Blk.hang (((((hB380.ext E389).ext E398).ext E408).ext E419).ext E431) g384 u hu) rfl rfl⟩, rfl⟩ | 2, hi => cases hi; exact ⟨⟨_, rfl, Sl_lit2 (Blk.hang ((((hB388.ext E398).ext E408).ext E419).ext E431) g393 u hu) rfl rfl⟩, rfl⟩ | 3, hi => cases hi; exact ⟨⟨_, rfl, Sl_lit2 (Blk.hang (((hB397.ext E408).ext E419).ext E431) g403 u hu) rfl rfl⟩, rfl⟩ | 4, hi => cases hi; exact ⟨⟨_, rfl, Sl_lit2 (Blk.hang ((hB407.ext E419).ext E431) g414 u hu) rfl rfl⟩, rfl⟩ | 5, hi => cases hi; exact ⟨⟨_, rfl, Sl_lit2 (Blk.hang (hB418.ext E431) g426 u hu) rfl rfl⟩, rfl⟩ | _ + 6, hi => simp at hi)) x441)⟩
    have c246' := c246
    (try simp only [icmp, bs] at c246')
    refine wp_skip (K93 _ _ ?_)
    refine wr fun _ K442 => ?_
    refine sd (does_slice0 (e := 87) (fun _ => by kernel_rfl)) ?_; rintro _ w448 ⟨b443, rfl, hb444, hl445, hO446, E447⟩
    have X449 := Ext.gr E26 E447
    have hO450 := OwnN.of_nil (R := RI) (k := 1) (C := w25.heap.size) (hO446 _ RVl 1)
    refine fz ?_
    refine ja (.slice (some ⟨b443, 0, none⟩) 0 0) ?_
    refine wn K442 ?_
    refine wp_ret ?_
    refine ret_val (v := (.slice (some ⟨b443, 0, none⟩) 0 0)) (res_T rfl (slot rfl)) X449 ?_
    have x452 : ([]) = (flE (edB L_in_)) := by (obtain rfl : k = 4 := by omega); first | (rw [edB, edP_1 (by omega) (by assumption)]; first | rfl | (simp only [flE, List.map, iAt, c46, c96, c171, c246, Option.getD_some]; done)) | (rw [edB, edP_3 (by omega) (by assumption)]; first | rfl | (simp only [flE, List.map, iAt, c46, c96, c171, c246, Option.getD_some]; done)) | (rw [edB, edP_2a (by omega) (by assumption) (by assumption) (by assumption) (by assumption) (by first | assumption | omega)]; first | rfl | (simp only [flE, List.map, iAt, c46, c96, c171, c246, Option.getD_some]; done)) | (rw [edB, edP_2b (by omega) (by assumption) (by assumption) (by assumption) (by assumption) (by first | assumption | omega)]; first | rfl | (simp only [flE, List.map, iAt, c46, c96, c171, c246, Option.getD_some]; done)) | (rw [edB, edP_0 (by omega) (by omega) (by omega)]; first | rfl | (simp only [flE, List.map, iAt, c46, c96, c171, c246, Option.getD_some]; done))
    exact ⟨(.slice (some ⟨b443, 0, none⟩) 0 0), rfl, (Hang.castL (OwnN.hang hO450 RI.flat (by decide) (Nat.le_trans (Below.size E26) hb444) (Nat.le_trans (Below.size E26) (Below.size E447)) (Nat.le_trans (Below.size E26) (Nat.le_refl _))) x452)⟩

end Go.Proofs.Ytjopopmipdakkaa
