/- contracts of functions, each walked once -/
import Derived.Test.YtjopopmipdakkaaB
namespace Go.Proofs.Ytjopopmipdakkaa
open Go Go.RowKit
set_option maxRecDepth 100000
set_option maxHeartbeats 3200000
set_option linter.unusedVariables false
set_option linter.unusedSimpArgs false

theorem c_laws_markGrid (c0 : Value) (c1 : Value) (c2 : Value) (c3 : Value) (c4 : Value) (c5 : Value) (c6 : Value) (a : Value) (n : Nat) (L : List Nat) (B : Nat) (k : Int) (w : World) (ha : WL 1 B w L a n) (h0 : 0 ≤ k) (h1 : k + (n : Int) * 1 ≤ 4611686018427387904) : GivesK L Try.prog 10 #[.agg #[c0, c1, c2, c3, c4, c5, c6, a], Iv k] w (fun v w' => v = Iv (k + (n : Int) * 1) ∧ Hang B w' (fun u => Sl RF 1 u a (mkL fF 1 k n))) := by
  obtain ⟨pa, qa, rfl⟩ := WL.shape ha
  refine enterK [(.agg #[c0, c1, c2, c3, c4, c5, c6, (.slice pa n qa)]), (Iv k), Ud, Ud, Ud, Ud, Ud, Ud, Ud, Ud] Try.func10 rfl Try.ntmps10 rfl ?_
  refine wr fun _ K1 => ?_
  refine sd (does_box (u := (.agg #[c0, c1, c2, c3, c4, c5, c6, (.slice pa n qa)])) (ev rfl)) ?_; rintro _ w6 ⟨b2, rfl, hb3, hB4, E5⟩
  change Blk _ _ [c0, c1, c2, c3, c4, c5, c6, (.slice pa n qa)] at hB4
  have X8 := KpL.ext (KpL.refl L w) E5
  refine fz ?_
  refine ja (Iv 0) ?_
  refine wn K1 ?_
  refine wr fun _ K9 => ?_
  refine jj (does_fieldAddr (ev rfl) fa37_5) ?_
  refine jj (does_load (u := (.slice pa n qa)) (ev rfl) Try.isAgg25 (Cells.at (Blk.cells hB4) 7 rfl)) ?_
  refine jm (Iv k) ?_
  refine sd (does_callK (args := #[(.slice pa n qa), (Iv k)]) cal26 (evs rfl) (c_laws_markFloat32S (.slice pa n qa) n L B k _ (ha.same ((Same.refl _ _).ext E5)) (by omega) (by first | omega | omega))) ?_; rintro _ w10 ⟨K11, rfl, hM12⟩
  have X13 := KpL.more X8 K11 (fun c hc => .inl (by simp [hc]))
  refine fz ?_
  refine ja (Iv (k + (n : Int) * 1)) ?_
  refine wn K9 ?_
  refine wr fun _ K16 => ?_
  refine jm (Iv (k + (n : Int) * 1)) ?_
  refine ja (Iv (k + (n : Int) * 1)) ?_
  refine wn K16 ?_
  refine wp_ret ?_
  refine ret_valK (v := (Iv (k + (n : Int) * 1))) (res_T rfl (slot rfl)) X13 ?_
  exact ⟨by first | rfl | (show Value.int _ _ = Value.int _ _; congr 1; omega), hM12⟩

theorem c_laws_markVectorS_nil (k : Int) (w : World) : Gives Try.prog 27 #[.slice none 0 0, Iv k] w (fun v _ => v = Iv k) := by
  refine enter [(.slice none 0 0), (Iv k), Ud, Ud, Ud, Ud, Ud, Ud, Ud, Ud, Ud, Ud, Ud, Ud, Ud, Ud, Ud, Ud, Ud, Ud, Ud, Ud, Ud, Ud, Ud, Ud, Ud, Ud, Ud, Ud, Ud, Ud, Ud, Ud, Ud, Ud, Ud] Try.func27 rfl Try.ntmps27 rfl ?_
  refine wr fun _ K1 => ?_
  refine ja (Iv 0) ?_
  refine wn K1 ?_
  refine ws fun _ K2 => ?_
  refine wr fun _ K3 => ?_
  refine ja (Iv 0) ?_
  refine wn K3 ?_
  refine wp_block ?_
  refine loop_unroll 1 ?_
  refine un_step ?_
  refine ws fun _ K4 => ?_
  refine wr fun _ K5 => ?_
  refine jm (Iv 0) ?_
  refine jm (.slice none 0 0) ?_
  refine jj (does_len_slice Try.underlying29 (ev rfl)) ?_
  refine jj (does_icmp (p := 0) (q := 0) (.inr (.inr (.inl rfl))) (ev rfl) (ev rfl)) ?_
  refine wn K5 ?_
  refine wp_cond_false (ev rfl) ?_
  refine wp_exit ?_
  refine K2 _ _ ?_
  refine wr fun _ K6 => ?_
  refine jm (Iv k) ?_
  refine ja (Iv k) ?_
  refine wn K6 ?_
  refine wp_ret ?_
  refine ret_val (v := (Iv k)) (res_T rfl (slot rfl)) (Ext.refl w) ?_
  have x7 : (k : Int) = k := by first | with_reducible rfl | (simp only []; done) | (simp []; done) | rfl
  exact (by first | with_reducible rfl | rw [x7] | rfl)

theorem c_laws_markVectorS_blk (g N n cap : Nat) (k : Int) (w : World) (hM : Mk true k w g N 0) (hn : n * 3 ≤ N) (h0 : 0 ≤ k) (h1 : k + (n : Int) * 3 ≤ 4611686018427387904) : GivesK [g] Try.prog 27 #[.slice (some ⟨g, 0, none⟩) n cap, Iv k] w (fun v w' => v = Iv (k + (n : Int) * 3) ∧ Mk true k w' g N (n * 3)) := by
  refine enterK [(.slice (some ⟨g, 0, none⟩) n cap), (Iv k), Ud, Ud, Ud, Ud, Ud, Ud, Ud, Ud, Ud, Ud, Ud, Ud, Ud, Ud, Ud, Ud, Ud, Ud, Ud, Ud, Ud, Ud, Ud, Ud, Ud, Ud, Ud, Ud, Ud, Ud, Ud, Ud, Ud, Ud, Ud] Try.func27 rfl Try.ntmps27 rfl ?_
  refine wr fun _ K1 => ?_
  refine ja (Iv 0) ?_
  refine wn K1 ?_
  refine ws fun _ K2 => ?_
  refine wr fun _ K3 => ?_
  refine ja (Iv 0) ?_
  refine wn K3 ?_
  refine wp_block ?_
  refine loop_ghost (σ := Nat × Int) (fun s a w' => ∃ u4 : Nat → Value, a = fr [(.slice (some ⟨g, 0, none⟩) n cap), (Iv s.2), Ud, Ud, (Iv 0), (Iv (s.1 : Int)), (u4 6), (u4 7), (u4 8), (u4 9), (u4 10), (u4 11), (u4 12), (u4 13), (u4 14), (u4 15), (u4 16), (u4 17), (u4 18), (u4 19), (u4 20), (u4 21), (u4 22), (u4 23), (u4 24), (u4 25), (u4 26), (u4 27), (u4 28), (u4 29), (u4 30), (u4 31), (u4 32), (u4 33), (u4 34), (u4 35), Ud] ∧ KpL [g] w w' ∧ Mk true k w' g N (s.1 * 3) ∧ (s.1 ≤ n ∧ s.2 = k + (s.1 : Int) * 3)) (fun s => n - s.1) (0, k) ?_ ?_
  · refine ⟨pk [], rfl, KpL.refl _ _, (Mk.cast hM (by simp)), ?_⟩
    exact ⟨Nat.zero_le _, by simp⟩
  · rintro s a w5 ⟨u4, rfl, E6, hF7, ⟨hk, hn2⟩⟩
    have X8 := KpL.more (KpL.refl [g] w) E6 (allS (.inl (by simp)) all0)
    refine ws fun _ K9 => ?_
    refine wr fun _ K10 => ?_
    refine jm (Iv (s.1 : Int)) ?_
    refine jm (.slice (some ⟨g, 0, none⟩) n cap) ?_
    refine jj (does_len_slice Try.underlying29 (ev rfl)) ?_
    refine jj (does_icmp (p := (s.1 : Int)) (q := (n : Int)) (.inr (.inr (.inl rfl))) (ev rfl) (ev rfl)) ?_
    refine wn K10 ?_
    refine wp_cond_split (t := icmp .lss (s.1 : Int) (n : Int)) (ev rfl) (fun c11 => ?_) (fun c11 => ?_)
    · have c11' := c11
      (try simp only [icmp, bs] at c11')
      refine wp_skip (K9 _ _ ?_)
      refine ws fun _ K12 => ?_
      refine wp_block ?_
      refine wr fun _ K13 => ?_
      refine jm (.slice (some ⟨g, 0, none⟩) n cap) ?_
      refine jm (Iv (s.1 : Int)) ?_
      refine jm (Iv s.2) ?_
      refine jj (does_conv_if (k := .f32) Try.underlying3 Try.underlying22 (ev rfl)) ?_
      refine jj (does_indexOwn (b := g) (n := n) (i := (s.1 : Int)) Try.underlying29 Try.sizeOf35 (ev rfl) (ev rfl) (by omega) (by omega)) ?_
      refine jj (does_fieldAddr (ev rfl) fa35_0) ?_
      refine sn (does_mark (fl := true) (k := k) (N := N) (off := s.1 * 3) (j := s.1 * 3) (u := (Fl (FloatKind.f32.nearest s.2))) (ev rfl) (ev rfl) Try.sizeOf22 (mkc_f (by first | rfl | omega)) (by omega) (by omega) hF7) ?_; rintro _ w16 ⟨rfl, W14, hM15⟩
      refine wn K13 ?_
      refine wr fun _ K18 => ?_
      refine jm (Iv s.2) ?_
      refine jj (does_iarith (p := s.2) (q := 1) (r := s.2 + 1) (ev rfl) (ev rfl) (.inl ⟨rfl, (in_i64 (by omega) (by omega)).symm⟩)) ?_
      refine ja (Iv (s.2 + 1)) ?_
      refine wn K18 ?_
      refine wr fun _ K19 => ?_
      refine jm (.slice (some ⟨g, 0, none⟩) n cap) ?_
      refine jm (Iv (s.1 : Int)) ?_
      refine jm (Iv (s.2 + 1)) ?_
      refine jj (does_conv_if (k := .f32) Try.underlying3 Try.underlying22 (ev rfl)) ?_
      refine jj (does_indexOwn (b := g) (n := n) (i := (s.1 : Int)) Try.underlying29 Try.sizeOf35 (ev rfl) (ev rfl) (by omega) (by omega)) ?_
      refine jj (does_fieldAddr (ev rfl) fa35_1) ?_
      refine sn (does_mark (fl := true) (k := k) (N := N) (off := s.1 * 3 + 1) (j := s.1 * 3 + 1) (u := (Fl (FloatKind.f32.nearest (s.2 + 1)))) (ev rfl) (ev rfl) Try.sizeOf22 (mkc_f (by first | rfl | omega)) (by omega) (by omega) hM15) ?_; rintro _ w22 ⟨rfl, W20, hM21⟩
      refine wn K19 ?_
      refine wr fun _ K24 => ?_
      refine jm (Iv (s.2 + 1)) ?_
      refine jj (does_iarith (p := s.2 + 1) (q := 1) (r := (s.2 + 1) + 1) (ev rfl) (ev rfl) (.inl ⟨rfl, (in_i64 (by omega) (by omega)).symm⟩)) ?_
      refine ja (Iv ((s.2 + 1) + 1)) ?_
      refine wn K24 ?_
      refine wr fun _ K25 => ?_
      refine jm (.slice (some ⟨g, 0, none⟩) n cap) ?_
      refine jm (Iv (s.1 : Int)) ?_
      refine jm (Iv ((s.2 + 1) + 1)) ?_
      refine jj (does_conv_if (k := .f32) Try.underlying3 Try.underlying22 (ev rfl)) ?_
      refine jj (does_indexOwn (b := g) (n := n) (i := (s.1 : Int)) Try.underlying29 Try.sizeOf35 (ev rfl) (ev rfl) (by omega) (by omega)) ?_
      refine jj (does_fieldAddr (ev rfl) fa35_2) ?_
      refine sn (does_mark (fl := true) (k := k) (N := N) (off := s.1 * 3 + 2) (j := s.1 * 3 + 1 + 1) (u := (Fl (FloatKind.f32.nearest ((s.2 + 1) + 1)))) (ev rfl) (ev rfl) Try.sizeOf22 (mkc_f (by first | rfl | omega)) (by omega) (by omega) hM21) ?_; rintro _ w28 ⟨rfl, W26, hM27⟩
      refine wn K25 ?_
      refine wp_region_lit ?_
      refine jm (Iv ((s.2 + 1) + 1)) ?_
      refine jj (does_iarith (p := (s.2 + 1) + 1) (q := 1) (r := ((s.2 + 1) + 1) + 1) (ev rfl) (ev rfl) (.inl ⟨rfl, (in_i64 (by omega) (by omega)).symm⟩)) ?_
      refine ja (Iv (((s.2 + 1) + 1) + 1)) ?_
      refine wn K12 ?_
      refine wp_region_lit ?_
      refine jm (Iv (s.1 : Int)) ?_
      refine jj (does_iarith (p := (s.1 : Int)) (q := 1) (r := (s.1 : Int) + 1) (ev rfl) (ev rfl) (.inl ⟨rfl, (in_i64 (by omega) (by omega)).symm⟩)) ?_
      refine ja (Iv ((s.1 : Int) + 1)) ?_
      refine wpList_nil ?_
      refine ⟨(s.1 + 1, ((s.2 + 1) + 1) + 1), ⟨pk [(6, Iv (s.1 : Int)), (7, (.slice (some ⟨g, 0, none⟩) n cap)), (8, Iv (n : Int)), (9, Bo (icmp .lss (s.1 : Int) (n : Int))), (10, Iv (s.1 : Int)), (11, Iv ((s.1 : Int) + 1)), (12, (.slice (some ⟨g, 0, none⟩) n cap)), (13, Iv (s.1 : Int)), (14, Iv s.2), (15, Fl (FloatKind.f32.nearest s.2)), (16, Pt g (s.1 * 3)), (17, Pt g (s.1 * 3)), (18, Iv s.2), (19, Iv (s.2 + 1)), (20, (.slice (some ⟨g, 0, none⟩) n cap)), (21, Iv (s.1 : Int)), (22, Iv (s.2 + 1)), (23, Fl (FloatKind.f32.nearest (s.2 + 1))), (24, Pt g (s.1 * 3)), (25, Pt g (s.1 * 3 + 1)), (26, Iv (s.2 + 1)), (27, Iv ((s.2 + 1) + 1)), (28, (.slice (some ⟨g, 0, none⟩) n cap)), (29, Iv (s.1 : Int)), (30, Iv ((s.2 + 1) + 1)), (31, Fl (FloatKind.f32.nearest ((s.2 + 1) + 1))), (32, Pt g (s.1 * 3)), (33, Pt g (s.1 * 3 + 2)), (34, Iv ((s.2 + 1) + 1)), (35, Iv (((s.2 + 1) + 1) + 1))], ?_, (KpL.more (KpL.more (KpL.more E6 (KpL.of_wr W14) (allS (.inl (by simp)) all0)) (KpL.of_wr W20) (allS (.inl (by simp)) all0)) (KpL.of_wr W26) (allS (.inl (by simp)) all0)), (Mk.cast hM27 (by (try dsimp only); omega)), ?_⟩, ?_⟩
      · first | rfl | (simp only [Int.natCast_add, Int.natCast_one]; rfl)
      · (try dsimp only); exact ⟨by omega, by omega⟩
      · (try dsimp only); omega
    have c11' := c11
    (try simp only [icmp, bs] at c11')
    refine wp_exit ?_
    refine K2 _ _ ?_
    refine wr fun _ K30 => ?_
    refine jm (Iv s.2) ?_
    refine ja (Iv s.2) ?_
    refine wn K30 ?_
    refine wp_ret ?_
    refine ret_valK (v := (Iv s.2)) (res_T rfl (slot rfl)) X8 ?_
    have hj : s.1 = n := by omega
    exact ⟨by first | rfl | (show Value.int _ _ = Value.int _ _; congr 1; omega), Mk.cast hF7 (by rw [hj])⟩

theorem c_laws_markVectorS (a : Value) (n : Nat) (L : List Nat) (B : Nat) (k : Int) (w : World) (ha : WL 3 B w L a n) (h0 : 0 ≤ k) (h1 : k + (n : Int) * 3 ≤ 4611686018427387904) : GivesK L Try.prog 27 #[a, Iv k] w (fun v w' => v = Iv (k + (n : Int) * 3) ∧ Hang B w' (fun u => Sl RV3 3 u a (mkL fV 3 k n))) := by
  obtain ⟨hL, ⟨rfl, rfl, rfl⟩ | ⟨g, cap, cs, rfl, rfl, hB, hn, hc⟩⟩ := ha
  · exact (Gives.toK (c_laws_markVectorS_nil k w)).mono fun v w' hv => ⟨by rw [hv]; simp, fun u _ => Sl_mk0 u⟩
  · exact (c_laws_markVectorS_blk g cs.length n cap k w (Mk.zero hB rfl) hn h0 h1).mono fun v w' ⟨hv, hM⟩ => ⟨hv, Mk.hang hM (hL g (by simp)).1 hc (by decide) (by omega) rV⟩

theorem c_laws_markVectorS_mk (a : Value) (n : Nat) (L : List Nat) (B : Nat) (k : Int) (w : World) (ha : WL 3 B w L a n) (h0 : 0 ≤ k) (h1 : k + (n : Int) * 3 ≤ 4611686018427387904) : GivesK L Try.prog 27 #[a, Iv k] w (fun v w' => v = Iv (k + (n : Int) * 3) ∧ MkS true 3 k w' L a n) := by
  obtain ⟨hL, ⟨rfl, rfl, rfl⟩ | ⟨g, cap, cs, rfl, rfl, hB, hn, hc⟩⟩ := ha
  · exact (Gives.toK (c_laws_markVectorS_nil k w)).mono fun v w' hv => ⟨by rw [hv]; simp, .inl ⟨rfl, rfl, rfl⟩⟩
  · exact (c_laws_markVectorS_blk g cs.length n cap k w (Mk.zero hB rfl) hn h0 h1).mono fun v w' ⟨hv, hM⟩ => ⟨hv, .inr ⟨g, cap, cs.length, rfl, rfl, hM, hc⟩⟩

theorem c_laws_markInt64S_nil (k : Int) (w : World) : Gives Try.prog 45 #[.slice none 0 0, Iv k] w (fun v _ => v = Iv k) := by
  refine enter [(.slice none 0 0), (Iv k), Ud, Ud, Ud, Ud, Ud, Ud, Ud, Ud, Ud, Ud, Ud, Ud, Ud, Ud, Ud, Ud, Ud] Try.func45 rfl Try.ntmps45 rfl ?_
  refine wr fun _ K1 => ?_
  refine ja (Iv 0) ?_
  refine wn K1 ?_
  refine ws fun _ K2 => ?_
  refine wr fun _ K3 => ?_
  refine ja (Iv 0) ?_
  refine wn K3 ?_
  refine wp_block ?_
  refine loop_unroll 1 ?_
  refine un_step ?_
  refine ws fun _ K4 => ?_
  refine wr fun _ K5 => ?_
  refine jm (Iv 0) ?_
  refine jm (.slice none 0 0) ?_
  refine jj (does_len_slice Try.underlying65 (ev rfl)) ?_
  refine jj (does_icmp (p := 0) (q := 0) (.inr (.inr (.inl rfl))) (ev rfl) (ev rfl)) ?_
  refine wn K5 ?_
  refine wp_cond_false (ev rfl) ?_
  refine wp_exit ?_
  refine K2 _ _ ?_
  refine wr fun _ K6 => ?_
  refine jm (Iv k) ?_
  refine ja (Iv k) ?_
  refine wn K6 ?_
  refine wp_ret ?_
  refine ret_val (v := (Iv k)) (res_T rfl (slot rfl)) (Ext.refl w) ?_
  have x7 : (k : Int) = k := by first | with_reducible rfl | (simp only []; done) | (simp []; done) | rfl
  exact (by first | with_reducible rfl | rw [x7] | rfl)

theorem c_laws_markInt64S_blk (g N n cap : Nat) (k : Int) (w : World) (hM : Mk false k w g N 0) (hn : n * 1 ≤ N) (h0 : 0 ≤ k) (h1 : k + (n : Int) * 1 ≤ 4611686018427387904) : GivesK [g] Try.prog 45 #[.slice (some ⟨g, 0, none⟩) n cap, Iv k] w (fun v w' => v = Iv (k + (n : Int) * 1) ∧ Mk false k w' g N (n * 1)) := by
  refine enterK [(.slice (some ⟨g, 0, none⟩) n cap), (Iv k), Ud, Ud, Ud, Ud, Ud, Ud, Ud, Ud, Ud, Ud, Ud, Ud, Ud, Ud, Ud, Ud, Ud] Try.func45 rfl Try.ntmps45 rfl ?_
  refine wr fun _ K1 => ?_
  refine ja (Iv 0) ?_
  refine wn K1 ?_
  refine ws fun _ K2 => ?_
  refine wr fun _ K3 => ?_
  refine ja (Iv 0) ?_
  refine wn K3 ?_
  refine wp_block ?_
  refine loop_ghost (σ := Nat × Int) (fun s a w' => ∃ u4 : Nat → Value, a = fr [(.slice (some ⟨g, 0, none⟩) n cap), (Iv s.2), Ud, Ud, (Iv 0), (Iv (s.1 : Int)), (u4 6), (u4 7), (u4 8), (u4 9), (u4 10), (u4 11), (u4 12), (u4 13), (u4 14), (u4 15), (u4 16), (u4 17), Ud] ∧ KpL [g] w w' ∧ Mk false k w' g N (s.1 * 1) ∧ (s.1 ≤ n ∧ s.2 = k + (s.1 : Int) * 1)) (fun s => n - s.1) (0, k) ?_ ?_
  · refine ⟨pk [], rfl, KpL.refl _ _, (Mk.cast hM (by simp)), ?_⟩
    exact ⟨Nat.zero_le _, by simp⟩
  · rintro s a w5 ⟨u4, rfl, E6, hF7, ⟨hk, hn2⟩⟩
    have X8 := KpL.more (KpL.refl [g] w) E6 (allS (.inl (by simp)) all0)
    refine ws fun _ K9 => ?_
    refine wr fun _ K10 => ?_
    refine jm (Iv (s.1 : Int)) ?_
    refine jm (.slice (some ⟨g, 0, none⟩) n cap) ?_
    refine jj (does_len_slice Try.underlying65 (ev rfl)) ?_
    refine jj (does_icmp (p := (s.1 : Int)) (q := (n : Int)) (.inr (.inr (.inl rfl))) (ev rfl) (ev rfl)) ?_
    refine wn K10 ?_
    refine wp_cond_split (t := icmp .lss (s.1 : Int) (n : Int)) (ev rfl) (fun c11 => ?_) (fun c11 => ?_)
    · have c11' := c11
      (try simp only [icmp, bs] at c11')
      refine wp_skip (K9 _ _ ?_)
      refine ws fun _ K12 => ?_
      refine wp_block ?_
      refine wr fun _ K13 => ?_
      refine jm (.slice (some ⟨g, 0, none⟩) n cap) ?_
      refine jm (Iv (s.1 : Int)) ?_
      refine jm (Iv s.2) ?_
      refine jj (does_indexOwn (b := g) (n := n) (i := (s.1 : Int)) Try.underlying65 Try.sizeOf2 (ev rfl) (ev rfl) (by omega) (by omega)) ?_
      refine sn (does_mark (fl := false) (k := k) (N := N) (off := s.1 * 1) (j := s.1 * 1) (u := (Iv s.2)) (ev rfl) (ev rfl) Try.sizeOf2 (mkc_i (by omega)) (by omega) (by omega) hF7) ?_; rintro _ w16 ⟨rfl, W14, hM15⟩
      refine wn K13 ?_
      refine wp_region_lit ?_
      refine jm (Iv s.2) ?_
      refine jj (does_iarith (p := s.2) (q := 1) (r := s.2 + 1) (ev rfl) (ev rfl) (.inl ⟨rfl, (in_i64 (by omega) (by omega)).symm⟩)) ?_
      refine ja (Iv (s.2 + 1)) ?_
      refine wn K12 ?_
      refine wp_region_lit ?_
      refine jm (Iv (s.1 : Int)) ?_
      refine jj (does_iarith (p := (s.1 : Int)) (q := 1) (r := (s.1 : Int) + 1) (ev rfl) (ev rfl) (.inl ⟨rfl, (in_i64 (by omega) (by omega)).symm⟩)) ?_
      refine ja (Iv ((s.1 : Int) + 1)) ?_
      refine wpList_nil ?_
      refine ⟨(s.1 + 1, s.2 + 1), ⟨pk [(6, Iv (s.1 : Int)), (7, (.slice (some ⟨g, 0, none⟩) n cap)), (8, Iv (n : Int)), (9, Bo (icmp .lss (s.1 : Int) (n : Int))), (10, Iv (s.1 : Int)), (11, Iv ((s.1 : Int) + 1)), (12, (.slice (some ⟨g, 0, none⟩) n cap)), (13, Iv (s.1 : Int)), (14, Iv s.2), (15, Pt g (s.1 * 1)), (16, Iv s.2), (17, Iv (s.2 + 1))], ?_, (KpL.more E6 (KpL.of_wr W14) (allS (.inl (by simp)) all0)), (Mk.cast hM15 (by (try dsimp only); omega)), ?_⟩, ?_⟩
      · first | rfl | (simp only [Int.natCast_add, Int.natCast_one]; rfl)
      · (try dsimp only); exact ⟨by omega, by omega⟩
      · (try dsimp only); omega
    have c11' := c11
    (try simp only [icmp, bs] at c11')
    refine wp_exit ?_
    refine K2 _ _ ?_
    refine wr fun _ K18 => ?_
    refine jm (Iv s.2) ?_
    refine ja (Iv s.2) ?_
    refine wn K18 ?_
    refine wp_ret ?_
    refine ret_valK (v := (Iv s.2)) (res_T rfl (slot rfl)) X8 ?_
    have hj : s.1 = n := by omega
    exact ⟨by first | rfl | (show Value.int _ _ = Value.int _ _; congr 1; omega), Mk.cast hF7 (by rw [hj])⟩

theorem c_laws_markInt64S (a : Value) (n : Nat) (L : List Nat) (B : Nat) (k : Int) (w : World) (ha : WL 1 B w L a n) (h0 : 0 ≤ k) (h1 : k + (n : Int) * 1 ≤ 4611686018427387904) : GivesK L Try.prog 45 #[a, Iv k] w (fun v w' => v = Iv (k + (n : Int) * 1) ∧ Hang B w' (fun u => Sl RI 1 u a (mkL fI 1 k n))) := by
  obtain ⟨hL, ⟨rfl, rfl, rfl⟩ | ⟨g, cap, cs, rfl, rfl, hB, hn, hc⟩⟩ := ha
  · exact (Gives.toK (c_laws_markInt64S_nil k w)).mono fun v w' hv => ⟨by rw [hv]; simp, fun u _ => Sl_mk0 u⟩
  · exact (c_laws_markInt64S_blk g cs.length n cap k w (Mk.zero hB rfl) hn h0 h1).mono fun v w' ⟨hv, hM⟩ => ⟨hv, Mk.hang hM (hL g (by simp)).1 hc (by decide) (by omega) rI⟩

theorem c_laws_markInt64S_mk (a : Value) (n : Nat) (L : List Nat) (B : Nat) (k : Int) (w : World) (ha : WL 1 B w L a n) (h0 : 0 ≤ k) (h1 : k + (n : Int) * 1 ≤ 4611686018427387904) : GivesK L Try.prog 45 #[a, Iv k] w (fun v w' => v = Iv (k + (n : Int) * 1) ∧ MkS false 1 k w' L a n) := by
  obtain ⟨hL, ⟨rfl, rfl, rfl⟩ | ⟨g, cap, cs, rfl, rfl, hB, hn, hc⟩⟩ := ha
  · exact (Gives.toK (c_laws_markInt64S_nil k w)).mono fun v w' hv => ⟨by rw [hv]; simp, .inl ⟨rfl, rfl, rfl⟩⟩
  · exact (c_laws_markInt64S_blk g cs.length n cap k w (Mk.zero hB rfl) hn h0 h1).mono fun v w' ⟨hv, hM⟩ => ⟨hv, .inr ⟨g, cap, cs.length, rfl, rfl, hM, hc⟩⟩

theorem c_laws_markInt64SS (a : Value) (xs : List (List Int)) (L : List Nat) (B : Nat) (k : Int) (w : World) (ha : WLL 1 B w L a xs) (h0 : 0 ≤ k) (h1 : k + (liSum xs xs.length : Nat) ≤ 4611686018427387904) : GivesK L Try.prog 28 #[a, Iv k] w (fun v w' => v = Iv (k + (liSum xs xs.length : Nat)) ∧ Hang B w' (fun u => Sl (RS RI 1) 1 u a (mkLL fI 1 (preK k xs) xs))) := by
  obtain ⟨vs, Ls, hst0⟩ := NMk.start (fl := false) ha
  replace hst0 := hst0 (preK k xs)
  obtain ⟨pa, qa, rfl⟩ := WLL.shape ha
  have hvl := hst0.len
  have hxm := hst0.most
  refine enterK [(.slice pa xs.length qa), (Iv k), Ud, Ud, Ud, Ud, Ud, Ud, Ud, Ud, Ud, Ud, Ud, Ud, Ud, Ud, Ud, Ud, Ud] Try.func28 rfl Try.ntmps28 rfl ?_
  refine wr fun _ K1 => ?_
  refine ja (Iv 0) ?_
  refine wn K1 ?_
  refine ws fun _ K2 => ?_
  refine wr fun _ K3 => ?_
  refine ja (Iv 0) ?_
  refine wn K3 ?_
  refine wp_block ?_
  refine loop_ghost (σ := Nat × Int) (fun s a w' => ∃ u4 : Nat → Value, a = fr [(.slice pa xs.length qa), (Iv s.2), Ud, Ud, (Iv 0), (Iv (s.1 : Int)), (u4 6), (u4 7), (u4 8), (u4 9), (u4 10), (u4 11), (u4 12), (u4 13), (u4 14), (u4 15), (u4 16), (u4 17), Ud] ∧ KpL L w w' ∧ NMk false 1 B L (.slice pa xs.length qa) vs Ls xs (preK k xs) s.1 w' ∧ (s.1 ≤ xs.length ∧ s.2 = k + (liSum xs s.1 : Nat))) (fun s => xs.length - s.1) (0, k) ?_ ?_
  · refine ⟨pk [], rfl, KpL.refl _ _, hst0, ?_⟩
    exact ⟨Nat.zero_le _, by simp [liSum]⟩
  · rintro s a w5 ⟨u4, rfl, E6, hst, ⟨hk, hn2⟩⟩
    have X8 := KpL.more (KpL.refl L w) E6 (fun c hc => .inl (by simp [hc]))
    refine ws fun _ K9 => ?_
    refine wr fun _ K10 => ?_
    refine jm (Iv (s.1 : Int)) ?_
    refine jm (.slice pa xs.length qa) ?_
    refine jj (does_len_slice Try.underlying30 (ev rfl)) ?_
    refine jj (does_icmp (p := (s.1 : Int)) (q := (xs.length : Int)) (.inr (.inr (.inl rfl))) (ev rfl) (ev rfl)) ?_
    refine wn K10 ?_
    refine wp_cond_split (t := icmp .lss (s.1 : Int) (xs.length : Int)) (ev rfl) (fun c11 => ?_) (fun c11 => ?_)
    · have c11' := c11
      (try simp only [icmp, bs] at c11')
      refine wp_skip (K9 _ _ ?_)
      refine ws fun _ K12 => ?_
      refine wp_block ?_
      refine wp_region_lit ?_
      refine jm (.slice pa xs.length qa) ?_
      refine jm (Iv (s.1 : Int)) ?_
      obtain ⟨x1, hx1⟩ : ∃ x, xs[s.1]? = some x := ⟨_, List.getElem?_eq_getElem (by omega)⟩
      have hss := liSum_succ hx1
      have hmo := liSum_mono xs (j := s.1 + 1) (k := xs.length) (by omega)
      obtain ⟨el1, hel1⟩ : ∃ e, vs[s.1]? = some e := ⟨_, List.getElem?_eq_getElem (by omega)⟩
      refine sd (does_indexSl (R := RVl) (i := (s.1 : Int)) (xs := vs) (e := el1) Try.underlying30 Try.sizeOf65 (ev rfl) (ev rfl) (NMk.slv hst) (by omega) hel1) ?_; rintro _ w5 ⟨b13, o14, _, rfl, hc16, rfl, rfl⟩
      refine fz ?_
      refine jj (does_load (u := el1) (ev rfl) Try.isAgg65 (Cells.at hc16 0 rfl)) ?_
      refine jm (Iv s.2) ?_
      refine sd (does_callK (args := #[el1, (Iv s.2)]) cal45 (evs rfl) (c_laws_markInt64S_mk el1 x1.length (Ls s.1) B s.2 _ (hst.rest s.1 _ _ (Nat.le_refl _) hel1 hx1) (by omega) (by omega))) ?_; rintro _ w17 ⟨K18, rfl, hM19⟩
      refine fz ?_
      refine ja (Iv (s.2 + (x1.length : Int) * 1)) ?_
      refine wn K12 ?_
      refine wp_region_lit ?_
      refine jm (Iv (s.1 : Int)) ?_
      refine jj (does_iarith (p := (s.1 : Int)) (q := 1) (r := (s.1 : Int) + 1) (ev rfl) (ev rfl) (.inl ⟨rfl, (in_i64 (by omega) (by omega)).symm⟩)) ?_
      refine ja (Iv ((s.1 : Int) + 1)) ?_
      refine wpList_nil ?_
      refine ⟨(s.1 + 1, s.2 + (x1.length : Int) * 1), ⟨pk [(6, Iv (s.1 : Int)), (7, (.slice pa xs.length qa)), (8, Iv (xs.length : Int)), (9, Bo (icmp .lss (s.1 : Int) (xs.length : Int))), (10, Iv (s.1 : Int)), (11, Iv ((s.1 : Int) + 1)), (12, (.slice pa xs.length qa)), (13, Iv (s.1 : Int)), (14, Pt b13 o14), (15, el1), (16, Iv s.2), (17, Iv (s.2 + (x1.length : Int) * 1))], ?_, (KpL.more E6 K18 (fun c hc => .inl (hst.sub _ c hc))), (NMk.step hst K18 (fun y z hy hz => by rw [hel1] at hy; rw [hx1] at hz; cases hy; cases hz; rw [show preK k xs s.1 = s.2 from hn2.symm]; exact hM19)), ?_⟩, ?_⟩
      · first | rfl | (simp only [Int.natCast_add, Int.natCast_one]; rfl)
      · (try dsimp only); exact ⟨by omega, by (try dsimp only); omega⟩
      · (try dsimp only); omega
    have c11' := c11
    (try simp only [icmp, bs] at c11')
    refine wp_exit ?_
    refine K2 _ _ ?_
    refine wr fun _ K21 => ?_
    refine jm (Iv s.2) ?_
    refine ja (Iv s.2) ?_
    refine wn K21 ?_
    refine wp_ret ?_
    refine ret_valK (v := (Iv s.2)) (res_T rfl (slot rfl)) X8 ?_
    exact ⟨by first | rfl | (show Value.int _ _ = Value.int _ _; congr 1; rw [hn2, show s.1 = xs.length by omega]), NMk.hang hst (by omega) (by decide) (fun x hx => by have := liSum_each hx; omega) rI⟩

theorem c_laws_markMesh (p t : Value) (m : MeshT) (L : List Nat) (B : Nat) (k : Int) (w : World) (h : WLM B w L p t m) (h0 : 0 ≤ k) (h1 : k + meSz m ≤ 4611686018427387904) : GivesK L Try.prog 11 #[.agg #[p, t], Iv k] w (fun v w' => v = Iv (k + meSz m) ∧ Hang B w' (fun u => Sl RV3 3 u p (mkL fV 3 k m.places.length)) ∧ Hang B w' (fun u => Sl (RS RI 1) 1 u t (mkLL fI 1 (preK (k + (m.places.length : Int) * 3) m.tris) m.tris))) := by
  unfold meSz at h1
  obtain ⟨hL, L1, L2, hp, ht, s1, s2, hd⟩ := h
  obtain ⟨pp, qp, rfl⟩ := WL.shape' hp
  obtain ⟨pt, qt, rfl⟩ := WLL.shape ht
  refine enterK [(.agg #[(.slice pp m.places.length qp), (.slice pt m.tris.length qt)]), (Iv k), Ud, Ud, Ud, Ud, Ud, Ud, Ud, Ud, Ud, Ud, Ud, Ud] Try.func11 rfl Try.ntmps11 rfl ?_
  refine wr fun _ K1 => ?_
  refine sd (does_box (u := (.agg #[(.slice pp m.places.length qp), (.slice pt m.tris.length qt)])) (ev rfl)) ?_; rintro _ w6 ⟨b2, rfl, hb3, hB4, E5⟩
  change Blk _ _ [(.slice pp m.places.length qp), (.slice pt m.tris.length qt)] at hB4
  have X8 := KpL.ext (KpL.refl L w) E5
  refine fz ?_
  refine ja (Iv 0) ?_
  refine wn K1 ?_
  refine wr fun _ K9 => ?_
  refine jj (does_fieldAddr (ev rfl) fa32_0) ?_
  refine jj (does_load (u := (.slice pp m.places.length qp)) (ev rfl) Try.isAgg29 (Cells.at (Blk.cells hB4) 0 rfl)) ?_
  refine jm (Iv k) ?_
  refine sd (does_callK (args := #[(.slice pp m.places.length qp), (Iv k)]) cal27 (evs rfl) (c_laws_markVectorS_mk (.slice pp m.places.length qp) m.places.length L1 B k _ (hp.same (Same.of_ext (Ext.gr (Ext.refl _) E5))) (by omega) (by omega))) ?_; rintro _ w10 ⟨K11, rfl, hM12⟩
  have X13 := KpL.more X8 K11 (fun c hc => .inl (s1 c hc))
  have ht2 := WLL.kl (ht.same (Same.of_ext (Ext.gr (Ext.refl _) E5))) K11 hd
  refine fz ?_
  refine ja (Iv (k + (m.places.length : Int) * 3)) ?_
  refine wn K9 ?_
  refine wr fun _ K14 => ?_
  refine jj (does_fieldAddr (ev rfl) fa32_1) ?_
  refine jj (does_load (u := (.slice pt m.tris.length qt)) (ev rfl) Try.isAgg30 (Cells.at (Blk.cells (hB4.kl K11 (fun hc => absurd (Nat.lt_of_lt_of_le (hp.1 _ hc).2 (Nat.le_trans (Nat.le_refl _) hb3)) (Nat.lt_irrefl _)))) 1 rfl)) ?_
  refine jm (Iv (k + (m.places.length : Int) * 3)) ?_
  refine sd (does_callK (args := #[(.slice pt m.tris.length qt), (Iv (k + (m.places.length : Int) * 3))]) cal28 (evs rfl) (c_laws_markInt64SS (.slice pt m.tris.length qt) m.tris L2 B (k + (m.places.length : Int) * 3) _ ht2 (by omega) (by omega))) ?_; rintro _ w15 ⟨K16, rfl, hM17⟩
  have X18 := KpL.more X13 K16 (fun c hc => .inl (s2 c hc))
  have hM2 := MkS.kl hM12 K16 (fun c hc => (hd c hc).1)
  refine fz ?_
  refine ja (Iv ((k + (m.places.length : Int) * 3) + (liSum m.tris m.tris.length : Nat))) ?_
  refine wn K14 ?_
  refine wr fun _ K19 => ?_
  refine jm (Iv ((k + (m.places.length : Int) * 3) + (liSum m.tris m.tris.length : Nat))) ?_
  refine ja (Iv ((k + (m.places.length : Int) * 3) + (liSum m.tris m.tris.length : Nat))) ?_
  refine wn K19 ?_
  refine wp_ret ?_
  refine ret_valK (v := (Iv ((k + (m.places.length : Int) * 3) + (liSum m.tris m.tris.length : Nat)))) (res_T rfl (slot rfl)) X18 ?_
  exact ⟨by first | rfl | (show Value.int _ _ = Value.int _ _; congr 1; (try unfold meSz); omega), fun u hu => (hM2.same hu (fun c hc => (hp.1 c hc).1)).sl (by decide) (by omega) rV, hM17⟩

/- laws.heldVectorS -/
theorem c_laws_heldVectorS (a : Value) (L_a : List V3) (k : Int) (w : World) (hv_a : Sl RV3 3 w a L_a) (hm : L_a = mkL fV 3 k L_a.length) (h0 : 0 ≤ k) (h1 : k + (L_a.length : Int) * 3 ≤ 4611686018427387904) : Gives Try.prog 29 #[a, (Iv k)] w (fun v w' => v = (Iv (k + (L_a.length : Int) * 3))) := by
  have hlen_a := Sl.len hv_a; obtain ⟨p_a, q_a, rfl⟩ := Sl.shape hv_a
  refine enter [(.slice p_a L_a.length q_a), (Iv k), Ud, Ud, Ud, Ud, Ud, Ud, Ud, Ud, Ud, Ud, Ud, Ud, Ud, Ud, Ud, Ud, Ud, Ud, Ud, Ud, Ud, Ud, Ud, Ud, Ud, Ud, Ud, Ud, Ud, Ud, Ud, Ud, Ud, Ud, Ud, Ud, Ud, Ud, Ud, Ud, Ud] Try.func29 rfl Try.ntmps29 rfl ?_
  refine wr fun _ K1 => ?_
  refine ja (Iv 0) ?_
  refine wn K1 ?_
  refine ws fun _ K2 => ?_
  refine wr fun _ K3 => ?_
  refine ja (Iv 0) ?_
  refine wn K3 ?_
  refine wp_block ?_
  refine loop_ghost (σ := Nat × Int) (fun s a w' => ∃ u4 : Nat → Value, a = fr [(.slice p_a L_a.length q_a), (Iv s.2), Ud, Ud, (u4 4), (Iv (s.1 : Int)), (u4 6), (u4 7), (u4 8), (u4 9), (u4 10), (u4 11), (u4 12), (u4 13), (u4 14), (u4 15), (u4 16), (u4 17), (u4 18), (u4 19), (u4 20), (u4 21), (u4 22), (u4 23), (u4 24), (u4 25), (u4 26), (u4 27), (u4 28), (u4 29), (u4 30), (u4 31), (u4 32), (u4 33), (u4 34), (u4 35), (u4 36), (u4 37), (u4 38), (u4 39), (u4 40), (u4 41), Ud] ∧ Ext w w' ∧ (s.1 ≤ L_a.length ∧ s.2 = k + (s.1 : Int) * 3)) (fun s => L_a.length - s.1) (0, k) ?_ ?_
  · refine ⟨pk [(4, Iv 0)], rfl, Ext.refl _, ?_⟩
    exact ⟨Nat.zero_le _, by simp⟩
  · rintro s a w5 ⟨u4, rfl, E6, ⟨hk, hn2⟩⟩
    have X8 := Ext.gr (Ext.refl w) E6
    refine ws fun _ K9 => ?_
    refine wr fun _ K10 => ?_
    refine jm (Iv (s.1 : Int)) ?_
    refine jm (.slice p_a L_a.length q_a) ?_
    refine jj (does_len_slice Try.underlying29 (ev rfl)) ?_
    refine jj (does_icmp (p := (s.1 : Int)) (q := (L_a.length : Int)) (.inr (.inr (.inl rfl))) (ev rfl) (ev rfl)) ?_
    refine wn K10 ?_
    refine wp_cond_split (t := icmp .lss (s.1 : Int) (L_a.length : Int)) (ev rfl) (fun c11 => ?_) (fun c11 => ?_)
    · have c11' := c11
      (try simp only [icmp, bs] at c11')
      refine wp_skip (K9 _ _ ?_)
      refine ws fun _ K12 => ?_
      refine wp_block ?_
      refine ws fun _ K13 => ?_
      refine wr fun _ K14 => ?_
      refine jm (.slice p_a L_a.length q_a) ?_
      refine jm (Iv (s.1 : Int)) ?_
      obtain ⟨el1, hel1⟩ : ∃ e, L_a[s.1]? = some e := ⟨_, List.getElem?_eq_getElem (by omega)⟩
      refine sd (does_indexSl (R := RV3) (i := (s.1 : Int)) (xs := L_a) (e := el1) Try.underlying29 Try.sizeOf35 (ev rfl) (ev rfl) (Sl.ext hv_a RV3.mono X8) (by omega) hel1) ?_; rintro _ w5 ⟨b15, o16, _, rfl, hc18, ⟨r19, r21, r23, rfl, h20, h22, h24⟩, rfl⟩
      refine fz ?_
      refine jj (does_fieldAddr (ev rfl) fa35_0) ?_
      refine jj (does_load (u := (Fl r19)) (ev rfl) Try.isAgg22 (Cells.at hc18 0 rfl)) ?_
      refine jm (Iv s.2) ?_
      refine jj (does_conv_if (k := .f32) Try.underlying3 Try.underlying22 (ev rfl)) ?_
      refine jj (does_fcmp (.inr (.inl rfl)) (ev rfl) (ev rfl)) ?_
      refine wn K14 ?_
      refine wp_cond_split (t := fcmp .neq (ford .f32 (cf .f32 r19) (cf .f32 (FloatKind.f32.nearest s.2)))) (ev rfl) (fun c25 => ?_) (fun c25 => ?_)
      · have c25' := c25
        exfalso; have he := mkL_at hm hel1; have e2 : s.2 = k + ((s.1 * 3 : Nat) : Int) := (by omega); simp only [hel1, h20, h22, h24] at c25; rw [he, e2] at c25; simp only [fV] at c25; exact Bool.false_ne_true ((fF_self (k + ((s.1 * 3 : Nat) : Int))).symm.trans c25)
      have c25' := c25
      refine wp_skip (K13 _ _ ?_)
      refine wr fun _ K26 => ?_
      refine jm (Iv s.2) ?_
      refine jj (does_iarith (p := s.2) (q := 1) (r := s.2 + 1) (ev rfl) (ev rfl) (.inl ⟨rfl, (in_i64 (by omega) (by omega)).symm⟩)) ?_
      refine ja (Iv (s.2 + 1)) ?_
      refine wn K26 ?_
      refine ws fun _ K27 => ?_
      refine wr fun _ K28 => ?_
      refine jm (.slice p_a L_a.length q_a) ?_
      refine jm (Iv (s.1 : Int)) ?_
      refine sd (does_indexSl (R := RV3) (i := (s.1 : Int)) (xs := L_a) (e := el1) Try.underlying29 Try.sizeOf35 (ev rfl) (ev rfl) (Sl.ext hv_a RV3.mono X8) (by omega) hel1) ?_; rintro _ w5 ⟨b29, o30, _, rfl, hc32, ⟨r33, r35, r37, rfl, h34, h36, h38⟩, rfl⟩
      refine fz ?_
      refine jj (does_fieldAddr (ev rfl) fa35_1) ?_
      refine jj (does_load (u := (Fl r35)) (ev rfl) Try.isAgg22 (Cells.at hc32 1 rfl)) ?_
      refine jm (Iv (s.2 + 1)) ?_
      refine jj (does_conv_if (k := .f32) Try.underlying3 Try.underlying22 (ev rfl)) ?_
      refine jj (does_fcmp (.inr (.inl rfl)) (ev rfl) (ev rfl)) ?_
      refine wn K28 ?_
      refine wp_cond_split (t := fcmp .neq (ford .f32 (cf .f32 r35) (cf .f32 (FloatKind.f32.nearest (s.2 + 1))))) (ev rfl) (fun c39 => ?_) (fun c39 => ?_)
      · have c39' := c39
        exfalso; have he := mkL_at hm hel1; have e2 : s.2 = k + ((s.1 * 3 : Nat) : Int) := (by omega); simp only [hel1, h20, h22, h24, h34, h36, h38] at c39; rw [he, e2] at c39; simp only [fV] at c39; exact Bool.false_ne_true ((fF_self (k + ((s.1 * 3 : Nat) : Int) + 1)).symm.trans c39)
      have c39' := c39
      refine wp_skip (K27 _ _ ?_)
      refine wr fun _ K40 => ?_
      refine jm (Iv (s.2 + 1)) ?_
      refine jj (does_iarith (p := s.2 + 1) (q := 1) (r := (s.2 + 1) + 1) (ev rfl) (ev rfl) (.inl ⟨rfl, (in_i64 (by omega) (by omega)).symm⟩)) ?_
      refine ja (Iv ((s.2 + 1) + 1)) ?_
      refine wn K40 ?_
      refine ws fun _ K41 => ?_
      refine wr fun _ K42 => ?_
      refine jm (.slice p_a L_a.length q_a) ?_
      refine jm (Iv (s.1 : Int)) ?_
      refine sd (does_indexSl (R := RV3) (i := (s.1 : Int)) (xs := L_a) (e := el1) Try.underlying29 Try.sizeOf35 (ev rfl) (ev rfl) (Sl.ext hv_a RV3.mono X8) (by omega) hel1) ?_; rintro _ w5 ⟨b43, o44, _, rfl, hc46, ⟨r47, r49, r51, rfl, h48, h50, h52⟩, rfl⟩
      refine fz ?_
      refine jj (does_fieldAddr (ev rfl) fa35_2) ?_
      refine jj (does_load (u := (Fl r51)) (ev rfl) Try.isAgg22 (Cells.at hc46 2 rfl)) ?_
      refine jm (Iv ((s.2 + 1) + 1)) ?_
      refine jj (does_conv_if (k := .f32) Try.underlying3 Try.underlying22 (ev rfl)) ?_
      refine jj (does_fcmp (.inr (.inl rfl)) (ev rfl) (ev rfl)) ?_
      refine wn K42 ?_
      refine wp_cond_split (t := fcmp .neq (ford .f32 (cf .f32 r51) (cf .f32 (FloatKind.f32.nearest ((s.2 + 1) + 1))))) (ev rfl) (fun c53 => ?_) (fun c53 => ?_)
      · have c53' := c53
        exfalso; have he := mkL_at hm hel1; have e2 : s.2 = k + ((s.1 * 3 : Nat) : Int) := (by omega); simp only [hel1, h20, h22, h24, h34, h36, h38, h48, h50, h52] at c53; rw [he, e2] at c53; simp only [fV] at c53; rw [show k + ((s.1 * 3 : Nat) : Int) + 1 + 1 = k + ((s.1 * 3 : Nat) : Int) + 2 from (by omega)] at c53; exact Bool.false_ne_true ((fF_self (k + ((s.1 * 3 : Nat) : Int) + 2)).symm.trans c53)
      have c53' := c53
      refine wp_skip (K41 _ _ ?_)
      refine wp_region_lit ?_
      refine jm (Iv ((s.2 + 1) + 1)) ?_
      refine jj (does_iarith (p := (s.2 + 1) + 1) (q := 1) (r := ((s.2 + 1) + 1) + 1) (ev rfl) (ev rfl) (.inl ⟨rfl, (in_i64 (by omega) (by omega)).symm⟩)) ?_
      refine ja (Iv (((s.2 + 1) + 1) + 1)) ?_
      refine wn K12 ?_
      refine wp_region_lit ?_
      refine jm (Iv (s.1 : Int)) ?_
      refine jj (does_iarith (p := (s.1 : Int)) (q := 1) (r := (s.1 : Int) + 1) (ev rfl) (ev rfl) (.inl ⟨rfl, (in_i64 (by omega) (by omega)).symm⟩)) ?_
      refine ja (Iv ((s.1 : Int) + 1)) ?_
      refine wpList_nil ?_
      refine ⟨(s.1 + 1, ((s.2 + 1) + 1) + 1), ⟨pk [(4, u4 4), (6, Iv (s.1 : Int)), (7, (.slice p_a L_a.length q_a)), (8, Iv (L_a.length : Int)), (9, Bo (icmp .lss (s.1 : Int) (L_a.length : Int))), (10, Iv (s.1 : Int)), (11, Iv ((s.1 : Int) + 1)), (12, (.slice p_a L_a.length q_a)), (13, Iv (s.1 : Int)), (14, Pt b15 o16), (15, Pt b15 o16), (16, Fl r19), (17, Iv s.2), (18, Fl (FloatKind.f32.nearest s.2)), (19, Bo (fcmp .neq (ford .f32 (cf .f32 r19) (cf .f32 (FloatKind.f32.nearest s.2))))), (20, Iv s.2), (21, Iv (s.2 + 1)), (22, (.slice p_a L_a.length q_a)), (23, Iv (s.1 : Int)), (24, Pt b29 o30), (25, Pt b29 (o30 + 1)), (26, Fl r35), (27, Iv (s.2 + 1)), (28, Fl (FloatKind.f32.nearest (s.2 + 1))), (29, Bo (fcmp .neq (ford .f32 (cf .f32 r35) (cf .f32 (FloatKind.f32.nearest (s.2 + 1)))))), (30, Iv (s.2 + 1)), (31, Iv ((s.2 + 1) + 1)), (32, (.slice p_a L_a.length q_a)), (33, Iv (s.1 : Int)), (34, Pt b43 o44), (35, Pt b43 (o44 + 2)), (36, Fl r51), (37, Iv ((s.2 + 1) + 1)), (38, Fl (FloatKind.f32.nearest ((s.2 + 1) + 1))), (39, Bo (fcmp .neq (ford .f32 (cf .f32 r51) (cf .f32 (FloatKind.f32.nearest ((s.2 + 1) + 1)))))), (40, Iv ((s.2 + 1) + 1)), (41, Iv (((s.2 + 1) + 1) + 1))], ?_, E6, ?_⟩, ?_⟩
      · first | rfl | (simp only [Int.natCast_add, Int.natCast_one]; rfl)
      · (try dsimp only); exact ⟨by omega, by (try dsimp only); omega⟩
      · (try dsimp only); omega
    have c11' := c11
    (try simp only [icmp, bs] at c11')
    refine wp_exit ?_
    refine K2 _ _ ?_
    refine wr fun _ K54 => ?_
    refine jm (Iv s.2) ?_
    refine ja (Iv s.2) ?_
    refine wn K54 ?_
    refine wp_ret ?_
    refine ret_val (v := (Iv s.2)) (res_T rfl (slot rfl)) X8 ?_
    have x55 : (k + (L_a.length : Int) * 3 : Int) = s.2 := by first | omega | (rw [hn2, show s.1 = L_a.length by omega])
    exact (by first | with_reducible rfl | rw [x55] | rfl)

/- laws.heldInt64S -/
theorem c_laws_heldInt64S (a : Value) (L_a : List Int) (k : Int) (w : World) (hv_a : Sl RI 1 w a L_a) (hm : L_a = mkL fI 1 k L_a.length) (h0 : 0 ≤ k) (h1 : k + (L_a.length : Int) * 1 ≤ 4611686018427387904) : Gives Try.prog 46 #[a, (Iv k)] w (fun v w' => v = (Iv (k + (L_a.length : Int) * 1))) := by
  have hlen_a := Sl.len hv_a; obtain ⟨p_a, q_a, rfl⟩ := Sl.shape hv_a
  refine enter [(.slice p_a L_a.length q_a), (Iv k), Ud, Ud, Ud, Ud, Ud, Ud, Ud, Ud, Ud, Ud, Ud, Ud, Ud, Ud, Ud, Ud, Ud, Ud, Ud] Try.func46 rfl Try.ntmps46 rfl ?_
  refine wr fun _ K1 => ?_
  refine ja (Iv 0) ?_
  refine wn K1 ?_
  refine ws fun _ K2 => ?_
  refine wr fun _ K3 => ?_
  refine ja (Iv 0) ?_
  refine wn K3 ?_
  refine wp_block ?_
  refine loop_ghost (σ := Nat × Int) (fun s a w' => ∃ u4 : Nat → Value, a = fr [(.slice p_a L_a.length q_a), (Iv s.2), Ud, Ud, (u4 4), (Iv (s.1 : Int)), (u4 6), (u4 7), (u4 8), (u4 9), (u4 10), (u4 11), (u4 12), (u4 13), (u4 14), (u4 15), (u4 16), (u4 17), (u4 18), (u4 19), Ud] ∧ Ext w w' ∧ (s.1 ≤ L_a.length ∧ s.2 = k + (s.1 : Int) * 1)) (fun s => L_a.length - s.1) (0, k) ?_ ?_
  · refine ⟨pk [(4, Iv 0)], rfl, Ext.refl _, ?_⟩
    exact ⟨Nat.zero_le _, by simp⟩
  · rintro s a w5 ⟨u4, rfl, E6, ⟨hk, hn2⟩⟩
    have X8 := Ext.gr (Ext.refl w) E6
    refine ws fun _ K9 => ?_
    refine wr fun _ K10 => ?_
    refine jm (Iv (s.1 : Int)) ?_
    refine jm (.slice p_a L_a.length q_a) ?_
    refine jj (does_len_slice Try.underlying65 (ev rfl)) ?_
    refine jj (does_icmp (p := (s.1 : Int)) (q := (L_a.length : Int)) (.inr (.inr (.inl rfl))) (ev rfl) (ev rfl)) ?_
    refine wn K10 ?_
    refine wp_cond_split (t := icmp .lss (s.1 : Int) (L_a.length : Int)) (ev rfl) (fun c11 => ?_) (fun c11 => ?_)
    · have c11' := c11
      (try simp only [icmp, bs] at c11')
      refine wp_skip (K9 _ _ ?_)
      refine ws fun _ K12 => ?_
      refine wp_block ?_
      refine ws fun _ K13 => ?_
      refine wr fun _ K14 => ?_
      refine jm (.slice p_a L_a.length q_a) ?_
      refine jm (Iv (s.1 : Int)) ?_
      obtain ⟨el1, hel1⟩ : ∃ e, L_a[s.1]? = some e := ⟨_, List.getElem?_eq_getElem (by omega)⟩
      refine sd (does_indexSl (R := RI) (i := (s.1 : Int)) (xs := L_a) (e := el1) Try.underlying65 Try.sizeOf2 (ev rfl) (ev rfl) (Sl.ext hv_a RI.mono X8) (by omega) hel1) ?_; rintro _ w5 ⟨b15, o16, _, rfl, hc18, rfl, rfl⟩
      refine fz ?_
      refine jj (does_load (u := (Iv el1)) (ev rfl) Try.isAgg2 (Cells.at hc18 0 rfl)) ?_
      refine jm (Iv s.2) ?_
      refine jj (does_icmp (p := el1) (q := s.2) (.inr (.inl rfl)) (ev rfl) (ev rfl)) ?_
      refine wn K14 ?_
      refine wp_cond_split (t := icmp .neq el1 s.2) (ev rfl) (fun c19 => ?_) (fun c19 => ?_)
      · have c19' := c19
        (try simp only [icmp, bs] at c19')
        exfalso; have he := mkL_at hm hel1; subst he; simp only [fI, icmp, bne_iff_ne, ne_eq] at c19; omega
      have c19' := c19
      (try simp only [icmp, bs] at c19')
      refine wp_skip (K13 _ _ ?_)
      refine wp_region_lit ?_
      refine jm (Iv s.2) ?_
      refine jj (does_iarith (p := s.2) (q := 1) (r := s.2 + 1) (ev rfl) (ev rfl) (.inl ⟨rfl, (in_i64 (by omega) (by omega)).symm⟩)) ?_
      refine ja (Iv (s.2 + 1)) ?_
      refine wn K12 ?_
      refine wp_region_lit ?_
      refine jm (Iv (s.1 : Int)) ?_
      refine jj (does_iarith (p := (s.1 : Int)) (q := 1) (r := (s.1 : Int) + 1) (ev rfl) (ev rfl) (.inl ⟨rfl, (in_i64 (by omega) (by omega)).symm⟩)) ?_
      refine ja (Iv ((s.1 : Int) + 1)) ?_
      refine wpList_nil ?_
      refine ⟨(s.1 + 1, s.2 + 1), ⟨pk [(4, u4 4), (6, Iv (s.1 : Int)), (7, (.slice p_a L_a.length q_a)), (8, Iv (L_a.length : Int)), (9, Bo (icmp .lss (s.1 : Int) (L_a.length : Int))), (10, Iv (s.1 : Int)), (11, Iv ((s.1 : Int) + 1)), (12, (.slice p_a L_a.length q_a)), (13, Iv (s.1 : Int)), (14, Pt b15 o16), (15, Iv el1), (16, Iv s.2), (17, Bo (icmp .neq el1 s.2)), (18, Iv s.2), (19, Iv (s.2 + 1))], ?_, E6, ?_⟩, ?_⟩
      · first | rfl | (simp only [Int.natCast_add, Int.natCast_one]; rfl)
      · (try dsimp only); exact ⟨by omega, by (try dsimp only); omega⟩
      · (try dsimp only); omega
    have c11' := c11
    (try simp only [icmp, bs] at c11')
    refine wp_exit ?_
    refine K2 _ _ ?_
    refine wr fun _ K20 => ?_
    refine jm (Iv s.2) ?_
    refine ja (Iv s.2) ?_
    refine wn K20 ?_
    refine wp_ret ?_
    refine ret_val (v := (Iv s.2)) (res_T rfl (slot rfl)) X8 ?_
    have x21 : (k + (L_a.length : Int) * 1 : Int) = s.2 := by first | omega | (rw [hn2, show s.1 = L_a.length by omega])
    exact (by first | with_reducible rfl | rw [x21] | rfl)

/- laws.heldInt64SS -/
theorem c_laws_heldInt64SS (a : Value) (L_a : List (List Int)) (k : Int) (w : World) (hv_a : Sl (RS RI 1) 1 w a L_a) (hm : L_a = mkLL fI 1 (preK k L_a) L_a) (h0 : 0 ≤ k) (h1 : k + (liSum L_a L_a.length : Nat) ≤ 4611686018427387904) : Gives Try.prog 30 #[a, (Iv k)] w (fun v w' => v = (Iv (k + (liSum L_a L_a.length : Nat)))) := by
  have hlen_a := Sl.len hv_a; obtain ⟨p_a, q_a, rfl⟩ := Sl.shape hv_a
  refine enter [(.slice p_a L_a.length q_a), (Iv k), Ud, Ud, Ud, Ud, Ud, Ud, Ud, Ud, Ud, Ud, Ud, Ud, Ud, Ud, Ud, Ud, Ud, Ud, Ud] Try.func30 rfl Try.ntmps30 rfl ?_
  refine wr fun _ K1 => ?_
  refine ja (Iv 0) ?_
  refine wn K1 ?_
  refine ws fun _ K2 => ?_
  refine wr fun _ K3 => ?_
  refine ja (Iv 0) ?_
  refine wn K3 ?_
  refine wp_block ?_
  refine loop_ghost (σ := Nat × Int) (fun s a w' => ∃ u4 : Nat → Value, a = fr [(.slice p_a L_a.length q_a), (Iv s.2), Ud, Ud, (u4 4), (Iv (s.1 : Int)), (u4 6), (u4 7), (u4 8), (u4 9), (u4 10), (u4 11), (u4 12), (u4 13), (u4 14), (u4 15), (u4 16), (u4 17), (u4 18), (u4 19), Ud] ∧ Ext w w' ∧ (s.1 ≤ L_a.length ∧ s.2 = k + (liSum L_a s.1 : Nat))) (fun s => L_a.length - s.1) (0, k) ?_ ?_
  · refine ⟨pk [(4, Iv 0)], rfl, Ext.refl _, ?_⟩
    exact ⟨Nat.zero_le _, by simp [liSum]⟩
  · rintro s a w5 ⟨u4, rfl, E6, ⟨hk, hn2⟩⟩
    have X8 := Ext.gr (Ext.refl w) E6
    refine ws fun _ K9 => ?_
    refine wr fun _ K10 => ?_
    refine jm (Iv (s.1 : Int)) ?_
    refine jm (.slice p_a L_a.length q_a) ?_
    refine jj (does_len_slice Try.underlying30 (ev rfl)) ?_
    refine jj (does_icmp (p := (s.1 : Int)) (q := (L_a.length : Int)) (.inr (.inr (.inl rfl))) (ev rfl) (ev rfl)) ?_
    refine wn K10 ?_
    refine wp_cond_split (t := icmp .lss (s.1 : Int) (L_a.length : Int)) (ev rfl) (fun c11 => ?_) (fun c11 => ?_)
    · have c11' := c11
      (try simp only [icmp, bs] at c11')
      refine wp_skip (K9 _ _ ?_)
      refine ws fun _ K12 => ?_
      refine wp_block ?_
      refine wr fun _ K13 => ?_
      refine jm (.slice p_a L_a.length q_a) ?_
      refine jm (Iv (s.1 : Int)) ?_
      obtain ⟨x1, hx1⟩ : ∃ x, L_a[s.1]? = some x := ⟨_, List.getElem?_eq_getElem (by omega)⟩
      have hss := liSum_succ hx1
      have hmo := liSum_mono L_a (j := s.1 + 1) (k := L_a.length) (by omega)
      obtain ⟨el1, hel1⟩ : ∃ e, L_a[s.1]? = some e := ⟨_, List.getElem?_eq_getElem (by omega)⟩
      refine sd (does_indexSl (R := (RS RI 1)) (i := (s.1 : Int)) (xs := L_a) (e := el1) Try.underlying30 Try.sizeOf65 (ev rfl) (ev rfl) (Sl.ext hv_a (RS.mono RI.mono) X8) (by omega) hel1) ?_; rintro _ w5 ⟨b14, o15, _, rfl, hc17, ⟨y18, rfl, h19⟩, rfl⟩
      have hs22 := h19; have hs22l := Sl.len h19; obtain ⟨p20, q21, rfl⟩ := Sl.shape h19
      refine fz ?_
      refine jj (does_load (u := (.slice p20 el1.length q21)) (ev rfl) Try.isAgg65 (Cells.at hc17 0 rfl)) ?_
      refine jm (Iv s.2) ?_
      refine sd (does_call (args := #[(.slice p20 el1.length q21), (Iv s.2)]) cal46 (evs rfl) (c_laws_heldInt64S (.slice p20 el1.length q21) el1 s.2 _ hs22 (by have hq := mkLL_el hm hel1; rw [show s.2 = preK k L_a s.1 from hn2]; exact hq) (by omega) (by (have hxe : el1.length = x1.length := (by rw [hx1] at hel1; cases hel1; rfl)); omega))) ?_; rintro _ w24 ⟨E23, rfl⟩
      refine fz ?_
      refine ja (Iv (s.2 + (el1.length : Int) * 1)) ?_
      refine wn K13 ?_
      refine wr fun _ K26 => ?_
      refine jm (Iv (s.2 + (el1.length : Int) * 1)) ?_
      refine jj (does_icmp (p := s.2 + (el1.length : Int) * 1) (q := 0) (.inr (.inr (.inl rfl))) (ev rfl) (ev rfl)) ?_
      refine wn K26 ?_
      refine wp_cond_split (t := icmp .lss (s.2 + (el1.length : Int) * 1) 0) (ev rfl) (fun c27 => ?_) (fun c27 => ?_)
      · have c27' := c27
        (try simp only [icmp, bs] at c27')
        exfalso; have hxe : el1.length = x1.length := (by rw [hx1] at hel1; cases hel1; rfl); simp only [icmp, decide_eq_true_eq] at c27; omega
      have c27' := c27
      (try simp only [icmp, bs] at c27')
      have hxe : el1.length = x1.length := (by rw [hx1] at hel1; cases hel1; rfl)
      refine wp_skip (K12 _ _ ?_)
      refine wp_region_lit ?_
      refine jm (Iv (s.1 : Int)) ?_
      refine jj (does_iarith (p := (s.1 : Int)) (q := 1) (r := (s.1 : Int) + 1) (ev rfl) (ev rfl) (.inl ⟨rfl, (in_i64 (by omega) (by omega)).symm⟩)) ?_
      refine ja (Iv ((s.1 : Int) + 1)) ?_
      refine wpList_nil ?_
      refine ⟨(s.1 + 1, s.2 + (el1.length : Int) * 1), ⟨pk [(4, u4 4), (6, Iv (s.1 : Int)), (7, (.slice p_a L_a.length q_a)), (8, Iv (L_a.length : Int)), (9, Bo (icmp .lss (s.1 : Int) (L_a.length : Int))), (10, Iv (s.1 : Int)), (11, Iv ((s.1 : Int) + 1)), (12, (.slice p_a L_a.length q_a)), (13, Iv (s.1 : Int)), (14, Pt b14 o15), (15, (.slice p20 el1.length q21)), (16, Iv s.2), (17, Iv (s.2 + (el1.length : Int) * 1)), (18, Iv (s.2 + (el1.length : Int) * 1)), (19, Bo (icmp .lss (s.2 + (el1.length : Int) * 1) 0))], ?_, (Ext.gr E6 E23), ?_⟩, ?_⟩
      · first | rfl | (simp only [Int.natCast_add, Int.natCast_one]; rfl)
      · (try dsimp only); exact ⟨by omega, by (try dsimp only); omega⟩
      · (try dsimp only); omega
    have c11' := c11
    (try simp only [icmp, bs] at c11')
    refine wp_exit ?_
    refine K2 _ _ ?_
    refine wr fun _ K28 => ?_
    refine jm (Iv s.2) ?_
    refine ja (Iv s.2) ?_
    refine wn K28 ?_
    refine wp_ret ?_
    refine ret_val (v := (Iv s.2)) (res_T rfl (slot rfl)) X8 ?_
    have x29 : (k + (liSum L_a L_a.length : Nat) : Int) = s.2 := by first | omega | (rw [hn2, show s.1 = L_a.length by omega])
    exact (by first | with_reducible rfl | rw [x29] | rfl)

/- laws.heldMesh -/
theorem c_laws_heldMesh (m : List Value) (A_m : MeshT) (k : Int) (w : World) (hv_m : RMeshT w A_m m) (hm1 : A_m.places = mkL fV 3 k A_m.places.length) (hm2 : A_m.tris = mkLL fI 1 (preK (k + (A_m.places.length : Int) * 3) A_m.tris) A_m.tris) (h0 : 0 ≤ k) (h1 : k + meSz A_m ≤ 4611686018427387904) : Gives Try.prog 12 #[(.agg m.toArray), (Iv k)] w (fun v w' => v = (Iv (k + meSz A_m))) := by
  obtain ⟨y1, y3, rfl, h2, h4⟩ := hv_m
  have hs7 := h2; have hs7l := Sl.len h2; obtain ⟨p5, q6, rfl⟩ := Sl.shape h2
  have hs10 := h4; have hs10l := Sl.len h4; obtain ⟨p8, q9, rfl⟩ := Sl.shape h4
  have hsz : meSz A_m = (A_m.places.length : Int) * 3 + (liSum A_m.tris A_m.tris.length : Nat) := rfl
  refine enter [(.agg #[(.slice p5 A_m.places.length q6), (.slice p8 A_m.tris.length q9)]), (Iv k), Ud, Ud, Ud, Ud, Ud, Ud, Ud, Ud, Ud, Ud, Ud, Ud, Ud, Ud, Ud, Ud] Try.func12 rfl Try.ntmps12 rfl ?_
  refine wr fun _ K11 => ?_
  refine sd (does_box (u := (.agg #[(.slice p5 A_m.places.length q6), (.slice p8 A_m.tris.length q9)])) (ev rfl)) ?_; rintro _ w16 ⟨b12, rfl, hb13, hB14, E15⟩
  change Blk _ _ [(.slice p5 A_m.places.length q6), (.slice p8 A_m.tris.length q9)] at hB14
  have X18 := Ext.gr (Ext.refl w) E15
  refine fz ?_
  refine ja (Iv 0) ?_
  refine wn K11 ?_
  refine wr fun _ K19 => ?_
  refine jj (does_fieldAddr (ev rfl) fa32_0) ?_
  refine jj (does_load (u := (.slice p5 A_m.places.length q6)) (ev rfl) Try.isAgg29 (Cells.at (Blk.cells hB14) 0 rfl)) ?_
  refine jm (Iv k) ?_
  refine sd (does_call (args := #[(.slice p5 A_m.places.length q6), (Iv k)]) cal29 (evs rfl) (c_laws_heldVectorS (.slice p5 A_m.places.length q6) A_m.places k _ (Sl.ext hs7 RV3.mono X18) (by exact hm1) (by omega) (by omega))) ?_; rintro _ w21 ⟨E20, rfl⟩
  have X22 := Ext.gr X18 E20
  refine fz ?_
  refine ja (Iv (k + (A_m.places.length : Int) * 3)) ?_
  refine wn K19 ?_
  refine ws fun _ K23 => ?_
  refine wr fun _ K24 => ?_
  refine jm (Iv (k + (A_m.places.length : Int) * 3)) ?_
  refine jj (does_icmp (p := k + (A_m.places.length : Int) * 3) (q := 0) (.inr (.inr (.inl rfl))) (ev rfl) (ev rfl)) ?_
  refine wn K24 ?_
  refine wp_cond_split (t := icmp .lss (k + (A_m.places.length : Int) * 3) 0) (ev rfl) (fun c25 => ?_) (fun c25 => ?_)
  · have c25' := c25
    (try simp only [icmp, bs] at c25')
    exfalso; simp only [icmp, decide_eq_true_eq] at c25; omega
  have c25' := c25
  (try simp only [icmp, bs] at c25')
  refine wp_skip (K23 _ _ ?_)
  refine wr fun _ K26 => ?_
  refine jj (does_fieldAddr (ev rfl) fa32_1) ?_
  refine jj (does_load (u := (.slice p8 A_m.tris.length q9)) (ev rfl) Try.isAgg30 (Cells.at (Blk.cells (hB14.ext E20)) 1 rfl)) ?_
  refine jm (Iv (k + (A_m.places.length : Int) * 3)) ?_
  refine sd (does_call (args := #[(.slice p8 A_m.tris.length q9), (Iv (k + (A_m.places.length : Int) * 3))]) cal30 (evs rfl) (c_laws_heldInt64SS (.slice p8 A_m.tris.length q9) A_m.tris (k + (A_m.places.length : Int) * 3) _ (Sl.ext hs10 (RS.mono RI.mono) X22) (by exact hm2) (by omega) (by omega))) ?_; rintro _ w28 ⟨E27, rfl⟩
  have X29 := Ext.gr X22 E27
  refine fz ?_
  refine ja (Iv ((k + (A_m.places.length : Int) * 3) + (liSum A_m.tris A_m.tris.length : Nat))) ?_
  refine wn K26 ?_
  refine ws fun _ K30 => ?_
  refine wr fun _ K31 => ?_
  refine jm (Iv ((k + (A_m.places.length : Int) * 3) + (liSum A_m.tris A_m.tris.length : Nat))) ?_
  refine jj (does_icmp (p := (k + (A_m.places.length : Int) * 3) + (liSum A_m.tris A_m.tris.length : Nat)) (q := 0) (.inr (.inr (.inl rfl))) (ev rfl) (ev rfl)) ?_
  refine wn K31 ?_
  refine wp_cond_split (t := icmp .lss ((k + (A_m.places.length : Int) * 3) + (liSum A_m.tris A_m.tris.length : Nat)) 0) (ev rfl) (fun c32 => ?_) (fun c32 => ?_)
  · have c32' := c32
    (try simp only [icmp, bs] at c32')
    exfalso; simp only [icmp, decide_eq_true_eq] at c32; omega
  have c32' := c32
  (try simp only [icmp, bs] at c32')
  refine wp_skip (K30 _ _ ?_)
  refine wr fun _ K33 => ?_
  refine jm (Iv ((k + (A_m.places.length : Int) * 3) + (liSum A_m.tris A_m.tris.length : Nat))) ?_
  refine ja (Iv ((k + (A_m.places.length : Int) * 3) + (liSum A_m.tris A_m.tris.length : Nat))) ?_
  refine wn K33 ?_
  refine wp_ret ?_
  refine ret_val (v := (Iv ((k + (A_m.places.length : Int) * 3) + (liSum A_m.tris A_m.tris.length : Nat)))) (res_T rfl (slot rfl)) X29 ?_
  have x34 : (k + meSz A_m : Int) = ((k + (A_m.places.length : Int) * 3) + (liSum A_m.tris A_m.tris.length : Nat)) := by omega
  exact (by first | with_reducible rfl | rw [x34] | rfl)

/- laws.FnExactMeshOf -/
theorem c_laws_FnExactMeshOf (g : List Value) (A_g : GridT) (w : World) (hv_g : RGridT w A_g g) : Gives Try.prog 3 #[(.agg g.toArray)] w (fun v w' => v = (Bo true)) := by
  obtain ⟨r1, r3, r5, r7, y9, rfl, h2, h4, h6, h8, h10⟩ := hv_g
  have hs13 := h10; have hs13l := Sl.len h10; obtain ⟨p11, q12, rfl⟩ := Sl.shape h10
  have hgl := mshM_le A_g
  refine enter [(.agg #[(Fl r1), (Fl r3), (Fl r5), (Fl r7), (Iv A_g.x), (Iv A_g.y), (Iv A_g.z), (.slice p11 A_g.vals.length q12)]), Ud, Ud, Ud, Ud, Ud, Ud, Ud, Ud, Ud, Ud, Ud, Ud, Ud, Ud, Ud, Ud, Ud, Ud, Ud, Ud, Ud, Ud, Ud, Ud, Ud, Ud, Ud, Ud, Ud, Ud, Ud, Ud, Ud, Ud, Ud, Ud, Ud, Ud, Ud, Ud, Ud, Ud, Ud, Ud, Ud, Ud, Ud, Ud, Ud, Ud, Ud, Ud, Ud, Ud, Ud, Ud, Ud, Ud, Ud, Ud, Ud, Ud, Ud, Ud, Ud, Ud, Ud, Ud, Ud, Ud, Ud, Ud, Ud, Ud, Ud, Ud, Ud, Ud, Ud, Ud, Ud, Ud, Ud, Ud, Ud, Ud, Ud, Ud, Ud, Ud, Ud, Ud, Ud, Ud, Ud] Try.func3 rfl Try.ntmps3 rfl ?_
  refine wr fun _ K14 => ?_
  refine sd (does_box (u := (.agg #[(Fl r1), (Fl r3), (Fl r5), (Fl r7), (Iv A_g.x), (Iv A_g.y), (Iv A_g.z), (.slice p11 A_g.vals.length q12)])) (ev rfl)) ?_; rintro _ w19 ⟨b15, rfl, hb16, hB17, E18⟩
  change Blk _ _ [(Fl r1), (Fl r3), (Fl r5), (Fl r7), (Iv A_g.x), (Iv A_g.y), (Iv A_g.z), (.slice p11 A_g.vals.length q12)] at hB17
  have X21 := Ext.gr (Ext.refl w) E18
  refine fz ?_
  refine ja (Bo false) ?_
  refine wn K14 ?_
  refine wr fun _ K22 => ?_
  refine ja (Iv 1048576) ?_
  refine wn K22 ?_
  refine wr fun _ K23 => ?_
  refine jj (does_loadAgg (cs := [(Fl r1), (Fl r3), (Fl r5), (Fl r7), (Iv A_g.x), (Iv A_g.y), (Iv A_g.z), (.slice p11 A_g.vals.length q12)]) (ev rfl) Try.isAgg27 Try.sizeOf27 (Blk.cells hB17) rfl) ?_
  refine jm (Iv 1048576) ?_
  refine sd (does_call (args := #[(.agg #[(Fl r1), (Fl r3), (Fl r5), (Fl r7), (Iv A_g.x), (Iv A_g.y), (Iv A_g.z), (.slice p11 A_g.vals.length q12)]), (Iv 1048576)]) cal4 (evs rfl) (c_laws_szGrid [(Fl r1), (Fl r3), (Fl r5), (Fl r7), (Iv A_g.x), (Iv A_g.y), (Iv A_g.z), (.slice p11 A_g.vals.length q12)] A_g 1048576 _ ⟨r1, r3, r5, r7, (.slice p11 A_g.vals.length q12), rfl, h2, h4, h6, h8, (Sl.ext hs13 RF.mono X21)⟩ (by omega) (by omega))) ?_; rintro _ w25 ⟨E24, ⟨i26, rfl, h27⟩⟩
  have X28 := Ext.gr X21 E24
  refine fz ?_
  refine ja (Iv i26) ?_
  refine wn K23 ?_
  refine ws fun _ K29 => ?_
  refine wr fun _ K30 => ?_
  refine jm (Iv i26) ?_
  refine jj (does_icmp (p := i26) (q := 0) (.inr (.inr (.inl rfl))) (ev rfl) (ev rfl)) ?_
  refine wn K30 ?_
  refine wp_cond_split (t := icmp .lss i26 0) (ev rfl) (fun c31 => ?_) (fun c31 => ?_)
  · have c31' := c31
    (try simp only [sameG_self, sameMesh_self, bne_self_eq_false, meSz_mk] at c31')
    (try simp only [icmp, bs] at c31')
    refine wr fun _ K32 => ?_
    refine ja (Bo true) ?_
    refine wn K32 ?_
    refine wp_ret ?_
    dsimp only [Exit.then, Exit.inBlock]
    refine ret_val (v := (Bo true)) (res_T rfl (slot rfl)) X28 ?_
    try simp only [h2, h4, h6, h8, sameG_self, sameMesh_self, bne_self_eq_false, meSz_mk] at c31
    exact rfl
  have c31' := c31
  (try simp only [sameG_self, sameMesh_self, bne_self_eq_false, meSz_mk] at c31')
  (try simp only [icmp, bs] at c31')
  refine wp_skip (K29 _ _ ?_)
  refine wr fun _ K33 => ?_
  refine jj (does_loadAgg (cs := [(Fl r1), (Fl r3), (Fl r5), (Fl r7), (Iv A_g.x), (Iv A_g.y), (Iv A_g.z), (.slice p11 A_g.vals.length q12)]) (ev rfl) Try.isAgg27 Try.sizeOf27 (Blk.cells (hB17.ext E24)) rfl) ?_
  refine sd (does_call (args := #[(.agg #[(Fl r1), (Fl r3), (Fl r5), (Fl r7), (Iv A_g.x), (Iv A_g.y), (Iv A_g.z), (.slice p11 A_g.vals.length q12)])]) cal6 (evs rfl) (c_laws_toGrid [(Fl r1), (Fl r3), (Fl r5), (Fl r7), (Iv A_g.x), (Iv A_g.y), (Iv A_g.z), (.slice p11 A_g.vals.length q12)] A_g _ ⟨r1, r3, r5, r7, (.slice p11 A_g.vals.length q12), rfl, h2, h4, h6, h8, (Sl.ext hs13 RF.mono X28)⟩ (by omega))) ?_; rintro _ w35 ⟨E34, ⟨cs37, Lw38, rfl, hh36, hw39⟩⟩
  have X40 := Ext.gr X28 E34
  obtain ⟨r42, r44, r46, r48, y50, rfl, h43, h45, h47, h49, h51⟩ := hh36.get
  have h51l := Sl.len h51; obtain ⟨p52, q53, rfl⟩ := Sl.shape h51
  have hh54 : Hang w25.heap.size w35 (fun u => Sl RF 1 u (.slice p52 A_g.vals.length q53) A_g.vals) := fun u hu => by obtain ⟨_, _, _, _, _, hq, _, _, _, _, _⟩ := hh36 u hu; cases hq; assumption
  have hw55 : WL 1 w25.heap.size w35 Lw38 (.slice p52 A_g.vals.length q53) A_g.vals.length := hw39
  refine fz ?_
  refine sd (does_call (args := #[(.agg #[(Fl r42), (Fl r44), (Fl r46), (Fl r48), (Iv A_g.x), (Iv A_g.y), (Iv A_g.z), (.slice p52 A_g.vals.length q53)])]) cal5 (evs rfl) (c_spec_MeshOf [(Fl r42), (Fl r44), (Fl r46), (Fl r48), (Iv A_g.x), (Iv A_g.y), (Iv A_g.z), (.slice p52 A_g.vals.length q53)] A_g _ ⟨r42, r44, r46, r48, (.slice p52 A_g.vals.length q53), rfl, h43, h45, h47, h49, hh54.get⟩)) ?_; rintro _ w57 ⟨E56, ⟨cs59, rfl, hh58⟩⟩
  have X60 := Ext.gr X40 E56
  obtain ⟨y62, y64, rfl, h63, h65⟩ := hh58.get
  have h63l := Sl.len h63; obtain ⟨p66, q67, rfl⟩ := Sl.shape h63
  have hh68 : Hang w35.heap.size w57 (fun u => Sl RV3 3 u (.slice p66 (((mshM A_g).places).length) q67) ((mshM A_g).places)) := fun u hu => by obtain ⟨_, _, hq, _, _⟩ := hh58 u hu; cases hq; assumption
  have h65l := Sl.len h65; obtain ⟨p69, q70, rfl⟩ := Sl.shape h65
  have hh71 : Hang w35.heap.size w57 (fun u => Sl (RS RI 1) 1 u (.slice p69 (((mshM A_g).tris).length) q70) ((mshM A_g).tris)) := fun u hu => by obtain ⟨_, _, hq, _, _⟩ := hh58 u hu; cases hq; assumption
  refine fz ?_
  refine jm (.tuple #[(.agg #[(.slice p66 (((mshM A_g).places).length) q67), (.slice p69 (((mshM A_g).tris).length) q70)]), (Bo (isGrid A_g))]) ?_
  refine jj (does_extract (vs := #[(.agg #[(.slice p66 (((mshM A_g).places).length) q67), (.slice p69 (((mshM A_g).tris).length) q70)]), (Bo (isGrid A_g))]) (u := (.agg #[(.slice p66 (((mshM A_g).places).length) q67), (.slice p69 (((mshM A_g).tris).length) q70)])) (ev rfl) rfl) ?_
  refine jj (does_extract (vs := #[(.agg #[(.slice p66 (((mshM A_g).places).length) q67), (.slice p69 (((mshM A_g).tris).length) q70)]), (Bo (isGrid A_g))]) (u := (Bo (isGrid A_g))) (ev rfl) rfl) ?_
  refine sd (does_alloc z32) ?_; rintro _ w76 ⟨b72, rfl, hb73, hB74, E75⟩
  have n77 : b15 < b72 := Nat.lt_of_lt_of_le (Blk.lt (((hB17.ext E24).ext E34).ext E56)) hb73
  have g78 : w.heap.size ≤ b72 := Nat.le_trans (Below.size X60) hb73
  change Blk _ _ [(.slice none 0 0), (.slice none 0 0)] at hB74
  have X79 := Ext.gr X60 E75
  refine fz ?_
  refine sn (does_store (n := 2) (cs := [(.slice none 0 0), (.slice none 0 0)]) (u := (.agg #[(.slice p66 (((mshM A_g).places).length) q67), (.slice p69 (((mshM A_g).tris).length) q70)])) (ev rfl) (ev rfl) Try.sizeOf32 rfl hB74 (Nat.le_of_ble_eq_true rfl) rfl) ?_; rintro _ w82 ⟨rfl, W80, hB81⟩
  change Blk _ _ [(.slice p66 (((mshM A_g).places).length) q67), (.slice p69 (((mshM A_g).tris).length) q70)] at hB81
  have X83 := Below.wr X79 W80 g78
  refine ja (Bo (isGrid A_g)) ?_
  refine wn K33 ?_
  refine wr fun _ K84 => ?_
  refine jj (does_loadAgg (cs := [(Fl r1), (Fl r3), (Fl r5), (Fl r7), (Iv A_g.x), (Iv A_g.y), (Iv A_g.z), (.slice p11 A_g.vals.length q12)]) (ev rfl) Try.isAgg27 Try.sizeOf27 (Blk.cells (((((hB17.ext E24).ext E34).ext E56).ext E75).wr W80 (Nat.ne_of_lt n77))) rfl) ?_
  refine sd (does_call (args := #[(.agg #[(Fl r1), (Fl r3), (Fl r5), (Fl r7), (Iv A_g.x), (Iv A_g.y), (Iv A_g.z), (.slice p11 A_g.vals.length q12)])]) cal6 (evs rfl) (c_laws_toGrid [(Fl r1), (Fl r3), (Fl r5), (Fl r7), (Iv A_g.x), (Iv A_g.y), (Iv A_g.z), (.slice p11 A_g.vals.length q12)] A_g _ ⟨r1, r3, r5, r7, (.slice p11 A_g.vals.length q12), rfl, h2, h4, h6, h8, (Sl.ext hs13 RF.mono X83)⟩ (by omega))) ?_; rintro _ w86 ⟨E85, ⟨cs88, Lw89, rfl, hh87, hw90⟩⟩
  have X91 := Ext.gr X83 E85
  have n92 : b15 < w82.heap.size := Blk.lt (((((hB17.ext E24).ext E34).ext E56).ext E75).wr W80 (Nat.ne_of_lt n77))
  have n93 : b72 < w82.heap.size := Blk.lt hB81
  obtain ⟨r94, r96, r98, r100, y102, rfl, h95, h97, h99, h101, h103⟩ := hh87.get
  have h103l := Sl.len h103; obtain ⟨p104, q105, rfl⟩ := Sl.shape h103
  have hh106 : Hang w82.heap.size w86 (fun u => Sl RF 1 u (.slice p104 A_g.vals.length q105) A_g.vals) := fun u hu => by obtain ⟨_, _, _, _, _, hq, _, _, _, _, _⟩ := hh87 u hu; cases hq; assumption
  have hw107 : WL 1 w82.heap.size w86 Lw89 (.slice p104 A_g.vals.length q105) A_g.vals.length := hw90
  refine fz ?_
  refine sd (does_alloc z37) ?_; rintro _ w112 ⟨b108, rfl, hb109, hB110, E111⟩
  have n113 : b15 < b108 := Nat.lt_of_lt_of_le (Blk.lt ((((((hB17.ext E24).ext E34).ext E56).ext E75).wr W80 (Nat.ne_of_lt n77)).ext E85)) hb109
  have n114 : b72 < b108 := Nat.lt_of_lt_of_le (Blk.lt (hB81.ext E85)) hb109
  have g115 : w.heap.size ≤ b108 := Nat.le_trans (Below.size X91) hb109
  change Blk _ _ [(Fl 0), (Fl 0), (Fl 0), (Fl 0), (Iv 0), (Iv 0), (Iv 0), (.slice none 0 0)] at hB110
  have X116 := Ext.gr X91 E111
  refine fz ?_
  refine sn (does_store (n := 8) (cs := [(Fl 0), (Fl 0), (Fl 0), (Fl 0), (Iv 0), (Iv 0), (Iv 0), (.slice none 0 0)]) (u := (.agg #[(Fl r94), (Fl r96), (Fl r98), (Fl r100), (Iv A_g.x), (Iv A_g.y), (Iv A_g.z), (.slice p104 A_g.vals.length q105)])) (ev rfl) (ev rfl) Try.sizeOf37 rfl hB110 (Nat.le_of_ble_eq_true rfl) rfl) ?_; rintro _ w119 ⟨rfl, W117, hB118⟩
  change Blk _ _ [(Fl r94), (Fl r96), (Fl r98), (Fl r100), (Iv A_g.x), (Iv A_g.y), (Iv A_g.z), (.slice p104 A_g.vals.length q105)] at hB118
  have X120 := Below.wr X116 W117 g115
  refine wn K84 ?_
  refine wr fun _ K121 => ?_
  refine jj (does_loadAgg (cs := [(Fl r94), (Fl r96), (Fl r98), (Fl r100), (Iv A_g.x), (Iv A_g.y), (Iv A_g.z), (.slice p104 A_g.vals.length q105)]) (ev rfl) Try.isAgg37 Try.sizeOf37 (Blk.cells hB118) rfl) ?_
  refine sd (does_call (args := #[(.agg #[(Fl r94), (Fl r96), (Fl r98), (Fl r100), (Iv A_g.x), (Iv A_g.y), (Iv A_g.z), (.slice p104 A_g.vals.length q105)])]) cal7 (evs rfl) (c_impl_MeshOf [(Fl r94), (Fl r96), (Fl r98), (Fl r100), (Iv A_g.x), (Iv A_g.y), (Iv A_g.z), (.slice p104 A_g.vals.length q105)] A_g _ ⟨r94, r96, r98, r100, (.slice p104 A_g.vals.length q105), rfl, h95, h97, h99, h101, (hh106 _ (((Same.refl _ _).ext E111).wr W117 (.inr (Nat.le_trans (Nat.le_refl _) hb109))))⟩)) ?_; rintro _ w123 ⟨E122, ⟨cs125, Lw126, rfl, hh124, hw127⟩⟩
  have X128 := Ext.gr X120 E122
  have n129 : b15 < w119.heap.size := Blk.lt ((((((((hB17.ext E24).ext E34).ext E56).ext E75).wr W80 (Nat.ne_of_lt n77)).ext E85).ext E111).wr W117 (Nat.ne_of_lt n113))
  have n130 : b72 < w119.heap.size := Blk.lt (((hB81.ext E85).ext E111).wr W117 (Nat.ne_of_lt n114))
  obtain ⟨y132, y134, rfl, h133, h135⟩ := hh124.get
  have h133l := Sl.len h133; obtain ⟨p136, q137, rfl⟩ := Sl.shape h133
  have hh138 : Hang w119.heap.size w123 (fun u => Sl RV3 3 u (.slice p136 (((mshM A_g).places).length) q137) ((mshM A_g).places)) := fun u hu => by obtain ⟨_, _, hq, _, _⟩ := hh124 u hu; cases hq; assumption
  have h135l := Sl.len h135; obtain ⟨p139, q140, rfl⟩ := Sl.shape h135
  have hh141 : Hang w119.heap.size w123 (fun u => Sl (RS RI 1) 1 u (.slice p139 (((mshM A_g).tris).length) q140) ((mshM A_g).tris)) := fun u hu => by obtain ⟨_, _, hq, _, _⟩ := hh124 u hu; cases hq; assumption
  have hw142 : WLM w119.heap.size w123 Lw126 (.slice p136 (((mshM A_g).places).length) q137) (.slice p139 (((mshM A_g).tris).length) q140) (mshM A_g) := hw127
  refine fz ?_
  refine jm (.tuple #[(.agg #[(.slice p136 (((mshM A_g).places).length) q137), (.slice p139 (((mshM A_g).tris).length) q140)]), (Bo (isGrid A_g))]) ?_
  refine jj (does_extract (vs := #[(.agg #[(.slice p136 (((mshM A_g).places).length) q137), (.slice p139 (((mshM A_g).tris).length) q140)]), (Bo (isGrid A_g))]) (u := (.agg #[(.slice p136 (((mshM A_g).places).length) q137), (.slice p139 (((mshM A_g).tris).length) q140)])) (ev rfl) rfl) ?_
  refine jj (does_extract (vs := #[(.agg #[(.slice p136 (((mshM A_g).places).length) q137), (.slice p139 (((mshM A_g).tris).length) q140)]), (Bo (isGrid A_g))]) (u := (Bo (isGrid A_g))) (ev rfl) rfl) ?_
  refine sd (does_alloc z32) ?_; rintro _ w147 ⟨b143, rfl, hb144, hB145, E146⟩
  have n148 : b15 < b143 := Nat.lt_of_lt_of_le (Blk.lt (((((((((hB17.ext E24).ext E34).ext E56).ext E75).wr W80 (Nat.ne_of_lt n77)).ext E85).ext E111).wr W117 (Nat.ne_of_lt n113)).ext E122)) hb144
  have n149 : b72 < b143 := Nat.lt_of_lt_of_le (Blk.lt ((((hB81.ext E85).ext E111).wr W117 (Nat.ne_of_lt n114)).ext E122)) hb144
  have n150 : b108 < b143 := Nat.lt_of_lt_of_le (Blk.lt (hB118.ext E122)) hb144
  have g151 : w.heap.size ≤ b143 := Nat.le_trans (Below.size X128) hb144
  change Blk _ _ [(.slice none 0 0), (.slice none 0 0)] at hB145
  have X152 := Ext.gr X128 E146
  refine fz ?_
  refine sn (does_store (n := 2) (cs := [(.slice none 0 0), (.slice none 0 0)]) (u := (.agg #[(.slice p136 (((mshM A_g).places).length) q137), (.slice p139 (((mshM A_g).tris).length) q140)])) (ev rfl) (ev rfl) Try.sizeOf32 rfl hB145 (Nat.le_of_ble_eq_true rfl) rfl) ?_; rintro _ w155 ⟨rfl, W153, hB154⟩
  change Blk _ _ [(.slice p136 (((mshM A_g).places).length) q137), (.slice p139 (((mshM A_g).tris).length) q140)] at hB154
  have X156 := Below.wr X152 W153 g151
  refine ja (Bo (isGrid A_g)) ?_
  refine wn K121 ?_
  refine ws fun _ K157 => ?_
  refine ws fun _ K158 => ?_
  obtain ⟨β1, hβ1⟩ : ∃ b : Bool, b = (sameMesh (mshM A_g) (mshM A_g)) := ⟨_, rfl⟩
  obtain ⟨β2, hβ2⟩ : ∃ b : Bool, b = ((isGrid A_g) != (isGrid A_g)) := ⟨_, rfl⟩
  refine region_text (
    [Fact.pure [] (fun v => v = (.agg #[(.slice p136 (((mshM A_g).places).length) q137), (.slice p139 (((mshM A_g).tris).length) q140)])),
    Fact.pure [] (fun v => v = (.agg #[(.slice p66 (((mshM A_g).places).length) q67), (.slice p69 (((mshM A_g).tris).length) q70)])),
    Fact.pure [32, 33] (fun v => v = (Bo β1)),
    Fact.pure [34] (fun v => v = (Bo (!β1))),
    Fact.pure [35] (fun v => v = (Bo (!β1))),
    Fact.pure [36] (fun v => (!β1) = false → v = (Bo (isGrid A_g))),
    Fact.pure [36] (fun v => (!β1) = false → v = (Bo (isGrid A_g))),
    Fact.pure [37, 38, 36] (fun v => (!β1) = false → v = (Bo β2)),
    Fact.pure [36, 39] (fun v => v = (Bo ((!β1) || β2)))]) (by simp [Fact.pure, Fact.mem]) ?_
  refine R_p (fun u hu _ => does_loadAgg (cs := [(.slice p136 (((mshM A_g).places).length) q137), (.slice p139 (((mshM A_g).tris).length) q140)]) (ev rfl) Try.isAgg32 Try.sizeOf32 (Blk.cells (hB154.ext hu)) rfl) fun v159 => ?_
  refine R_p (fun u hu _ => does_loadAgg (cs := [(.slice p66 (((mshM A_g).places).length) q67), (.slice p69 (((mshM A_g).tris).length) q70)]) (ev rfl) Try.isAgg32 Try.sizeOf32 (Blk.cells (((((((hB81.ext E85).ext E111).wr W117 (Nat.ne_of_lt n114)).ext E122).ext E146).wr W153 (Nat.ne_of_lt n149)).ext hu)) rfl) fun v160 => ?_
  refine R_d (fun u hu hF => ?_) (fun v161 => ?_)
  · have h32_ : v159 = (.agg #[(.slice p136 (((mshM A_g).places).length) q137), (.slice p139 (((mshM A_g).tris).length) q140)]) := hF.1
    have h33_ : v160 = (.agg #[(.slice p66 (((mshM A_g).places).length) q67), (.slice p69 (((mshM A_g).tris).length) q70)]) := hF.2.1
    clear hF
    refine doesG_un rfl ?_
    obtain rfl := h32_
    obtain rfl := h33_
    refine (does_call (args := #[(.agg #[(.slice p136 (((mshM A_g).places).length) q137), (.slice p139 (((mshM A_g).tris).length) q140)]), (.agg #[(.slice p66 (((mshM A_g).places).length) q67), (.slice p69 (((mshM A_g).tris).length) q70)])]) cal8 (evs rfl) (c_laws_eqMesh [(.slice p136 (((mshM A_g).places).length) q137), (.slice p139 (((mshM A_g).tris).length) q140)] (mshM A_g) [(.slice p66 (((mshM A_g).places).length) q67), (.slice p69 (((mshM A_g).tris).length) q70)] (mshM A_g) _ ⟨(.slice p136 (((mshM A_g).places).length) q137), (.slice p139 (((mshM A_g).tris).length) q140), rfl, (Sl.ext (hh138 _ (((Same.refl _ _).ext E146).wr W153 (.inr (Nat.le_trans (Nat.le_refl _) hb144)))) RV3.mono hu), (Sl.ext (hh141 _ (((Same.refl _ _).ext E146).wr W153 (.inr (Nat.le_trans (Nat.le_refl _) hb144)))) (RS.mono RI.mono) hu)⟩ ⟨(.slice p66 (((mshM A_g).places).length) q67), (.slice p69 (((mshM A_g).tris).length) q70), rfl, (Sl.ext (hh68 _ (((((((((Same.refl _ _).ext E75).wr W80 (.inr (Nat.le_trans (Nat.le_refl _) hb73))).ext E85).ext E111).wr W117 (.inr (Nat.le_trans (Nat.le_trans (Nat.le_trans (Below.size E75) (Nat.le_of_eq (Eq.symm (Wr.size W80)))) (Below.size E85)) hb109))).ext E122).ext E146).wr W153 (.inr (Nat.le_trans (Nat.le_trans (Nat.le_trans (Nat.le_trans (Nat.le_trans (Nat.le_trans (Below.size E75) (Nat.le_of_eq (Eq.symm (Wr.size W80)))) (Below.size E85)) (Below.size E111)) (Nat.le_of_eq (Eq.symm (Wr.size W117)))) (Below.size E122)) hb144)))) RV3.mono hu), (Sl.ext (hh71 _ (((((((((Same.refl _ _).ext E75).wr W80 (.inr (Nat.le_trans (Nat.le_refl _) hb73))).ext E85).ext E111).wr W117 (.inr (Nat.le_trans (Nat.le_trans (Nat.le_trans (Below.size E75) (Nat.le_of_eq (Eq.symm (Wr.size W80)))) (Below.size E85)) hb109))).ext E122).ext E146).wr W153 (.inr (Nat.le_trans (Nat.le_trans (Nat.le_trans (Nat.le_trans (Nat.le_trans (Nat.le_trans (Below.size E75) (Nat.le_of_eq (Eq.symm (Wr.size W80)))) (Below.size E85)) (Below.size E111)) (Nat.le_of_eq (Eq.symm (Wr.size W117)))) (Below.size E122)) hb144)))) (RS.mono RI.mono) hu)⟩)).mono ?_; rintro v u' ⟨hx, hv⟩
    exact ⟨hv.trans (by simp only [hβ1]), hx⟩
  refine R_p (fun u hu hF => ?_) fun v162 => ?_
  · have h34_ : v161 = (Bo β1) := hF.1
    clear hF; subst h34_
    exact does_not (ev rfl)
  refine R_p (fun u hu hF => ?_) fun v163 => ?_
  · have h35_ : v162 = (Bo (!β1)) := hF.1
    clear hF; subst h35_
    exact does_move (u := (Bo (!β1))) (ev rfl)
  refine R_d (fun u hu hF => ?_) (fun v164 => ?_)
  · have h36_ : v163 = (Bo (!β1)) := hF.1
    clear hF
    obtain rfl := h36_
    refine doesG_g (b := (!β1)) rfl (yld rfl rfl) (fun hg1 => ?_) (fun hc => ⟨fun hg1 => absurd hg1 hc, Ext.refl _⟩)
    refine (does_move (u := (Bo (isGrid A_g))) (ev rfl)).mono ?_; rintro _ _ ⟨rfl, rfl⟩
    exact ⟨fun _ => rfl, Ext.refl _⟩
  refine R_d (fun u hu hF => ?_) (fun v165 => ?_)
  · have h36_ : v163 = (Bo (!β1)) := hF.1
    clear hF
    obtain rfl := h36_
    refine doesG_g (b := (!β1)) rfl (yld rfl rfl) (fun hg1 => ?_) (fun hc => ⟨fun hg1 => absurd hg1 hc, Ext.refl _⟩)
    refine (does_move (u := (Bo (isGrid A_g))) (ev rfl)).mono ?_; rintro _ _ ⟨rfl, rfl⟩
    exact ⟨fun _ => rfl, Ext.refl _⟩
  refine R_d (fun u hu hF => ?_) (fun v166 => ?_)
  · have h37_ : (!β1) = false → v164 = (Bo (isGrid A_g)) := hF.1
    have h38_ : (!β1) = false → v165 = (Bo (isGrid A_g)) := hF.2.1
    have h36_ : v163 = (Bo (!β1)) := hF.2.2.1
    clear hF
    obtain rfl := h36_
    refine doesG_g (b := (!β1)) rfl (yld rfl rfl) (fun hg1 => ?_) (fun hc => ⟨fun hg1 => absurd hg1 hc, Ext.refl _⟩)
    obtain rfl := h37_ hg1
    obtain rfl := h38_ hg1
    refine (does_bne (p := (isGrid A_g)) (q := (isGrid A_g)) Try.underlying4 (ev rfl) (ev rfl)).mono ?_; rintro _ _ ⟨rfl, rfl⟩
    exact ⟨fun _ => (by first | rfl | (show _ = _; simp only [hβ2]; done) | (show _ = _; simp only [hβ2]; rfl)), Ext.refl _⟩
  refine R_d (fun u hu hF => ?_) (fun v167 => ?_)
  · have h36_ : v163 = (Bo (!β1)) := hF.1
    have h39_ : (!β1) = false → v166 = (Bo β2) := hF.2.1
    clear hF
    refine doesG_un rfl ?_
    skip
    obtain rfl := h36_
    refine (does_pick (b := (!β1)) (u := (Bo true)) (v := v166) (ev rfl) (ev rfl) (ev rfl)).mono ?_; rintro _ _ ⟨rfl, rfl⟩; refine ⟨?_, Ext.refl _⟩; skip
    cases hbb : (!β1)
    all_goals first | (show _ = _; simp only [↓reduceIte, Bool.true_and, Bool.false_and, Bool.true_or, Bool.false_or, Bool.false_eq_true]; done) | (have e_ := h39_ hbb; subst e_; show _ = _; simp only [↓reduceIte, Bool.true_and, Bool.false_and, Bool.true_or, Bool.false_or, Bool.false_eq_true]; done) | rfl | (have e_ := h39_ hbb; subst e_; rfl) | (simp [hbb] at h39_ ⊢; first | done | rfl | (subst h39_; rfl) | simp_all) | (simp [hbb] at h39_ ⊢; done)
  refine RW_fin ?_; intro w168 E169 hP170
  obtain ⟨⟨⟨⟨⟨⟨⟨⟨⟨-, -⟩, -⟩, -⟩, -⟩, -⟩, -⟩, -⟩, -⟩, q171⟩ := hP170
  have X172 := Ext.gr X156 E169
  have q171 : v167 = (Bo ((!β1) || β2)) := q171
  obtain rfl := q171
  refine fz ?_
  refine wn K158 ?_
  refine wp_cond_split (t := (!β1) || β2) (ev rfl) (fun c173 => ?_) (fun c173 => ?_)
  · have c173' := c173
    (try simp only [hβ1, hβ2, sameG_self, sameMesh_self, bne_self_eq_false, meSz_mk] at c173')
    (try simp only [hβ1, hβ2] at c173')
    (try simp only [icmp, bs] at c173')
    refine wr fun _ K174 => ?_
    refine ja (Bo false) ?_
    refine wn K174 ?_
    refine wp_ret ?_
    dsimp only [Exit.then, Exit.inBlock]
    refine ret_val (v := (Bo false)) (res_T rfl (slot rfl)) X172 ?_
    try simp only [h2, h4, h6, h8, h43, h45, h47, h49, h95, h97, h99, h101, hβ1, hβ2, sameG_self, sameMesh_self, bne_self_eq_false, meSz_mk] at c31 c173
    have x175 : true = false := by first | with_reducible rfl | (exfalso; omega) | (exfalso; simp only [mkL_len] at * <;> omega) | (exfalso; rcases c173' with ((hh | hh) | hh) | hh <;> first | omega | (exact Bool.noConfusion hh) | (exact absurd rfl hh)) | (exfalso; rcases c173' with (hh | hh) | hh <;> first | omega | (exact Bool.noConfusion hh)) | (exfalso; rcases c173' with hh | hh <;> first | omega | (exact Bool.noConfusion hh)) | (simp only [sameG_self, sameMesh_self, bne_self_eq_false, meSz_mk, h2, h4, h6, h8, h43, h45, h47, h49, h95, h97, h99, h101, hβ1, hβ2, c31, c173]; done) | (simp [sameG_self, sameMesh_self, bne_self_eq_false, meSz_mk, h2, h4, h6, h8, h43, h45, h47, h49, h95, h97, h99, h101, hβ1, hβ2, c31, c173]; done) | (simp_all; done) | (exfalso; simp_all; done)
    exact (by first | with_reducible rfl | rw [x175] | rfl)
  have c173' := c173
  (try simp only [hβ1, hβ2, sameG_self, sameMesh_self, bne_self_eq_false, meSz_mk] at c173')
  (try simp only [hβ1, hβ2] at c173')
  (try simp only [icmp, bs] at c173')
  refine wp_skip (K157 _ _ ?_)
  refine ws fun _ K176 => ?_
  refine ws fun _ K177 => ?_
  refine region_draw (
    [Fact.pure [] (fun v => v = (.agg #[(Fl r94), (Fl r96), (Fl r98), (Fl r100), (Iv A_g.x), (Iv A_g.y), (Iv A_g.z), (.slice p104 A_g.vals.length q105)])),
    Fact.pure [] (fun v => v = (.agg #[(Fl r1), (Fl r3), (Fl r5), (Fl r7), (Iv A_g.x), (Iv A_g.y), (Iv A_g.z), (.slice p11 A_g.vals.length q12)])),
    Fact.mem [42] (fun v w' => ∃ cs_1 : List Value, ∃ Lw_2 : List Nat, v = (.agg cs_1.toArray) ∧ Hang w168.heap.size w' (fun u => RGridT u A_g cs_1) ∧ WL 1 w168.heap.size w' Lw_2 (cellN cs_1 7) A_g.vals.length) (by rintro v w1 w2 hx ⟨z1, z2, rfl, k0, k1⟩; exact ⟨_, _, rfl, (k0.ext hx), (k1.same (Same.of_ext hx))⟩),
    Fact.pure [41, 43] (fun v => v = (Bo (sameG A_g A_g))),
    Fact.pure [44] (fun v => v = (Bo (!(sameG A_g A_g))))]) mixed (by kernel_rfl) (by intro _ _ d _ _ h; cases d <;> exact h) ?_
  obtain ⟨w178, hw180⟩ : ∃ w', w' = World.drew w168 := ⟨_, rfl⟩; rw [← hw180]; have E179 : Ext w168 w178 := by rw [hw180]; exact Ext.draw _
  clear hw180
  have X181 := Ext.gr X172 E179
  refine R_p (fun u hu _ => does_loadAgg (cs := [(Fl r94), (Fl r96), (Fl r98), (Fl r100), (Iv A_g.x), (Iv A_g.y), (Iv A_g.z), (.slice p104 A_g.vals.length q105)]) (ev rfl) Try.isAgg37 Try.sizeOf37 (Blk.cells ((((((hB118.ext E122).ext E146).wr W153 (Nat.ne_of_lt n150)).ext E169).ext E179).ext hu)) rfl) fun v182 => ?_
  refine R_p (fun u hu _ => does_loadAgg (cs := [(Fl r1), (Fl r3), (Fl r5), (Fl r7), (Iv A_g.x), (Iv A_g.y), (Iv A_g.z), (.slice p11 A_g.vals.length q12)]) (ev rfl) Try.isAgg27 Try.sizeOf27 (Blk.cells ((((((((((((((hB17.ext E24).ext E34).ext E56).ext E75).wr W80 (Nat.ne_of_lt n77)).ext E85).ext E111).wr W117 (Nat.ne_of_lt n113)).ext E122).ext E146).wr W153 (Nat.ne_of_lt n148)).ext E169).ext E179).ext hu)) rfl) fun v183 => ?_
  refine R_d (fun u hu hF => ?_) (fun v184 => ?_)
  · have h42_ : v183 = (.agg #[(Fl r1), (Fl r3), (Fl r5), (Fl r7), (Iv A_g.x), (Iv A_g.y), (Iv A_g.z), (.slice p11 A_g.vals.length q12)]) := hF.1
    clear hF
    refine doesG_un rfl ?_
    obtain rfl := h42_
    refine (does_call (args := #[(.agg #[(Fl r1), (Fl r3), (Fl r5), (Fl r7), (Iv A_g.x), (Iv A_g.y), (Iv A_g.z), (.slice p11 A_g.vals.length q12)])]) cal6 (evs rfl) (c_laws_toGrid [(Fl r1), (Fl r3), (Fl r5), (Fl r7), (Iv A_g.x), (Iv A_g.y), (Iv A_g.z), (.slice p11 A_g.vals.length q12)] A_g _ ⟨r1, r3, r5, r7, (.slice p11 A_g.vals.length q12), rfl, h2, h4, h6, h8, (Sl.ext (Sl.ext hs13 RF.mono (Ext.gr X172 E179)) RF.mono hu)⟩ (by omega))).mono ?_; rintro v u' ⟨hx, ⟨csn1, Lwn2, hv, k0, k1⟩⟩
    exact ⟨⟨csn1, Lwn2, hv, (Hang.le k0 (Nat.le_trans (Below.size E179) (Below.size hu))), (WL.le k1 (Nat.le_trans (Below.size E179) (Below.size hu)))⟩, hx⟩
  refine R_d (fun u hu hF => ?_) (fun v185 => ?_)
  · have h41_ : v182 = (.agg #[(Fl r94), (Fl r96), (Fl r98), (Fl r100), (Iv A_g.x), (Iv A_g.y), (Iv A_g.z), (.slice p104 A_g.vals.length q105)]) := hF.1
    have h43_ : ∃ cs_1 : List Value, ∃ Lw_2 : List Nat, v184 = (.agg cs_1.toArray) ∧ Hang w168.heap.size u (fun u => RGridT u A_g cs_1) ∧ WL 1 w168.heap.size u Lw_2 (cellN cs_1 7) A_g.vals.length := hF.2.1
    clear hF
    refine doesG_un rfl ?_
    obtain rfl := h41_
    obtain ⟨cs43_2, Lw43_3, rfl, hh43_1, hw43_4⟩ := h43_
    obtain ⟨r43_5, r43_7, r43_9, r43_11, y43_13, rfl, h43_6, h43_8, h43_10, h43_12, h43_14⟩ := hh43_1.get
    have hh43_14 := h43_14; obtain ⟨p43_15, q43_16, rfl⟩ := Sl.shape h43_14
    refine (does_call (args := #[(.agg #[(Fl r94), (Fl r96), (Fl r98), (Fl r100), (Iv A_g.x), (Iv A_g.y), (Iv A_g.z), (.slice p104 A_g.vals.length q105)]), (.agg #[(Fl r43_5), (Fl r43_7), (Fl r43_9), (Fl r43_11), (Iv A_g.x), (Iv A_g.y), (Iv A_g.z), (.slice p43_15 A_g.vals.length q43_16)])]) cal9 (evs rfl) (c_laws_eqGrid [(Fl r94), (Fl r96), (Fl r98), (Fl r100), (Iv A_g.x), (Iv A_g.y), (Iv A_g.z), (.slice p104 A_g.vals.length q105)] A_g [(Fl r43_5), (Fl r43_7), (Fl r43_9), (Fl r43_11), (Iv A_g.x), (Iv A_g.y), (Iv A_g.z), (.slice p43_15 A_g.vals.length q43_16)] A_g _ ⟨r94, r96, r98, r100, (.slice p104 A_g.vals.length q105), rfl, h95, h97, h99, h101, (Sl.ext (hh106 _ ((((((((Same.refl _ _).ext E111).wr W117 (.inr (Nat.le_trans (Nat.le_refl _) hb109))).ext E122).ext E146).wr W153 (.inr (Nat.le_trans (Nat.le_trans (Nat.le_trans (Below.size E111) (Nat.le_of_eq (Eq.symm (Wr.size W117)))) (Below.size E122)) hb144))).ext E169).ext E179)) RF.mono hu)⟩ ⟨r43_5, r43_7, r43_9, r43_11, (.slice p43_15 A_g.vals.length q43_16), rfl, (by assumption), (by assumption), (by assumption), (by assumption), hh43_14⟩)).mono ?_; rintro v u' ⟨hx, hv⟩
    exact ⟨hv.trans (by simp only [h43_6, h43_8, h43_10, h43_12]), hx⟩
  refine R_p (fun u hu hF => ?_) fun v186 => ?_
  · have h44_ : v185 = (Bo (sameG A_g A_g)) := hF.1
    clear hF; subst h44_
    exact does_not (ev rfl)
  refine RW_fin ?_; intro w187 E188 hP189
  obtain ⟨⟨⟨⟨⟨-, -⟩, -⟩, -⟩, -⟩, q190⟩ := hP189
  have X191 := Ext.gr X181 E188
  have q190 : v186 = (Bo (!(sameG A_g A_g))) := q190
  obtain rfl := q190
  refine fz ?_
  refine wn K177 ?_
  refine wp_cond_split (t := !(sameG A_g A_g)) (ev rfl) (fun c192 => ?_) (fun c192 => ?_)
  · rw [Bool.not_eq_true'] at c192
    have c192' := c192
    (try simp only [hβ1, hβ2, sameG_self, sameMesh_self, bne_self_eq_false, meSz_mk] at c192')
    (try simp only [hβ1, hβ2] at c192')
    (try simp only [icmp, bs] at c192')
    refine wr fun _ K193 => ?_
    refine ja (Bo false) ?_
    refine wn K193 ?_
    refine wp_ret ?_
    dsimp only [Exit.then, Exit.inBlock]
    refine ret_val (v := (Bo false)) (res_T rfl (slot rfl)) X191 ?_
    try simp only [h2, h4, h6, h8, h43, h45, h47, h49, h95, h97, h99, h101, hβ1, hβ2, sameG_self, sameMesh_self, bne_self_eq_false, meSz_mk] at c31 c173 c192
    have x194 : true = false := by first | with_reducible rfl | (exfalso; omega) | (exfalso; simp only [mkL_len] at * <;> omega) | (exfalso; rcases c192' with ((hh | hh) | hh) | hh <;> first | omega | (exact Bool.noConfusion hh) | (exact absurd rfl hh)) | (exfalso; rcases c192' with (hh | hh) | hh <;> first | omega | (exact Bool.noConfusion hh)) | (exfalso; rcases c192' with hh | hh <;> first | omega | (exact Bool.noConfusion hh)) | (simp only [sameG_self, sameMesh_self, bne_self_eq_false, meSz_mk, h2, h4, h6, h8, h43, h45, h47, h49, h95, h97, h99, h101, hβ1, hβ2, c31, c173, c192]; done) | (simp [sameG_self, sameMesh_self, bne_self_eq_false, meSz_mk, h2, h4, h6, h8, h43, h45, h47, h49, h95, h97, h99, h101, hβ1, hβ2, c31, c173, c192]; done) | (simp_all; done) | (exfalso; simp_all; done)
    exact (by first | with_reducible rfl | rw [x194] | rfl)
  rw [Bool.not_eq_false'] at c192
  have c192' := c192
  (try simp only [hβ1, hβ2, sameG_self, sameMesh_self, bne_self_eq_false, meSz_mk] at c192')
  (try simp only [hβ1, hβ2] at c192')
  (try simp only [icmp, bs] at c192')
  refine wp_skip (K176 _ _ ?_)
  refine wr fun _ K195 => ?_
  refine ja (Iv 1) ?_
  refine wn K195 ?_
  refine wr fun _ K196 => ?_
  refine jj (does_loadAgg (cs := [(Fl r94), (Fl r96), (Fl r98), (Fl r100), (Iv A_g.x), (Iv A_g.y), (Iv A_g.z), (.slice p104 A_g.vals.length q105)]) (ev rfl) Try.isAgg37 Try.sizeOf37 (Blk.cells ((((((hB118.ext E122).ext E146).wr W153 (Nat.ne_of_lt n150)).ext E169).ext E179).ext E188)) rfl) ?_
  refine jm (Iv 1) ?_
  refine sd (does_callK (args := #[(.agg #[(Fl r94), (Fl r96), (Fl r98), (Fl r100), (Iv A_g.x), (Iv A_g.y), (Iv A_g.z), (.slice p104 A_g.vals.length q105)]), (Iv 1)]) cal10 (evs rfl) (c_laws_markGrid (Fl r94) (Fl r96) (Fl r98) (Fl r100) (Iv A_g.x) (Iv A_g.y) (Iv A_g.z) (.slice p104 A_g.vals.length q105) A_g.vals.length Lw89 w82.heap.size 1 _ (hw107.same (((((((((Same.refl _ _).ext E111).wr W117 (.inr (Nat.le_trans (Nat.le_refl _) hb109))).ext E122).ext E146).wr W153 (.inr (Nat.le_trans (Nat.le_trans (Nat.le_trans (Below.size E111) (Nat.le_of_eq (Eq.symm (Wr.size W117)))) (Below.size E122)) hb144))).ext E169).ext E179).ext E188)) (by omega) (by first | omega | omega))) ?_; rintro _ w197 ⟨K198, rfl, hM199⟩
  have X200 := Below.kl X191 K198 (fun c hc => Nat.le_trans (Below.size (Below.wr (Ext.gr (Ext.gr (Ext.gr (Ext.gr (Ext.gr (Ext.refl _) E18) E24) E34) E56) E75) W80 g78)) (hw107.1 c hc).1) (Nat.le_refl _)
  refine fz ?_
  refine ja (Iv (1 + (A_g.vals.length : Int) * 1)) ?_
  refine wn K196 ?_
  refine ws fun _ K203 => ?_
  refine ws fun _ K204 => ?_
  obtain ⟨β3, hβ3⟩ : ∃ b : Bool, b = (icmp .lss (1 + (A_g.vals.length : Int) * 1) 0) := ⟨_, rfl⟩
  obtain ⟨β4, hβ4⟩ : ∃ b : Bool, b = (sameMesh (mshM A_g) (mshM A_g)) := ⟨_, rfl⟩
  obtain ⟨β5, hβ5⟩ : ∃ b : Bool, b = ((isGrid A_g) != (isGrid A_g)) := ⟨_, rfl⟩
  refine region_text (
    [Fact.pure [] (fun v => v = (Iv (1 + (A_g.vals.length : Int) * 1))),
    Fact.pure [49] (fun v => v = (Bo β3)),
    Fact.pure [50] (fun v => v = (Bo β3)),
    Fact.pure [51] (fun v => β3 = false → v = (.agg #[(.slice p136 (((mshM A_g).places).length) q137), (.slice p139 (((mshM A_g).tris).length) q140)])),
    Fact.pure [51] (fun v => β3 = false → v = (.agg #[(.slice p66 (((mshM A_g).places).length) q67), (.slice p69 (((mshM A_g).tris).length) q70)])),
    Fact.pure [52, 53, 51] (fun v => β3 = false → v = (Bo β4)),
    Fact.pure [54, 51] (fun v => β3 = false → v = (Bo (!β4))),
    Fact.pure [51, 55] (fun v => v = (Bo (β3 || (!β4)))),
    Fact.pure [56] (fun v => v = (Bo (β3 || (!β4)))),
    Fact.pure [57] (fun v => (β3 || (!β4)) = false → v = (Bo (isGrid A_g))),
    Fact.pure [57] (fun v => (β3 || (!β4)) = false → v = (Bo (isGrid A_g))),
    Fact.pure [58, 59, 57] (fun v => (β3 || (!β4)) = false → v = (Bo β5)),
    Fact.pure [57, 60] (fun v => v = (Bo ((β3 || (!β4)) || β5)))]) (by simp [Fact.pure, Fact.mem]) ?_
  refine R_p (fun u hu _ => does_move (u := (Iv (1 + (A_g.vals.length : Int) * 1))) (ev rfl)) fun v205 => ?_
  refine R_d (fun u hu hF => ?_) (fun v206 => ?_)
  · have h49_ : v205 = (Iv (1 + (A_g.vals.length : Int) * 1)) := hF.1
    clear hF
    refine doesG_un rfl ?_
    obtain rfl := h49_
    refine (does_icmp (p := 1 + (A_g.vals.length : Int) * 1) (q := 0) (.inr (.inr (.inl rfl))) (ev rfl) (ev rfl)).mono ?_; rintro _ _ ⟨rfl, rfl⟩
    exact ⟨(by first | rfl | (show _ = _; simp only [hβ3]; done) | (show _ = _; simp only [hβ3]; rfl)), Ext.refl _⟩
  refine R_p (fun u hu hF => ?_) fun v207 => ?_
  · have h50_ : v206 = (Bo β3) := hF.1
    clear hF; subst h50_
    exact does_move (u := (Bo β3)) (ev rfl)
  refine R_d (fun u hu hF => ?_) (fun v208 => ?_)
  · have h51_ : v207 = (Bo β3) := hF.1
    clear hF
    obtain rfl := h51_
    refine doesG_g (b := β3) rfl (yld rfl rfl) (fun hg1 => ?_) (fun hc => ⟨fun hg1 => absurd hg1 hc, Ext.refl _⟩)
    refine (does_loadAgg (cs := [(.slice p136 (((mshM A_g).places).length) q137), (.slice p139 (((mshM A_g).tris).length) q140)]) (ev rfl) Try.isAgg32 Try.sizeOf32 (Blk.cells (((((hB154.ext E169).ext E179).ext E188).kl K198 (fun hc => absurd (Nat.lt_of_lt_of_le (hw107.1 _ hc).2 (Nat.le_trans (Nat.le_trans (Nat.le_trans (Below.size E111) (Nat.le_of_eq (Eq.symm (Wr.size W117)))) (Below.size E122)) hb144)) (Nat.lt_irrefl _))).ext hu)) rfl).mono ?_; rintro _ _ ⟨rfl, rfl⟩
    exact ⟨fun _ => rfl, Ext.refl _⟩
  refine R_d (fun u hu hF => ?_) (fun v209 => ?_)
  · have h51_ : v207 = (Bo β3) := hF.1
    clear hF
    obtain rfl := h51_
    refine doesG_g (b := β3) rfl (yld rfl rfl) (fun hg1 => ?_) (fun hc => ⟨fun hg1 => absurd hg1 hc, Ext.refl _⟩)
    refine (does_loadAgg (cs := [(.slice p66 (((mshM A_g).places).length) q67), (.slice p69 (((mshM A_g).tris).length) q70)]) (ev rfl) Try.isAgg32 Try.sizeOf32 (Blk.cells (((((((((((hB81.ext E85).ext E111).wr W117 (Nat.ne_of_lt n114)).ext E122).ext E146).wr W153 (Nat.ne_of_lt n149)).ext E169).ext E179).ext E188).kl K198 (fun hc => absurd (hw107.1 _ hc).1 (Nat.not_le_of_lt n93))).ext hu)) rfl).mono ?_; rintro _ _ ⟨rfl, rfl⟩
    exact ⟨fun _ => rfl, Ext.refl _⟩
  refine R_d (fun u hu hF => ?_) (fun v210 => ?_)
  · have h52_ : β3 = false → v208 = (.agg #[(.slice p136 (((mshM A_g).places).length) q137), (.slice p139 (((mshM A_g).tris).length) q140)]) := hF.1
    have h53_ : β3 = false → v209 = (.agg #[(.slice p66 (((mshM A_g).places).length) q67), (.slice p69 (((mshM A_g).tris).length) q70)]) := hF.2.1
    have h51_ : v207 = (Bo β3) := hF.2.2.1
    clear hF
    obtain rfl := h51_
    refine doesG_g (b := β3) rfl (yld rfl rfl) (fun hg1 => ?_) (fun hc => ⟨fun hg1 => absurd hg1 hc, Ext.refl _⟩)
    obtain rfl := h52_ hg1
    obtain rfl := h53_ hg1
    refine (does_call (args := #[(.agg #[(.slice p136 (((mshM A_g).places).length) q137), (.slice p139 (((mshM A_g).tris).length) q140)]), (.agg #[(.slice p66 (((mshM A_g).places).length) q67), (.slice p69 (((mshM A_g).tris).length) q70)])]) cal8 (evs rfl) (c_laws_eqMesh [(.slice p136 (((mshM A_g).places).length) q137), (.slice p139 (((mshM A_g).tris).length) q140)] (mshM A_g) [(.slice p66 (((mshM A_g).places).length) q67), (.slice p69 (((mshM A_g).tris).length) q70)] (mshM A_g) _ ⟨(.slice p136 (((mshM A_g).places).length) q137), (.slice p139 (((mshM A_g).tris).length) q140), rfl, (Sl.ext (hh138 _ (((((((Same.refl _ _).ext E146).wr W153 (.inr (Nat.le_trans (Nat.le_refl _) hb144))).ext E169).ext E179).ext E188).kl K198 (fun c hc => .inl (Nat.lt_of_lt_of_le (hw107.1 c hc).2 (Nat.le_trans (Below.size E111) (Nat.le_of_eq (Eq.symm (Wr.size W117)))))))) RV3.mono hu), (Sl.ext (hh141 _ (((((((Same.refl _ _).ext E146).wr W153 (.inr (Nat.le_trans (Nat.le_refl _) hb144))).ext E169).ext E179).ext E188).kl K198 (fun c hc => .inl (Nat.lt_of_lt_of_le (hw107.1 c hc).2 (Nat.le_trans (Below.size E111) (Nat.le_of_eq (Eq.symm (Wr.size W117)))))))) (RS.mono RI.mono) hu)⟩ ⟨(.slice p66 (((mshM A_g).places).length) q67), (.slice p69 (((mshM A_g).tris).length) q70), rfl, (Sl.ext (hh68 _ (((((((((((((Same.refl _ _).ext E75).wr W80 (.inr (Nat.le_trans (Nat.le_refl _) hb73))).ext E85).ext E111).wr W117 (.inr (Nat.le_trans (Nat.le_trans (Nat.le_trans (Below.size E75) (Nat.le_of_eq (Eq.symm (Wr.size W80)))) (Below.size E85)) hb109))).ext E122).ext E146).wr W153 (.inr (Nat.le_trans (Nat.le_trans (Nat.le_trans (Nat.le_trans (Nat.le_trans (Nat.le_trans (Below.size E75) (Nat.le_of_eq (Eq.symm (Wr.size W80)))) (Below.size E85)) (Below.size E111)) (Nat.le_of_eq (Eq.symm (Wr.size W117)))) (Below.size E122)) hb144))).ext E169).ext E179).ext E188).kl K198 (fun c hc => .inr (Nat.le_trans (Nat.le_trans (Below.size E75) (Nat.le_of_eq (Eq.symm (Wr.size W80)))) (hw107.1 c hc).1)))) RV3.mono hu), (Sl.ext (hh71 _ (((((((((((((Same.refl _ _).ext E75).wr W80 (.inr (Nat.le_trans (Nat.le_refl _) hb73))).ext E85).ext E111).wr W117 (.inr (Nat.le_trans (Nat.le_trans (Nat.le_trans (Below.size E75) (Nat.le_of_eq (Eq.symm (Wr.size W80)))) (Below.size E85)) hb109))).ext E122).ext E146).wr W153 (.inr (Nat.le_trans (Nat.le_trans (Nat.le_trans (Nat.le_trans (Nat.le_trans (Nat.le_trans (Below.size E75) (Nat.le_of_eq (Eq.symm (Wr.size W80)))) (Below.size E85)) (Below.size E111)) (Nat.le_of_eq (Eq.symm (Wr.size W117)))) (Below.size E122)) hb144))).ext E169).ext E179).ext E188).kl K198 (fun c hc => .inr (Nat.le_trans (Nat.le_trans (Below.size E75) (Nat.le_of_eq (Eq.symm (Wr.size W80)))) (hw107.1 c hc).1)))) (RS.mono RI.mono) hu)⟩)).mono ?_; rintro v u' ⟨hx, hv⟩
    exact ⟨fun _ => hv.trans (by simp only [hβ4]), hx⟩
  refine R_d (fun u hu hF => ?_) (fun v211 => ?_)
  · have h54_ : β3 = false → v210 = (Bo β4) := hF.1
    have h51_ : v207 = (Bo β3) := hF.2.1
    clear hF
    obtain rfl := h51_
    refine doesG_g (b := β3) rfl (yld rfl rfl) (fun hg1 => ?_) (fun hc => ⟨fun hg1 => absurd hg1 hc, Ext.refl _⟩)
    obtain rfl := h54_ hg1
    refine (does_not (ev rfl)).mono ?_; rintro _ _ ⟨rfl, rfl⟩
    exact ⟨fun _ => rfl, Ext.refl _⟩
  refine R_d (fun u hu hF => ?_) (fun v212 => ?_)
  · have h51_ : v207 = (Bo β3) := hF.1
    have h55_ : β3 = false → v211 = (Bo (!β4)) := hF.2.1
    clear hF
    refine doesG_un rfl ?_
    skip
    obtain rfl := h51_
    refine (does_pick (b := β3) (u := (Bo true)) (v := v211) (ev rfl) (ev rfl) (ev rfl)).mono ?_; rintro _ _ ⟨rfl, rfl⟩; refine ⟨?_, Ext.refl _⟩; skip
    cases hbb : β3
    all_goals first | (show _ = _; simp only [↓reduceIte, Bool.true_and, Bool.false_and, Bool.true_or, Bool.false_or, Bool.false_eq_true]; done) | (have e_ := h55_ hbb; subst e_; show _ = _; simp only [↓reduceIte, Bool.true_and, Bool.false_and, Bool.true_or, Bool.false_or, Bool.false_eq_true]; done) | rfl | (have e_ := h55_ hbb; subst e_; rfl) | (simp [hbb] at h55_ ⊢; first | done | rfl | (subst h55_; rfl) | simp_all) | (simp [hbb] at h55_ ⊢; done)
  refine R_p (fun u hu hF => ?_) fun v213 => ?_
  · have h56_ : v212 = (Bo (β3 || (!β4))) := hF.1
    clear hF; subst h56_
    exact does_move (u := (Bo (β3 || (!β4)))) (ev rfl)
  refine R_d (fun u hu hF => ?_) (fun v214 => ?_)
  · have h57_ : v213 = (Bo (β3 || (!β4))) := hF.1
    clear hF
    obtain rfl := h57_
    refine doesG_g (b := (β3 || (!β4))) rfl (yld rfl rfl) (fun hg1 => ?_) (fun hc => ⟨fun hg1 => absurd hg1 hc, Ext.refl _⟩)
    refine (does_move (u := (Bo (isGrid A_g))) (ev rfl)).mono ?_; rintro _ _ ⟨rfl, rfl⟩
    exact ⟨fun _ => rfl, Ext.refl _⟩
  refine R_d (fun u hu hF => ?_) (fun v215 => ?_)
  · have h57_ : v213 = (Bo (β3 || (!β4))) := hF.1
    clear hF
    obtain rfl := h57_
    refine doesG_g (b := (β3 || (!β4))) rfl (yld rfl rfl) (fun hg1 => ?_) (fun hc => ⟨fun hg1 => absurd hg1 hc, Ext.refl _⟩)
    refine (does_move (u := (Bo (isGrid A_g))) (ev rfl)).mono ?_; rintro _ _ ⟨rfl, rfl⟩
    exact ⟨fun _ => rfl, Ext.refl _⟩
  refine R_d (fun u hu hF => ?_) (fun v216 => ?_)
  · have h58_ : (β3 || (!β4)) = false → v214 = (Bo (isGrid A_g)) := hF.1
    have h59_ : (β3 || (!β4)) = false → v215 = (Bo (isGrid A_g)) := hF.2.1
    have h57_ : v213 = (Bo (β3 || (!β4))) := hF.2.2.1
    clear hF
    obtain rfl := h57_
    refine doesG_g (b := (β3 || (!β4))) rfl (yld rfl rfl) (fun hg1 => ?_) (fun hc => ⟨fun hg1 => absurd hg1 hc, Ext.refl _⟩)
    obtain rfl := h58_ hg1
    obtain rfl := h59_ hg1
    refine (does_bne (p := (isGrid A_g)) (q := (isGrid A_g)) Try.underlying4 (ev rfl) (ev rfl)).mono ?_; rintro _ _ ⟨rfl, rfl⟩
    exact ⟨fun _ => (by first | rfl | (show _ = _; simp only [hβ5]; done) | (show _ = _; simp only [hβ5]; rfl)), Ext.refl _⟩
  refine R_d (fun u hu hF => ?_) (fun v217 => ?_)
  · have h57_ : v213 = (Bo (β3 || (!β4))) := hF.1
    have h60_ : (β3 || (!β4)) = false → v216 = (Bo β5) := hF.2.1
    clear hF
    refine doesG_un rfl ?_
    skip
    obtain rfl := h57_
    refine (does_pick (b := (β3 || (!β4))) (u := (Bo true)) (v := v216) (ev rfl) (ev rfl) (ev rfl)).mono ?_; rintro _ _ ⟨rfl, rfl⟩; refine ⟨?_, Ext.refl _⟩; skip
    cases hbb : (β3 || (!β4))
    all_goals first | (show _ = _; simp only [↓reduceIte, Bool.true_and, Bool.false_and, Bool.true_or, Bool.false_or, Bool.false_eq_true]; done) | (have e_ := h60_ hbb; subst e_; show _ = _; simp only [↓reduceIte, Bool.true_and, Bool.false_and, Bool.true_or, Bool.false_or, Bool.false_eq_true]; done) | rfl | (have e_ := h60_ hbb; subst e_; rfl) | (simp [hbb] at h60_ ⊢; first | done | rfl | (subst h60_; rfl) | simp_all) | (simp [hbb] at h60_ ⊢; done)
  refine RW_fin ?_; intro w218 E219 hP220
  obtain ⟨⟨⟨⟨⟨⟨⟨⟨⟨⟨⟨⟨⟨-, -⟩, -⟩, -⟩, -⟩, -⟩, -⟩, -⟩, -⟩, -⟩, -⟩, -⟩, -⟩, q221⟩ := hP220
  have X222 := Ext.gr X200 E219
  have q221 : v217 = (Bo ((β3 || (!β4)) || β5)) := q221
  obtain rfl := q221
  refine fz ?_
  refine wn K204 ?_
  refine wp_cond_split (t := (β3 || (!β4)) || β5) (ev rfl) (fun c223 => ?_) (fun c223 => ?_)
  · have c223' := c223
    (try simp only [hβ1, hβ2, hβ3, hβ4, hβ5, sameG_self, sameMesh_self, bne_self_eq_false, meSz_mk] at c223')
    (try simp only [hβ1, hβ2, hβ3, hβ4, hβ5] at c223')
    (try simp only [icmp, bs] at c223')
    refine wr fun _ K224 => ?_
    refine ja (Bo false) ?_
    refine wn K224 ?_
    refine wp_ret ?_
    dsimp only [Exit.then, Exit.inBlock]
    refine ret_val (v := (Bo false)) (res_T rfl (slot rfl)) X222 ?_
    try simp only [h2, h4, h6, h8, h43, h45, h47, h49, h95, h97, h99, h101, hβ1, hβ2, hβ3, hβ4, hβ5, sameG_self, sameMesh_self, bne_self_eq_false, meSz_mk] at c31 c173 c192 c223
    have x225 : true = false := by first | with_reducible rfl | (exfalso; omega) | (exfalso; simp only [mkL_len] at * <;> omega) | (exfalso; rcases c223' with ((hh | hh) | hh) | hh <;> first | omega | (exact Bool.noConfusion hh) | (exact absurd rfl hh)) | (exfalso; rcases c223' with (hh | hh) | hh <;> first | omega | (exact Bool.noConfusion hh)) | (exfalso; rcases c223' with hh | hh <;> first | omega | (exact Bool.noConfusion hh)) | (simp only [sameG_self, sameMesh_self, bne_self_eq_false, meSz_mk, h2, h4, h6, h8, h43, h45, h47, h49, h95, h97, h99, h101, hβ1, hβ2, hβ3, hβ4, hβ5, c31, c173, c192, c223]; done) | (simp [sameG_self, sameMesh_self, bne_self_eq_false, meSz_mk, h2, h4, h6, h8, h43, h45, h47, h49, h95, h97, h99, h101, hβ1, hβ2, hβ3, hβ4, hβ5, c31, c173, c192, c223]; done) | (simp_all; done) | (exfalso; simp_all; done)
    exact (by first | with_reducible rfl | rw [x225] | rfl)
  have c223' := c223
  (try simp only [hβ1, hβ2, hβ3, hβ4, hβ5, sameG_self, sameMesh_self, bne_self_eq_false, meSz_mk] at c223')
  (try simp only [hβ1, hβ2, hβ3, hβ4, hβ5] at c223')
  (try simp only [icmp, bs] at c223')
  refine wp_skip (K203 _ _ ?_)
  refine wr fun _ K226 => ?_
  refine ja (Iv 1) ?_
  refine wn K226 ?_
  refine wr fun _ K227 => ?_
  refine jj (does_loadAgg (cs := [(.slice p136 (((mshM A_g).places).length) q137), (.slice p139 (((mshM A_g).tris).length) q140)]) (ev rfl) Try.isAgg32 Try.sizeOf32 (Blk.cells (((((hB154.ext E169).ext E179).ext E188).kl K198 (fun hc => absurd (Nat.lt_of_lt_of_le (hw107.1 _ hc).2 (Nat.le_trans (Nat.le_trans (Nat.le_trans (Below.size E111) (Nat.le_of_eq (Eq.symm (Wr.size W117)))) (Below.size E122)) hb144)) (Nat.lt_irrefl _))).ext E219)) rfl) ?_
  refine jm (Iv 1) ?_
  refine sd (does_callK (args := #[(.agg #[(.slice p136 (((mshM A_g).places).length) q137), (.slice p139 (((mshM A_g).tris).length) q140)]), (Iv 1)]) cal11 (evs rfl) (c_laws_markMesh (.slice p136 (((mshM A_g).places).length) q137) (.slice p139 (((mshM A_g).tris).length) q140) (mshM A_g) Lw126 w119.heap.size 1 _ (hw142.same ((((((((Same.refl _ _).ext E146).wr W153 (.inr (Nat.le_trans (Nat.le_refl _) hb144))).ext E169).ext E179).ext E188).kl K198 (fun c hc => .inl (Nat.lt_of_lt_of_le (hw107.1 c hc).2 (Nat.le_trans (Below.size E111) (Nat.le_of_eq (Eq.symm (Wr.size W117))))))).ext E219)) (by omega) (by first | omega | (unfold meSz; omega) | omega))) ?_; rintro _ w228 ⟨K229, rfl, hP230, hT231⟩
  have X232 := Below.kl X222 K229 (fun c hc => Nat.le_trans (Below.size (Below.wr (Ext.gr (Ext.gr (Below.wr (Ext.gr (Ext.gr (Ext.gr (Ext.gr (Ext.gr (Ext.refl _) E18) E24) E34) E56) E75) W80 g78) E85) E111) W117 g115)) (hw142.1 c hc).1) (Nat.le_refl _)
  refine fz ?_
  refine ja (Iv (1 + meSz (mshM A_g))) ?_
  refine wn K227 ?_
  refine wr fun _ K233 => ?_
  refine ja (Iv 1) ?_
  refine wn K233 ?_
  refine wr fun _ K234 => ?_
  refine jj (does_loadAgg (cs := [(.slice p136 (((mshM A_g).places).length) q137), (.slice p139 (((mshM A_g).tris).length) q140)]) (ev rfl) Try.isAgg32 Try.sizeOf32 (Blk.cells ((((((hB154.ext E169).ext E179).ext E188).kl K198 (fun hc => absurd (Nat.lt_of_lt_of_le (hw107.1 _ hc).2 (Nat.le_trans (Nat.le_trans (Nat.le_trans (Below.size E111) (Nat.le_of_eq (Eq.symm (Wr.size W117)))) (Below.size E122)) hb144)) (Nat.lt_irrefl _))).ext E219).kl K229 (fun hc => absurd (Nat.lt_of_lt_of_le (hw142.1 _ hc).2 (Nat.le_trans (Nat.le_refl _) hb144)) (Nat.lt_irrefl _)))) rfl) ?_
  refine jm (Iv 1) ?_
  refine sd (does_call (args := #[(.agg #[(.slice p136 (((mshM A_g).places).length) q137), (.slice p139 (((mshM A_g).tris).length) q140)]), (Iv 1)]) cal12 (evs rfl) (c_laws_heldMesh [(.slice p136 (((mshM A_g).places).length) q137), (.slice p139 (((mshM A_g).tris).length) q140)] (MeshT.mk (mkL fV 3 1 (mshM A_g).places.length) (mkLL fI 1 (preK (1 + ((mshM A_g).places.length : Int) * 3) (mshM A_g).tris) (mshM A_g).tris)) 1 _ ⟨(.slice p136 (((mshM A_g).places).length) q137), (.slice p139 (((mshM A_g).tris).length) q140), rfl, hP230.get, hT231.get⟩ (by exact mkL_eq) (by (try dsimp only); rw [mkL_len]; exact mkLL_self) (by omega) (by rw [meSz_mk]; omega))) ?_; rintro _ w236 ⟨E235, rfl⟩
  have X237 := Ext.gr X232 E235
  refine fz ?_
  refine ja (Iv (1 + meSz (MeshT.mk (mkL fV 3 1 (mshM A_g).places.length) (mkLL fI 1 (preK (1 + ((mshM A_g).places.length : Int) * 3) (mshM A_g).tris) (mshM A_g).tris)))) ?_
  refine wn K234 ?_
  refine ws fun _ K238 => ?_
  refine wr fun _ K239 => ?_
  refine jm (Iv (1 + meSz (MeshT.mk (mkL fV 3 1 (mshM A_g).places.length) (mkLL fI 1 (preK (1 + ((mshM A_g).places.length : Int) * 3) (mshM A_g).tris) (mshM A_g).tris)))) ?_
  refine jj (does_icmp (p := 1 + meSz (MeshT.mk (mkL fV 3 1 (mshM A_g).places.length) (mkLL fI 1 (preK (1 + ((mshM A_g).places.length : Int) * 3) (mshM A_g).tris) (mshM A_g).tris))) (q := 0) (.inr (.inr (.inl rfl))) (ev rfl) (ev rfl)) ?_
  refine wn K239 ?_
  refine wp_cond_split (t := icmp .lss (1 + meSz (MeshT.mk (mkL fV 3 1 (mshM A_g).places.length) (mkLL fI 1 (preK (1 + ((mshM A_g).places.length : Int) * 3) (mshM A_g).tris) (mshM A_g).tris))) 0) (ev rfl) (fun c240 => ?_) (fun c240 => ?_)
  · have c240' := c240
    (try simp only [hβ1, hβ2, hβ3, hβ4, hβ5, sameG_self, sameMesh_self, bne_self_eq_false, meSz_mk] at c240')
    (try simp only [hβ1, hβ2, hβ3, hβ4, hβ5] at c240')
    (try simp only [icmp, bs] at c240')
    refine wr fun _ K241 => ?_
    refine ja (Bo false) ?_
    refine wn K241 ?_
    refine wp_ret ?_
    dsimp only [Exit.then, Exit.inBlock]
    refine ret_val (v := (Bo false)) (res_T rfl (slot rfl)) X237 ?_
    try simp only [h2, h4, h6, h8, h43, h45, h47, h49, h95, h97, h99, h101, hβ1, hβ2, hβ3, hβ4, hβ5, sameG_self, sameMesh_self, bne_self_eq_false, meSz_mk] at c31 c173 c192 c223 c240
    have x242 : true = false := by first | with_reducible rfl | (exfalso; omega) | (exfalso; simp only [mkL_len] at * <;> omega) | (exfalso; rcases c240' with ((hh | hh) | hh) | hh <;> first | omega | (exact Bool.noConfusion hh) | (exact absurd rfl hh)) | (exfalso; rcases c240' with (hh | hh) | hh <;> first | omega | (exact Bool.noConfusion hh)) | (exfalso; rcases c240' with hh | hh <;> first | omega | (exact Bool.noConfusion hh)) | (simp only [sameG_self, sameMesh_self, bne_self_eq_false, meSz_mk, h2, h4, h6, h8, h43, h45, h47, h49, h95, h97, h99, h101, hβ1, hβ2, hβ3, hβ4, hβ5, c31, c173, c192, c223, c240]; done) | (simp [sameG_self, sameMesh_self, bne_self_eq_false, meSz_mk, h2, h4, h6, h8, h43, h45, h47, h49, h95, h97, h99, h101, hβ1, hβ2, hβ3, hβ4, hβ5, c31, c173, c192, c223, c240]; done) | (simp_all; done) | (exfalso; simp_all; done)
    exact (by first | with_reducible rfl | rw [x242] | rfl)
  have c240' := c240
  (try simp only [hβ1, hβ2, hβ3, hβ4, hβ5, sameG_self, sameMesh_self, bne_self_eq_false, meSz_mk] at c240')
  (try simp only [hβ1, hβ2, hβ3, hβ4, hβ5] at c240')
  (try simp only [icmp, bs] at c240')
  refine wp_skip (K238 _ _ ?_)
  refine ws fun _ K243 => ?_
  refine wr fun _ K244 => ?_
  refine jm (Iv (1 + meSz (MeshT.mk (mkL fV 3 1 (mshM A_g).places.length) (mkLL fI 1 (preK (1 + ((mshM A_g).places.length : Int) * 3) (mshM A_g).tris) (mshM A_g).tris)))) ?_
  refine jm (Iv (1 + meSz (mshM A_g))) ?_
  refine jj (does_icmp (p := 1 + meSz (MeshT.mk (mkL fV 3 1 (mshM A_g).places.length) (mkLL fI 1 (preK (1 + ((mshM A_g).places.length : Int) * 3) (mshM A_g).tris) (mshM A_g).tris))) (q := 1 + meSz (mshM A_g)) (.inr (.inl rfl)) (ev rfl) (ev rfl)) ?_
  refine wn K244 ?_
  refine wp_cond_split (t := icmp .neq (1 + meSz (MeshT.mk (mkL fV 3 1 (mshM A_g).places.length) (mkLL fI 1 (preK (1 + ((mshM A_g).places.length : Int) * 3) (mshM A_g).tris) (mshM A_g).tris))) (1 + meSz (mshM A_g))) (ev rfl) (fun c245 => ?_) (fun c245 => ?_)
  · have c245' := c245
    (try simp only [hβ1, hβ2, hβ3, hβ4, hβ5, sameG_self, sameMesh_self, bne_self_eq_false, meSz_mk] at c245')
    (try simp only [hβ1, hβ2, hβ3, hβ4, hβ5] at c245')
    (try simp only [icmp, bs] at c245')
    refine wr fun _ K246 => ?_
    refine ja (Bo false) ?_
    refine wn K246 ?_
    refine wp_ret ?_
    dsimp only [Exit.then, Exit.inBlock]
    refine ret_val (v := (Bo false)) (res_T rfl (slot rfl)) X237 ?_
    try simp only [h2, h4, h6, h8, h43, h45, h47, h49, h95, h97, h99, h101, hβ1, hβ2, hβ3, hβ4, hβ5, sameG_self, sameMesh_self, bne_self_eq_false, meSz_mk] at c31 c173 c192 c223 c240 c245
    have x247 : true = false := by first | with_reducible rfl | (exfalso; omega) | (exfalso; simp only [mkL_len] at * <;> omega) | (exfalso; rcases c245' with ((hh | hh) | hh) | hh <;> first | omega | (exact Bool.noConfusion hh) | (exact absurd rfl hh)) | (exfalso; rcases c245' with (hh | hh) | hh <;> first | omega | (exact Bool.noConfusion hh)) | (exfalso; rcases c245' with hh | hh <;> first | omega | (exact Bool.noConfusion hh)) | (simp only [sameG_self, sameMesh_self, bne_self_eq_false, meSz_mk, h2, h4, h6, h8, h43, h45, h47, h49, h95, h97, h99, h101, hβ1, hβ2, hβ3, hβ4, hβ5, c31, c173, c192, c223, c240, c245]; done) | (simp [sameG_self, sameMesh_self, bne_self_eq_false, meSz_mk, h2, h4, h6, h8, h43, h45, h47, h49, h95, h97, h99, h101, hβ1, hβ2, hβ3, hβ4, hβ5, c31, c173, c192, c223, c240, c245]; done) | (simp_all; done) | (exfalso; simp_all; done)
    exact (by first | with_reducible rfl | rw [x247] | rfl)
  have c245' := c245
  (try simp only [hβ1, hβ2, hβ3, hβ4, hβ5, sameG_self, sameMesh_self, bne_self_eq_false, meSz_mk] at c245')
  (try simp only [hβ1, hβ2, hβ3, hβ4, hβ5] at c245')
  (try simp only [icmp, bs] at c245')
  refine wp_skip (K243 _ _ ?_)
  refine wr fun _ K248 => ?_
  refine jj (does_loadAgg (cs := [(Fl r1), (Fl r3), (Fl r5), (Fl r7), (Iv A_g.x), (Iv A_g.y), (Iv A_g.z), (.slice p11 A_g.vals.length q12)]) (ev rfl) Try.isAgg27 Try.sizeOf27 (Blk.cells ((((((((((((((((((hB17.ext E24).ext E34).ext E56).ext E75).wr W80 (Nat.ne_of_lt n77)).ext E85).ext E111).wr W117 (Nat.ne_of_lt n113)).ext E122).ext E146).wr W153 (Nat.ne_of_lt n148)).ext E169).ext E179).ext E188).kl K198 (fun hc => absurd (hw107.1 _ hc).1 (Nat.not_le_of_lt n92))).ext E219).kl K229 (fun hc => absurd (hw142.1 _ hc).1 (Nat.not_le_of_lt n129))).ext E235)) rfl) ?_
  refine sd (does_call (args := #[(.agg #[(Fl r1), (Fl r3), (Fl r5), (Fl r7), (Iv A_g.x), (Iv A_g.y), (Iv A_g.z), (.slice p11 A_g.vals.length q12)])]) cal6 (evs rfl) (c_laws_toGrid [(Fl r1), (Fl r3), (Fl r5), (Fl r7), (Iv A_g.x), (Iv A_g.y), (Iv A_g.z), (.slice p11 A_g.vals.length q12)] A_g _ ⟨r1, r3, r5, r7, (.slice p11 A_g.vals.length q12), rfl, h2, h4, h6, h8, (Sl.ext hs13 RF.mono X237)⟩ (by omega))) ?_; rintro _ w250 ⟨E249, ⟨cs252, Lw253, rfl, hh251, hw254⟩⟩
  have X255 := Ext.gr X237 E249
  obtain ⟨r260, r262, r264, r266, y268, rfl, h261, h263, h265, h267, h269⟩ := hh251.get
  have h269l := Sl.len h269; obtain ⟨p270, q271, rfl⟩ := Sl.shape h269
  have hh272 : Hang w236.heap.size w250 (fun u => Sl RF 1 u (.slice p270 A_g.vals.length q271) A_g.vals) := fun u hu => by obtain ⟨_, _, _, _, _, hq, _, _, _, _, _⟩ := hh251 u hu; cases hq; assumption
  have hw273 : WL 1 w236.heap.size w250 Lw253 (.slice p270 A_g.vals.length q271) A_g.vals.length := hw254
  refine fz ?_
  refine sd (does_call (args := #[(.agg #[(Fl r260), (Fl r262), (Fl r264), (Fl r266), (Iv A_g.x), (Iv A_g.y), (Iv A_g.z), (.slice p270 A_g.vals.length q271)])]) cal7 (evs rfl) (c_impl_MeshOf [(Fl r260), (Fl r262), (Fl r264), (Fl r266), (Iv A_g.x), (Iv A_g.y), (Iv A_g.z), (.slice p270 A_g.vals.length q271)] A_g _ ⟨r260, r262, r264, r266, (.slice p270 A_g.vals.length q271), rfl, h261, h263, h265, h267, hh272.get⟩)) ?_; rintro _ w275 ⟨E274, ⟨cs277, Lw278, rfl, hh276, hw279⟩⟩
  have X280 := Ext.gr X255 E274
  obtain ⟨y285, y287, rfl, h286, h288⟩ := hh276.get
  have h286l := Sl.len h286; obtain ⟨p289, q290, rfl⟩ := Sl.shape h286
  have hh291 : Hang w250.heap.size w275 (fun u => Sl RV3 3 u (.slice p289 (((mshM A_g).places).length) q290) ((mshM A_g).places)) := fun u hu => by obtain ⟨_, _, hq, _, _⟩ := hh276 u hu; cases hq; assumption
  have h288l := Sl.len h288; obtain ⟨p292, q293, rfl⟩ := Sl.shape h288
  have hh294 : Hang w250.heap.size w275 (fun u => Sl (RS RI 1) 1 u (.slice p292 (((mshM A_g).tris).length) q293) ((mshM A_g).tris)) := fun u hu => by obtain ⟨_, _, hq, _, _⟩ := hh276 u hu; cases hq; assumption
  have hw295 : WLM w250.heap.size w275 Lw278 (.slice p289 (((mshM A_g).places).length) q290) (.slice p292 (((mshM A_g).tris).length) q293) (mshM A_g) := hw279
  refine fz ?_
  refine jm (.tuple #[(.agg #[(.slice p289 (((mshM A_g).places).length) q290), (.slice p292 (((mshM A_g).tris).length) q293)]), (Bo (isGrid A_g))]) ?_
  refine jj (does_extract (vs := #[(.agg #[(.slice p289 (((mshM A_g).places).length) q290), (.slice p292 (((mshM A_g).tris).length) q293)]), (Bo (isGrid A_g))]) (u := (.agg #[(.slice p289 (((mshM A_g).places).length) q290), (.slice p292 (((mshM A_g).tris).length) q293)])) (ev rfl) rfl) ?_
  refine jj (does_extract (vs := #[(.agg #[(.slice p289 (((mshM A_g).places).length) q290), (.slice p292 (((mshM A_g).tris).length) q293)]), (Bo (isGrid A_g))]) (u := (Bo (isGrid A_g))) (ev rfl) rfl) ?_
  refine sd (does_alloc z32) ?_; rintro _ w300 ⟨b296, rfl, hb297, hB298, E299⟩
  have n302 : b72 < b296 := Nat.lt_of_lt_of_le (Blk.lt (((((((((((((((hB81.ext E85).ext E111).wr W117 (Nat.ne_of_lt n114)).ext E122).ext E146).wr W153 (Nat.ne_of_lt n149)).ext E169).ext E179).ext E188).kl K198 (fun hc => absurd (hw107.1 _ hc).1 (Nat.not_le_of_lt n93))).ext E219).kl K229 (fun hc => absurd (hw142.1 _ hc).1 (Nat.not_le_of_lt n130))).ext E235).ext E249).ext E274)) hb297
  have n304 : b143 < b296 := Nat.lt_of_lt_of_le (Blk.lt (((((((((hB154.ext E169).ext E179).ext E188).kl K198 (fun hc => absurd (Nat.lt_of_lt_of_le (hw107.1 _ hc).2 (Nat.le_trans (Nat.le_trans (Nat.le_trans (Below.size E111) (Nat.le_of_eq (Eq.symm (Wr.size W117)))) (Below.size E122)) hb144)) (Nat.lt_irrefl _))).ext E219).kl K229 (fun hc => absurd (Nat.lt_of_lt_of_le (hw142.1 _ hc).2 (Nat.le_trans (Nat.le_refl _) hb144)) (Nat.lt_irrefl _))).ext E235).ext E249).ext E274)) hb297
  have g305 : w.heap.size ≤ b296 := Nat.le_trans (Below.size X280) hb297
  change Blk _ _ [(.slice none 0 0), (.slice none 0 0)] at hB298
  have X306 := Ext.gr X280 E299
  refine fz ?_
  refine sn (does_store (n := 2) (cs := [(.slice none 0 0), (.slice none 0 0)]) (u := (.agg #[(.slice p289 (((mshM A_g).places).length) q290), (.slice p292 (((mshM A_g).tris).length) q293)])) (ev rfl) (ev rfl) Try.sizeOf32 rfl hB298 (Nat.le_of_ble_eq_true rfl) rfl) ?_; rintro _ w309 ⟨rfl, W307, hB308⟩
  change Blk _ _ [(.slice p289 (((mshM A_g).places).length) q290), (.slice p292 (((mshM A_g).tris).length) q293)] at hB308
  have X310 := Below.wr X306 W307 g305
  refine ja (Bo (isGrid A_g)) ?_
  refine wn K248 ?_
  refine ws fun _ K311 => ?_
  refine ws fun _ K312 => ?_
  obtain ⟨β6, hβ6⟩ : ∃ b : Bool, b = (sameMesh (mshM A_g) (mshM A_g)) := ⟨_, rfl⟩
  obtain ⟨β7, hβ7⟩ : ∃ b : Bool, b = ((isGrid A_g) != (isGrid A_g)) := ⟨_, rfl⟩
  refine region_text (
    [Fact.pure [] (fun v => v = (.agg #[(.slice p289 (((mshM A_g).places).length) q290), (.slice p292 (((mshM A_g).tris).length) q293)])),
    Fact.pure [] (fun v => v = (.agg #[(.slice p66 (((mshM A_g).places).length) q67), (.slice p69 (((mshM A_g).tris).length) q70)])),
    Fact.pure [79, 80] (fun v => v = (Bo β6)),
    Fact.pure [81] (fun v => v = (Bo (!β6))),
    Fact.pure [82] (fun v => v = (Bo (!β6))),
    Fact.pure [83] (fun v => (!β6) = false → v = (Bo (isGrid A_g))),
    Fact.pure [83] (fun v => (!β6) = false → v = (Bo (isGrid A_g))),
    Fact.pure [84, 85, 83] (fun v => (!β6) = false → v = (Bo β7)),
    Fact.pure [83, 86] (fun v => v = (Bo ((!β6) || β7)))]) (by simp [Fact.pure, Fact.mem]) ?_
  refine R_p (fun u hu _ => does_loadAgg (cs := [(.slice p289 (((mshM A_g).places).length) q290), (.slice p292 (((mshM A_g).tris).length) q293)]) (ev rfl) Try.isAgg32 Try.sizeOf32 (Blk.cells (hB308.ext hu)) rfl) fun v313 => ?_
  refine R_p (fun u hu _ => does_loadAgg (cs := [(.slice p66 (((mshM A_g).places).length) q67), (.slice p69 (((mshM A_g).tris).length) q70)]) (ev rfl) Try.isAgg32 Try.sizeOf32 (Blk.cells ((((((((((((((((((hB81.ext E85).ext E111).wr W117 (Nat.ne_of_lt n114)).ext E122).ext E146).wr W153 (Nat.ne_of_lt n149)).ext E169).ext E179).ext E188).kl K198 (fun hc => absurd (hw107.1 _ hc).1 (Nat.not_le_of_lt n93))).ext E219).kl K229 (fun hc => absurd (hw142.1 _ hc).1 (Nat.not_le_of_lt n130))).ext E235).ext E249).ext E274).ext E299).wr W307 (Nat.ne_of_lt n302)).ext hu)) rfl) fun v314 => ?_
  refine R_d (fun u hu hF => ?_) (fun v315 => ?_)
  · have h79_ : v313 = (.agg #[(.slice p289 (((mshM A_g).places).length) q290), (.slice p292 (((mshM A_g).tris).length) q293)]) := hF.1
    have h80_ : v314 = (.agg #[(.slice p66 (((mshM A_g).places).length) q67), (.slice p69 (((mshM A_g).tris).length) q70)]) := hF.2.1
    clear hF
    refine doesG_un rfl ?_
    obtain rfl := h79_
    obtain rfl := h80_
    refine (does_call (args := #[(.agg #[(.slice p289 (((mshM A_g).places).length) q290), (.slice p292 (((mshM A_g).tris).length) q293)]), (.agg #[(.slice p66 (((mshM A_g).places).length) q67), (.slice p69 (((mshM A_g).tris).length) q70)])]) cal8 (evs rfl) (c_laws_eqMesh [(.slice p289 (((mshM A_g).places).length) q290), (.slice p292 (((mshM A_g).tris).length) q293)] (mshM A_g) [(.slice p66 (((mshM A_g).places).length) q67), (.slice p69 (((mshM A_g).tris).length) q70)] (mshM A_g) _ ⟨(.slice p289 (((mshM A_g).places).length) q290), (.slice p292 (((mshM A_g).tris).length) q293), rfl, (Sl.ext (hh291 _ (((Same.refl _ _).ext E299).wr W307 (.inr (Nat.le_trans (Nat.le_refl _) hb297)))) RV3.mono hu), (Sl.ext (hh294 _ (((Same.refl _ _).ext E299).wr W307 (.inr (Nat.le_trans (Nat.le_refl _) hb297)))) (RS.mono RI.mono) hu)⟩ ⟨(.slice p66 (((mshM A_g).places).length) q67), (.slice p69 (((mshM A_g).tris).length) q70), rfl, (Sl.ext (hh68 _ ((((((((((((((((((((Same.refl _ _).ext E75).wr W80 (.inr (Nat.le_trans (Nat.le_refl _) hb73))).ext E85).ext E111).wr W117 (.inr (Nat.le_trans (Nat.le_trans (Nat.le_trans (Below.size E75) (Nat.le_of_eq (Eq.symm (Wr.size W80)))) (Below.size E85)) hb109))).ext E122).ext E146).wr W153 (.inr (Nat.le_trans (Nat.le_trans (Nat.le_trans (Nat.le_trans (Nat.le_trans (Nat.le_trans (Below.size E75) (Nat.le_of_eq (Eq.symm (Wr.size W80)))) (Below.size E85)) (Below.size E111)) (Nat.le_of_eq (Eq.symm (Wr.size W117)))) (Below.size E122)) hb144))).ext E169).ext E179).ext E188).kl K198 (fun c hc => .inr (Nat.le_trans (Nat.le_trans (Below.size E75) (Nat.le_of_eq (Eq.symm (Wr.size W80)))) (hw107.1 c hc).1))).ext E219).kl K229 (fun c hc => .inr (Nat.le_trans (Nat.le_trans (Nat.le_trans (Nat.le_trans (Nat.le_trans (Below.size E75) (Nat.le_of_eq (Eq.symm (Wr.size W80)))) (Below.size E85)) (Below.size E111)) (Nat.le_of_eq (Eq.symm (Wr.size W117)))) (hw142.1 c hc).1))).ext E235).ext E249).ext E274).ext E299).wr W307 (.inr (Nat.le_trans (Nat.le_trans (Nat.le_trans (Nat.le_trans (Nat.le_trans (Nat.le_trans (Nat.le_trans (Nat.le_trans (Nat.le_trans (Nat.le_trans (Nat.le_trans (Nat.le_trans (Nat.le_trans (Nat.le_trans (Nat.le_trans (Nat.le_trans (Nat.le_trans (Below.size E75) (Nat.le_of_eq (Eq.symm (Wr.size W80)))) (Below.size E85)) (Below.size E111)) (Nat.le_of_eq (Eq.symm (Wr.size W117)))) (Below.size E122)) (Below.size E146)) (Nat.le_of_eq (Eq.symm (Wr.size W153)))) (Below.size E169)) (Below.size E179)) (Below.size E188)) (KpL.size K198)) (Below.size E219)) (KpL.size K229)) (Below.size E235)) (Below.size E249)) (Below.size E274)) hb297)))) RV3.mono hu), (Sl.ext (hh71 _ ((((((((((((((((((((Same.refl _ _).ext E75).wr W80 (.inr (Nat.le_trans (Nat.le_refl _) hb73))).ext E85).ext E111).wr W117 (.inr (Nat.le_trans (Nat.le_trans (Nat.le_trans (Below.size E75) (Nat.le_of_eq (Eq.symm (Wr.size W80)))) (Below.size E85)) hb109))).ext E122).ext E146).wr W153 (.inr (Nat.le_trans (Nat.le_trans (Nat.le_trans (Nat.le_trans (Nat.le_trans (Nat.le_trans (Below.size E75) (Nat.le_of_eq (Eq.symm (Wr.size W80)))) (Below.size E85)) (Below.size E111)) (Nat.le_of_eq (Eq.symm (Wr.size W117)))) (Below.size E122)) hb144))).ext E169).ext E179).ext E188).kl K198 (fun c hc => .inr (Nat.le_trans (Nat.le_trans (Below.size E75) (Nat.le_of_eq (Eq.symm (Wr.size W80)))) (hw107.1 c hc).1))).ext E219).kl K229 (fun c hc => .inr (Nat.le_trans (Nat.le_trans (Nat.le_trans (Nat.le_trans (Nat.le_trans (Below.size E75) (Nat.le_of_eq (Eq.symm (Wr.size W80)))) (Below.size E85)) (Below.size E111)) (Nat.le_of_eq (Eq.symm (Wr.size W117)))) (hw142.1 c hc).1))).ext E235).ext E249).ext E274).ext E299).wr W307 (.inr (Nat.le_trans (Nat.le_trans (Nat.le_trans (Nat.le_trans (Nat.le_trans (Nat.le_trans (Nat.le_trans (Nat.le_trans (Nat.le_trans (Nat.le_trans (Nat.le_trans (Nat.le_trans (Nat.le_trans (Nat.le_trans (Nat.le_trans (Nat.le_trans (Nat.le_trans (Below.size E75) (Nat.le_of_eq (Eq.symm (Wr.size W80)))) (Below.size E85)) (Below.size E111)) (Nat.le_of_eq (Eq.symm (Wr.size W117)))) (Below.size E122)) (Below.size E146)) (Nat.le_of_eq (Eq.symm (Wr.size W153)))) (Below.size E169)) (Below.size E179)) (Below.size E188)) (KpL.size K198)) (Below.size E219)) (KpL.size K229)) (Below.size E235)) (Below.size E249)) (Below.size E274)) hb297)))) (RS.mono RI.mono) hu)⟩)).mono ?_; rintro v u' ⟨hx, hv⟩
    exact ⟨hv.trans (by simp only [hβ6]), hx⟩
  refine R_p (fun u hu hF => ?_) fun v316 => ?_
  · have h81_ : v315 = (Bo β6) := hF.1
    clear hF; subst h81_
    exact does_not (ev rfl)
  refine R_p (fun u hu hF => ?_) fun v317 => ?_
  · have h82_ : v316 = (Bo (!β6)) := hF.1
    clear hF; subst h82_
    exact does_move (u := (Bo (!β6))) (ev rfl)
  refine R_d (fun u hu hF => ?_) (fun v318 => ?_)
  · have h83_ : v317 = (Bo (!β6)) := hF.1
    clear hF
    obtain rfl := h83_
    refine doesG_g (b := (!β6)) rfl (yld rfl rfl) (fun hg1 => ?_) (fun hc => ⟨fun hg1 => absurd hg1 hc, Ext.refl _⟩)
    refine (does_move (u := (Bo (isGrid A_g))) (ev rfl)).mono ?_; rintro _ _ ⟨rfl, rfl⟩
    exact ⟨fun _ => rfl, Ext.refl _⟩
  refine R_d (fun u hu hF => ?_) (fun v319 => ?_)
  · have h83_ : v317 = (Bo (!β6)) := hF.1
    clear hF
    obtain rfl := h83_
    refine doesG_g (b := (!β6)) rfl (yld rfl rfl) (fun hg1 => ?_) (fun hc => ⟨fun hg1 => absurd hg1 hc, Ext.refl _⟩)
    refine (does_move (u := (Bo (isGrid A_g))) (ev rfl)).mono ?_; rintro _ _ ⟨rfl, rfl⟩
    exact ⟨fun _ => rfl, Ext.refl _⟩
  refine R_d (fun u hu hF => ?_) (fun v320 => ?_)
  · have h84_ : (!β6) = false → v318 = (Bo (isGrid A_g)) := hF.1
    have h85_ : (!β6) = false → v319 = (Bo (isGrid A_g)) := hF.2.1
    have h83_ : v317 = (Bo (!β6)) := hF.2.2.1
    clear hF
    obtain rfl := h83_
    refine doesG_g (b := (!β6)) rfl (yld rfl rfl) (fun hg1 => ?_) (fun hc => ⟨fun hg1 => absurd hg1 hc, Ext.refl _⟩)
    obtain rfl := h84_ hg1
    obtain rfl := h85_ hg1
    refine (does_bne (p := (isGrid A_g)) (q := (isGrid A_g)) Try.underlying4 (ev rfl) (ev rfl)).mono ?_; rintro _ _ ⟨rfl, rfl⟩
    exact ⟨fun _ => (by first | rfl | (show _ = _; simp only [hβ7]; done) | (show _ = _; simp only [hβ7]; rfl)), Ext.refl _⟩
  refine R_d (fun u hu hF => ?_) (fun v321 => ?_)
  · have h83_ : v317 = (Bo (!β6)) := hF.1
    have h86_ : (!β6) = false → v320 = (Bo β7) := hF.2.1
    clear hF
    refine doesG_un rfl ?_
    skip
    obtain rfl := h83_
    refine (does_pick (b := (!β6)) (u := (Bo true)) (v := v320) (ev rfl) (ev rfl) (ev rfl)).mono ?_; rintro _ _ ⟨rfl, rfl⟩; refine ⟨?_, Ext.refl _⟩; skip
    cases hbb : (!β6)
    all_goals first | (show _ = _; simp only [↓reduceIte, Bool.true_and, Bool.false_and, Bool.true_or, Bool.false_or, Bool.false_eq_true]; done) | (have e_ := h86_ hbb; subst e_; show _ = _; simp only [↓reduceIte, Bool.true_and, Bool.false_and, Bool.true_or, Bool.false_or, Bool.false_eq_true]; done) | rfl | (have e_ := h86_ hbb; subst e_; rfl) | (simp [hbb] at h86_ ⊢; first | done | rfl | (subst h86_; rfl) | simp_all) | (simp [hbb] at h86_ ⊢; done)
  refine RW_fin ?_; intro w322 E323 hP324
  obtain ⟨⟨⟨⟨⟨⟨⟨⟨⟨-, -⟩, -⟩, -⟩, -⟩, -⟩, -⟩, -⟩, -⟩, q325⟩ := hP324
  have X326 := Ext.gr X310 E323
  have q325 : v321 = (Bo ((!β6) || β7)) := q325
  obtain rfl := q325
  refine fz ?_
  refine wn K312 ?_
  refine wp_cond_split (t := (!β6) || β7) (ev rfl) (fun c327 => ?_) (fun c327 => ?_)
  · have c327' := c327
    (try simp only [hβ1, hβ2, hβ3, hβ4, hβ5, hβ6, hβ7, sameG_self, sameMesh_self, bne_self_eq_false, meSz_mk] at c327')
    (try simp only [hβ1, hβ2, hβ3, hβ4, hβ5, hβ6, hβ7] at c327')
    (try simp only [icmp, bs] at c327')
    refine wr fun _ K328 => ?_
    refine ja (Bo false) ?_
    refine wn K328 ?_
    refine wp_ret ?_
    dsimp only [Exit.then, Exit.inBlock]
    refine ret_val (v := (Bo false)) (res_T rfl (slot rfl)) X326 ?_
    try simp only [h2, h4, h6, h8, h43, h45, h47, h49, h95, h97, h99, h101, hβ1, hβ2, hβ3, hβ4, hβ5, h261, h263, h265, h267, hβ6, hβ7, sameG_self, sameMesh_self, bne_self_eq_false, meSz_mk] at c31 c173 c192 c223 c240 c245 c327
    have x329 : true = false := by first | with_reducible rfl | (exfalso; omega) | (exfalso; simp only [mkL_len] at * <;> omega) | (exfalso; rcases c327' with ((hh | hh) | hh) | hh <;> first | omega | (exact Bool.noConfusion hh) | (exact absurd rfl hh)) | (exfalso; rcases c327' with (hh | hh) | hh <;> first | omega | (exact Bool.noConfusion hh)) | (exfalso; rcases c327' with hh | hh <;> first | omega | (exact Bool.noConfusion hh)) | (simp only [sameG_self, sameMesh_self, bne_self_eq_false, meSz_mk, h2, h4, h6, h8, h43, h45, h47, h49, h95, h97, h99, h101, hβ1, hβ2, hβ3, hβ4, hβ5, h261, h263, h265, h267, hβ6, hβ7, c31, c173, c192, c223, c240, c245, c327]; done) | (simp [sameG_self, sameMesh_self, bne_self_eq_false, meSz_mk, h2, h4, h6, h8, h43, h45, h47, h49, h95, h97, h99, h101, hβ1, hβ2, hβ3, hβ4, hβ5, h261, h263, h265, h267, hβ6, hβ7, c31, c173, c192, c223, c240, c245, c327]; done) | (simp_all; done) | (exfalso; simp_all; done)
    exact (by first | with_reducible rfl | rw [x329] | rfl)
  have c327' := c327
  (try simp only [hβ1, hβ2, hβ3, hβ4, hβ5, hβ6, hβ7, sameG_self, sameMesh_self, bne_self_eq_false, meSz_mk] at c327')
  (try simp only [hβ1, hβ2, hβ3, hβ4, hβ5, hβ6, hβ7] at c327')
  (try simp only [icmp, bs] at c327')
  refine wp_skip (K311 _ _ ?_)
  refine wr fun _ K330 => ?_
  refine ja (Iv 1) ?_
  refine wn K330 ?_
  refine wr fun _ K331 => ?_
  refine jj (does_loadAgg (cs := [(.slice p136 (((mshM A_g).places).length) q137), (.slice p139 (((mshM A_g).tris).length) q140)]) (ev rfl) Try.isAgg32 Try.sizeOf32 (Blk.cells ((((((((((((hB154.ext E169).ext E179).ext E188).kl K198 (fun hc => absurd (Nat.lt_of_lt_of_le (hw107.1 _ hc).2 (Nat.le_trans (Nat.le_trans (Nat.le_trans (Below.size E111) (Nat.le_of_eq (Eq.symm (Wr.size W117)))) (Below.size E122)) hb144)) (Nat.lt_irrefl _))).ext E219).kl K229 (fun hc => absurd (Nat.lt_of_lt_of_le (hw142.1 _ hc).2 (Nat.le_trans (Nat.le_refl _) hb144)) (Nat.lt_irrefl _))).ext E235).ext E249).ext E274).ext E299).wr W307 (Nat.ne_of_lt n304)).ext E323)) rfl) ?_
  refine jm (Iv 1) ?_
  refine sd (does_call (args := #[(.agg #[(.slice p136 (((mshM A_g).places).length) q137), (.slice p139 (((mshM A_g).tris).length) q140)]), (Iv 1)]) cal12 (evs rfl) (c_laws_heldMesh [(.slice p136 (((mshM A_g).places).length) q137), (.slice p139 (((mshM A_g).tris).length) q140)] (MeshT.mk (mkL fV 3 1 (mshM A_g).places.length) (mkLL fI 1 (preK (1 + ((mshM A_g).places.length : Int) * 3) (mshM A_g).tris) (mshM A_g).tris)) 1 _ ⟨(.slice p136 (((mshM A_g).places).length) q137), (.slice p139 (((mshM A_g).tris).length) q140), rfl, (hP230 _ (((((((Same.refl _ _).ext E235).ext E249).ext E274).ext E299).wr W307 (.inr (Nat.le_trans (Nat.le_trans (Nat.le_trans (Below.size E235) (Below.size E249)) (Below.size E274)) hb297))).ext E323)), (hT231 _ (((((((Same.refl _ _).ext E235).ext E249).ext E274).ext E299).wr W307 (.inr (Nat.le_trans (Nat.le_trans (Nat.le_trans (Below.size E235) (Below.size E249)) (Below.size E274)) hb297))).ext E323))⟩ (by exact mkL_eq) (by (try dsimp only); rw [mkL_len]; exact mkLL_self) (by omega) (by rw [meSz_mk]; omega))) ?_; rintro _ w333 ⟨E332, rfl⟩
  have X334 := Ext.gr X326 E332
  refine fz ?_
  refine ja (Iv (1 + meSz (MeshT.mk (mkL fV 3 1 (mshM A_g).places.length) (mkLL fI 1 (preK (1 + ((mshM A_g).places.length : Int) * 3) (mshM A_g).tris) (mshM A_g).tris)))) ?_
  refine wn K331 ?_
  refine ws fun _ K335 => ?_
  refine wr fun _ K336 => ?_
  refine jm (Iv (1 + meSz (MeshT.mk (mkL fV 3 1 (mshM A_g).places.length) (mkLL fI 1 (preK (1 + ((mshM A_g).places.length : Int) * 3) (mshM A_g).tris) (mshM A_g).tris)))) ?_
  refine jj (does_icmp (p := 1 + meSz (MeshT.mk (mkL fV 3 1 (mshM A_g).places.length) (mkLL fI 1 (preK (1 + ((mshM A_g).places.length : Int) * 3) (mshM A_g).tris) (mshM A_g).tris))) (q := 0) (.inr (.inr (.inl rfl))) (ev rfl) (ev rfl)) ?_
  refine wn K336 ?_
  refine wp_cond_false ((ev (rfl : evl _ _ = .bool (icmp .lss (1 + meSz (MeshT.mk (mkL fV 3 1 (mshM A_g).places.length) (mkLL fI 1 (preK (1 + ((mshM A_g).places.length : Int) * 3) (mshM A_g).tris) (mshM A_g).tris))) 0))).trans (congrArg Value.bool c240)) ?_
  refine wp_skip (K335 _ _ ?_)
  refine ws fun _ K337 => ?_
  refine wr fun _ K338 => ?_
  refine jm (Iv (1 + meSz (MeshT.mk (mkL fV 3 1 (mshM A_g).places.length) (mkLL fI 1 (preK (1 + ((mshM A_g).places.length : Int) * 3) (mshM A_g).tris) (mshM A_g).tris)))) ?_
  refine jm (Iv (1 + meSz (mshM A_g))) ?_
  refine jj (does_icmp (p := 1 + meSz (MeshT.mk (mkL fV 3 1 (mshM A_g).places.length) (mkLL fI 1 (preK (1 + ((mshM A_g).places.length : Int) * 3) (mshM A_g).tris) (mshM A_g).tris))) (q := 1 + meSz (mshM A_g)) (.inr (.inl rfl)) (ev rfl) (ev rfl)) ?_
  refine wn K338 ?_
  refine wp_cond_false ((ev (rfl : evl _ _ = .bool (icmp .neq (1 + meSz (MeshT.mk (mkL fV 3 1 (mshM A_g).places.length) (mkLL fI 1 (preK (1 + ((mshM A_g).places.length : Int) * 3) (mshM A_g).tris) (mshM A_g).tris))) (1 + meSz (mshM A_g))))).trans (congrArg Value.bool c245)) ?_
  refine wp_skip (K337 _ _ ?_)
  refine wr fun _ K339 => ?_
  refine ja (Bo true) ?_
  refine wn K339 ?_
  refine wp_ret ?_
  refine ret_val (v := (Bo true)) (res_T rfl (slot rfl)) X334 ?_
  try simp only [h2, h4, h6, h8, h43, h45, h47, h49, h95, h97, h99, h101, hβ1, hβ2, hβ3, hβ4, hβ5, h261, h263, h265, h267, hβ6, hβ7, sameG_self, sameMesh_self, bne_self_eq_false, meSz_mk] at c31 c173 c192 c223 c240 c245 c327
  exact rfl

end Go.Proofs.Ytjopopmipdakkaa
