/- contracts of functions, each walked once -/
import Derived.Test.YthmejogjmjjmgaaTy
import Derived.Test.YthmejogjmjjmgaaMath
import Derived.Test.YthmejogjmjjmgaaSl
namespace Go.Proofs.Ythmejogjmjjmgaa
open Go Go.RowKit
set_option maxRecDepth 100000
set_option linter.unusedVariables false
set_option linter.unusedSimpArgs false

/- spec.CountDifferent -/
theorem c_spec_CountDifferent (sa : ByteArray) (sb : ByteArray) (w : World) : Gives Try.prog 15 #[(.string sa), (.string sb)] w (fun v w' => v = (.tuple #[(Iv (cntRes sa sb)), (Bo (cntOkS sa sb))])) := by
  refine enter [(.string sa), (.string sb), Ud, Ud, Ud, Ud, Ud, Ud, Ud, Ud, Ud, Ud, Ud, Ud, Ud, Ud, Ud, Ud, Ud, Ud, Ud, Ud, Ud, Ud, Ud, Ud, Ud, Ud, Ud, Ud, Ud, Ud, Ud, Ud] Try.func15 rfl Try.ntmps15 rfl ?_
  refine wp_seq_k fun K1 hK1 => ?_
  refine wp_region_lit ?_
  refine q_is (l' := [(.string sa), (.string sb), Ud, Ud, (Iv 0), Ud, Ud, Ud, Ud, Ud, Ud, Ud, Ud, Ud, Ud, Ud, Ud, Ud, Ud, Ud, Ud, Ud, Ud, Ud, Ud, Ud, Ud, Ud, Ud, Ud, Ud, Ud, Ud, Ud]) rfl rfl (does_assign (u := (Iv 0)) (ev rfl)) rfl ?_
  refine q_is (l' := [(.string sa), (.string sb), Ud, Ud, (Iv 0), (Bo false), Ud, Ud, Ud, Ud, Ud, Ud, Ud, Ud, Ud, Ud, Ud, Ud, Ud, Ud, Ud, Ud, Ud, Ud, Ud, Ud, Ud, Ud, Ud, Ud, Ud, Ud, Ud, Ud]) rfl rfl (does_assign (u := (Bo false)) (ev rfl)) rfl ?_
  refine wpList_nil (hK1 _ _ ?_)
  refine wp_seq_k fun K2 hK2 => ?_
  refine wp_seq_k fun K3 hK3 => ?_
  obtain ⟨β1, hβ1⟩ : ∃ b : Bool, b = (icmp .neq (sa.size : Int) (sb.size : Int)) := ⟨_, rfl⟩
  obtain ⟨β2, hβ2⟩ : ∃ b : Bool, b = (icmp .gtr (sa.size : Int) 144) := ⟨_, rfl⟩
  refine region_text (
    [Fact.pure [] (fun v => v = (.string sa)),
    Fact.pure [8] (fun v => v = (Iv (sa.size : Int))),
    Fact.pure [] (fun v => v = (.string sb)),
    Fact.pure [10] (fun v => v = (Iv (sb.size : Int))),
    Fact.pure [9, 11] (fun v => v = (Bo β1)),
    Fact.pure [12] (fun v => v = (Bo β1)),
    Fact.pure [13] (fun v => β1 = false → v = (.string sa)),
    Fact.pure [14, 13] (fun v => β1 = false → v = (Iv (sa.size : Int))),
    Fact.pure [15, 13] (fun v => β1 = false → v = (Bo β2)),
    Fact.pure [13, 16] (fun v => v = (Bo (β1 || β2)))]) (by simp [Fact.pure, Fact.mem]) ?_
  refine RW_d (fun v4 => [(.string sa), (.string sb), Ud, Ud, (Iv 0), (Bo false), Ud, Ud, v4, Ud, Ud, Ud, Ud, Ud, Ud, Ud, Ud, Ud, Ud, Ud, Ud, Ud, Ud, Ud, Ud, Ud, Ud, Ud, Ud, Ud, Ud, Ud, Ud, Ud]) rfl (fun _ => rfl) (fun u hu hF => ?_) (fun v4 => ?_)
  · clear hF
    refine doesG_un rfl ?_
    refine (does_move (u := (.string sa)) (ev rfl)).mono ?_; rintro _ _ ⟨rfl, rfl⟩
    exact ⟨rfl, Ext.refl _⟩
  refine RW_d (fun v5 => [(.string sa), (.string sb), Ud, Ud, (Iv 0), (Bo false), Ud, Ud, v4, v5, Ud, Ud, Ud, Ud, Ud, Ud, Ud, Ud, Ud, Ud, Ud, Ud, Ud, Ud, Ud, Ud, Ud, Ud, Ud, Ud, Ud, Ud, Ud, Ud]) rfl (fun _ => rfl) (fun u hu hF => ?_) (fun v5 => ?_)
  · have h8_ : v4 = (.string sa) := hF.1
    clear hF
    obtain rfl := h8_
    refine doesG_un rfl ?_
    refine (does_len_string Try.underlying9 (ev rfl)).mono ?_; rintro _ _ ⟨rfl, rfl⟩
    exact ⟨rfl, Ext.refl _⟩
  refine RW_d (fun v6 => [(.string sa), (.string sb), Ud, Ud, (Iv 0), (Bo false), Ud, Ud, v4, v5, v6, Ud, Ud, Ud, Ud, Ud, Ud, Ud, Ud, Ud, Ud, Ud, Ud, Ud, Ud, Ud, Ud, Ud, Ud, Ud, Ud, Ud, Ud, Ud]) rfl (fun _ => rfl) (fun u hu hF => ?_) (fun v6 => ?_)
  · clear hF
    refine doesG_un rfl ?_
    refine (does_move (u := (.string sb)) (ev rfl)).mono ?_; rintro _ _ ⟨rfl, rfl⟩
    exact ⟨rfl, Ext.refl _⟩
  refine RW_d (fun v7 => [(.string sa), (.string sb), Ud, Ud, (Iv 0), (Bo false), Ud, Ud, v4, v5, v6, v7, Ud, Ud, Ud, Ud, Ud, Ud, Ud, Ud, Ud, Ud, Ud, Ud, Ud, Ud, Ud, Ud, Ud, Ud, Ud, Ud, Ud, Ud]) rfl (fun _ => rfl) (fun u hu hF => ?_) (fun v7 => ?_)
  · have h10_ : v6 = (.string sb) := hF.1
    clear hF
    obtain rfl := h10_
    refine doesG_un rfl ?_
    refine (does_len_string Try.underlying9 (ev rfl)).mono ?_; rintro _ _ ⟨rfl, rfl⟩
    exact ⟨rfl, Ext.refl _⟩
  refine RW_d (fun v8 => [(.string sa), (.string sb), Ud, Ud, (Iv 0), (Bo false), Ud, Ud, v4, v5, v6, v7, v8, Ud, Ud, Ud, Ud, Ud, Ud, Ud, Ud, Ud, Ud, Ud, Ud, Ud, Ud, Ud, Ud, Ud, Ud, Ud, Ud, Ud]) rfl (fun _ => rfl) (fun u hu hF => ?_) (fun v8 => ?_)
  · have h9_ : v5 = (Iv (sa.size : Int)) := hF.1
    have h11_ : v7 = (Iv (sb.size : Int)) := hF.2.1
    clear hF
    obtain rfl := h9_
    obtain rfl := h11_
    refine doesG_un rfl ?_
    refine (does_icmp (p := (sa.size : Int)) (q := (sb.size : Int)) (.inr (.inl rfl)) (ev rfl) (ev rfl)).mono ?_; rintro _ _ ⟨rfl, rfl⟩
    exact ⟨(by first | rfl | (show _ = _; simp only [hβ1])), Ext.refl _⟩
  refine RW_d (fun v9 => [(.string sa), (.string sb), Ud, Ud, (Iv 0), (Bo false), Ud, Ud, v4, v5, v6, v7, v8, v9, Ud, Ud, Ud, Ud, Ud, Ud, Ud, Ud, Ud, Ud, Ud, Ud, Ud, Ud, Ud, Ud, Ud, Ud, Ud, Ud]) rfl (fun _ => rfl) (fun u hu hF => ?_) (fun v9 => ?_)
  · have h12_ : v8 = (Bo β1) := hF.1
    clear hF
    obtain rfl := h12_
    refine doesG_un rfl ?_
    refine (does_move (u := (Bo β1)) (ev rfl)).mono ?_; rintro _ _ ⟨rfl, rfl⟩
    exact ⟨rfl, Ext.refl _⟩
  refine RW_d (fun v10 => [(.string sa), (.string sb), Ud, Ud, (Iv 0), (Bo false), Ud, Ud, v4, v5, v6, v7, v8, v9, v10, Ud, Ud, Ud, Ud, Ud, Ud, Ud, Ud, Ud, Ud, Ud, Ud, Ud, Ud, Ud, Ud, Ud, Ud, Ud]) rfl (fun _ => rfl) (fun u hu hF => ?_) (fun v10 => ?_)
  · have h13_ : v9 = (Bo β1) := hF.1
    clear hF
    obtain rfl := h13_
    refine doesG_g (b := β1) rfl (yld rfl rfl) (fun hg => ?_) (fun hg => ⟨fun h => absurd h hg, Ext.refl _⟩)
    refine (does_move (u := (.string sa)) (ev rfl)).mono ?_; rintro _ _ ⟨rfl, rfl⟩
    exact ⟨fun _ => rfl, Ext.refl _⟩
  refine RW_d (fun v11 => [(.string sa), (.string sb), Ud, Ud, (Iv 0), (Bo false), Ud, Ud, v4, v5, v6, v7, v8, v9, v10, v11, Ud, Ud, Ud, Ud, Ud, Ud, Ud, Ud, Ud, Ud, Ud, Ud, Ud, Ud, Ud, Ud, Ud, Ud]) rfl (fun _ => rfl) (fun u hu hF => ?_) (fun v11 => ?_)
  · have h14_ : β1 = false → v10 = (.string sa) := hF.1
    have h13_ : v9 = (Bo β1) := hF.2.1
    clear hF
    obtain rfl := h13_
    refine doesG_g (b := β1) rfl (yld rfl rfl) (fun hg => ?_) (fun hg => ⟨fun h => absurd h hg, Ext.refl _⟩)
    obtain rfl := h14_ hg
    refine (does_len_string Try.underlying9 (ev rfl)).mono ?_; rintro _ _ ⟨rfl, rfl⟩
    exact ⟨fun _ => rfl, Ext.refl _⟩
  refine RW_d (fun v12 => [(.string sa), (.string sb), Ud, Ud, (Iv 0), (Bo false), Ud, Ud, v4, v5, v6, v7, v8, v9, v10, v11, v12, Ud, Ud, Ud, Ud, Ud, Ud, Ud, Ud, Ud, Ud, Ud, Ud, Ud, Ud, Ud, Ud, Ud]) rfl (fun _ => rfl) (fun u hu hF => ?_) (fun v12 => ?_)
  · have h15_ : β1 = false → v11 = (Iv (sa.size : Int)) := hF.1
    have h13_ : v9 = (Bo β1) := hF.2.1
    clear hF
    obtain rfl := h13_
    refine doesG_g (b := β1) rfl (yld rfl rfl) (fun hg => ?_) (fun hg => ⟨fun h => absurd h hg, Ext.refl _⟩)
    obtain rfl := h15_ hg
    refine (does_icmp (p := (sa.size : Int)) (q := 144) (.inr (.inr (.inr (.inr (.inl rfl))))) (ev rfl) (ev rfl)).mono ?_; rintro _ _ ⟨rfl, rfl⟩
    exact ⟨fun _ => (by first | rfl | (show _ = _; simp only [hβ2])), Ext.refl _⟩
  refine RW_d (fun v13 => [(.string sa), (.string sb), Ud, Ud, (Iv 0), (Bo false), Ud, Ud, v4, v5, v6, v7, v8, v9, v10, v11, v12, v13, Ud, Ud, Ud, Ud, Ud, Ud, Ud, Ud, Ud, Ud, Ud, Ud, Ud, Ud, Ud, Ud]) rfl (fun _ => rfl) (fun u hu hF => ?_) (fun v13 => ?_)
  · have h13_ : v9 = (Bo β1) := hF.1
    have h16_ : β1 = false → v12 = (Bo β2) := hF.2.1
    clear hF
    obtain rfl := h13_
    refine doesG_un rfl ((does_pick (b := β1) (ev rfl) (ev rfl) (ev rfl)).mono ?_); rintro _ _ ⟨rfl, rfl⟩; refine ⟨?_, Ext.refl _⟩; skip
    cases hbb : β1 <;> simp [hbb] at h16_ ⊢
    all_goals (first | rfl | (subst h16_; rfl) | simp_all)
  refine RW_fin ?_; intro w14 E15 hP16
  obtain ⟨⟨⟨⟨⟨⟨⟨⟨⟨⟨-, -⟩, -⟩, -⟩, -⟩, -⟩, -⟩, -⟩, -⟩, -⟩, q17⟩ := hP16
  have X18 := Ext.gr (Ext.refl w) E15
  have q17 : v13 = (Bo (β1 || β2)) := q17
  obtain rfl := q17
  show wpList _ _ _ _ (fr [(.string sa), (.string sb), Ud, Ud, (Iv 0), (Bo false), Ud, Ud, v4, v5, v6, v7, v8, v9, v10, v11, v12, (Bo (β1 || β2)), Ud, Ud, Ud, Ud, Ud, Ud, Ud, Ud, Ud, Ud, Ud, Ud, Ud, Ud, Ud, Ud]) _
  refine wpList_nil (hK3 _ _ ?_)
  refine wp_cond_split (t := β1 || β2) (ev rfl) (fun c19 => ?_) (fun c19 => ?_)
  · have c19' := c19
    (try simp only [hβ1, hβ2] at c19')
    (try simp only [icmp, Bool.and_eq_true, Bool.or_eq_true, Bool.and_eq_false_iff, Bool.or_eq_false_iff, Bool.not_eq_true', Bool.not_eq_false', decide_eq_true_eq, decide_eq_false_iff_not, beq_iff_eq, bne_iff_ne, beq_eq_false_iff_ne, bne_eq_false_iff_eq] at c19')
    refine wp_seq_k fun K20 hK20 => ?_
    refine wp_region_lit ?_
    refine q_is (l' := [(.string sa), (.string sb), Ud, Ud, (Iv 0), (Bo false), Ud, Ud, v4, v5, v6, v7, v8, v9, v10, v11, v12, (Bo (β1 || β2)), Ud, Ud, Ud, Ud, Ud, Ud, Ud, Ud, Ud, Ud, Ud, Ud, Ud, Ud, Ud, Ud]) rfl rfl (does_assign (u := (Iv 0)) (ev rfl)) rfl ?_
    refine q_is (l' := [(.string sa), (.string sb), Ud, Ud, (Iv 0), (Bo false), Ud, Ud, v4, v5, v6, v7, v8, v9, v10, v11, v12, (Bo (β1 || β2)), Ud, Ud, Ud, Ud, Ud, Ud, Ud, Ud, Ud, Ud, Ud, Ud, Ud, Ud, Ud, Ud]) rfl rfl (does_assign (u := (Bo false)) (ev rfl)) rfl ?_
    refine wpList_nil (hK20 _ _ ?_)
    refine wp_ret ?_
    dsimp only [Exit.then, Exit.inBlock]
    refine ret_val (v := (.tuple #[(Iv 0), (Bo false)])) (res_TT rfl (slot rfl) (slot rfl)) X18 ?_
    try simp only [hβ1, hβ2] at c19
    have x21 : (cntRes sa sb : Int) = 0 := by first | exact cntRes_f (by omega) | exact cntOkS_f (by omega) | exact cntOkS_t (by omega) (by omega) | exact cntRes_t (by omega) (by omega) hn (by omega)
    have x22 : (cntOkS sa sb) = false := by first | exact cntRes_f (by omega) | exact cntOkS_f (by omega) | exact cntOkS_t (by omega) (by omega) | exact cntRes_t (by omega) (by omega) hn (by omega)
    exact (by first | rfl | rw [x21, x22])
  have c19' := c19
  (try simp only [hβ1, hβ2] at c19')
  (try simp only [icmp, Bool.and_eq_true, Bool.or_eq_true, Bool.and_eq_false_iff, Bool.or_eq_false_iff, Bool.not_eq_true', Bool.not_eq_false', decide_eq_true_eq, decide_eq_false_iff_not, beq_iff_eq, bne_iff_ne, beq_eq_false_iff_ne, bne_eq_false_iff_eq] at c19')
  refine wp_skip (hK2 _ _ ?_)
  refine wp_seq_k fun K23 hK23 => ?_
  refine wp_region_lit ?_
  refine q_is (l' := [(.string sa), (.string sb), Ud, Ud, (Iv 0), (Bo false), (Iv 0), Ud, v4, v5, v6, v7, v8, v9, v10, v11, v12, (Bo (β1 || β2)), Ud, Ud, Ud, Ud, Ud, Ud, Ud, Ud, Ud, Ud, Ud, Ud, Ud, Ud, Ud, Ud]) rfl rfl (does_assign (u := (Iv 0)) (ev rfl)) rfl ?_
  refine wpList_nil (hK23 _ _ ?_)
  refine wp_seq_k fun K24 hK24 => ?_
  refine wp_seq_k fun K25 hK25 => ?_
  refine wp_region_lit ?_
  refine q_is (l' := [(.string sa), (.string sb), Ud, Ud, (Iv 0), (Bo false), (Iv 0), (Iv 0), v4, v5, v6, v7, v8, v9, v10, v11, v12, (Bo (β1 || β2)), Ud, Ud, Ud, Ud, Ud, Ud, Ud, Ud, Ud, Ud, Ud, Ud, Ud, Ud, Ud, Ud]) rfl rfl (does_assign (u := (Iv 0)) (ev rfl)) rfl ?_
  refine wpList_nil (hK25 _ _ ?_)
  refine wp_block ?_
  refine loop_ghost (σ := Nat × Int) (fun s a w' => ∃ u26 : Nat → Value, a = fr [(.string sa), (.string sb), Ud, Ud, (Iv 0), (Bo false), (Iv s.2), (Iv (s.1 : Int)), v4, v5, v6, v7, v8, v9, v10, v11, v12, (Bo (β1 || β2)), (u26 18), (u26 19), (u26 20), (u26 21), (u26 22), (u26 23), (u26 24), (u26 25), (u26 26), (u26 27), (u26 28), (u26 29), (u26 30), (u26 31), (u26 32), Ud] ∧ Ext w14 w' ∧ (s.1 ≤ sa.size ∧ s.2 = cntDiff sa sb s.1 ∧ (sa.size : Int) = sb.size ∧ ¬ (144 : Int) < sa.size)) (fun s => sa.size - s.1) (0, 0) ?_ ?_
  · refine ⟨fun t => (([(.string sa), (.string sb), Ud, Ud, (Iv 0), (Bo false), (Iv 0), (Iv 0), v4, v5, v6, v7, v8, v9, v10, v11, v12, (Bo (β1 || β2)), Ud, Ud, Ud, Ud, Ud, Ud, Ud, Ud, Ud, Ud, Ud, Ud, Ud, Ud, Ud, Ud] : List Value)[t]?).getD undef, rfl, Ext.refl _, ?_⟩
    exact ⟨Nat.zero_le _, rfl, by omega, by omega⟩
  · rintro s a w27 ⟨u26, rfl, E28, ⟨hk, hn, hsz, hmx⟩⟩
    have X30 := Ext.gr X18 E28
    have hr := cntDiff_range sa sb s.1
    refine wp_seq_k fun K31 hK31 => ?_
    refine wp_seq_k fun K32 hK32 => ?_
    refine wp_region_lit ?_
    refine q_is (l' := [(.string sa), (.string sb), Ud, Ud, (Iv 0), (Bo false), (Iv s.2), (Iv (s.1 : Int)), v4, v5, v6, v7, v8, v9, v10, v11, v12, (Bo (β1 || β2)), (Iv (s.1 : Int)), (u26 19), (u26 20), (u26 21), (u26 22), (u26 23), (u26 24), (u26 25), (u26 26), (u26 27), (u26 28), (u26 29), (u26 30), (u26 31), (u26 32), Ud]) rfl rfl (does_move (u := (Iv (s.1 : Int))) (ev rfl)) rfl ?_
    refine q_is (l' := [(.string sa), (.string sb), Ud, Ud, (Iv 0), (Bo false), (Iv s.2), (Iv (s.1 : Int)), v4, v5, v6, v7, v8, v9, v10, v11, v12, (Bo (β1 || β2)), (Iv (s.1 : Int)), (.string sa), (u26 20), (u26 21), (u26 22), (u26 23), (u26 24), (u26 25), (u26 26), (u26 27), (u26 28), (u26 29), (u26 30), (u26 31), (u26 32), Ud]) rfl rfl (does_move (u := (.string sa)) (ev rfl)) rfl ?_
    refine q_is (l' := [(.string sa), (.string sb), Ud, Ud, (Iv 0), (Bo false), (Iv s.2), (Iv (s.1 : Int)), v4, v5, v6, v7, v8, v9, v10, v11, v12, (Bo (β1 || β2)), (Iv (s.1 : Int)), (.string sa), (Iv (sa.size : Int)), (u26 21), (u26 22), (u26 23), (u26 24), (u26 25), (u26 26), (u26 27), (u26 28), (u26 29), (u26 30), (u26 31), (u26 32), Ud]) rfl rfl (does_len_string Try.underlying9 (ev rfl)) rfl ?_
    refine q_is (l' := [(.string sa), (.string sb), Ud, Ud, (Iv 0), (Bo false), (Iv s.2), (Iv (s.1 : Int)), v4, v5, v6, v7, v8, v9, v10, v11, v12, (Bo (β1 || β2)), (Iv (s.1 : Int)), (.string sa), (Iv (sa.size : Int)), (Bo (icmp .lss (s.1 : Int) (sa.size : Int))), (u26 22), (u26 23), (u26 24), (u26 25), (u26 26), (u26 27), (u26 28), (u26 29), (u26 30), (u26 31), (u26 32), Ud]) rfl rfl (does_icmp (p := (s.1 : Int)) (q := (sa.size : Int)) (.inr (.inr (.inl rfl))) (ev rfl) (ev rfl)) rfl ?_
    refine wpList_nil (hK32 _ _ ?_)
    refine wp_cond_split (t := icmp .lss (s.1 : Int) (sa.size : Int)) (ev rfl) (fun c33 => ?_) (fun c33 => ?_)
    · have c33' := c33
      (try simp only [hβ1, hβ2] at c33')
      (try simp only [icmp, Bool.and_eq_true, Bool.or_eq_true, Bool.and_eq_false_iff, Bool.or_eq_false_iff, Bool.not_eq_true', Bool.not_eq_false', decide_eq_true_eq, decide_eq_false_iff_not, beq_iff_eq, bne_iff_ne, beq_eq_false_iff_ne, bne_eq_false_iff_eq] at c33')
      refine wp_skip (hK31 _ _ ?_)
      refine wp_seq_k fun K34 hK34 => ?_
      refine wp_block ?_
      refine wp_seq_k fun K35 hK35 => ?_
      obtain ⟨β3, hβ3⟩ : ∃ b : Bool, b = (icmp .neq ((byteAt sa s.1 : Nat) : Int) ((byteAt sb s.1 : Nat) : Int)) := ⟨_, rfl⟩
      refine region_draw (
        [Fact.pure [] (fun v => v = (.string sa)),
    Fact.pure [] (fun v => v = (Iv (s.1 : Int))),
    Fact.pure [24, 25] (fun v => v = (Uv ((byteAt sa s.1 : Nat) : Int))),
    Fact.pure [] (fun v => v = (.string sb)),
    Fact.pure [] (fun v => v = (Iv (s.1 : Int))),
    Fact.pure [27, 28] (fun v => v = (Uv ((byteAt sb s.1 : Nat) : Int))),
    Fact.pure [26, 29] (fun v => v = (Bo β3))]) mixed (by kernel_rfl) (by intro _ _ d _ _ h; cases d <;> exact h) ?_
      obtain ⟨w36, hw38⟩ : ∃ w', w' = World.drew w27 := ⟨_, rfl⟩; rw [← hw38]; have E37 : Ext w27 w36 := by rw [hw38]; exact Ext.draw _
      clear hw38
      have X39 := Ext.gr X30 E37
      refine RW_d (fun v40 => [(.string sa), (.string sb), Ud, Ud, (Iv 0), (Bo false), (Iv s.2), (Iv (s.1 : Int)), v4, v5, v6, v7, v8, v9, v10, v11, v12, (Bo (β1 || β2)), (Iv (s.1 : Int)), (.string sa), (Iv (sa.size : Int)), (Bo (icmp .lss (s.1 : Int) (sa.size : Int))), (u26 22), (u26 23), v40, (u26 25), (u26 26), (u26 27), (u26 28), (u26 29), (u26 30), (u26 31), (u26 32), Ud]) rfl (fun _ => rfl) (fun u hu hF => ?_) (fun v40 => ?_)
      · clear hF
        refine doesG_un rfl ?_
        refine (does_move (u := (.string sa)) (ev rfl)).mono ?_; rintro _ _ ⟨rfl, rfl⟩
        exact ⟨rfl, Ext.refl _⟩
      refine RW_d (fun v41 => [(.string sa), (.string sb), Ud, Ud, (Iv 0), (Bo false), (Iv s.2), (Iv (s.1 : Int)), v4, v5, v6, v7, v8, v9, v10, v11, v12, (Bo (β1 || β2)), (Iv (s.1 : Int)), (.string sa), (Iv (sa.size : Int)), (Bo (icmp .lss (s.1 : Int) (sa.size : Int))), (u26 22), (u26 23), v40, v41, (u26 26), (u26 27), (u26 28), (u26 29), (u26 30), (u26 31), (u26 32), Ud]) rfl (fun _ => rfl) (fun u hu hF => ?_) (fun v41 => ?_)
      · clear hF
        refine doesG_un rfl ?_
        refine (does_move (u := (Iv (s.1 : Int))) (ev rfl)).mono ?_; rintro _ _ ⟨rfl, rfl⟩
        exact ⟨rfl, Ext.refl _⟩
      refine RW_d (fun v42 => [(.string sa), (.string sb), Ud, Ud, (Iv 0), (Bo false), (Iv s.2), (Iv (s.1 : Int)), v4, v5, v6, v7, v8, v9, v10, v11, v12, (Bo (β1 || β2)), (Iv (s.1 : Int)), (.string sa), (Iv (sa.size : Int)), (Bo (icmp .lss (s.1 : Int) (sa.size : Int))), (u26 22), (u26 23), v40, v41, v42, (u26 27), (u26 28), (u26 29), (u26 30), (u26 31), (u26 32), Ud]) rfl (fun _ => rfl) (fun u hu hF => ?_) (fun v42 => ?_)
      · have h24_ : v40 = (.string sa) := hF.1
        have h25_ : v41 = (Iv (s.1 : Int)) := hF.2.1
        clear hF
        obtain rfl := h24_
        obtain rfl := h25_
        refine doesG_un rfl ?_
        refine (does_index_string (s := sa) (i := (s.1 : Int)) Try.underlying9 (ev rfl) (ev rfl) (by omega) (by omega)).mono ?_; rintro _ _ ⟨rfl, rfl⟩
        exact ⟨rfl, Ext.refl _⟩
      refine RW_d (fun v43 => [(.string sa), (.string sb), Ud, Ud, (Iv 0), (Bo false), (Iv s.2), (Iv (s.1 : Int)), v4, v5, v6, v7, v8, v9, v10, v11, v12, (Bo (β1 || β2)), (Iv (s.1 : Int)), (.string sa), (Iv (sa.size : Int)), (Bo (icmp .lss (s.1 : Int) (sa.size : Int))), (u26 22), (u26 23), v40, v41, v42, v43, (u26 28), (u26 29), (u26 30), (u26 31), (u26 32), Ud]) rfl (fun _ => rfl) (fun u hu hF => ?_) (fun v43 => ?_)
      · clear hF
        refine doesG_un rfl ?_
        refine (does_move (u := (.string sb)) (ev rfl)).mono ?_; rintro _ _ ⟨rfl, rfl⟩
        exact ⟨rfl, Ext.refl _⟩
      refine RW_d (fun v44 => [(.string sa), (.string sb), Ud, Ud, (Iv 0), (Bo false), (Iv s.2), (Iv (s.1 : Int)), v4, v5, v6, v7, v8, v9, v10, v11, v12, (Bo (β1 || β2)), (Iv (s.1 : Int)), (.string sa), (Iv (sa.size : Int)), (Bo (icmp .lss (s.1 : Int) (sa.size : Int))), (u26 22), (u26 23), v40, v41, v42, v43, v44, (u26 29), (u26 30), (u26 31), (u26 32), Ud]) rfl (fun _ => rfl) (fun u hu hF => ?_) (fun v44 => ?_)
      · clear hF
        refine doesG_un rfl ?_
        refine (does_move (u := (Iv (s.1 : Int))) (ev rfl)).mono ?_; rintro _ _ ⟨rfl, rfl⟩
        exact ⟨rfl, Ext.refl _⟩
      refine RW_d (fun v45 => [(.string sa), (.string sb), Ud, Ud, (Iv 0), (Bo false), (Iv s.2), (Iv (s.1 : Int)), v4, v5, v6, v7, v8, v9, v10, v11, v12, (Bo (β1 || β2)), (Iv (s.1 : Int)), (.string sa), (Iv (sa.size : Int)), (Bo (icmp .lss (s.1 : Int) (sa.size : Int))), (u26 22), (u26 23), v40, v41, v42, v43, v44, v45, (u26 30), (u26 31), (u26 32), Ud]) rfl (fun _ => rfl) (fun u hu hF => ?_) (fun v45 => ?_)
      · have h27_ : v43 = (.string sb) := hF.1
        have h28_ : v44 = (Iv (s.1 : Int)) := hF.2.1
        clear hF
        obtain rfl := h27_
        obtain rfl := h28_
        refine doesG_un rfl ?_
        refine (does_index_string (s := sb) (i := (s.1 : Int)) Try.underlying9 (ev rfl) (ev rfl) (by omega) (by omega)).mono ?_; rintro _ _ ⟨rfl, rfl⟩
        exact ⟨rfl, Ext.refl _⟩
      refine RW_d (fun v46 => [(.string sa), (.string sb), Ud, Ud, (Iv 0), (Bo false), (Iv s.2), (Iv (s.1 : Int)), v4, v5, v6, v7, v8, v9, v10, v11, v12, (Bo (β1 || β2)), (Iv (s.1 : Int)), (.string sa), (Iv (sa.size : Int)), (Bo (icmp .lss (s.1 : Int) (sa.size : Int))), (u26 22), (u26 23), v40, v41, v42, v43, v44, v45, v46, (u26 31), (u26 32), Ud]) rfl (fun _ => rfl) (fun u hu hF => ?_) (fun v46 => ?_)
      · have h26_ : v42 = (Uv ((byteAt sa s.1 : Nat) : Int)) := hF.1
        have h29_ : v45 = (Uv ((byteAt sb s.1 : Nat) : Int)) := hF.2.1
        clear hF
        obtain rfl := h26_
        obtain rfl := h29_
        refine doesG_un rfl ?_
        refine (does_icmp (p := ((byteAt sa s.1 : Nat) : Int)) (q := ((byteAt sb s.1 : Nat) : Int)) (.inr (.inl rfl)) (ev rfl) (ev rfl)).mono ?_; rintro _ _ ⟨rfl, rfl⟩
        exact ⟨(by first | rfl | (show _ = _; simp only [hβ3])), Ext.refl _⟩
      refine RW_fin ?_; intro w47 E48 hP49
      obtain ⟨⟨⟨⟨⟨⟨⟨-, -⟩, -⟩, -⟩, -⟩, -⟩, -⟩, q50⟩ := hP49
      have X51 := Ext.gr X39 E48
      have q50 : v46 = (Bo β3) := q50
      obtain rfl := q50
      show wpList _ _ _ _ (fr [(.string sa), (.string sb), Ud, Ud, (Iv 0), (Bo false), (Iv s.2), (Iv (s.1 : Int)), v4, v5, v6, v7, v8, v9, v10, v11, v12, (Bo (β1 || β2)), (Iv (s.1 : Int)), (.string sa), (Iv (sa.size : Int)), (Bo (icmp .lss (s.1 : Int) (sa.size : Int))), (u26 22), (u26 23), v40, v41, v42, v43, v44, v45, (Bo β3), (u26 31), (u26 32), Ud]) _
      refine wpList_nil (hK35 _ _ ?_)
      refine wp_cond_split (t := β3) (ev rfl) (fun c52 => ?_) (fun c52 => ?_)
      · have c52' := c52
        (try simp only [hβ1, hβ2, hβ3] at c52')
        (try simp only [icmp, Bool.and_eq_true, Bool.or_eq_true, Bool.and_eq_false_iff, Bool.or_eq_false_iff, Bool.not_eq_true', Bool.not_eq_false', decide_eq_true_eq, decide_eq_false_iff_not, beq_iff_eq, bne_iff_ne, beq_eq_false_iff_ne, bne_eq_false_iff_eq] at c52')
        refine wp_region_lit ?_
        refine q_is (l' := [(.string sa), (.string sb), Ud, Ud, (Iv 0), (Bo false), (Iv s.2), (Iv (s.1 : Int)), v4, v5, v6, v7, v8, v9, v10, v11, v12, (Bo (β1 || β2)), (Iv (s.1 : Int)), (.string sa), (Iv (sa.size : Int)), (Bo (icmp .lss (s.1 : Int) (sa.size : Int))), (u26 22), (u26 23), v40, v41, v42, v43, v44, v45, (Bo β3), (Iv s.2), (u26 32), Ud]) rfl rfl (does_move (u := (Iv s.2)) (ev rfl)) rfl ?_
        refine q_is (l' := [(.string sa), (.string sb), Ud, Ud, (Iv 0), (Bo false), (Iv s.2), (Iv (s.1 : Int)), v4, v5, v6, v7, v8, v9, v10, v11, v12, (Bo (β1 || β2)), (Iv (s.1 : Int)), (.string sa), (Iv (sa.size : Int)), (Bo (icmp .lss (s.1 : Int) (sa.size : Int))), (u26 22), (u26 23), v40, v41, v42, v43, v44, v45, (Bo β3), (Iv s.2), (Iv (s.2 + 1)), Ud]) rfl rfl (does_iarith (p := s.2) (q := 1) (r := s.2 + 1) (ev rfl) (ev rfl) (.inl ⟨rfl, (in_i64 (by omega) (by omega)).symm⟩)) rfl ?_
        refine q_is (l' := [(.string sa), (.string sb), Ud, Ud, (Iv 0), (Bo false), (Iv (s.2 + 1)), (Iv (s.1 : Int)), v4, v5, v6, v7, v8, v9, v10, v11, v12, (Bo (β1 || β2)), (Iv (s.1 : Int)), (.string sa), (Iv (sa.size : Int)), (Bo (icmp .lss (s.1 : Int) (sa.size : Int))), (u26 22), (u26 23), v40, v41, v42, v43, v44, v45, (Bo β3), (Iv s.2), (Iv (s.2 + 1)), Ud]) rfl rfl (does_assign (u := (Iv (s.2 + 1))) (ev rfl)) rfl ?_
        refine wpList_nil (hK34 _ _ ?_)
        refine wp_region_lit ?_
        refine q_is (l' := [(.string sa), (.string sb), Ud, Ud, (Iv 0), (Bo false), (Iv (s.2 + 1)), (Iv (s.1 : Int)), v4, v5, v6, v7, v8, v9, v10, v11, v12, (Bo (β1 || β2)), (Iv (s.1 : Int)), (.string sa), (Iv (sa.size : Int)), (Bo (icmp .lss (s.1 : Int) (sa.size : Int))), (Iv (s.1 : Int)), (u26 23), v40, v41, v42, v43, v44, v45, (Bo β3), (Iv s.2), (Iv (s.2 + 1)), Ud]) rfl rfl (does_move (u := (Iv (s.1 : Int))) (ev rfl)) rfl ?_
        refine q_is (l' := [(.string sa), (.string sb), Ud, Ud, (Iv 0), (Bo false), (Iv (s.2 + 1)), (Iv (s.1 : Int)), v4, v5, v6, v7, v8, v9, v10, v11, v12, (Bo (β1 || β2)), (Iv (s.1 : Int)), (.string sa), (Iv (sa.size : Int)), (Bo (icmp .lss (s.1 : Int) (sa.size : Int))), (Iv (s.1 : Int)), (Iv ((s.1 : Int) + 1)), v40, v41, v42, v43, v44, v45, (Bo β3), (Iv s.2), (Iv (s.2 + 1)), Ud]) rfl rfl (does_iarith (p := (s.1 : Int)) (q := 1) (r := (s.1 : Int) + 1) (ev rfl) (ev rfl) (.inl ⟨rfl, (in_i64 (by omega) (by omega)).symm⟩)) rfl ?_
        refine q_is (l' := [(.string sa), (.string sb), Ud, Ud, (Iv 0), (Bo false), (Iv (s.2 + 1)), (Iv ((s.1 : Int) + 1)), v4, v5, v6, v7, v8, v9, v10, v11, v12, (Bo (β1 || β2)), (Iv (s.1 : Int)), (.string sa), (Iv (sa.size : Int)), (Bo (icmp .lss (s.1 : Int) (sa.size : Int))), (Iv (s.1 : Int)), (Iv ((s.1 : Int) + 1)), v40, v41, v42, v43, v44, v45, (Bo β3), (Iv s.2), (Iv (s.2 + 1)), Ud]) rfl rfl (does_assign (u := (Iv ((s.1 : Int) + 1))) (ev rfl)) rfl ?_
        refine wpList_nil ?_
        refine ⟨(s.1 + 1, s.2 + 1), ⟨fun t => (([(.string sa), (.string sb), Ud, Ud, (Iv 0), (Bo false), (Iv (s.2 + 1)), (Iv ((s.1 : Int) + 1)), v4, v5, v6, v7, v8, v9, v10, v11, v12, (Bo (β1 || β2)), (Iv (s.1 : Int)), (.string sa), (Iv (sa.size : Int)), (Bo (icmp .lss (s.1 : Int) (sa.size : Int))), (Iv (s.1 : Int)), (Iv ((s.1 : Int) + 1)), v40, v41, v42, v43, v44, v45, (Bo β3), (Iv s.2), (Iv (s.2 + 1)), Ud] : List Value)[t]?).getD undef, ?_, (Ext.gr (Ext.gr E28 E37) E48), ?_⟩, ?_⟩
        · first | rfl | (simp only [Nat.cast_add, Nat.cast_one, Int.natCast_add, Int.natCast_one]; rfl)
        · (try dsimp only); first | exact ⟨by omega, cntDiff_same hn (by omega), by omega, by omega⟩ | exact ⟨by omega, cntDiff_more hn (by omega), by omega, by omega⟩
        · (try dsimp only); omega
      have c52' := c52
      (try simp only [hβ1, hβ2, hβ3] at c52')
      (try simp only [icmp, Bool.and_eq_true, Bool.or_eq_true, Bool.and_eq_false_iff, Bool.or_eq_false_iff, Bool.not_eq_true', Bool.not_eq_false', decide_eq_true_eq, decide_eq_false_iff_not, beq_iff_eq, bne_iff_ne, beq_eq_false_iff_ne, bne_eq_false_iff_eq] at c52')
      refine wp_skip (hK34 _ _ ?_)
      refine wp_region_lit ?_
      refine q_is (l' := [(.string sa), (.string sb), Ud, Ud, (Iv 0), (Bo false), (Iv s.2), (Iv (s.1 : Int)), v4, v5, v6, v7, v8, v9, v10, v11, v12, (Bo (β1 || β2)), (Iv (s.1 : Int)), (.string sa), (Iv (sa.size : Int)), (Bo (icmp .lss (s.1 : Int) (sa.size : Int))), (Iv (s.1 : Int)), (u26 23), v40, v41, v42, v43, v44, v45, (Bo β3), (u26 31), (u26 32), Ud]) rfl rfl (does_move (u := (Iv (s.1 : Int))) (ev rfl)) rfl ?_
      refine q_is (l' := [(.string sa), (.string sb), Ud, Ud, (Iv 0), (Bo false), (Iv s.2), (Iv (s.1 : Int)), v4, v5, v6, v7, v8, v9, v10, v11, v12, (Bo (β1 || β2)), (Iv (s.1 : Int)), (.string sa), (Iv (sa.size : Int)), (Bo (icmp .lss (s.1 : Int) (sa.size : Int))), (Iv (s.1 : Int)), (Iv ((s.1 : Int) + 1)), v40, v41, v42, v43, v44, v45, (Bo β3), (u26 31), (u26 32), Ud]) rfl rfl (does_iarith (p := (s.1 : Int)) (q := 1) (r := (s.1 : Int) + 1) (ev rfl) (ev rfl) (.inl ⟨rfl, (in_i64 (by omega) (by omega)).symm⟩)) rfl ?_
      refine q_is (l' := [(.string sa), (.string sb), Ud, Ud, (Iv 0), (Bo false), (Iv s.2), (Iv ((s.1 : Int) + 1)), v4, v5, v6, v7, v8, v9, v10, v11, v12, (Bo (β1 || β2)), (Iv (s.1 : Int)), (.string sa), (Iv (sa.size : Int)), (Bo (icmp .lss (s.1 : Int) (sa.size : Int))), (Iv (s.1 : Int)), (Iv ((s.1 : Int) + 1)), v40, v41, v42, v43, v44, v45, (Bo β3), (u26 31), (u26 32), Ud]) rfl rfl (does_assign (u := (Iv ((s.1 : Int) + 1))) (ev rfl)) rfl ?_
      refine wpList_nil ?_
      refine ⟨(s.1 + 1, s.2), ⟨fun t => (([(.string sa), (.string sb), Ud, Ud, (Iv 0), (Bo false), (Iv s.2), (Iv ((s.1 : Int) + 1)), v4, v5, v6, v7, v8, v9, v10, v11, v12, (Bo (β1 || β2)), (Iv (s.1 : Int)), (.string sa), (Iv (sa.size : Int)), (Bo (icmp .lss (s.1 : Int) (sa.size : Int))), (Iv (s.1 : Int)), (Iv ((s.1 : Int) + 1)), v40, v41, v42, v43, v44, v45, (Bo β3), (u26 31), (u26 32), Ud] : List Value)[t]?).getD undef, ?_, (Ext.gr (Ext.gr E28 E37) E48), ?_⟩, ?_⟩
      · first | rfl | (simp only [Nat.cast_add, Nat.cast_one, Int.natCast_add, Int.natCast_one]; rfl)
      · (try dsimp only); first | exact ⟨by omega, cntDiff_same hn (by omega), by omega, by omega⟩ | exact ⟨by omega, cntDiff_more hn (by omega), by omega, by omega⟩
      · (try dsimp only); omega
    have c33' := c33
    (try simp only [hβ1, hβ2] at c33')
    (try simp only [icmp, Bool.and_eq_true, Bool.or_eq_true, Bool.and_eq_false_iff, Bool.or_eq_false_iff, Bool.not_eq_true', Bool.not_eq_false', decide_eq_true_eq, decide_eq_false_iff_not, beq_iff_eq, bne_iff_ne, beq_eq_false_iff_ne, bne_eq_false_iff_eq] at c33')
    refine wp_exit ?_
    refine hK24 _ _ ?_
    refine wp_seq_k fun K53 hK53 => ?_
    refine wp_region_lit ?_
    refine q_is (l' := [(.string sa), (.string sb), Ud, Ud, (Iv 0), (Bo false), (Iv s.2), (Iv (s.1 : Int)), v4, v5, v6, v7, v8, v9, v10, v11, v12, (Bo (β1 || β2)), (Iv (s.1 : Int)), (.string sa), (Iv (sa.size : Int)), (Bo (icmp .lss (s.1 : Int) (sa.size : Int))), (u26 22), (u26 23), (u26 24), (u26 25), (u26 26), (u26 27), (u26 28), (u26 29), (u26 30), (u26 31), (u26 32), (Iv s.2)]) rfl rfl (does_move (u := (Iv s.2)) (ev rfl)) rfl ?_
    refine q_is (l' := [(.string sa), (.string sb), Ud, Ud, (Iv s.2), (Bo false), (Iv s.2), (Iv (s.1 : Int)), v4, v5, v6, v7, v8, v9, v10, v11, v12, (Bo (β1 || β2)), (Iv (s.1 : Int)), (.string sa), (Iv (sa.size : Int)), (Bo (icmp .lss (s.1 : Int) (sa.size : Int))), (u26 22), (u26 23), (u26 24), (u26 25), (u26 26), (u26 27), (u26 28), (u26 29), (u26 30), (u26 31), (u26 32), (Iv s.2)]) rfl rfl (does_assign (u := (Iv s.2)) (ev rfl)) rfl ?_
    refine q_is (l' := [(.string sa), (.string sb), Ud, Ud, (Iv s.2), (Bo true), (Iv s.2), (Iv (s.1 : Int)), v4, v5, v6, v7, v8, v9, v10, v11, v12, (Bo (β1 || β2)), (Iv (s.1 : Int)), (.string sa), (Iv (sa.size : Int)), (Bo (icmp .lss (s.1 : Int) (sa.size : Int))), (u26 22), (u26 23), (u26 24), (u26 25), (u26 26), (u26 27), (u26 28), (u26 29), (u26 30), (u26 31), (u26 32), (Iv s.2)]) rfl rfl (does_assign (u := (Bo true)) (ev rfl)) rfl ?_
    refine wpList_nil (hK53 _ _ ?_)
    refine wp_ret ?_
    refine ret_val (v := (.tuple #[(Iv s.2), (Bo true)])) (res_TT rfl (slot rfl) (slot rfl)) X30 ?_
    try simp only [hβ1, hβ2] at c19 c33
    have x54 : (cntRes sa sb : Int) = s.2 := by first | exact cntRes_f (by omega) | exact cntOkS_f (by omega) | exact cntOkS_t (by omega) (by omega) | exact cntRes_t (by omega) (by omega) hn (by omega)
    have x55 : (cntOkS sa sb) = true := by first | exact cntRes_f (by omega) | exact cntOkS_f (by omega) | exact cntOkS_t (by omega) (by omega) | exact cntRes_t (by omega) (by omega) hn (by omega)
    exact (by first | rfl | rw [x54, x55])

/- impl.CountDifferent -/
theorem c_impl_CountDifferent (sa : ByteArray) (sb : ByteArray) (w : World) : Gives Try.prog 16 #[(.string sa), (.string sb)] w (fun v w' => v = (.tuple #[(Iv (cntRes sa sb)), (Bo (cntOkS sa sb))])) := by
  refine enter [(.string sa), (.string sb), Ud, Ud, Ud, Ud, Ud, Ud, Ud, Ud, Ud, Ud, Ud, Ud, Ud, Ud, Ud, Ud, Ud, Ud, Ud, Ud, Ud, Ud, Ud, Ud, Ud, Ud, Ud, Ud, Ud, Ud, Ud, Ud] Try.func16 rfl Try.ntmps16 rfl ?_
  refine wp_seq_k fun K1 hK1 => ?_
  refine wp_region_lit ?_
  refine q_is (l' := [(.string sa), (.string sb), Ud, Ud, (Iv 0), Ud, Ud, Ud, Ud, Ud, Ud, Ud, Ud, Ud, Ud, Ud, Ud, Ud, Ud, Ud, Ud, Ud, Ud, Ud, Ud, Ud, Ud, Ud, Ud, Ud, Ud, Ud, Ud, Ud]) rfl rfl (does_assign (u := (Iv 0)) (ev rfl)) rfl ?_
  refine q_is (l' := [(.string sa), (.string sb), Ud, Ud, (Iv 0), (Bo false), Ud, Ud, Ud, Ud, Ud, Ud, Ud, Ud, Ud, Ud, Ud, Ud, Ud, Ud, Ud, Ud, Ud, Ud, Ud, Ud, Ud, Ud, Ud, Ud, Ud, Ud, Ud, Ud]) rfl rfl (does_assign (u := (Bo false)) (ev rfl)) rfl ?_
  refine wpList_nil (hK1 _ _ ?_)
  refine wp_seq_k fun K2 hK2 => ?_
  refine wp_seq_k fun K3 hK3 => ?_
  obtain ⟨β1, hβ1⟩ : ∃ b : Bool, b = (icmp .neq (sa.size : Int) (sb.size : Int)) := ⟨_, rfl⟩
  obtain ⟨β2, hβ2⟩ : ∃ b : Bool, b = (icmp .gtr (sa.size : Int) 144) := ⟨_, rfl⟩
  refine region_text (
    [Fact.pure [] (fun v => v = (.string sa)),
    Fact.pure [8] (fun v => v = (Iv (sa.size : Int))),
    Fact.pure [] (fun v => v = (.string sb)),
    Fact.pure [10] (fun v => v = (Iv (sb.size : Int))),
    Fact.pure [9, 11] (fun v => v = (Bo β1)),
    Fact.pure [12] (fun v => v = (Bo β1)),
    Fact.pure [13] (fun v => β1 = false → v = (.string sa)),
    Fact.pure [14, 13] (fun v => β1 = false → v = (Iv (sa.size : Int))),
    Fact.pure [15, 13] (fun v => β1 = false → v = (Bo β2)),
    Fact.pure [13, 16] (fun v => v = (Bo (β1 || β2)))]) (by simp [Fact.pure, Fact.mem]) ?_
  refine RW_d (fun v4 => [(.string sa), (.string sb), Ud, Ud, (Iv 0), (Bo false), Ud, Ud, v4, Ud, Ud, Ud, Ud, Ud, Ud, Ud, Ud, Ud, Ud, Ud, Ud, Ud, Ud, Ud, Ud, Ud, Ud, Ud, Ud, Ud, Ud, Ud, Ud, Ud]) rfl (fun _ => rfl) (fun u hu hF => ?_) (fun v4 => ?_)
  · clear hF
    refine doesG_un rfl ?_
    refine (does_move (u := (.string sa)) (ev rfl)).mono ?_; rintro _ _ ⟨rfl, rfl⟩
    exact ⟨rfl, Ext.refl _⟩
  refine RW_d (fun v5 => [(.string sa), (.string sb), Ud, Ud, (Iv 0), (Bo false), Ud, Ud, v4, v5, Ud, Ud, Ud, Ud, Ud, Ud, Ud, Ud, Ud, Ud, Ud, Ud, Ud, Ud, Ud, Ud, Ud, Ud, Ud, Ud, Ud, Ud, Ud, Ud]) rfl (fun _ => rfl) (fun u hu hF => ?_) (fun v5 => ?_)
  · have h8_ : v4 = (.string sa) := hF.1
    clear hF
    obtain rfl := h8_
    refine doesG_un rfl ?_
    refine (does_len_string Try.underlying9 (ev rfl)).mono ?_; rintro _ _ ⟨rfl, rfl⟩
    exact ⟨rfl, Ext.refl _⟩
  refine RW_d (fun v6 => [(.string sa), (.string sb), Ud, Ud, (Iv 0), (Bo false), Ud, Ud, v4, v5, v6, Ud, Ud, Ud, Ud, Ud, Ud, Ud, Ud, Ud, Ud, Ud, Ud, Ud, Ud, Ud, Ud, Ud, Ud, Ud, Ud, Ud, Ud, Ud]) rfl (fun _ => rfl) (fun u hu hF => ?_) (fun v6 => ?_)
  · clear hF
    refine doesG_un rfl ?_
    refine (does_move (u := (.string sb)) (ev rfl)).mono ?_; rintro _ _ ⟨rfl, rfl⟩
    exact ⟨rfl, Ext.refl _⟩
  refine RW_d (fun v7 => [(.string sa), (.string sb), Ud, Ud, (Iv 0), (Bo false), Ud, Ud, v4, v5, v6, v7, Ud, Ud, Ud, Ud, Ud, Ud, Ud, Ud, Ud, Ud, Ud, Ud, Ud, Ud, Ud, Ud, Ud, Ud, Ud, Ud, Ud, Ud]) rfl (fun _ => rfl) (fun u hu hF => ?_) (fun v7 => ?_)
  · have h10_ : v6 = (.string sb) := hF.1
    clear hF
    obtain rfl := h10_
    refine doesG_un rfl ?_
    refine (does_len_string Try.underlying9 (ev rfl)).mono ?_; rintro _ _ ⟨rfl, rfl⟩
    exact ⟨rfl, Ext.refl _⟩
  refine RW_d (fun v8 => [(.string sa), (.string sb), Ud, Ud, (Iv 0), (Bo false), Ud, Ud, v4, v5, v6, v7, v8, Ud, Ud, Ud, Ud, Ud, Ud, Ud, Ud, Ud, Ud, Ud, Ud, Ud, Ud, Ud, Ud, Ud, Ud, Ud, Ud, Ud]) rfl (fun _ => rfl) (fun u hu hF => ?_) (fun v8 => ?_)
  · have h9_ : v5 = (Iv (sa.size : Int)) := hF.1
    have h11_ : v7 = (Iv (sb.size : Int)) := hF.2.1
    clear hF
    obtain rfl := h9_
    obtain rfl := h11_
    refine doesG_un rfl ?_
    refine (does_icmp (p := (sa.size : Int)) (q := (sb.size : Int)) (.inr (.inl rfl)) (ev rfl) (ev rfl)).mono ?_; rintro _ _ ⟨rfl, rfl⟩
    exact ⟨(by first | rfl | (show _ = _; simp only [hβ1])), Ext.refl _⟩
  refine RW_d (fun v9 => [(.string sa), (.string sb), Ud, Ud, (Iv 0), (Bo false), Ud, Ud, v4, v5, v6, v7, v8, v9, Ud, Ud, Ud, Ud, Ud, Ud, Ud, Ud, Ud, Ud, Ud, Ud, Ud, Ud, Ud, Ud, Ud, Ud, Ud, Ud]) rfl (fun _ => rfl) (fun u hu hF => ?_) (fun v9 => ?_)
  · have h12_ : v8 = (Bo β1) := hF.1
    clear hF
    obtain rfl := h12_
    refine doesG_un rfl ?_
    refine (does_move (u := (Bo β1)) (ev rfl)).mono ?_; rintro _ _ ⟨rfl, rfl⟩
    exact ⟨rfl, Ext.refl _⟩
  refine RW_d (fun v10 => [(.string sa), (.string sb), Ud, Ud, (Iv 0), (Bo false), Ud, Ud, v4, v5, v6, v7, v8, v9, v10, Ud, Ud, Ud, Ud, Ud, Ud, Ud, Ud, Ud, Ud, Ud, Ud, Ud, Ud, Ud, Ud, Ud, Ud, Ud]) rfl (fun _ => rfl) (fun u hu hF => ?_) (fun v10 => ?_)
  · have h13_ : v9 = (Bo β1) := hF.1
    clear hF
    obtain rfl := h13_
    refine doesG_g (b := β1) rfl (yld rfl rfl) (fun hg => ?_) (fun hg => ⟨fun h => absurd h hg, Ext.refl _⟩)
    refine (does_move (u := (.string sa)) (ev rfl)).mono ?_; rintro _ _ ⟨rfl, rfl⟩
    exact ⟨fun _ => rfl, Ext.refl _⟩
  refine RW_d (fun v11 => [(.string sa), (.string sb), Ud, Ud, (Iv 0), (Bo false), Ud, Ud, v4, v5, v6, v7, v8, v9, v10, v11, Ud, Ud, Ud, Ud, Ud, Ud, Ud, Ud, Ud, Ud, Ud, Ud, Ud, Ud, Ud, Ud, Ud, Ud]) rfl (fun _ => rfl) (fun u hu hF => ?_) (fun v11 => ?_)
  · have h14_ : β1 = false → v10 = (.string sa) := hF.1
    have h13_ : v9 = (Bo β1) := hF.2.1
    clear hF
    obtain rfl := h13_
    refine doesG_g (b := β1) rfl (yld rfl rfl) (fun hg => ?_) (fun hg => ⟨fun h => absurd h hg, Ext.refl _⟩)
    obtain rfl := h14_ hg
    refine (does_len_string Try.underlying9 (ev rfl)).mono ?_; rintro _ _ ⟨rfl, rfl⟩
    exact ⟨fun _ => rfl, Ext.refl _⟩
  refine RW_d (fun v12 => [(.string sa), (.string sb), Ud, Ud, (Iv 0), (Bo false), Ud, Ud, v4, v5, v6, v7, v8, v9, v10, v11, v12, Ud, Ud, Ud, Ud, Ud, Ud, Ud, Ud, Ud, Ud, Ud, Ud, Ud, Ud, Ud, Ud, Ud]) rfl (fun _ => rfl) (fun u hu hF => ?_) (fun v12 => ?_)
  · have h15_ : β1 = false → v11 = (Iv (sa.size : Int)) := hF.1
    have h13_ : v9 = (Bo β1) := hF.2.1
    clear hF
    obtain rfl := h13_
    refine doesG_g (b := β1) rfl (yld rfl rfl) (fun hg => ?_) (fun hg => ⟨fun h => absurd h hg, Ext.refl _⟩)
    obtain rfl := h15_ hg
    refine (does_icmp (p := (sa.size : Int)) (q := 144) (.inr (.inr (.inr (.inr (.inl rfl))))) (ev rfl) (ev rfl)).mono ?_; rintro _ _ ⟨rfl, rfl⟩
    exact ⟨fun _ => (by first | rfl | (show _ = _; simp only [hβ2])), Ext.refl _⟩
  refine RW_d (fun v13 => [(.string sa), (.string sb), Ud, Ud, (Iv 0), (Bo false), Ud, Ud, v4, v5, v6, v7, v8, v9, v10, v11, v12, v13, Ud, Ud, Ud, Ud, Ud, Ud, Ud, Ud, Ud, Ud, Ud, Ud, Ud, Ud, Ud, Ud]) rfl (fun _ => rfl) (fun u hu hF => ?_) (fun v13 => ?_)
  · have h13_ : v9 = (Bo β1) := hF.1
    have h16_ : β1 = false → v12 = (Bo β2) := hF.2.1
    clear hF
    obtain rfl := h13_
    refine doesG_un rfl ((does_pick (b := β1) (ev rfl) (ev rfl) (ev rfl)).mono ?_); rintro _ _ ⟨rfl, rfl⟩; refine ⟨?_, Ext.refl _⟩; skip
    cases hbb : β1 <;> simp [hbb] at h16_ ⊢
    all_goals (first | rfl | (subst h16_; rfl) | simp_all)
  refine RW_fin ?_; intro w14 E15 hP16
  obtain ⟨⟨⟨⟨⟨⟨⟨⟨⟨⟨-, -⟩, -⟩, -⟩, -⟩, -⟩, -⟩, -⟩, -⟩, -⟩, q17⟩ := hP16
  have X18 := Ext.gr (Ext.refl w) E15
  have q17 : v13 = (Bo (β1 || β2)) := q17
  obtain rfl := q17
  show wpList _ _ _ _ (fr [(.string sa), (.string sb), Ud, Ud, (Iv 0), (Bo false), Ud, Ud, v4, v5, v6, v7, v8, v9, v10, v11, v12, (Bo (β1 || β2)), Ud, Ud, Ud, Ud, Ud, Ud, Ud, Ud, Ud, Ud, Ud, Ud, Ud, Ud, Ud, Ud]) _
  refine wpList_nil (hK3 _ _ ?_)
  refine wp_cond_split (t := β1 || β2) (ev rfl) (fun c19 => ?_) (fun c19 => ?_)
  · have c19' := c19
    (try simp only [hβ1, hβ2] at c19')
    (try simp only [icmp, Bool.and_eq_true, Bool.or_eq_true, Bool.and_eq_false_iff, Bool.or_eq_false_iff, Bool.not_eq_true', Bool.not_eq_false', decide_eq_true_eq, decide_eq_false_iff_not, beq_iff_eq, bne_iff_ne, beq_eq_false_iff_ne, bne_eq_false_iff_eq] at c19')
    refine wp_seq_k fun K20 hK20 => ?_
    refine wp_region_lit ?_
    refine q_is (l' := [(.string sa), (.string sb), Ud, Ud, (Iv 0), (Bo false), Ud, Ud, v4, v5, v6, v7, v8, v9, v10, v11, v12, (Bo (β1 || β2)), Ud, Ud, Ud, Ud, Ud, Ud, Ud, Ud, Ud, Ud, Ud, Ud, Ud, Ud, Ud, Ud]) rfl rfl (does_assign (u := (Iv 0)) (ev rfl)) rfl ?_
    refine q_is (l' := [(.string sa), (.string sb), Ud, Ud, (Iv 0), (Bo false), Ud, Ud, v4, v5, v6, v7, v8, v9, v10, v11, v12, (Bo (β1 || β2)), Ud, Ud, Ud, Ud, Ud, Ud, Ud, Ud, Ud, Ud, Ud, Ud, Ud, Ud, Ud, Ud]) rfl rfl (does_assign (u := (Bo false)) (ev rfl)) rfl ?_
    refine wpList_nil (hK20 _ _ ?_)
    refine wp_ret ?_
    dsimp only [Exit.then, Exit.inBlock]
    refine ret_val (v := (.tuple #[(Iv 0), (Bo false)])) (res_TT rfl (slot rfl) (slot rfl)) X18 ?_
    try simp only [hβ1, hβ2] at c19
    have x21 : (cntRes sa sb : Int) = 0 := by first | exact cntRes_f (by omega) | exact cntOkS_f (by omega) | exact cntOkS_t (by omega) (by omega) | exact cntRes_t (by omega) (by omega) hn (by omega)
    have x22 : (cntOkS sa sb) = false := by first | exact cntRes_f (by omega) | exact cntOkS_f (by omega) | exact cntOkS_t (by omega) (by omega) | exact cntRes_t (by omega) (by omega) hn (by omega)
    exact (by first | rfl | rw [x21, x22])
  have c19' := c19
  (try simp only [hβ1, hβ2] at c19')
  (try simp only [icmp, Bool.and_eq_true, Bool.or_eq_true, Bool.and_eq_false_iff, Bool.or_eq_false_iff, Bool.not_eq_true', Bool.not_eq_false', decide_eq_true_eq, decide_eq_false_iff_not, beq_iff_eq, bne_iff_ne, beq_eq_false_iff_ne, bne_eq_false_iff_eq] at c19')
  refine wp_skip (hK2 _ _ ?_)
  refine wp_seq_k fun K23 hK23 => ?_
  refine wp_region_lit ?_
  refine q_is (l' := [(.string sa), (.string sb), Ud, Ud, (Iv 0), (Bo false), (Iv 0), Ud, v4, v5, v6, v7, v8, v9, v10, v11, v12, (Bo (β1 || β2)), Ud, Ud, Ud, Ud, Ud, Ud, Ud, Ud, Ud, Ud, Ud, Ud, Ud, Ud, Ud, Ud]) rfl rfl (does_assign (u := (Iv 0)) (ev rfl)) rfl ?_
  refine wpList_nil (hK23 _ _ ?_)
  refine wp_seq_k fun K24 hK24 => ?_
  refine wp_seq_k fun K25 hK25 => ?_
  refine wp_region_lit ?_
  refine q_is (l' := [(.string sa), (.string sb), Ud, Ud, (Iv 0), (Bo false), (Iv 0), Ud, v4, v5, v6, v7, v8, v9, v10, v11, v12, (Bo (β1 || β2)), (.string sa), Ud, Ud, Ud, Ud, Ud, Ud, Ud, Ud, Ud, Ud, Ud, Ud, Ud, Ud, Ud]) rfl rfl (does_move (u := (.string sa)) (ev rfl)) rfl ?_
  refine q_is (l' := [(.string sa), (.string sb), Ud, Ud, (Iv 0), (Bo false), (Iv 0), Ud, v4, v5, v6, v7, v8, v9, v10, v11, v12, (Bo (β1 || β2)), (.string sa), (Iv (sa.size : Int)), Ud, Ud, Ud, Ud, Ud, Ud, Ud, Ud, Ud, Ud, Ud, Ud, Ud, Ud]) rfl rfl (does_len_string Try.underlying9 (ev rfl)) rfl ?_
  refine q_is (l' := [(.string sa), (.string sb), Ud, Ud, (Iv 0), (Bo false), (Iv 0), Ud, v4, v5, v6, v7, v8, v9, v10, v11, v12, (Bo (β1 || β2)), (.string sa), (Iv (sa.size : Int)), (Iv 0), Ud, Ud, Ud, Ud, Ud, Ud, Ud, Ud, Ud, Ud, Ud, Ud, Ud]) rfl rfl (does_move (u := (Iv 0)) (ev rfl)) rfl ?_
  refine wpList_nil (hK25 _ _ ?_)
  refine wp_block ?_
  refine loop_ghost (σ := Nat × Int) (fun s a w' => ∃ u26 : Nat → Value, a = fr [(.string sa), (.string sb), Ud, Ud, (Iv 0), (Bo false), (Iv s.2), (u26 7), v4, v5, v6, v7, v8, v9, v10, v11, v12, (Bo (β1 || β2)), (.string sa), (Iv (sa.size : Int)), (Iv (s.1 : Int)), (u26 21), (u26 22), (u26 23), (u26 24), (u26 25), (u26 26), (u26 27), (u26 28), (u26 29), (u26 30), (u26 31), (u26 32), Ud] ∧ Ext w14 w' ∧ (s.1 ≤ sa.size ∧ s.2 = cntDiff sa sb s.1 ∧ (sa.size : Int) = sb.size ∧ ¬ (144 : Int) < sa.size)) (fun s => sa.size - s.1) (0, 0) ?_ ?_
  · refine ⟨fun t => (([(.string sa), (.string sb), Ud, Ud, (Iv 0), (Bo false), (Iv 0), Ud, v4, v5, v6, v7, v8, v9, v10, v11, v12, (Bo (β1 || β2)), (.string sa), (Iv (sa.size : Int)), (Iv 0), Ud, Ud, Ud, Ud, Ud, Ud, Ud, Ud, Ud, Ud, Ud, Ud, Ud] : List Value)[t]?).getD undef, rfl, Ext.refl _, ?_⟩
    exact ⟨Nat.zero_le _, rfl, by omega, by omega⟩
  · rintro s a w27 ⟨u26, rfl, E28, ⟨hk, hn, hsz, hmx⟩⟩
    have X30 := Ext.gr X18 E28
    have hr := cntDiff_range sa sb s.1
    refine wp_seq_k fun K31 hK31 => ?_
    refine wp_region_lit ?_
    refine q_is (l' := [(.string sa), (.string sb), Ud, Ud, (Iv 0), (Bo false), (Iv s.2), (u26 7), v4, v5, v6, v7, v8, v9, v10, v11, v12, (Bo (β1 || β2)), (.string sa), (Iv (sa.size : Int)), (Iv (s.1 : Int)), (Bo (icmp .lss (s.1 : Int) (sa.size : Int))), (u26 22), (u26 23), (u26 24), (u26 25), (u26 26), (u26 27), (u26 28), (u26 29), (u26 30), (u26 31), (u26 32), Ud]) rfl rfl (does_icmp (p := (s.1 : Int)) (q := (sa.size : Int)) (.inr (.inr (.inl rfl))) (ev rfl) (ev rfl)) rfl ?_
    refine wpList_nil (hK31 _ _ ?_)
    refine wp_seq_k fun K32 hK32 => ?_
    refine wp_cond_split (t := icmp .lss (s.1 : Int) (sa.size : Int)) (ev rfl) (fun c33 => ?_) (fun c33 => ?_)
    · have c33' := c33
      (try simp only [hβ1, hβ2] at c33')
      (try simp only [icmp, Bool.and_eq_true, Bool.or_eq_true, Bool.and_eq_false_iff, Bool.or_eq_false_iff, Bool.not_eq_true', Bool.not_eq_false', decide_eq_true_eq, decide_eq_false_iff_not, beq_iff_eq, bne_iff_ne, beq_eq_false_iff_ne, bne_eq_false_iff_eq] at c33')
      refine wp_skip (hK32 _ _ ?_)
      refine wp_seq_k fun K34 hK34 => ?_
      refine wp_block ?_
      refine wp_seq_k fun K35 hK35 => ?_
      refine wp_region_lit ?_
      refine q_is (l' := [(.string sa), (.string sb), Ud, Ud, (Iv 0), (Bo false), (Iv s.2), (u26 7), v4, v5, v6, v7, v8, v9, v10, v11, v12, (Bo (β1 || β2)), (.string sa), (Iv (sa.size : Int)), (Iv (s.1 : Int)), (Bo (icmp .lss (s.1 : Int) (sa.size : Int))), (Iv (s.1 : Int)), (u26 23), (u26 24), (u26 25), (u26 26), (u26 27), (u26 28), (u26 29), (u26 30), (u26 31), (u26 32), Ud]) rfl rfl (does_move (u := (Iv (s.1 : Int))) (ev rfl)) rfl ?_
      refine q_is (l' := [(.string sa), (.string sb), Ud, Ud, (Iv 0), (Bo false), (Iv s.2), (Iv (s.1 : Int)), v4, v5, v6, v7, v8, v9, v10, v11, v12, (Bo (β1 || β2)), (.string sa), (Iv (sa.size : Int)), (Iv (s.1 : Int)), (Bo (icmp .lss (s.1 : Int) (sa.size : Int))), (Iv (s.1 : Int)), (u26 23), (u26 24), (u26 25), (u26 26), (u26 27), (u26 28), (u26 29), (u26 30), (u26 31), (u26 32), Ud]) rfl rfl (does_assign (u := (Iv (s.1 : Int))) (ev rfl)) rfl ?_
      refine wpList_nil (hK35 _ _ ?_)
      refine wp_seq_k fun K36 hK36 => ?_
      obtain ⟨β3, hβ3⟩ : ∃ b : Bool, b = (icmp .neq ((byteAt sa s.1 : Nat) : Int) ((byteAt sb s.1 : Nat) : Int)) := ⟨_, rfl⟩
      refine region_draw (
        [Fact.pure [] (fun v => v = (.string sa)),
    Fact.pure [] (fun v => v = (Iv (s.1 : Int))),
    Fact.pure [23, 24] (fun v => v = (Uv ((byteAt sa s.1 : Nat) : Int))),
    Fact.pure [] (fun v => v = (.string sb)),
    Fact.pure [] (fun v => v = (Iv (s.1 : Int))),
    Fact.pure [26, 27] (fun v => v = (Uv ((byteAt sb s.1 : Nat) : Int))),
    Fact.pure [25, 28] (fun v => v = (Bo β3))]) mixed (by kernel_rfl) (by intro _ _ d _ _ h; cases d <;> exact h) ?_
      obtain ⟨w37, hw39⟩ : ∃ w', w' = World.drew w27 := ⟨_, rfl⟩; rw [← hw39]; have E38 : Ext w27 w37 := by rw [hw39]; exact Ext.draw _
      clear hw39
      have X40 := Ext.gr X30 E38
      refine RW_d (fun v41 => [(.string sa), (.string sb), Ud, Ud, (Iv 0), (Bo false), (Iv s.2), (Iv (s.1 : Int)), v4, v5, v6, v7, v8, v9, v10, v11, v12, (Bo (β1 || β2)), (.string sa), (Iv (sa.size : Int)), (Iv (s.1 : Int)), (Bo (icmp .lss (s.1 : Int) (sa.size : Int))), (Iv (s.1 : Int)), v41, (u26 24), (u26 25), (u26 26), (u26 27), (u26 28), (u26 29), (u26 30), (u26 31), (u26 32), Ud]) rfl (fun _ => rfl) (fun u hu hF => ?_) (fun v41 => ?_)
      · clear hF
        refine doesG_un rfl ?_
        refine (does_move (u := (.string sa)) (ev rfl)).mono ?_; rintro _ _ ⟨rfl, rfl⟩
        exact ⟨rfl, Ext.refl _⟩
      refine RW_d (fun v42 => [(.string sa), (.string sb), Ud, Ud, (Iv 0), (Bo false), (Iv s.2), (Iv (s.1 : Int)), v4, v5, v6, v7, v8, v9, v10, v11, v12, (Bo (β1 || β2)), (.string sa), (Iv (sa.size : Int)), (Iv (s.1 : Int)), (Bo (icmp .lss (s.1 : Int) (sa.size : Int))), (Iv (s.1 : Int)), v41, v42, (u26 25), (u26 26), (u26 27), (u26 28), (u26 29), (u26 30), (u26 31), (u26 32), Ud]) rfl (fun _ => rfl) (fun u hu hF => ?_) (fun v42 => ?_)
      · clear hF
        refine doesG_un rfl ?_
        refine (does_move (u := (Iv (s.1 : Int))) (ev rfl)).mono ?_; rintro _ _ ⟨rfl, rfl⟩
        exact ⟨rfl, Ext.refl _⟩
      refine RW_d (fun v43 => [(.string sa), (.string sb), Ud, Ud, (Iv 0), (Bo false), (Iv s.2), (Iv (s.1 : Int)), v4, v5, v6, v7, v8, v9, v10, v11, v12, (Bo (β1 || β2)), (.string sa), (Iv (sa.size : Int)), (Iv (s.1 : Int)), (Bo (icmp .lss (s.1 : Int) (sa.size : Int))), (Iv (s.1 : Int)), v41, v42, v43, (u26 26), (u26 27), (u26 28), (u26 29), (u26 30), (u26 31), (u26 32), Ud]) rfl (fun _ => rfl) (fun u hu hF => ?_) (fun v43 => ?_)
      · have h23_ : v41 = (.string sa) := hF.1
        have h24_ : v42 = (Iv (s.1 : Int)) := hF.2.1
        clear hF
        obtain rfl := h23_
        obtain rfl := h24_
        refine doesG_un rfl ?_
        refine (does_index_string (s := sa) (i := (s.1 : Int)) Try.underlying9 (ev rfl) (ev rfl) (by omega) (by omega)).mono ?_; rintro _ _ ⟨rfl, rfl⟩
        exact ⟨rfl, Ext.refl _⟩
      refine RW_d (fun v44 => [(.string sa), (.string sb), Ud, Ud, (Iv 0), (Bo false), (Iv s.2), (Iv (s.1 : Int)), v4, v5, v6, v7, v8, v9, v10, v11, v12, (Bo (β1 || β2)), (.string sa), (Iv (sa.size : Int)), (Iv (s.1 : Int)), (Bo (icmp .lss (s.1 : Int) (sa.size : Int))), (Iv (s.1 : Int)), v41, v42, v43, v44, (u26 27), (u26 28), (u26 29), (u26 30), (u26 31), (u26 32), Ud]) rfl (fun _ => rfl) (fun u hu hF => ?_) (fun v44 => ?_)
      · clear hF
        refine doesG_un rfl ?_
        refine (does_move (u := (.string sb)) (ev rfl)).mono ?_; rintro _ _ ⟨rfl, rfl⟩
        exact ⟨rfl, Ext.refl _⟩
      refine RW_d (fun v45 => [(.string sa), (.string sb), Ud, Ud, (Iv 0), (Bo false), (Iv s.2), (Iv (s.1 : Int)), v4, v5, v6, v7, v8, v9, v10, v11, v12, (Bo (β1 || β2)), (.string sa), (Iv (sa.size : Int)), (Iv (s.1 : Int)), (Bo (icmp .lss (s.1 : Int) (sa.size : Int))), (Iv (s.1 : Int)), v41, v42, v43, v44, v45, (u26 28), (u26 29), (u26 30), (u26 31), (u26 32), Ud]) rfl (fun _ => rfl) (fun u hu hF => ?_) (fun v45 => ?_)
      · clear hF
        refine doesG_un rfl ?_
        refine (does_move (u := (Iv (s.1 : Int))) (ev rfl)).mono ?_; rintro _ _ ⟨rfl, rfl⟩
        exact ⟨rfl, Ext.refl _⟩
      refine RW_d (fun v46 => [(.string sa), (.string sb), Ud, Ud, (Iv 0), (Bo false), (Iv s.2), (Iv (s.1 : Int)), v4, v5, v6, v7, v8, v9, v10, v11, v12, (Bo (β1 || β2)), (.string sa), (Iv (sa.size : Int)), (Iv (s.1 : Int)), (Bo (icmp .lss (s.1 : Int) (sa.size : Int))), (Iv (s.1 : Int)), v41, v42, v43, v44, v45, v46, (u26 29), (u26 30), (u26 31), (u26 32), Ud]) rfl (fun _ => rfl) (fun u hu hF => ?_) (fun v46 => ?_)
      · have h26_ : v44 = (.string sb) := hF.1
        have h27_ : v45 = (Iv (s.1 : Int)) := hF.2.1
        clear hF
        obtain rfl := h26_
        obtain rfl := h27_
        refine doesG_un rfl ?_
        refine (does_index_string (s := sb) (i := (s.1 : Int)) Try.underlying9 (ev rfl) (ev rfl) (by omega) (by omega)).mono ?_; rintro _ _ ⟨rfl, rfl⟩
        exact ⟨rfl, Ext.refl _⟩
      refine RW_d (fun v47 => [(.string sa), (.string sb), Ud, Ud, (Iv 0), (Bo false), (Iv s.2), (Iv (s.1 : Int)), v4, v5, v6, v7, v8, v9, v10, v11, v12, (Bo (β1 || β2)), (.string sa), (Iv (sa.size : Int)), (Iv (s.1 : Int)), (Bo (icmp .lss (s.1 : Int) (sa.size : Int))), (Iv (s.1 : Int)), v41, v42, v43, v44, v45, v46, v47, (u26 30), (u26 31), (u26 32), Ud]) rfl (fun _ => rfl) (fun u hu hF => ?_) (fun v47 => ?_)
      · have h25_ : v43 = (Uv ((byteAt sa s.1 : Nat) : Int)) := hF.1
        have h28_ : v46 = (Uv ((byteAt sb s.1 : Nat) : Int)) := hF.2.1
        clear hF
        obtain rfl := h25_
        obtain rfl := h28_
        refine doesG_un rfl ?_
        refine (does_icmp (p := ((byteAt sa s.1 : Nat) : Int)) (q := ((byteAt sb s.1 : Nat) : Int)) (.inr (.inl rfl)) (ev rfl) (ev rfl)).mono ?_; rintro _ _ ⟨rfl, rfl⟩
        exact ⟨(by first | rfl | (show _ = _; simp only [hβ3])), Ext.refl _⟩
      refine RW_fin ?_; intro w48 E49 hP50
      obtain ⟨⟨⟨⟨⟨⟨⟨-, -⟩, -⟩, -⟩, -⟩, -⟩, -⟩, q51⟩ := hP50
      have X52 := Ext.gr X40 E49
      have q51 : v47 = (Bo β3) := q51
      obtain rfl := q51
      show wpList _ _ _ _ (fr [(.string sa), (.string sb), Ud, Ud, (Iv 0), (Bo false), (Iv s.2), (Iv (s.1 : Int)), v4, v5, v6, v7, v8, v9, v10, v11, v12, (Bo (β1 || β2)), (.string sa), (Iv (sa.size : Int)), (Iv (s.1 : Int)), (Bo (icmp .lss (s.1 : Int) (sa.size : Int))), (Iv (s.1 : Int)), v41, v42, v43, v44, v45, v46, (Bo β3), (u26 30), (u26 31), (u26 32), Ud]) _
      refine wpList_nil (hK36 _ _ ?_)
      refine wp_cond_split (t := β3) (ev rfl) (fun c53 => ?_) (fun c53 => ?_)
      · have c53' := c53
        (try simp only [hβ1, hβ2, hβ3] at c53')
        (try simp only [icmp, Bool.and_eq_true, Bool.or_eq_true, Bool.and_eq_false_iff, Bool.or_eq_false_iff, Bool.not_eq_true', Bool.not_eq_false', decide_eq_true_eq, decide_eq_false_iff_not, beq_iff_eq, bne_iff_ne, beq_eq_false_iff_ne, bne_eq_false_iff_eq] at c53')
        refine wp_region_lit ?_
        refine q_is (l' := [(.string sa), (.string sb), Ud, Ud, (Iv 0), (Bo false), (Iv s.2), (Iv (s.1 : Int)), v4, v5, v6, v7, v8, v9, v10, v11, v12, (Bo (β1 || β2)), (.string sa), (Iv (sa.size : Int)), (Iv (s.1 : Int)), (Bo (icmp .lss (s.1 : Int) (sa.size : Int))), (Iv (s.1 : Int)), v41, v42, v43, v44, v45, v46, (Bo β3), (Iv s.2), (u26 31), (u26 32), Ud]) rfl rfl (does_move (u := (Iv s.2)) (ev rfl)) rfl ?_
        refine q_is (l' := [(.string sa), (.string sb), Ud, Ud, (Iv 0), (Bo false), (Iv s.2), (Iv (s.1 : Int)), v4, v5, v6, v7, v8, v9, v10, v11, v12, (Bo (β1 || β2)), (.string sa), (Iv (sa.size : Int)), (Iv (s.1 : Int)), (Bo (icmp .lss (s.1 : Int) (sa.size : Int))), (Iv (s.1 : Int)), v41, v42, v43, v44, v45, v46, (Bo β3), (Iv s.2), (Iv (s.2 + 1)), (u26 32), Ud]) rfl rfl (does_iarith (p := s.2) (q := 1) (r := s.2 + 1) (ev rfl) (ev rfl) (.inl ⟨rfl, (in_i64 (by omega) (by omega)).symm⟩)) rfl ?_
        refine q_is (l' := [(.string sa), (.string sb), Ud, Ud, (Iv 0), (Bo false), (Iv (s.2 + 1)), (Iv (s.1 : Int)), v4, v5, v6, v7, v8, v9, v10, v11, v12, (Bo (β1 || β2)), (.string sa), (Iv (sa.size : Int)), (Iv (s.1 : Int)), (Bo (icmp .lss (s.1 : Int) (sa.size : Int))), (Iv (s.1 : Int)), v41, v42, v43, v44, v45, v46, (Bo β3), (Iv s.2), (Iv (s.2 + 1)), (u26 32), Ud]) rfl rfl (does_assign (u := (Iv (s.2 + 1))) (ev rfl)) rfl ?_
        refine wpList_nil (hK34 _ _ ?_)
        refine wp_region_lit ?_
        refine q_is (l' := [(.string sa), (.string sb), Ud, Ud, (Iv 0), (Bo false), (Iv (s.2 + 1)), (Iv (s.1 : Int)), v4, v5, v6, v7, v8, v9, v10, v11, v12, (Bo (β1 || β2)), (.string sa), (Iv (sa.size : Int)), (Iv (s.1 : Int)), (Bo (icmp .lss (s.1 : Int) (sa.size : Int))), (Iv (s.1 : Int)), v41, v42, v43, v44, v45, v46, (Bo β3), (Iv s.2), (Iv (s.2 + 1)), (Iv ((s.1 : Int) + 1)), Ud]) rfl rfl (does_iarith (p := (s.1 : Int)) (q := 1) (r := (s.1 : Int) + 1) (ev rfl) (ev rfl) (.inl ⟨rfl, (in_i64 (by omega) (by omega)).symm⟩)) rfl ?_
        refine q_is (l' := [(.string sa), (.string sb), Ud, Ud, (Iv 0), (Bo false), (Iv (s.2 + 1)), (Iv (s.1 : Int)), v4, v5, v6, v7, v8, v9, v10, v11, v12, (Bo (β1 || β2)), (.string sa), (Iv (sa.size : Int)), (Iv ((s.1 : Int) + 1)), (Bo (icmp .lss (s.1 : Int) (sa.size : Int))), (Iv (s.1 : Int)), v41, v42, v43, v44, v45, v46, (Bo β3), (Iv s.2), (Iv (s.2 + 1)), (Iv ((s.1 : Int) + 1)), Ud]) rfl rfl (does_move (u := (Iv ((s.1 : Int) + 1))) (ev rfl)) rfl ?_
        refine wpList_nil ?_
        refine ⟨(s.1 + 1, s.2 + 1), ⟨fun t => (([(.string sa), (.string sb), Ud, Ud, (Iv 0), (Bo false), (Iv (s.2 + 1)), (Iv (s.1 : Int)), v4, v5, v6, v7, v8, v9, v10, v11, v12, (Bo (β1 || β2)), (.string sa), (Iv (sa.size : Int)), (Iv ((s.1 : Int) + 1)), (Bo (icmp .lss (s.1 : Int) (sa.size : Int))), (Iv (s.1 : Int)), v41, v42, v43, v44, v45, v46, (Bo β3), (Iv s.2), (Iv (s.2 + 1)), (Iv ((s.1 : Int) + 1)), Ud] : List Value)[t]?).getD undef, ?_, (Ext.gr (Ext.gr E28 E38) E49), ?_⟩, ?_⟩
        · first | rfl | (simp only [Nat.cast_add, Nat.cast_one, Int.natCast_add, Int.natCast_one]; rfl)
        · (try dsimp only); first | exact ⟨by omega, cntDiff_same hn (by omega), by omega, by omega⟩ | exact ⟨by omega, cntDiff_more hn (by omega), by omega, by omega⟩
        · (try dsimp only); omega
      have c53' := c53
      (try simp only [hβ1, hβ2, hβ3] at c53')
      (try simp only [icmp, Bool.and_eq_true, Bool.or_eq_true, Bool.and_eq_false_iff, Bool.or_eq_false_iff, Bool.not_eq_true', Bool.not_eq_false', decide_eq_true_eq, decide_eq_false_iff_not, beq_iff_eq, bne_iff_ne, beq_eq_false_iff_ne, bne_eq_false_iff_eq] at c53')
      refine wp_skip (hK34 _ _ ?_)
      refine wp_region_lit ?_
      refine q_is (l' := [(.string sa), (.string sb), Ud, Ud, (Iv 0), (Bo false), (Iv s.2), (Iv (s.1 : Int)), v4, v5, v6, v7, v8, v9, v10, v11, v12, (Bo (β1 || β2)), (.string sa), (Iv (sa.size : Int)), (Iv (s.1 : Int)), (Bo (icmp .lss (s.1 : Int) (sa.size : Int))), (Iv (s.1 : Int)), v41, v42, v43, v44, v45, v46, (Bo β3), (u26 30), (u26 31), (Iv ((s.1 : Int) + 1)), Ud]) rfl rfl (does_iarith (p := (s.1 : Int)) (q := 1) (r := (s.1 : Int) + 1) (ev rfl) (ev rfl) (.inl ⟨rfl, (in_i64 (by omega) (by omega)).symm⟩)) rfl ?_
      refine q_is (l' := [(.string sa), (.string sb), Ud, Ud, (Iv 0), (Bo false), (Iv s.2), (Iv (s.1 : Int)), v4, v5, v6, v7, v8, v9, v10, v11, v12, (Bo (β1 || β2)), (.string sa), (Iv (sa.size : Int)), (Iv ((s.1 : Int) + 1)), (Bo (icmp .lss (s.1 : Int) (sa.size : Int))), (Iv (s.1 : Int)), v41, v42, v43, v44, v45, v46, (Bo β3), (u26 30), (u26 31), (Iv ((s.1 : Int) + 1)), Ud]) rfl rfl (does_move (u := (Iv ((s.1 : Int) + 1))) (ev rfl)) rfl ?_
      refine wpList_nil ?_
      refine ⟨(s.1 + 1, s.2), ⟨fun t => (([(.string sa), (.string sb), Ud, Ud, (Iv 0), (Bo false), (Iv s.2), (Iv (s.1 : Int)), v4, v5, v6, v7, v8, v9, v10, v11, v12, (Bo (β1 || β2)), (.string sa), (Iv (sa.size : Int)), (Iv ((s.1 : Int) + 1)), (Bo (icmp .lss (s.1 : Int) (sa.size : Int))), (Iv (s.1 : Int)), v41, v42, v43, v44, v45, v46, (Bo β3), (u26 30), (u26 31), (Iv ((s.1 : Int) + 1)), Ud] : List Value)[t]?).getD undef, ?_, (Ext.gr (Ext.gr E28 E38) E49), ?_⟩, ?_⟩
      · first | rfl | (simp only [Nat.cast_add, Nat.cast_one, Int.natCast_add, Int.natCast_one]; rfl)
      · (try dsimp only); first | exact ⟨by omega, cntDiff_same hn (by omega), by omega, by omega⟩ | exact ⟨by omega, cntDiff_more hn (by omega), by omega, by omega⟩
      · (try dsimp only); omega
    have c33' := c33
    (try simp only [hβ1, hβ2] at c33')
    (try simp only [icmp, Bool.and_eq_true, Bool.or_eq_true, Bool.and_eq_false_iff, Bool.or_eq_false_iff, Bool.not_eq_true', Bool.not_eq_false', decide_eq_true_eq, decide_eq_false_iff_not, beq_iff_eq, bne_iff_ne, beq_eq_false_iff_ne, bne_eq_false_iff_eq] at c33')
    refine wp_exit ?_
    refine hK24 _ _ ?_
    refine wp_seq_k fun K54 hK54 => ?_
    refine wp_region_lit ?_
    refine q_is (l' := [(.string sa), (.string sb), Ud, Ud, (Iv 0), (Bo false), (Iv s.2), (u26 7), v4, v5, v6, v7, v8, v9, v10, v11, v12, (Bo (β1 || β2)), (.string sa), (Iv (sa.size : Int)), (Iv (s.1 : Int)), (Bo (icmp .lss (s.1 : Int) (sa.size : Int))), (u26 22), (u26 23), (u26 24), (u26 25), (u26 26), (u26 27), (u26 28), (u26 29), (u26 30), (u26 31), (u26 32), (Iv s.2)]) rfl rfl (does_move (u := (Iv s.2)) (ev rfl)) rfl ?_
    refine q_is (l' := [(.string sa), (.string sb), Ud, Ud, (Iv s.2), (Bo false), (Iv s.2), (u26 7), v4, v5, v6, v7, v8, v9, v10, v11, v12, (Bo (β1 || β2)), (.string sa), (Iv (sa.size : Int)), (Iv (s.1 : Int)), (Bo (icmp .lss (s.1 : Int) (sa.size : Int))), (u26 22), (u26 23), (u26 24), (u26 25), (u26 26), (u26 27), (u26 28), (u26 29), (u26 30), (u26 31), (u26 32), (Iv s.2)]) rfl rfl (does_assign (u := (Iv s.2)) (ev rfl)) rfl ?_
    refine q_is (l' := [(.string sa), (.string sb), Ud, Ud, (Iv s.2), (Bo true), (Iv s.2), (u26 7), v4, v5, v6, v7, v8, v9, v10, v11, v12, (Bo (β1 || β2)), (.string sa), (Iv (sa.size : Int)), (Iv (s.1 : Int)), (Bo (icmp .lss (s.1 : Int) (sa.size : Int))), (u26 22), (u26 23), (u26 24), (u26 25), (u26 26), (u26 27), (u26 28), (u26 29), (u26 30), (u26 31), (u26 32), (Iv s.2)]) rfl rfl (does_assign (u := (Bo true)) (ev rfl)) rfl ?_
    refine wpList_nil (hK54 _ _ ?_)
    refine wp_ret ?_
    refine ret_val (v := (.tuple #[(Iv s.2), (Bo true)])) (res_TT rfl (slot rfl) (slot rfl)) X30 ?_
    try simp only [hβ1, hβ2] at c19 c33
    have x55 : (cntRes sa sb : Int) = s.2 := by first | exact cntRes_f (by omega) | exact cntOkS_f (by omega) | exact cntOkS_t (by omega) (by omega) | exact cntRes_t (by omega) (by omega) hn (by omega)
    have x56 : (cntOkS sa sb) = true := by first | exact cntRes_f (by omega) | exact cntOkS_f (by omega) | exact cntOkS_t (by omega) (by omega) | exact cntRes_t (by omega) (by omega) hn (by omega)
    exact (by first | rfl | rw [x55, x56])

/- laws.FnExactCountDifferent -/
theorem c_laws_FnExactCountDifferent (sa : ByteArray) (sb : ByteArray) (w : World) : Gives Try.prog 3 #[(.string sa), (.string sb)] w (fun v w' => v = (Bo true)) := by
  refine enter [(.string sa), (.string sb), Ud, Ud, Ud, Ud, Ud, Ud, Ud, Ud, Ud, Ud, Ud, Ud, Ud, Ud, Ud, Ud, Ud, Ud, Ud, Ud, Ud, Ud, Ud, Ud, Ud, Ud, Ud, Ud, Ud, Ud, Ud, Ud, Ud] Try.func3 rfl Try.ntmps3 rfl ?_
  refine wp_seq_k fun K1 hK1 => ?_
  refine wp_region_lit ?_
  refine q_is (l' := [(.string sa), (.string sb), Ud, Ud, (Bo false), Ud, Ud, Ud, Ud, Ud, Ud, Ud, Ud, Ud, Ud, Ud, Ud, Ud, Ud, Ud, Ud, Ud, Ud, Ud, Ud, Ud, Ud, Ud, Ud, Ud, Ud, Ud, Ud, Ud, Ud]) rfl rfl (does_assign (u := (Bo false)) (ev rfl)) rfl ?_
  refine wpList_nil (hK1 _ _ ?_)
  refine wp_seq_k fun K2 hK2 => ?_
  refine wp_seq_k fun K3 hK3 => ?_
  refine wp_region_lit ?_
  refine q_is (l' := [(.string sa), (.string sb), Ud, Ud, (Bo false), Ud, Ud, Ud, Ud, (.string sa), Ud, Ud, Ud, Ud, Ud, Ud, Ud, Ud, Ud, Ud, Ud, Ud, Ud, Ud, Ud, Ud, Ud, Ud, Ud, Ud, Ud, Ud, Ud, Ud, Ud]) rfl rfl (does_move (u := (.string sa)) (ev rfl)) rfl ?_
  refine q_is (l' := [(.string sa), (.string sb), Ud, Ud, (Bo false), Ud, Ud, Ud, Ud, (.string sa), (Iv (sa.size : Int)), Ud, Ud, Ud, Ud, Ud, Ud, Ud, Ud, Ud, Ud, Ud, Ud, Ud, Ud, Ud, Ud, Ud, Ud, Ud, Ud, Ud, Ud, Ud, Ud]) rfl rfl (does_len_string Try.underlying9 (ev rfl)) rfl ?_
  refine q_is (l' := [(.string sa), (.string sb), Ud, Ud, (Bo false), Ud, Ud, Ud, Ud, (.string sa), (Iv (sa.size : Int)), (Bo (icmp .gtr (sa.size : Int) 1048576)), Ud, Ud, Ud, Ud, Ud, Ud, Ud, Ud, Ud, Ud, Ud, Ud, Ud, Ud, Ud, Ud, Ud, Ud, Ud, Ud, Ud, Ud, Ud]) rfl rfl (does_icmp (p := (sa.size : Int)) (q := 1048576) (.inr (.inr (.inr (.inr (.inl rfl))))) (ev rfl) (ev rfl)) rfl ?_
  refine wpList_nil (hK3 _ _ ?_)
  refine wp_cond_split (t := icmp .gtr (sa.size : Int) 1048576) (ev rfl) (fun c4 => ?_) (fun c4 => ?_)
  · have c4' := c4
    (try simp only [icmp, Bool.and_eq_true, Bool.or_eq_true, Bool.and_eq_false_iff, Bool.or_eq_false_iff, Bool.not_eq_true', Bool.not_eq_false', decide_eq_true_eq, decide_eq_false_iff_not, beq_iff_eq, bne_iff_ne, beq_eq_false_iff_ne, bne_eq_false_iff_eq] at c4')
    refine wp_seq_k fun K5 hK5 => ?_
    refine wp_region_lit ?_
    refine q_is (l' := [(.string sa), (.string sb), Ud, Ud, (Bo true), Ud, Ud, Ud, Ud, (.string sa), (Iv (sa.size : Int)), (Bo (icmp .gtr (sa.size : Int) 1048576)), Ud, Ud, Ud, Ud, Ud, Ud, Ud, Ud, Ud, Ud, Ud, Ud, Ud, Ud, Ud, Ud, Ud, Ud, Ud, Ud, Ud, Ud, Ud]) rfl rfl (does_assign (u := (Bo true)) (ev rfl)) rfl ?_
    refine wpList_nil (hK5 _ _ ?_)
    refine wp_ret ?_
    dsimp only [Exit.then, Exit.inBlock]
    refine ret_val (v := (Bo true)) (res_T rfl (slot rfl)) (Ext.refl w) ?_
    exact rfl
  have c4' := c4
  (try simp only [icmp, Bool.and_eq_true, Bool.or_eq_true, Bool.and_eq_false_iff, Bool.or_eq_false_iff, Bool.not_eq_true', Bool.not_eq_false', decide_eq_true_eq, decide_eq_false_iff_not, beq_iff_eq, bne_iff_ne, beq_eq_false_iff_ne, bne_eq_false_iff_eq] at c4')
  refine wp_skip (hK2 _ _ ?_)
  refine wp_seq_k fun K6 hK6 => ?_
  refine wp_seq_k fun K7 hK7 => ?_
  refine wp_region_lit ?_
  refine q_is (l' := [(.string sa), (.string sb), Ud, Ud, (Bo false), Ud, Ud, Ud, Ud, (.string sa), (Iv (sa.size : Int)), (Bo (icmp .gtr (sa.size : Int) 1048576)), (.string sb), Ud, Ud, Ud, Ud, Ud, Ud, Ud, Ud, Ud, Ud, Ud, Ud, Ud, Ud, Ud, Ud, Ud, Ud, Ud, Ud, Ud, Ud]) rfl rfl (does_move (u := (.string sb)) (ev rfl)) rfl ?_
  refine q_is (l' := [(.string sa), (.string sb), Ud, Ud, (Bo false), Ud, Ud, Ud, Ud, (.string sa), (Iv (sa.size : Int)), (Bo (icmp .gtr (sa.size : Int) 1048576)), (.string sb), (Iv (sb.size : Int)), Ud, Ud, Ud, Ud, Ud, Ud, Ud, Ud, Ud, Ud, Ud, Ud, Ud, Ud, Ud, Ud, Ud, Ud, Ud, Ud, Ud]) rfl rfl (does_len_string Try.underlying9 (ev rfl)) rfl ?_
  refine q_is (l' := [(.string sa), (.string sb), Ud, Ud, (Bo false), Ud, Ud, Ud, Ud, (.string sa), (Iv (sa.size : Int)), (Bo (icmp .gtr (sa.size : Int) 1048576)), (.string sb), (Iv (sb.size : Int)), (Bo (icmp .gtr (sb.size : Int) 1048576)), Ud, Ud, Ud, Ud, Ud, Ud, Ud, Ud, Ud, Ud, Ud, Ud, Ud, Ud, Ud, Ud, Ud, Ud, Ud, Ud]) rfl rfl (does_icmp (p := (sb.size : Int)) (q := 1048576) (.inr (.inr (.inr (.inr (.inl rfl))))) (ev rfl) (ev rfl)) rfl ?_
  refine wpList_nil (hK7 _ _ ?_)
  refine wp_cond_split (t := icmp .gtr (sb.size : Int) 1048576) (ev rfl) (fun c8 => ?_) (fun c8 => ?_)
  · have c8' := c8
    (try simp only [icmp, Bool.and_eq_true, Bool.or_eq_true, Bool.and_eq_false_iff, Bool.or_eq_false_iff, Bool.not_eq_true', Bool.not_eq_false', decide_eq_true_eq, decide_eq_false_iff_not, beq_iff_eq, bne_iff_ne, beq_eq_false_iff_ne, bne_eq_false_iff_eq] at c8')
    refine wp_seq_k fun K9 hK9 => ?_
    refine wp_region_lit ?_
    refine q_is (l' := [(.string sa), (.string sb), Ud, Ud, (Bo true), Ud, Ud, Ud, Ud, (.string sa), (Iv (sa.size : Int)), (Bo (icmp .gtr (sa.size : Int) 1048576)), (.string sb), (Iv (sb.size : Int)), (Bo (icmp .gtr (sb.size : Int) 1048576)), Ud, Ud, Ud, Ud, Ud, Ud, Ud, Ud, Ud, Ud, Ud, Ud, Ud, Ud, Ud, Ud, Ud, Ud, Ud, Ud]) rfl rfl (does_assign (u := (Bo true)) (ev rfl)) rfl ?_
    refine wpList_nil (hK9 _ _ ?_)
    refine wp_ret ?_
    dsimp only [Exit.then, Exit.inBlock]
    refine ret_val (v := (Bo true)) (res_T rfl (slot rfl)) (Ext.refl w) ?_
    exact rfl
  have c8' := c8
  (try simp only [icmp, Bool.and_eq_true, Bool.or_eq_true, Bool.and_eq_false_iff, Bool.or_eq_false_iff, Bool.not_eq_true', Bool.not_eq_false', decide_eq_true_eq, decide_eq_false_iff_not, beq_iff_eq, bne_iff_ne, beq_eq_false_iff_ne, bne_eq_false_iff_eq] at c8')
  refine wp_skip (hK6 _ _ ?_)
  refine wp_seq_k fun K10 hK10 => ?_
  refine wp_region_lit ?_
  refine q_is (l' := [(.string sa), (.string sb), Ud, Ud, (Bo false), Ud, Ud, Ud, Ud, (.string sa), (Iv (sa.size : Int)), (Bo (icmp .gtr (sa.size : Int) 1048576)), (.string sb), (Iv (sb.size : Int)), (Bo (icmp .gtr (sb.size : Int) 1048576)), Ud, (.string sa), Ud, Ud, Ud, Ud, Ud, Ud, Ud, Ud, Ud, Ud, Ud, Ud, Ud, Ud, Ud, Ud, Ud, Ud]) rfl rfl (does_move (u := (.string sa)) (ev rfl)) rfl ?_
  refine q_is (l' := [(.string sa), (.string sb), Ud, Ud, (Bo false), Ud, Ud, Ud, Ud, (.string sa), (Iv (sa.size : Int)), (Bo (icmp .gtr (sa.size : Int) 1048576)), (.string sb), (Iv (sb.size : Int)), (Bo (icmp .gtr (sb.size : Int) 1048576)), Ud, (.string sa), (.string sb), Ud, Ud, Ud, Ud, Ud, Ud, Ud, Ud, Ud, Ud, Ud, Ud, Ud, Ud, Ud, Ud, Ud]) rfl rfl (does_move (u := (.string sb)) (ev rfl)) rfl ?_
  refine seqd rfl rfl (does_call (args := #[(.string sa), (.string sb)]) cal15 (evs rfl) (c_spec_CountDifferent sa sb _)) ?_; rintro _ w12 ⟨E11, rfl⟩
  have X13 := Ext.gr (Ext.refl w) E11
  show wpList _ _ _ _ (fr [(.string sa), (.string sb), Ud, Ud, (Bo false), Ud, Ud, Ud, Ud, (.string sa), (Iv (sa.size : Int)), (Bo (icmp .gtr (sa.size : Int) 1048576)), (.string sb), (Iv (sb.size : Int)), (Bo (icmp .gtr (sb.size : Int) 1048576)), Ud, (.string sa), (.string sb), (.tuple #[(Iv (cntRes sa sb)), (Bo (cntOkS sa sb))]), Ud, Ud, Ud, Ud, Ud, Ud, Ud, Ud, Ud, Ud, Ud, Ud, Ud, Ud, Ud, Ud]) _
  refine q_is (l' := [(.string sa), (.string sb), Ud, Ud, (Bo false), Ud, Ud, Ud, Ud, (.string sa), (Iv (sa.size : Int)), (Bo (icmp .gtr (sa.size : Int) 1048576)), (.string sb), (Iv (sb.size : Int)), (Bo (icmp .gtr (sb.size : Int) 1048576)), (.tuple #[(Iv (cntRes sa sb)), (Bo (cntOkS sa sb))]), (.string sa), (.string sb), (.tuple #[(Iv (cntRes sa sb)), (Bo (cntOkS sa sb))]), Ud, Ud, Ud, Ud, Ud, Ud, Ud, Ud, Ud, Ud, Ud, Ud, Ud, Ud, Ud, Ud]) rfl rfl (does_move (u := (.tuple #[(Iv (cntRes sa sb)), (Bo (cntOkS sa sb))])) (ev rfl)) rfl ?_
  refine q_is (l' := [(.string sa), (.string sb), Ud, Ud, (Bo false), Ud, Ud, Ud, Ud, (.string sa), (Iv (sa.size : Int)), (Bo (icmp .gtr (sa.size : Int) 1048576)), (.string sb), (Iv (sb.size : Int)), (Bo (icmp .gtr (sb.size : Int) 1048576)), (.tuple #[(Iv (cntRes sa sb)), (Bo (cntOkS sa sb))]), (.string sa), (.string sb), (.tuple #[(Iv (cntRes sa sb)), (Bo (cntOkS sa sb))]), (Iv (cntRes sa sb)), Ud, Ud, Ud, Ud, Ud, Ud, Ud, Ud, Ud, Ud, Ud, Ud, Ud, Ud, Ud]) rfl rfl (does_extract (vs := #[(Iv (cntRes sa sb)), (Bo (cntOkS sa sb))]) (u := (Iv (cntRes sa sb))) (ev rfl) rfl) rfl ?_
  refine q_is (l' := [(.string sa), (.string sb), Ud, Ud, (Bo false), Ud, Ud, Ud, Ud, (.string sa), (Iv (sa.size : Int)), (Bo (icmp .gtr (sa.size : Int) 1048576)), (.string sb), (Iv (sb.size : Int)), (Bo (icmp .gtr (sb.size : Int) 1048576)), (.tuple #[(Iv (cntRes sa sb)), (Bo (cntOkS sa sb))]), (.string sa), (.string sb), (.tuple #[(Iv (cntRes sa sb)), (Bo (cntOkS sa sb))]), (Iv (cntRes sa sb)), (Bo (cntOkS sa sb)), Ud, Ud, Ud, Ud, Ud, Ud, Ud, Ud, Ud, Ud, Ud, Ud, Ud, Ud]) rfl rfl (does_extract (vs := #[(Iv (cntRes sa sb)), (Bo (cntOkS sa sb))]) (u := (Bo (cntOkS sa sb))) (ev rfl) rfl) rfl ?_
  refine q_is (l' := [(.string sa), (.string sb), Ud, Ud, (Bo false), (Iv (cntRes sa sb)), Ud, Ud, Ud, (.string sa), (Iv (sa.size : Int)), (Bo (icmp .gtr (sa.size : Int) 1048576)), (.string sb), (Iv (sb.size : Int)), (Bo (icmp .gtr (sb.size : Int) 1048576)), (.tuple #[(Iv (cntRes sa sb)), (Bo (cntOkS sa sb))]), (.string sa), (.string sb), (.tuple #[(Iv (cntRes sa sb)), (Bo (cntOkS sa sb))]), (Iv (cntRes sa sb)), (Bo (cntOkS sa sb)), Ud, Ud, Ud, Ud, Ud, Ud, Ud, Ud, Ud, Ud, Ud, Ud, Ud, Ud]) rfl rfl (does_assign (u := (Iv (cntRes sa sb))) (ev rfl)) rfl ?_
  refine q_is (l' := [(.string sa), (.string sb), Ud, Ud, (Bo false), (Iv (cntRes sa sb)), (Bo (cntOkS sa sb)), Ud, Ud, (.string sa), (Iv (sa.size : Int)), (Bo (icmp .gtr (sa.size : Int) 1048576)), (.string sb), (Iv (sb.size : Int)), (Bo (icmp .gtr (sb.size : Int) 1048576)), (.tuple #[(Iv (cntRes sa sb)), (Bo (cntOkS sa sb))]), (.string sa), (.string sb), (.tuple #[(Iv (cntRes sa sb)), (Bo (cntOkS sa sb))]), (Iv (cntRes sa sb)), (Bo (cntOkS sa sb)), Ud, Ud, Ud, Ud, Ud, Ud, Ud, Ud, Ud, Ud, Ud, Ud, Ud, Ud]) rfl rfl (does_assign (u := (Bo (cntOkS sa sb))) (ev rfl)) rfl ?_
  refine wpList_nil (hK10 _ _ ?_)
  refine wp_seq_k fun K14 hK14 => ?_
  refine wp_region_lit ?_
  refine q_is (l' := [(.string sa), (.string sb), Ud, Ud, (Bo false), (Iv (cntRes sa sb)), (Bo (cntOkS sa sb)), Ud, Ud, (.string sa), (Iv (sa.size : Int)), (Bo (icmp .gtr (sa.size : Int) 1048576)), (.string sb), (Iv (sb.size : Int)), (Bo (icmp .gtr (sb.size : Int) 1048576)), (.tuple #[(Iv (cntRes sa sb)), (Bo (cntOkS sa sb))]), (.string sa), (.string sb), (.tuple #[(Iv (cntRes sa sb)), (Bo (cntOkS sa sb))]), (Iv (cntRes sa sb)), (Bo (cntOkS sa sb)), Ud, (.string sa), Ud, Ud, Ud, Ud, Ud, Ud, Ud, Ud, Ud, Ud, Ud, Ud]) rfl rfl (does_move (u := (.string sa)) (ev rfl)) rfl ?_
  refine q_is (l' := [(.string sa), (.string sb), Ud, Ud, (Bo false), (Iv (cntRes sa sb)), (Bo (cntOkS sa sb)), Ud, Ud, (.string sa), (Iv (sa.size : Int)), (Bo (icmp .gtr (sa.size : Int) 1048576)), (.string sb), (Iv (sb.size : Int)), (Bo (icmp .gtr (sb.size : Int) 1048576)), (.tuple #[(Iv (cntRes sa sb)), (Bo (cntOkS sa sb))]), (.string sa), (.string sb), (.tuple #[(Iv (cntRes sa sb)), (Bo (cntOkS sa sb))]), (Iv (cntRes sa sb)), (Bo (cntOkS sa sb)), Ud, (.string sa), (.string sb), Ud, Ud, Ud, Ud, Ud, Ud, Ud, Ud, Ud, Ud, Ud]) rfl rfl (does_move (u := (.string sb)) (ev rfl)) rfl ?_
  refine seqd rfl rfl (does_call (args := #[(.string sa), (.string sb)]) cal16 (evs rfl) (c_impl_CountDifferent sa sb _)) ?_; rintro _ w16 ⟨E15, rfl⟩
  have X17 := Ext.gr X13 E15
  show wpList _ _ _ _ (fr [(.string sa), (.string sb), Ud, Ud, (Bo false), (Iv (cntRes sa sb)), (Bo (cntOkS sa sb)), Ud, Ud, (.string sa), (Iv (sa.size : Int)), (Bo (icmp .gtr (sa.size : Int) 1048576)), (.string sb), (Iv (sb.size : Int)), (Bo (icmp .gtr (sb.size : Int) 1048576)), (.tuple #[(Iv (cntRes sa sb)), (Bo (cntOkS sa sb))]), (.string sa), (.string sb), (.tuple #[(Iv (cntRes sa sb)), (Bo (cntOkS sa sb))]), (Iv (cntRes sa sb)), (Bo (cntOkS sa sb)), Ud, (.string sa), (.string sb), (.tuple #[(Iv (cntRes sa sb)), (Bo (cntOkS sa sb))]), Ud, Ud, Ud, Ud, Ud, Ud, Ud, Ud, Ud, Ud]) _
  refine q_is (l' := [(.string sa), (.string sb), Ud, Ud, (Bo false), (Iv (cntRes sa sb)), (Bo (cntOkS sa sb)), Ud, Ud, (.string sa), (Iv (sa.size : Int)), (Bo (icmp .gtr (sa.size : Int) 1048576)), (.string sb), (Iv (sb.size : Int)), (Bo (icmp .gtr (sb.size : Int) 1048576)), (.tuple #[(Iv (cntRes sa sb)), (Bo (cntOkS sa sb))]), (.string sa), (.string sb), (.tuple #[(Iv (cntRes sa sb)), (Bo (cntOkS sa sb))]), (Iv (cntRes sa sb)), (Bo (cntOkS sa sb)), (.tuple #[(Iv (cntRes sa sb)), (Bo (cntOkS sa sb))]), (.string sa), (.string sb), (.tuple #[(Iv (cntRes sa sb)), (Bo (cntOkS sa sb))]), Ud, Ud, Ud, Ud, Ud, Ud, Ud, Ud, Ud, Ud]) rfl rfl (does_move (u := (.tuple #[(Iv (cntRes sa sb)), (Bo (cntOkS sa sb))])) (ev rfl)) rfl ?_
  refine q_is (l' := [(.string sa), (.string sb), Ud, Ud, (Bo false), (Iv (cntRes sa sb)), (Bo (cntOkS sa sb)), Ud, Ud, (.string sa), (Iv (sa.size : Int)), (Bo (icmp .gtr (sa.size : Int) 1048576)), (.string sb), (Iv (sb.size : Int)), (Bo (icmp .gtr (sb.size : Int) 1048576)), (.tuple #[(Iv (cntRes sa sb)), (Bo (cntOkS sa sb))]), (.string sa), (.string sb), (.tuple #[(Iv (cntRes sa sb)), (Bo (cntOkS sa sb))]), (Iv (cntRes sa sb)), (Bo (cntOkS sa sb)), (.tuple #[(Iv (cntRes sa sb)), (Bo (cntOkS sa sb))]), (.string sa), (.string sb), (.tuple #[(Iv (cntRes sa sb)), (Bo (cntOkS sa sb))]), (Iv (cntRes sa sb)), Ud, Ud, Ud, Ud, Ud, Ud, Ud, Ud, Ud]) rfl rfl (does_extract (vs := #[(Iv (cntRes sa sb)), (Bo (cntOkS sa sb))]) (u := (Iv (cntRes sa sb))) (ev rfl) rfl) rfl ?_
  refine q_is (l' := [(.string sa), (.string sb), Ud, Ud, (Bo false), (Iv (cntRes sa sb)), (Bo (cntOkS sa sb)), Ud, Ud, (.string sa), (Iv (sa.size : Int)), (Bo (icmp .gtr (sa.size : Int) 1048576)), (.string sb), (Iv (sb.size : Int)), (Bo (icmp .gtr (sb.size : Int) 1048576)), (.tuple #[(Iv (cntRes sa sb)), (Bo (cntOkS sa sb))]), (.string sa), (.string sb), (.tuple #[(Iv (cntRes sa sb)), (Bo (cntOkS sa sb))]), (Iv (cntRes sa sb)), (Bo (cntOkS sa sb)), (.tuple #[(Iv (cntRes sa sb)), (Bo (cntOkS sa sb))]), (.string sa), (.string sb), (.tuple #[(Iv (cntRes sa sb)), (Bo (cntOkS sa sb))]), (Iv (cntRes sa sb)), (Bo (cntOkS sa sb)), Ud, Ud, Ud, Ud, Ud, Ud, Ud, Ud]) rfl rfl (does_extract (vs := #[(Iv (cntRes sa sb)), (Bo (cntOkS sa sb))]) (u := (Bo (cntOkS sa sb))) (ev rfl) rfl) rfl ?_
  refine q_is (l' := [(.string sa), (.string sb), Ud, Ud, (Bo false), (Iv (cntRes sa sb)), (Bo (cntOkS sa sb)), (Iv (cntRes sa sb)), Ud, (.string sa), (Iv (sa.size : Int)), (Bo (icmp .gtr (sa.size : Int) 1048576)), (.string sb), (Iv (sb.size : Int)), (Bo (icmp .gtr (sb.size : Int) 1048576)), (.tuple #[(Iv (cntRes sa sb)), (Bo (cntOkS sa sb))]), (.string sa), (.string sb), (.tuple #[(Iv (cntRes sa sb)), (Bo (cntOkS sa sb))]), (Iv (cntRes sa sb)), (Bo (cntOkS sa sb)), (.tuple #[(Iv (cntRes sa sb)), (Bo (cntOkS sa sb))]), (.string sa), (.string sb), (.tuple #[(Iv (cntRes sa sb)), (Bo (cntOkS sa sb))]), (Iv (cntRes sa sb)), (Bo (cntOkS sa sb)), Ud, Ud, Ud, Ud, Ud, Ud, Ud, Ud]) rfl rfl (does_assign (u := (Iv (cntRes sa sb))) (ev rfl)) rfl ?_
  refine q_is (l' := [(.string sa), (.string sb), Ud, Ud, (Bo false), (Iv (cntRes sa sb)), (Bo (cntOkS sa sb)), (Iv (cntRes sa sb)), (Bo (cntOkS sa sb)), (.string sa), (Iv (sa.size : Int)), (Bo (icmp .gtr (sa.size : Int) 1048576)), (.string sb), (Iv (sb.size : Int)), (Bo (icmp .gtr (sb.size : Int) 1048576)), (.tuple #[(Iv (cntRes sa sb)), (Bo (cntOkS sa sb))]), (.string sa), (.string sb), (.tuple #[(Iv (cntRes sa sb)), (Bo (cntOkS sa sb))]), (Iv (cntRes sa sb)), (Bo (cntOkS sa sb)), (.tuple #[(Iv (cntRes sa sb)), (Bo (cntOkS sa sb))]), (.string sa), (.string sb), (.tuple #[(Iv (cntRes sa sb)), (Bo (cntOkS sa sb))]), (Iv (cntRes sa sb)), (Bo (cntOkS sa sb)), Ud, Ud, Ud, Ud, Ud, Ud, Ud, Ud]) rfl rfl (does_assign (u := (Bo (cntOkS sa sb))) (ev rfl)) rfl ?_
  refine wpList_nil (hK14 _ _ ?_)
  refine wp_seq_k fun K18 hK18 => ?_
  refine wp_seq_k fun K19 hK19 => ?_
  obtain ⟨β1, hβ1⟩ : ∃ b : Bool, b = (icmp .neq (cntRes sa sb) (cntRes sa sb)) := ⟨_, rfl⟩
  obtain ⟨β2, hβ2⟩ : ∃ b : Bool, b = ((cntOkS sa sb) != (cntOkS sa sb)) := ⟨_, rfl⟩
  refine region_text (
    [Fact.pure [] (fun v => v = (Iv (cntRes sa sb))),
    Fact.pure [] (fun v => v = (Iv (cntRes sa sb))),
    Fact.pure [27, 28] (fun v => v = (Bo β1)),
    Fact.pure [29] (fun v => v = (Bo β1)),
    Fact.pure [30] (fun v => β1 = false → v = (Bo (cntOkS sa sb))),
    Fact.pure [30] (fun v => β1 = false → v = (Bo (cntOkS sa sb))),
    Fact.pure [31, 32, 30] (fun v => β1 = false → v = (Bo β2)),
    Fact.pure [30, 33] (fun v => v = (Bo (β1 || β2)))]) (by simp [Fact.pure, Fact.mem]) ?_
  refine RW_d (fun v20 => [(.string sa), (.string sb), Ud, Ud, (Bo false), (Iv (cntRes sa sb)), (Bo (cntOkS sa sb)), (Iv (cntRes sa sb)), (Bo (cntOkS sa sb)), (.string sa), (Iv (sa.size : Int)), (Bo (icmp .gtr (sa.size : Int) 1048576)), (.string sb), (Iv (sb.size : Int)), (Bo (icmp .gtr (sb.size : Int) 1048576)), (.tuple #[(Iv (cntRes sa sb)), (Bo (cntOkS sa sb))]), (.string sa), (.string sb), (.tuple #[(Iv (cntRes sa sb)), (Bo (cntOkS sa sb))]), (Iv (cntRes sa sb)), (Bo (cntOkS sa sb)), (.tuple #[(Iv (cntRes sa sb)), (Bo (cntOkS sa sb))]), (.string sa), (.string sb), (.tuple #[(Iv (cntRes sa sb)), (Bo (cntOkS sa sb))]), (Iv (cntRes sa sb)), (Bo (cntOkS sa sb)), v20, Ud, Ud, Ud, Ud, Ud, Ud, Ud]) rfl (fun _ => rfl) (fun u hu hF => ?_) (fun v20 => ?_)
  · clear hF
    refine doesG_un rfl ?_
    refine (does_move (u := (Iv (cntRes sa sb))) (ev rfl)).mono ?_; rintro _ _ ⟨rfl, rfl⟩
    exact ⟨rfl, Ext.refl _⟩
  refine RW_d (fun v21 => [(.string sa), (.string sb), Ud, Ud, (Bo false), (Iv (cntRes sa sb)), (Bo (cntOkS sa sb)), (Iv (cntRes sa sb)), (Bo (cntOkS sa sb)), (.string sa), (Iv (sa.size : Int)), (Bo (icmp .gtr (sa.size : Int) 1048576)), (.string sb), (Iv (sb.size : Int)), (Bo (icmp .gtr (sb.size : Int) 1048576)), (.tuple #[(Iv (cntRes sa sb)), (Bo (cntOkS sa sb))]), (.string sa), (.string sb), (.tuple #[(Iv (cntRes sa sb)), (Bo (cntOkS sa sb))]), (Iv (cntRes sa sb)), (Bo (cntOkS sa sb)), (.tuple #[(Iv (cntRes sa sb)), (Bo (cntOkS sa sb))]), (.string sa), (.string sb), (.tuple #[(Iv (cntRes sa sb)), (Bo (cntOkS sa sb))]), (Iv (cntRes sa sb)), (Bo (cntOkS sa sb)), v20, v21, Ud, Ud, Ud, Ud, Ud, Ud]) rfl (fun _ => rfl) (fun u hu hF => ?_) (fun v21 => ?_)
  · clear hF
    refine doesG_un rfl ?_
    refine (does_move (u := (Iv (cntRes sa sb))) (ev rfl)).mono ?_; rintro _ _ ⟨rfl, rfl⟩
    exact ⟨rfl, Ext.refl _⟩
  refine RW_d (fun v22 => [(.string sa), (.string sb), Ud, Ud, (Bo false), (Iv (cntRes sa sb)), (Bo (cntOkS sa sb)), (Iv (cntRes sa sb)), (Bo (cntOkS sa sb)), (.string sa), (Iv (sa.size : Int)), (Bo (icmp .gtr (sa.size : Int) 1048576)), (.string sb), (Iv (sb.size : Int)), (Bo (icmp .gtr (sb.size : Int) 1048576)), (.tuple #[(Iv (cntRes sa sb)), (Bo (cntOkS sa sb))]), (.string sa), (.string sb), (.tuple #[(Iv (cntRes sa sb)), (Bo (cntOkS sa sb))]), (Iv (cntRes sa sb)), (Bo (cntOkS sa sb)), (.tuple #[(Iv (cntRes sa sb)), (Bo (cntOkS sa sb))]), (.string sa), (.string sb), (.tuple #[(Iv (cntRes sa sb)), (Bo (cntOkS sa sb))]), (Iv (cntRes sa sb)), (Bo (cntOkS sa sb)), v20, v21, v22, Ud, Ud, Ud, Ud, Ud]) rfl (fun _ => rfl) (fun u hu hF => ?_) (fun v22 => ?_)
  · have h27_ : v20 = (Iv (cntRes sa sb)) := hF.1
    have h28_ : v21 = (Iv (cntRes sa sb)) := hF.2.1
    clear hF
    obtain rfl := h27_
    obtain rfl := h28_
    refine doesG_un rfl ?_
    refine (does_icmp (p := cntRes sa sb) (q := cntRes sa sb) (.inr (.inl rfl)) (ev rfl) (ev rfl)).mono ?_; rintro _ _ ⟨rfl, rfl⟩
    exact ⟨(by first | rfl | (show _ = _; simp only [hβ1])), Ext.refl _⟩
  refine RW_d (fun v23 => [(.string sa), (.string sb), Ud, Ud, (Bo false), (Iv (cntRes sa sb)), (Bo (cntOkS sa sb)), (Iv (cntRes sa sb)), (Bo (cntOkS sa sb)), (.string sa), (Iv (sa.size : Int)), (Bo (icmp .gtr (sa.size : Int) 1048576)), (.string sb), (Iv (sb.size : Int)), (Bo (icmp .gtr (sb.size : Int) 1048576)), (.tuple #[(Iv (cntRes sa sb)), (Bo (cntOkS sa sb))]), (.string sa), (.string sb), (.tuple #[(Iv (cntRes sa sb)), (Bo (cntOkS sa sb))]), (Iv (cntRes sa sb)), (Bo (cntOkS sa sb)), (.tuple #[(Iv (cntRes sa sb)), (Bo (cntOkS sa sb))]), (.string sa), (.string sb), (.tuple #[(Iv (cntRes sa sb)), (Bo (cntOkS sa sb))]), (Iv (cntRes sa sb)), (Bo (cntOkS sa sb)), v20, v21, v22, v23, Ud, Ud, Ud, Ud]) rfl (fun _ => rfl) (fun u hu hF => ?_) (fun v23 => ?_)
  · have h29_ : v22 = (Bo β1) := hF.1
    clear hF
    obtain rfl := h29_
    refine doesG_un rfl ?_
    refine (does_move (u := (Bo β1)) (ev rfl)).mono ?_; rintro _ _ ⟨rfl, rfl⟩
    exact ⟨rfl, Ext.refl _⟩
  refine RW_d (fun v24 => [(.string sa), (.string sb), Ud, Ud, (Bo false), (Iv (cntRes sa sb)), (Bo (cntOkS sa sb)), (Iv (cntRes sa sb)), (Bo (cntOkS sa sb)), (.string sa), (Iv (sa.size : Int)), (Bo (icmp .gtr (sa.size : Int) 1048576)), (.string sb), (Iv (sb.size : Int)), (Bo (icmp .gtr (sb.size : Int) 1048576)), (.tuple #[(Iv (cntRes sa sb)), (Bo (cntOkS sa sb))]), (.string sa), (.string sb), (.tuple #[(Iv (cntRes sa sb)), (Bo (cntOkS sa sb))]), (Iv (cntRes sa sb)), (Bo (cntOkS sa sb)), (.tuple #[(Iv (cntRes sa sb)), (Bo (cntOkS sa sb))]), (.string sa), (.string sb), (.tuple #[(Iv (cntRes sa sb)), (Bo (cntOkS sa sb))]), (Iv (cntRes sa sb)), (Bo (cntOkS sa sb)), v20, v21, v22, v23, v24, Ud, Ud, Ud]) rfl (fun _ => rfl) (fun u hu hF => ?_) (fun v24 => ?_)
  · have h30_ : v23 = (Bo β1) := hF.1
    clear hF
    obtain rfl := h30_
    refine doesG_g (b := β1) rfl (yld rfl rfl) (fun hg => ?_) (fun hg => ⟨fun h => absurd h hg, Ext.refl _⟩)
    refine (does_move (u := (Bo (cntOkS sa sb))) (ev rfl)).mono ?_; rintro _ _ ⟨rfl, rfl⟩
    exact ⟨fun _ => rfl, Ext.refl _⟩
  refine RW_d (fun v25 => [(.string sa), (.string sb), Ud, Ud, (Bo false), (Iv (cntRes sa sb)), (Bo (cntOkS sa sb)), (Iv (cntRes sa sb)), (Bo (cntOkS sa sb)), (.string sa), (Iv (sa.size : Int)), (Bo (icmp .gtr (sa.size : Int) 1048576)), (.string sb), (Iv (sb.size : Int)), (Bo (icmp .gtr (sb.size : Int) 1048576)), (.tuple #[(Iv (cntRes sa sb)), (Bo (cntOkS sa sb))]), (.string sa), (.string sb), (.tuple #[(Iv (cntRes sa sb)), (Bo (cntOkS sa sb))]), (Iv (cntRes sa sb)), (Bo (cntOkS sa sb)), (.tuple #[(Iv (cntRes sa sb)), (Bo (cntOkS sa sb))]), (.string sa), (.string sb), (.tuple #[(Iv (cntRes sa sb)), (Bo (cntOkS sa sb))]), (Iv (cntRes sa sb)), (Bo (cntOkS sa sb)), v20, v21, v22, v23, v24, v25, Ud, Ud]) rfl (fun _ => rfl) (fun u hu hF => ?_) (fun v25 => ?_)
  · have h30_ : v23 = (Bo β1) := hF.1
    clear hF
    obtain rfl := h30_
    refine doesG_g (b := β1) rfl (yld rfl rfl) (fun hg => ?_) (fun hg => ⟨fun h => absurd h hg, Ext.refl _⟩)
    refine (does_move (u := (Bo (cntOkS sa sb))) (ev rfl)).mono ?_; rintro _ _ ⟨rfl, rfl⟩
    exact ⟨fun _ => rfl, Ext.refl _⟩
  refine RW_d (fun v26 => [(.string sa), (.string sb), Ud, Ud, (Bo false), (Iv (cntRes sa sb)), (Bo (cntOkS sa sb)), (Iv (cntRes sa sb)), (Bo (cntOkS sa sb)), (.string sa), (Iv (sa.size : Int)), (Bo (icmp .gtr (sa.size : Int) 1048576)), (.string sb), (Iv (sb.size : Int)), (Bo (icmp .gtr (sb.size : Int) 1048576)), (.tuple #[(Iv (cntRes sa sb)), (Bo (cntOkS sa sb))]), (.string sa), (.string sb), (.tuple #[(Iv (cntRes sa sb)), (Bo (cntOkS sa sb))]), (Iv (cntRes sa sb)), (Bo (cntOkS sa sb)), (.tuple #[(Iv (cntRes sa sb)), (Bo (cntOkS sa sb))]), (.string sa), (.string sb), (.tuple #[(Iv (cntRes sa sb)), (Bo (cntOkS sa sb))]), (Iv (cntRes sa sb)), (Bo (cntOkS sa sb)), v20, v21, v22, v23, v24, v25, v26, Ud]) rfl (fun _ => rfl) (fun u hu hF => ?_) (fun v26 => ?_)
  · have h31_ : β1 = false → v24 = (Bo (cntOkS sa sb)) := hF.1
    have h32_ : β1 = false → v25 = (Bo (cntOkS sa sb)) := hF.2.1
    have h30_ : v23 = (Bo β1) := hF.2.2.1
    clear hF
    obtain rfl := h30_
    refine doesG_g (b := β1) rfl (yld rfl rfl) (fun hg => ?_) (fun hg => ⟨fun h => absurd h hg, Ext.refl _⟩)
    obtain rfl := h31_ hg
    obtain rfl := h32_ hg
    refine (does_bne (p := (cntOkS sa sb)) (q := (cntOkS sa sb)) Try.underlying4 (ev rfl) (ev rfl)).mono ?_; rintro _ _ ⟨rfl, rfl⟩
    exact ⟨fun _ => (by first | rfl | (show _ = _; simp only [hβ2])), Ext.refl _⟩
  refine RW_d (fun v27 => [(.string sa), (.string sb), Ud, Ud, (Bo false), (Iv (cntRes sa sb)), (Bo (cntOkS sa sb)), (Iv (cntRes sa sb)), (Bo (cntOkS sa sb)), (.string sa), (Iv (sa.size : Int)), (Bo (icmp .gtr (sa.size : Int) 1048576)), (.string sb), (Iv (sb.size : Int)), (Bo (icmp .gtr (sb.size : Int) 1048576)), (.tuple #[(Iv (cntRes sa sb)), (Bo (cntOkS sa sb))]), (.string sa), (.string sb), (.tuple #[(Iv (cntRes sa sb)), (Bo (cntOkS sa sb))]), (Iv (cntRes sa sb)), (Bo (cntOkS sa sb)), (.tuple #[(Iv (cntRes sa sb)), (Bo (cntOkS sa sb))]), (.string sa), (.string sb), (.tuple #[(Iv (cntRes sa sb)), (Bo (cntOkS sa sb))]), (Iv (cntRes sa sb)), (Bo (cntOkS sa sb)), v20, v21, v22, v23, v24, v25, v26, v27]) rfl (fun _ => rfl) (fun u hu hF => ?_) (fun v27 => ?_)
  · have h30_ : v23 = (Bo β1) := hF.1
    have h33_ : β1 = false → v26 = (Bo β2) := hF.2.1
    clear hF
    obtain rfl := h30_
    refine doesG_un rfl ((does_pick (b := β1) (ev rfl) (ev rfl) (ev rfl)).mono ?_); rintro _ _ ⟨rfl, rfl⟩; refine ⟨?_, Ext.refl _⟩; skip
    cases hbb : β1 <;> simp [hbb] at h33_ ⊢
    all_goals (first | rfl | (subst h33_; rfl) | simp_all)
  refine RW_fin ?_; intro w28 E29 hP30
  obtain ⟨⟨⟨⟨⟨⟨⟨⟨-, -⟩, -⟩, -⟩, -⟩, -⟩, -⟩, -⟩, q31⟩ := hP30
  have X32 := Ext.gr X17 E29
  have q31 : v27 = (Bo (β1 || β2)) := q31
  obtain rfl := q31
  show wpList _ _ _ _ (fr [(.string sa), (.string sb), Ud, Ud, (Bo false), (Iv (cntRes sa sb)), (Bo (cntOkS sa sb)), (Iv (cntRes sa sb)), (Bo (cntOkS sa sb)), (.string sa), (Iv (sa.size : Int)), (Bo (icmp .gtr (sa.size : Int) 1048576)), (.string sb), (Iv (sb.size : Int)), (Bo (icmp .gtr (sb.size : Int) 1048576)), (.tuple #[(Iv (cntRes sa sb)), (Bo (cntOkS sa sb))]), (.string sa), (.string sb), (.tuple #[(Iv (cntRes sa sb)), (Bo (cntOkS sa sb))]), (Iv (cntRes sa sb)), (Bo (cntOkS sa sb)), (.tuple #[(Iv (cntRes sa sb)), (Bo (cntOkS sa sb))]), (.string sa), (.string sb), (.tuple #[(Iv (cntRes sa sb)), (Bo (cntOkS sa sb))]), (Iv (cntRes sa sb)), (Bo (cntOkS sa sb)), v20, v21, v22, v23, v24, v25, v26, (Bo (β1 || β2))]) _
  refine wpList_nil (hK19 _ _ ?_)
  refine wp_cond_split (t := β1 || β2) (ev rfl) (fun c33 => ?_) (fun c33 => ?_)
  · have c33' := c33
    (try simp only [hβ1, hβ2] at c33')
    (try simp only [icmp, Bool.and_eq_true, Bool.or_eq_true, Bool.and_eq_false_iff, Bool.or_eq_false_iff, Bool.not_eq_true', Bool.not_eq_false', decide_eq_true_eq, decide_eq_false_iff_not, beq_iff_eq, bne_iff_ne, beq_eq_false_iff_ne, bne_eq_false_iff_eq] at c33')
    refine wp_seq_k fun K34 hK34 => ?_
    refine wp_region_lit ?_
    refine q_is (l' := [(.string sa), (.string sb), Ud, Ud, (Bo false), (Iv (cntRes sa sb)), (Bo (cntOkS sa sb)), (Iv (cntRes sa sb)), (Bo (cntOkS sa sb)), (.string sa), (Iv (sa.size : Int)), (Bo (icmp .gtr (sa.size : Int) 1048576)), (.string sb), (Iv (sb.size : Int)), (Bo (icmp .gtr (sb.size : Int) 1048576)), (.tuple #[(Iv (cntRes sa sb)), (Bo (cntOkS sa sb))]), (.string sa), (.string sb), (.tuple #[(Iv (cntRes sa sb)), (Bo (cntOkS sa sb))]), (Iv (cntRes sa sb)), (Bo (cntOkS sa sb)), (.tuple #[(Iv (cntRes sa sb)), (Bo (cntOkS sa sb))]), (.string sa), (.string sb), (.tuple #[(Iv (cntRes sa sb)), (Bo (cntOkS sa sb))]), (Iv (cntRes sa sb)), (Bo (cntOkS sa sb)), v20, v21, v22, v23, v24, v25, v26, (Bo (β1 || β2))]) rfl rfl (does_assign (u := (Bo false)) (ev rfl)) rfl ?_
    refine wpList_nil (hK34 _ _ ?_)
    refine wp_ret ?_
    dsimp only [Exit.then, Exit.inBlock]
    refine ret_val (v := (Bo false)) (res_T rfl (slot rfl)) X32 ?_
    try simp only [hβ1, hβ2] at c4 c8 c33
    have x35 : true = false := by first | rfl | (simp only [bne_self_eq_false, icmp, hβ1, hβ2, c4, c8, c33]; done) | (simp [bne_self_eq_false, icmp, hβ1, hβ2, c4, c8, c33]; done) | (revert c4 c8 c33; simp +contextual [bne_self_eq_false, icmp, hβ1, hβ2]; done) | (rcases c4' with hh | hh <;> simp only [hh, bne_self_eq_false, icmp, hβ1, hβ2, c4, c8, c33]; done) | (rcases c8' with hh | hh <;> simp only [hh, bne_self_eq_false, icmp, hβ1, hβ2, c4, c8, c33]; done) | (rcases c33' with hh | hh <;> simp only [hh, bne_self_eq_false, icmp, hβ1, hβ2, c4, c8, c33]; done) | (rcases c33' with hh | hh <;> simp_all [bne_self_eq_false, icmp]; done) | (rcases c33' with hh | hh | hh <;> simp_all [bne_self_eq_false, icmp]; done) | (rcases c33' with hh | hh | hh | hh <;> simp_all [bne_self_eq_false, icmp]; done) | (simp_all [bne_self_eq_false, icmp]; done)
    exact (by first | rfl | rw [x35])
  have c33' := c33
  (try simp only [hβ1, hβ2] at c33')
  (try simp only [icmp, Bool.and_eq_true, Bool.or_eq_true, Bool.and_eq_false_iff, Bool.or_eq_false_iff, Bool.not_eq_true', Bool.not_eq_false', decide_eq_true_eq, decide_eq_false_iff_not, beq_iff_eq, bne_iff_ne, beq_eq_false_iff_ne, bne_eq_false_iff_eq] at c33')
  refine wp_skip (hK18 _ _ ?_)
  refine wp_seq_k fun K36 hK36 => ?_
  refine wp_region_lit ?_
  refine q_is (l' := [(.string sa), (.string sb), Ud, Ud, (Bo true), (Iv (cntRes sa sb)), (Bo (cntOkS sa sb)), (Iv (cntRes sa sb)), (Bo (cntOkS sa sb)), (.string sa), (Iv (sa.size : Int)), (Bo (icmp .gtr (sa.size : Int) 1048576)), (.string sb), (Iv (sb.size : Int)), (Bo (icmp .gtr (sb.size : Int) 1048576)), (.tuple #[(Iv (cntRes sa sb)), (Bo (cntOkS sa sb))]), (.string sa), (.string sb), (.tuple #[(Iv (cntRes sa sb)), (Bo (cntOkS sa sb))]), (Iv (cntRes sa sb)), (Bo (cntOkS sa sb)), (.tuple #[(Iv (cntRes sa sb)), (Bo (cntOkS sa sb))]), (.string sa), (.string sb), (.tuple #[(Iv (cntRes sa sb)), (Bo (cntOkS sa sb))]), (Iv (cntRes sa sb)), (Bo (cntOkS sa sb)), v20, v21, v22, v23, v24, v25, v26, (Bo (β1 || β2))]) rfl rfl (does_assign (u := (Bo true)) (ev rfl)) rfl ?_
  refine wpList_nil (hK36 _ _ ?_)
  refine wp_ret ?_
  refine ret_val (v := (Bo true)) (res_T rfl (slot rfl)) X32 ?_
  try simp only [hβ1, hβ2] at c4 c8 c33
  exact rfl

end Go.Proofs.Ythmejogjmjjmgaa
