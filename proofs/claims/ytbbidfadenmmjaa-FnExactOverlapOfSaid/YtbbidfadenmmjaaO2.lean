/- contracts of functions, each walked once -/
import Derived.Test.YtbbidfadenmmjaaO
namespace Go.Proofs.Ytbbidfadenmmjaa
open Go Go.RowKit
set_option maxRecDepth 100000
set_option maxHeartbeats 3200000
set_option linter.unusedVariables false
set_option linter.unusedSimpArgs false

/- impl.IsFinite -/
theorem c_impl_IsFinite (x : Nat) (w : World) : Gives Try.prog 104 #[(Fl x)] w (fun v w' => v = (Bo (finF (cf .f32 x)))) := by
  refine enter [(Fl x), Ud, Ud, Ud, Ud, Ud, Ud] Try.func104 rfl Try.ntmps104 rfl ?_
  refine wp_seq_k fun K1 hK1 => ?_
  refine wp_region_lit ?_
  refine q_is (l' := [(Fl x), Ud, (Bo false), Ud, Ud, Ud, Ud]) rfl rfl (does_assign (u := (Bo false)) (ev rfl)) rfl ?_
  refine wpList_nil (hK1 _ _ ?_)
  refine wp_seq_k fun K2 hK2 => ?_
  refine wp_region_lit ?_
  refine q_is (l' := [(Fl x), Ud, (Bo false), (Fl x), Ud, Ud, Ud]) rfl rfl (does_move (u := (Fl x)) (ev rfl)) rfl ?_
  refine q_is (l' := [(Fl x), Ud, (Bo false), (Fl x), (Fl x), Ud, Ud]) rfl rfl (does_move (u := (Fl x)) (ev rfl)) rfl ?_
  refine seqd rfl rfl (does_float (.inr (.inl rfl)) (ev rfl) (ev rfl)) ?_; rintro _ w6 ⟨r3, rfl, h4, E5⟩
  have X7 := Ext.gr (Ext.refl w) E5
  show wpList _ _ _ _ (fr [(Fl x), Ud, (Bo false), (Fl x), (Fl x), (Fl r3), Ud]) _
  refine q_is (l' := [(Fl x), Ud, (Bo false), (Fl x), (Fl x), (Fl r3), (Bo (fcmp .eql (ford .f32 (cf .f32 r3) (cf .f32 0))))]) rfl rfl (does_fcmp (.inl rfl) (ev rfl) (ev rfl)) rfl ?_
  refine q_is (l' := [(Fl x), Ud, (Bo (fcmp .eql (ford .f32 (cf .f32 r3) (cf .f32 0)))), (Fl x), (Fl x), (Fl r3), (Bo (fcmp .eql (ford .f32 (cf .f32 r3) (cf .f32 0))))]) rfl rfl (does_assign (u := (Bo (fcmp .eql (ford .f32 (cf .f32 r3) (cf .f32 0))))) (ev rfl)) rfl ?_
  refine wpList_nil (hK2 _ _ ?_)
  refine wp_ret ?_
  refine ret_val (v := (Bo (fcmp .eql (ford .f32 (cf .f32 r3) (cf .f32 0))))) (res_T rfl (slot rfl)) X7 ?_
  have x8 : (finF (cf .f32 x)) = (fcmp .eql (ford .f32 (cf .f32 r3) (cf .f32 0))) := by first | with_reducible rfl | (simp only [finF, h4]; done) | (simp [finF, h4]; done) | rfl
  exact (by first | rfl | rw [x8])

/- impl.ballsOk$1 -/
theorem c_impl_ballsOk_1 (x : Nat) (w : World) : Gives Try.prog 109 #[(Fl x)] w (fun v w' => v = (Bo (badR (cf .f32 x)))) := by
  refine enter [(Fl x), Ud, Ud, Ud, Ud, Ud, Ud, Ud, Ud, Ud] Try.func109 rfl Try.ntmps109 rfl ?_
  refine wp_seq_k fun K1 hK1 => ?_
  refine wp_region_lit ?_
  refine q_is (l' := [(Fl x), Ud, (Bo false), Ud, Ud, Ud, Ud, Ud, Ud, Ud]) rfl rfl (does_assign (u := (Bo false)) (ev rfl)) rfl ?_
  refine wpList_nil (hK1 _ _ ?_)
  refine wp_seq_k fun K2 hK2 => ?_
  obtain ⟨β1, hβ1⟩ : ∃ b : Bool, b = (fcmp .lss (ford .f32 (cf .f32 x) (cf .f32 0))) := ⟨_, rfl⟩
  obtain ⟨β2, hβ2⟩ : ∃ b : Bool, b = ((!(finF (cf .f32 x))) || β1) := ⟨_, rfl⟩
  refine region_text (
    [Fact.pure [] (fun v => v = (Fl x)),
    Fact.pure [3] (fun v => v = (Bo (finF (cf .f32 x)))),
    Fact.pure [4] (fun v => v = (Bo (!(finF (cf .f32 x))))),
    Fact.pure [5] (fun v => v = (Bo (!(finF (cf .f32 x))))),
    Fact.pure [6] (fun v => (!(finF (cf .f32 x))) = false → v = (Fl x)),
    Fact.pure [7, 6] (fun v => (!(finF (cf .f32 x))) = false → v = (Bo β1)),
    Fact.pure [6, 8] (fun v => v = (Bo β2))]) (by simp [Fact.pure, Fact.mem]) ?_
  refine RW_d (fun v3 => [(Fl x), Ud, (Bo false), v3, Ud, Ud, Ud, Ud, Ud, Ud]) rfl (fun _ => rfl) (fun u hu hF => ?_) (fun v3 => ?_)
  · clear hF
    refine doesG_un rfl ?_
    refine (does_move (u := (Fl x)) (ev rfl)).mono ?_; rintro _ _ ⟨rfl, rfl⟩
    exact ⟨rfl, Ext.refl _⟩
  refine RW_d (fun v4 => [(Fl x), Ud, (Bo false), v3, v4, Ud, Ud, Ud, Ud, Ud]) rfl (fun _ => rfl) (fun u hu hF => ?_) (fun v4 => ?_)
  · have h3_ : v3 = (Fl x) := hF.1
    clear hF
    refine doesG_un rfl ?_
    obtain rfl := h3_
    refine (does_call (args := #[(Fl x)]) cal104 (evs rfl) (c_impl_IsFinite x _)).mono ?_; rintro v u' ⟨hx, hv⟩
    exact ⟨hv, hx⟩
  refine RW_d (fun v5 => [(Fl x), Ud, (Bo false), v3, v4, v5, Ud, Ud, Ud, Ud]) rfl (fun _ => rfl) (fun u hu hF => ?_) (fun v5 => ?_)
  · have h4_ : v4 = (Bo (finF (cf .f32 x))) := hF.1
    clear hF
    refine doesG_un rfl ?_
    obtain rfl := h4_
    refine (does_not (ev rfl)).mono ?_; rintro _ _ ⟨rfl, rfl⟩
    exact ⟨rfl, Ext.refl _⟩
  refine RW_d (fun v6 => [(Fl x), Ud, (Bo false), v3, v4, v5, v6, Ud, Ud, Ud]) rfl (fun _ => rfl) (fun u hu hF => ?_) (fun v6 => ?_)
  · have h5_ : v5 = (Bo (!(finF (cf .f32 x)))) := hF.1
    clear hF
    refine doesG_un rfl ?_
    obtain rfl := h5_
    refine (does_move (u := (Bo (!(finF (cf .f32 x))))) (ev rfl)).mono ?_; rintro _ _ ⟨rfl, rfl⟩
    exact ⟨rfl, Ext.refl _⟩
  refine RW_d (fun v7 => [(Fl x), Ud, (Bo false), v3, v4, v5, v6, v7, Ud, Ud]) rfl (fun _ => rfl) (fun u hu hF => ?_) (fun v7 => ?_)
  · have h6_ : v6 = (Bo (!(finF (cf .f32 x)))) := hF.1
    clear hF
    obtain rfl := h6_
    refine doesG_g (b := (!(finF (cf .f32 x)))) rfl (yld rfl rfl) (fun hg1 => ?_) (fun hc => ⟨fun hg1 => absurd hg1 hc, Ext.refl _⟩)
    refine (does_move (u := (Fl x)) (ev rfl)).mono ?_; rintro _ _ ⟨rfl, rfl⟩
    exact ⟨fun _ => rfl, Ext.refl _⟩
  refine RW_d (fun v8 => [(Fl x), Ud, (Bo false), v3, v4, v5, v6, v7, v8, Ud]) rfl (fun _ => rfl) (fun u hu hF => ?_) (fun v8 => ?_)
  · have h7_ : (!(finF (cf .f32 x))) = false → v7 = (Fl x) := hF.1
    have h6_ : v6 = (Bo (!(finF (cf .f32 x)))) := hF.2.1
    clear hF
    obtain rfl := h6_
    refine doesG_g (b := (!(finF (cf .f32 x)))) rfl (yld rfl rfl) (fun hg1 => ?_) (fun hc => ⟨fun hg1 => absurd hg1 hc, Ext.refl _⟩)
    obtain rfl := h7_ hg1
    refine (does_fcmp (.inr (.inr (.inl rfl))) (ev rfl) (ev rfl)).mono ?_; rintro _ _ ⟨rfl, rfl⟩
    exact ⟨fun _ => (by first | rfl | (show _ = _; simp only [hβ1])), Ext.refl _⟩
  refine RW_d (fun v9 => [(Fl x), Ud, (Bo false), v3, v4, v5, v6, v7, v8, v9]) rfl (fun _ => rfl) (fun u hu hF => ?_) (fun v9 => ?_)
  · have h6_ : v6 = (Bo (!(finF (cf .f32 x)))) := hF.1
    have h8_ : (!(finF (cf .f32 x))) = false → v8 = (Bo β1) := hF.2.1
    clear hF
    refine doesG_un rfl ?_
    skip
    obtain rfl := h6_
    refine (does_pick (b := (!(finF (cf .f32 x)))) (ev rfl) (ev rfl) (ev rfl)).mono ?_; rintro _ _ ⟨rfl, rfl⟩; refine ⟨?_, Ext.refl _⟩; rw [hβ2]; skip
    cases hbb : (!(finF (cf .f32 x))) <;> simp [hbb] at h8_ ⊢
    all_goals (first | rfl | (subst h8_; rfl) | simp_all)
  refine RW_fin ?_; intro w10 E11 hP12
  obtain ⟨⟨⟨⟨⟨⟨⟨-, -⟩, -⟩, -⟩, -⟩, -⟩, -⟩, q13⟩ := hP12
  have X14 := Ext.gr (Ext.refl w) E11
  have q13 : v9 = (Bo β2) := q13
  obtain rfl := q13
  show wpList _ _ _ _ (fr [(Fl x), Ud, (Bo false), v3, v4, v5, v6, v7, v8, (Bo β2)]) _
  refine q_is (l' := [(Fl x), Ud, (Bo β2), v3, v4, v5, v6, v7, v8, (Bo β2)]) rfl rfl (does_assign (u := (Bo β2)) (ev rfl)) rfl ?_
  refine wpList_nil (hK2 _ _ ?_)
  refine wp_ret ?_
  refine ret_val (v := (Bo β2)) (res_T rfl (slot rfl)) X14 ?_
  have x15 : (badR (cf .f32 x)) = β2 := by first | with_reducible rfl | (simp only [badR, negF, hβ1, hβ2]; done) | (simp [badR, negF, hβ1, hβ2]; done) | rfl
  exact (by first | rfl | rw [x15])

/- impl.ballsOk -/
theorem c_impl_ballsOk (ctr : Value) (L_ctr : List V3) (rad : Value) (L_rad : List Nat) (w : World) (hv_ctr : Sl RV3 3 w ctr L_ctr) (hv_rad : Sl RF 1 w rad L_rad) : Gives Try.prog 80 #[ctr, rad] w (fun v w' => v = (Bo (okBalls L_ctr L_rad))) := by
  have hlen_ctr := Sl.len hv_ctr; obtain ⟨p_ctr, q_ctr, rfl⟩ := Sl.shape hv_ctr
  have hlen_rad := Sl.len hv_rad; obtain ⟨p_rad, q_rad, rfl⟩ := Sl.shape hv_rad
  refine enter [(.slice p_ctr L_ctr.length q_ctr), (.slice p_rad L_rad.length q_rad), Ud, Ud, Ud, Ud, Ud, Ud, Ud, Ud, Ud, Ud, Ud, Ud, Ud, Ud, Ud, Ud, Ud, Ud, Ud, Ud] Try.func80 rfl Try.ntmps80 rfl ?_
  refine wp_seq_k fun K1 hK1 => ?_
  refine wp_region_lit ?_
  refine q_is (l' := [(.slice p_ctr L_ctr.length q_ctr), (.slice p_rad L_rad.length q_rad), Ud, Ud, (Bo false), Ud, Ud, Ud, Ud, Ud, Ud, Ud, Ud, Ud, Ud, Ud, Ud, Ud, Ud, Ud, Ud, Ud]) rfl rfl (does_assign (u := (Bo false)) (ev rfl)) rfl ?_
  refine wpList_nil (hK1 _ _ ?_)
  refine wp_seq_k fun K2 hK2 => ?_
  refine wp_region_lit ?_
  refine q_is (l' := [(.slice p_ctr L_ctr.length q_ctr), (.slice p_rad L_rad.length q_rad), Ud, Ud, (Bo false), Ud, (.slice p_rad L_rad.length q_rad), Ud, Ud, Ud, Ud, Ud, Ud, Ud, Ud, Ud, Ud, Ud, Ud, Ud, Ud, Ud]) rfl rfl (does_move (u := (.slice p_rad L_rad.length q_rad)) (ev rfl)) rfl ?_
  refine seqd rfl rfl (does_call (args := #[(.slice p_rad L_rad.length q_rad), (.func (.func 109) #[] #[])]) cal108 (evs rfl) (c_slices_ContainsFunc_float32_float32 (.slice p_rad L_rad.length q_rad) L_rad (.func (.func 109) #[] #[]) (fun x => badR x) _ hv_rad ⟨109, #[], #[], rfl, cal109, fun r u hu' => by simpa using (c_impl_ballsOk_1 r u)⟩)) ?_; rintro _ w4 ⟨E3, rfl⟩
  have X5 := Ext.gr (Ext.refl w) E3
  show wpList _ _ _ _ (fr [(.slice p_ctr L_ctr.length q_ctr), (.slice p_rad L_rad.length q_rad), Ud, Ud, (Bo false), Ud, (.slice p_rad L_rad.length q_rad), (Bo (L_rad.any (fun x => badR x))), Ud, Ud, Ud, Ud, Ud, Ud, Ud, Ud, Ud, Ud, Ud, Ud, Ud, Ud]) _
  refine q_is (l' := [(.slice p_ctr L_ctr.length q_ctr), (.slice p_rad L_rad.length q_rad), Ud, Ud, (Bo false), (Bo (L_rad.any (fun x => badR x))), (.slice p_rad L_rad.length q_rad), (Bo (L_rad.any (fun x => badR x))), Ud, Ud, Ud, Ud, Ud, Ud, Ud, Ud, Ud, Ud, Ud, Ud, Ud, Ud]) rfl rfl (does_assign (u := (Bo (L_rad.any (fun x => badR x)))) (ev rfl)) rfl ?_
  refine wpList_nil (hK2 _ _ ?_)
  refine wp_seq_k fun K6 hK6 => ?_
  obtain ⟨β1, hβ1⟩ : ∃ b : Bool, b = (L_rad.any (fun x => badR x)) := ⟨_, rfl⟩
  obtain ⟨β2, hβ2⟩ : ∃ b : Bool, b = (inI (L_ctr.length : Int) 1 16) := ⟨_, rfl⟩
  obtain ⟨β3, hβ3⟩ : ∃ b : Bool, b = (icmp .eql (L_rad.length : Int) (L_ctr.length : Int)) := ⟨_, rfl⟩
  refine region_text (
    [Fact.pure [] (fun v => v = (Bo β1)),
    Fact.pure [8] (fun v => v = (Bo (!β1))),
    Fact.pure [9] (fun v => v = (Bo (!β1))),
    Fact.pure [10] (fun v => (!β1) = true → v = (.slice p_ctr L_ctr.length q_ctr)),
    Fact.pure [11, 10] (fun v => (!β1) = true → v = (Iv (L_ctr.length : Int))),
    Fact.pure [12, 10] (fun v => (!β1) = true → v = (Bo β2)),
    Fact.pure [10, 13] (fun v => v = (Bo ((!β1) && β2))),
    Fact.pure [14] (fun v => v = (Bo ((!β1) && β2))),
    Fact.pure [15] (fun v => ((!β1) && β2) = true → v = (.slice p_rad L_rad.length q_rad)),
    Fact.pure [16, 15] (fun v => ((!β1) && β2) = true → v = (Iv (L_rad.length : Int))),
    Fact.pure [15] (fun v => ((!β1) && β2) = true → v = (.slice p_ctr L_ctr.length q_ctr)),
    Fact.pure [18, 15] (fun v => ((!β1) && β2) = true → v = (Iv (L_ctr.length : Int))),
    Fact.pure [17, 19, 15] (fun v => ((!β1) && β2) = true → v = (Bo β3)),
    Fact.pure [15, 20] (fun v => v = (Bo (((!β1) && β2) && β3)))]) (by simp [Fact.pure, Fact.mem]) ?_
  refine RW_d (fun v7 => [(.slice p_ctr L_ctr.length q_ctr), (.slice p_rad L_rad.length q_rad), Ud, Ud, (Bo false), (Bo (L_rad.any (fun x => badR x))), (.slice p_rad L_rad.length q_rad), (Bo (L_rad.any (fun x => badR x))), v7, Ud, Ud, Ud, Ud, Ud, Ud, Ud, Ud, Ud, Ud, Ud, Ud, Ud]) rfl (fun _ => rfl) (fun u hu hF => ?_) (fun v7 => ?_)
  · clear hF
    refine doesG_un rfl ?_
    refine (does_move (u := (Bo (L_rad.any (fun x => badR x)))) (ev rfl)).mono ?_; rintro _ _ ⟨rfl, rfl⟩
    exact ⟨(by first | rfl | (show _ = _; simp only [hβ1])), Ext.refl _⟩
  refine RW_d (fun v8 => [(.slice p_ctr L_ctr.length q_ctr), (.slice p_rad L_rad.length q_rad), Ud, Ud, (Bo false), (Bo (L_rad.any (fun x => badR x))), (.slice p_rad L_rad.length q_rad), (Bo (L_rad.any (fun x => badR x))), v7, v8, Ud, Ud, Ud, Ud, Ud, Ud, Ud, Ud, Ud, Ud, Ud, Ud]) rfl (fun _ => rfl) (fun u hu hF => ?_) (fun v8 => ?_)
  · have h8_ : v7 = (Bo β1) := hF.1
    clear hF
    refine doesG_un rfl ?_
    obtain rfl := h8_
    refine (does_not (ev rfl)).mono ?_; rintro _ _ ⟨rfl, rfl⟩
    exact ⟨rfl, Ext.refl _⟩
  refine RW_d (fun v9 => [(.slice p_ctr L_ctr.length q_ctr), (.slice p_rad L_rad.length q_rad), Ud, Ud, (Bo false), (Bo (L_rad.any (fun x => badR x))), (.slice p_rad L_rad.length q_rad), (Bo (L_rad.any (fun x => badR x))), v7, v8, v9, Ud, Ud, Ud, Ud, Ud, Ud, Ud, Ud, Ud, Ud, Ud]) rfl (fun _ => rfl) (fun u hu hF => ?_) (fun v9 => ?_)
  · have h9_ : v8 = (Bo (!β1)) := hF.1
    clear hF
    refine doesG_un rfl ?_
    obtain rfl := h9_
    refine (does_move (u := (Bo (!β1))) (ev rfl)).mono ?_; rintro _ _ ⟨rfl, rfl⟩
    exact ⟨rfl, Ext.refl _⟩
  refine RW_d (fun v10 => [(.slice p_ctr L_ctr.length q_ctr), (.slice p_rad L_rad.length q_rad), Ud, Ud, (Bo false), (Bo (L_rad.any (fun x => badR x))), (.slice p_rad L_rad.length q_rad), (Bo (L_rad.any (fun x => badR x))), v7, v8, v9, v10, Ud, Ud, Ud, Ud, Ud, Ud, Ud, Ud, Ud, Ud]) rfl (fun _ => rfl) (fun u hu hF => ?_) (fun v10 => ?_)
  · have h10_ : v9 = (Bo (!β1)) := hF.1
    clear hF
    obtain rfl := h10_
    refine doesG_g (b := (!β1)) rfl (yld rfl rfl) (fun hg1 => ?_) (fun hc => ⟨fun hg1 => absurd hg1 hc, Ext.refl _⟩)
    refine (does_move (u := (.slice p_ctr L_ctr.length q_ctr)) (ev rfl)).mono ?_; rintro _ _ ⟨rfl, rfl⟩
    exact ⟨fun _ => rfl, Ext.refl _⟩
  refine RW_d (fun v11 => [(.slice p_ctr L_ctr.length q_ctr), (.slice p_rad L_rad.length q_rad), Ud, Ud, (Bo false), (Bo (L_rad.any (fun x => badR x))), (.slice p_rad L_rad.length q_rad), (Bo (L_rad.any (fun x => badR x))), v7, v8, v9, v10, v11, Ud, Ud, Ud, Ud, Ud, Ud, Ud, Ud, Ud]) rfl (fun _ => rfl) (fun u hu hF => ?_) (fun v11 => ?_)
  · have h11_ : (!β1) = true → v10 = (.slice p_ctr L_ctr.length q_ctr) := hF.1
    have h10_ : v9 = (Bo (!β1)) := hF.2.1
    clear hF
    obtain rfl := h10_
    refine doesG_g (b := (!β1)) rfl (yld rfl rfl) (fun hg1 => ?_) (fun hc => ⟨fun hg1 => absurd hg1 hc, Ext.refl _⟩)
    obtain rfl := h11_ hg1
    refine (does_len_slice Try.underlying31 (ev rfl)).mono ?_; rintro _ _ ⟨rfl, rfl⟩
    exact ⟨fun _ => rfl, Ext.refl _⟩
  refine RW_d (fun v12 => [(.slice p_ctr L_ctr.length q_ctr), (.slice p_rad L_rad.length q_rad), Ud, Ud, (Bo false), (Bo (L_rad.any (fun x => badR x))), (.slice p_rad L_rad.length q_rad), (Bo (L_rad.any (fun x => badR x))), v7, v8, v9, v10, v11, v12, Ud, Ud, Ud, Ud, Ud, Ud, Ud, Ud]) rfl (fun _ => rfl) (fun u hu hF => ?_) (fun v12 => ?_)
  · have h12_ : (!β1) = true → v11 = (Iv (L_ctr.length : Int)) := hF.1
    have h10_ : v9 = (Bo (!β1)) := hF.2.1
    clear hF
    obtain rfl := h10_
    refine doesG_g (b := (!β1)) rfl (yld rfl rfl) (fun hg1 => ?_) (fun hc => ⟨fun hg1 => absurd hg1 hc, Ext.refl _⟩)
    obtain rfl := h12_ hg1
    refine (does_call (args := #[(Iv (L_ctr.length : Int)), (Iv 1), (Iv 16)]) cal56 (evs rfl) (c_impl_in (L_ctr.length : Int) 1 16 _)).mono ?_; rintro v u' ⟨hx, hv⟩
    exact ⟨fun _ => hv.trans (by simp only [hβ2]), hx⟩
  refine RW_d (fun v13 => [(.slice p_ctr L_ctr.length q_ctr), (.slice p_rad L_rad.length q_rad), Ud, Ud, (Bo false), (Bo (L_rad.any (fun x => badR x))), (.slice p_rad L_rad.length q_rad), (Bo (L_rad.any (fun x => badR x))), v7, v8, v9, v10, v11, v12, v13, Ud, Ud, Ud, Ud, Ud, Ud, Ud]) rfl (fun _ => rfl) (fun u hu hF => ?_) (fun v13 => ?_)
  · have h10_ : v9 = (Bo (!β1)) := hF.1
    have h13_ : (!β1) = true → v12 = (Bo β2) := hF.2.1
    clear hF
    refine doesG_un rfl ?_
    skip
    obtain rfl := h10_
    refine (does_pick (b := (!β1)) (ev rfl) (ev rfl) (ev rfl)).mono ?_; rintro _ _ ⟨rfl, rfl⟩; refine ⟨?_, Ext.refl _⟩; skip
    cases hbb : (!β1) <;> simp [hbb] at h13_ ⊢
    all_goals (first | rfl | (subst h13_; rfl) | simp_all)
  refine RW_d (fun v14 => [(.slice p_ctr L_ctr.length q_ctr), (.slice p_rad L_rad.length q_rad), Ud, Ud, (Bo false), (Bo (L_rad.any (fun x => badR x))), (.slice p_rad L_rad.length q_rad), (Bo (L_rad.any (fun x => badR x))), v7, v8, v9, v10, v11, v12, v13, v14, Ud, Ud, Ud, Ud, Ud, Ud]) rfl (fun _ => rfl) (fun u hu hF => ?_) (fun v14 => ?_)
  · have h14_ : v13 = (Bo ((!β1) && β2)) := hF.1
    clear hF
    refine doesG_un rfl ?_
    obtain rfl := h14_
    refine (does_move (u := (Bo ((!β1) && β2))) (ev rfl)).mono ?_; rintro _ _ ⟨rfl, rfl⟩
    exact ⟨rfl, Ext.refl _⟩
  refine RW_d (fun v15 => [(.slice p_ctr L_ctr.length q_ctr), (.slice p_rad L_rad.length q_rad), Ud, Ud, (Bo false), (Bo (L_rad.any (fun x => badR x))), (.slice p_rad L_rad.length q_rad), (Bo (L_rad.any (fun x => badR x))), v7, v8, v9, v10, v11, v12, v13, v14, v15, Ud, Ud, Ud, Ud, Ud]) rfl (fun _ => rfl) (fun u hu hF => ?_) (fun v15 => ?_)
  · have h15_ : v14 = (Bo ((!β1) && β2)) := hF.1
    clear hF
    obtain rfl := h15_
    refine doesG_g (b := ((!β1) && β2)) rfl (yld rfl rfl) (fun hg1 => ?_) (fun hc => ⟨fun hg1 => absurd hg1 hc, Ext.refl _⟩)
    refine (does_move (u := (.slice p_rad L_rad.length q_rad)) (ev rfl)).mono ?_; rintro _ _ ⟨rfl, rfl⟩
    exact ⟨fun _ => rfl, Ext.refl _⟩
  refine RW_d (fun v16 => [(.slice p_ctr L_ctr.length q_ctr), (.slice p_rad L_rad.length q_rad), Ud, Ud, (Bo false), (Bo (L_rad.any (fun x => badR x))), (.slice p_rad L_rad.length q_rad), (Bo (L_rad.any (fun x => badR x))), v7, v8, v9, v10, v11, v12, v13, v14, v15, v16, Ud, Ud, Ud, Ud]) rfl (fun _ => rfl) (fun u hu hF => ?_) (fun v16 => ?_)
  · have h16_ : ((!β1) && β2) = true → v15 = (.slice p_rad L_rad.length q_rad) := hF.1
    have h15_ : v14 = (Bo ((!β1) && β2)) := hF.2.1
    clear hF
    obtain rfl := h15_
    refine doesG_g (b := ((!β1) && β2)) rfl (yld rfl rfl) (fun hg1 => ?_) (fun hc => ⟨fun hg1 => absurd hg1 hc, Ext.refl _⟩)
    obtain rfl := h16_ hg1
    refine (does_len_slice Try.underlying75 (ev rfl)).mono ?_; rintro _ _ ⟨rfl, rfl⟩
    exact ⟨fun _ => rfl, Ext.refl _⟩
  refine RW_d (fun v17 => [(.slice p_ctr L_ctr.length q_ctr), (.slice p_rad L_rad.length q_rad), Ud, Ud, (Bo false), (Bo (L_rad.any (fun x => badR x))), (.slice p_rad L_rad.length q_rad), (Bo (L_rad.any (fun x => badR x))), v7, v8, v9, v10, v11, v12, v13, v14, v15, v16, v17, Ud, Ud, Ud]) rfl (fun _ => rfl) (fun u hu hF => ?_) (fun v17 => ?_)
  · have h15_ : v14 = (Bo ((!β1) && β2)) := hF.1
    clear hF
    obtain rfl := h15_
    refine doesG_g (b := ((!β1) && β2)) rfl (yld rfl rfl) (fun hg1 => ?_) (fun hc => ⟨fun hg1 => absurd hg1 hc, Ext.refl _⟩)
    refine (does_move (u := (.slice p_ctr L_ctr.length q_ctr)) (ev rfl)).mono ?_; rintro _ _ ⟨rfl, rfl⟩
    exact ⟨fun _ => rfl, Ext.refl _⟩
  refine RW_d (fun v18 => [(.slice p_ctr L_ctr.length q_ctr), (.slice p_rad L_rad.length q_rad), Ud, Ud, (Bo false), (Bo (L_rad.any (fun x => badR x))), (.slice p_rad L_rad.length q_rad), (Bo (L_rad.any (fun x => badR x))), v7, v8, v9, v10, v11, v12, v13, v14, v15, v16, v17, v18, Ud, Ud]) rfl (fun _ => rfl) (fun u hu hF => ?_) (fun v18 => ?_)
  · have h18_ : ((!β1) && β2) = true → v17 = (.slice p_ctr L_ctr.length q_ctr) := hF.1
    have h15_ : v14 = (Bo ((!β1) && β2)) := hF.2.1
    clear hF
    obtain rfl := h15_
    refine doesG_g (b := ((!β1) && β2)) rfl (yld rfl rfl) (fun hg1 => ?_) (fun hc => ⟨fun hg1 => absurd hg1 hc, Ext.refl _⟩)
    obtain rfl := h18_ hg1
    refine (does_len_slice Try.underlying31 (ev rfl)).mono ?_; rintro _ _ ⟨rfl, rfl⟩
    exact ⟨fun _ => rfl, Ext.refl _⟩
  refine RW_d (fun v19 => [(.slice p_ctr L_ctr.length q_ctr), (.slice p_rad L_rad.length q_rad), Ud, Ud, (Bo false), (Bo (L_rad.any (fun x => badR x))), (.slice p_rad L_rad.length q_rad), (Bo (L_rad.any (fun x => badR x))), v7, v8, v9, v10, v11, v12, v13, v14, v15, v16, v17, v18, v19, Ud]) rfl (fun _ => rfl) (fun u hu hF => ?_) (fun v19 => ?_)
  · have h17_ : ((!β1) && β2) = true → v16 = (Iv (L_rad.length : Int)) := hF.1
    have h19_ : ((!β1) && β2) = true → v18 = (Iv (L_ctr.length : Int)) := hF.2.1
    have h15_ : v14 = (Bo ((!β1) && β2)) := hF.2.2.1
    clear hF
    obtain rfl := h15_
    refine doesG_g (b := ((!β1) && β2)) rfl (yld rfl rfl) (fun hg1 => ?_) (fun hc => ⟨fun hg1 => absurd hg1 hc, Ext.refl _⟩)
    obtain rfl := h17_ hg1
    obtain rfl := h19_ hg1
    refine (does_icmp (p := (L_rad.length : Int)) (q := (L_ctr.length : Int)) (.inl rfl) (ev rfl) (ev rfl)).mono ?_; rintro _ _ ⟨rfl, rfl⟩
    exact ⟨fun _ => (by first | rfl | (show _ = _; simp only [hβ3])), Ext.refl _⟩
  refine RW_d (fun v20 => [(.slice p_ctr L_ctr.length q_ctr), (.slice p_rad L_rad.length q_rad), Ud, Ud, (Bo false), (Bo (L_rad.any (fun x => badR x))), (.slice p_rad L_rad.length q_rad), (Bo (L_rad.any (fun x => badR x))), v7, v8, v9, v10, v11, v12, v13, v14, v15, v16, v17, v18, v19, v20]) rfl (fun _ => rfl) (fun u hu hF => ?_) (fun v20 => ?_)
  · have h15_ : v14 = (Bo ((!β1) && β2)) := hF.1
    have h20_ : ((!β1) && β2) = true → v19 = (Bo β3) := hF.2.1
    clear hF
    refine doesG_un rfl ?_
    skip
    obtain rfl := h15_
    refine (does_pick (b := ((!β1) && β2)) (ev rfl) (ev rfl) (ev rfl)).mono ?_; rintro _ _ ⟨rfl, rfl⟩; refine ⟨?_, Ext.refl _⟩; skip
    cases hbb : ((!β1) && β2) <;> simp [hbb] at h20_ ⊢
    all_goals (first | rfl | (subst h20_; rfl) | simp_all)
  refine RW_fin ?_; intro w21 E22 hP23
  obtain ⟨⟨⟨⟨⟨⟨⟨⟨⟨⟨⟨⟨⟨⟨-, -⟩, -⟩, -⟩, -⟩, -⟩, -⟩, -⟩, -⟩, -⟩, -⟩, -⟩, -⟩, -⟩, q24⟩ := hP23
  have X25 := Ext.gr X5 E22
  have q24 : v20 = (Bo (((!β1) && β2) && β3)) := q24
  obtain rfl := q24
  show wpList _ _ _ _ (fr [(.slice p_ctr L_ctr.length q_ctr), (.slice p_rad L_rad.length q_rad), Ud, Ud, (Bo false), (Bo (L_rad.any (fun x => badR x))), (.slice p_rad L_rad.length q_rad), (Bo (L_rad.any (fun x => badR x))), v7, v8, v9, v10, v11, v12, v13, v14, v15, v16, v17, v18, v19, (Bo (((!β1) && β2) && β3))]) _
  refine q_is (l' := [(.slice p_ctr L_ctr.length q_ctr), (.slice p_rad L_rad.length q_rad), Ud, Ud, (Bo (((!β1) && β2) && β3)), (Bo (L_rad.any (fun x => badR x))), (.slice p_rad L_rad.length q_rad), (Bo (L_rad.any (fun x => badR x))), v7, v8, v9, v10, v11, v12, v13, v14, v15, v16, v17, v18, v19, (Bo (((!β1) && β2) && β3))]) rfl rfl (does_assign (u := (Bo (((!β1) && β2) && β3))) (ev rfl)) rfl ?_
  refine wpList_nil (hK6 _ _ ?_)
  refine wp_ret ?_
  refine ret_val (v := (Bo (((!β1) && β2) && β3))) (res_T rfl (slot rfl)) X25 ?_
  have x26 : (okBalls L_ctr L_rad) = (((!β1) && β2) && β3) := by simp only [okBalls, inI, okBalls, inI, hβ1, hβ2, hβ3]; first | rfl | ac_rfl
  exact (by first | rfl | rw [x26])

/- impl.ballPairs -/
theorem c_impl_ballPairs (n : Int) (w : World) (hn0 : 0 ≤ n ∧ n ≤ 16) : Gives Try.prog 81 #[(Iv n)] w (fun v w' => ∃ y_1 : Value, v = y_1 ∧ Hang w.heap.size w' (fun u => Sl RP 2 u y_1 (pairsTo n.toNat n.toNat))) := by
  refine enter [(Iv n), Ud, Ud, Ud, Ud, Ud, Ud, Ud, Ud, Ud, Ud, Ud, Ud, Ud, Ud, Ud, Ud, Ud, Ud, Ud, Ud, Ud, Ud, Ud, Ud, Ud] Try.func81 rfl Try.ntmps81 rfl ?_
  refine wp_seq_k fun K1 hK1 => ?_
  refine wp_region_lit ?_
  refine q_is (l' := [(Iv n), Ud, (.slice none 0 0), Ud, Ud, Ud, Ud, Ud, Ud, Ud, Ud, Ud, Ud, Ud, Ud, Ud, Ud, Ud, Ud, Ud, Ud, Ud, Ud, Ud, Ud, Ud]) rfl rfl (does_assign (u := (.slice none 0 0)) (ev rfl)) rfl ?_
  refine wpList_nil (hK1 _ _ ?_)
  refine wp_seq_k fun K2 hK2 => ?_
  refine wp_region_lit ?_
  refine seqd rfl rfl (does_slice0 (e := 115) (fun _ => by kernel_rfl)) ?_; rintro _ w8 ⟨b3, rfl, hb4, hl5, hO6, E7⟩
  have X9 := Ext.gr (Ext.refl w) E7
  have hO10 := hO6 _ RP 2
  have hH11 : Hang w.heap.size w8 (fun u => Sl RP 2 u (.slice (some ⟨b3, 0, none⟩) 0 0) ([])) := Own.hang hO10 RP.flat (by decide) hb4 (Below.size E7)
  show wpList _ _ _ _ (fr [(Iv n), Ud, (.slice none 0 0), Ud, Ud, Ud, (.slice (some ⟨b3, 0, none⟩) 0 0), Ud, Ud, Ud, Ud, Ud, Ud, Ud, Ud, Ud, Ud, Ud, Ud, Ud, Ud, Ud, Ud, Ud, Ud, Ud]) _
  refine q_is (l' := [(Iv n), Ud, (.slice none 0 0), (.slice (some ⟨b3, 0, none⟩) 0 0), Ud, Ud, (.slice (some ⟨b3, 0, none⟩) 0 0), Ud, Ud, Ud, Ud, Ud, Ud, Ud, Ud, Ud, Ud, Ud, Ud, Ud, Ud, Ud, Ud, Ud, Ud, Ud]) rfl rfl (does_assign (u := (.slice (some ⟨b3, 0, none⟩) 0 0)) (ev rfl)) rfl ?_
  refine wpList_nil (hK2 _ _ ?_)
  refine wp_seq_k fun K12 hK12 => ?_
  refine wp_seq_k fun K13 hK13 => ?_
  refine wp_region_lit ?_
  refine q_is (l' := [(Iv n), Ud, (.slice none 0 0), (.slice (some ⟨b3, 0, none⟩) 0 0), Ud, Ud, (.slice (some ⟨b3, 0, none⟩) 0 0), (Iv n), Ud, Ud, Ud, Ud, Ud, Ud, Ud, Ud, Ud, Ud, Ud, Ud, Ud, Ud, Ud, Ud, Ud, Ud]) rfl rfl (does_move (u := (Iv n)) (ev rfl)) rfl ?_
  refine q_is (l' := [(Iv n), Ud, (.slice none 0 0), (.slice (some ⟨b3, 0, none⟩) 0 0), Ud, Ud, (.slice (some ⟨b3, 0, none⟩) 0 0), (Iv n), (Iv 0), Ud, Ud, Ud, Ud, Ud, Ud, Ud, Ud, Ud, Ud, Ud, Ud, Ud, Ud, Ud, Ud, Ud]) rfl rfl (does_move (u := (Iv 0)) (ev rfl)) rfl ?_
  refine wpList_nil (hK13 _ _ ?_)
  refine wp_block ?_
  obtain ⟨gg15, hg16, hg17, hO18⟩ := Own.start hO10
  have hN19 : w.heap.size ≤ gg15 := by rcases hg16 with h | h; exact h ▸ hb4; exact Nat.le_trans (Below.size E7) h
  have g20 : w.heap.size ≤ gg15 := Nat.le_trans (Below.size (Ext.refl _)) hN19
  refine loop_ghost (σ := Nat) (fun k a w' => ∃ u14 : Nat → Value, ∃ y3 : Value, a = fr [(Iv n), Ud, (.slice none 0 0), y3, (u14 4), (u14 5), (.slice (some ⟨b3, 0, none⟩) 0 0), (Iv n), (Iv (k : Int)), (u14 9), (u14 10), (u14 11), (u14 12), (u14 13), (u14 14), (u14 15), (u14 16), (u14 17), (u14 18), (u14 19), (u14 20), (u14 21), (u14 22), (u14 23), (u14 24), Ud] ∧ KpL [gg15] w8 w' ∧ Own RP 2 115 gg15 w8.heap.size w' y3 (pairsTo n.toNat k) ∧ ((k : Int) ≤ n)) (fun k => n.toNat - k) 0 ?_ ?_
  · refine ⟨fun t => (([(Iv n), Ud, (.slice none 0 0), (.slice (some ⟨b3, 0, none⟩) 0 0), Ud, Ud, (.slice (some ⟨b3, 0, none⟩) 0 0), (Iv n), (Iv 0), Ud, Ud, Ud, Ud, Ud, Ud, Ud, Ud, Ud, Ud, Ud, Ud, Ud, Ud, Ud, Ud, Ud] : List Value)[t]?).getD undef, (.slice (some ⟨b3, 0, none⟩) 0 0), rfl, KpL.refl _ _, (Own.cast hO18 (by rfl)), ?_⟩
    exact hn0.1
  · rintro k a w21 ⟨u14, y3, rfl, E22, hO24, hk⟩
    have X25 := Below.kl X9 E22 (allS g20 all0) (Nat.le_refl _)
    obtain ⟨p26, q27, rfl⟩ := Own.shape hO24
    have hH28 : Hang w.heap.size w21 (fun u => Sl RP 2 u (.slice p26 ((pairsTo n.toNat k).length) q27) (pairsTo n.toNat k)) := Own.hang hO24 RP.flat (by decide) hN19 (Below.size E7)
    have hpl := pairsTo_len n.toNat (by omega) k
    refine wp_seq_k fun K29 hK29 => ?_
    refine wp_region_lit ?_
    refine q_is (l' := [(Iv n), Ud, (.slice none 0 0), (.slice p26 ((pairsTo n.toNat k).length) q27), (u14 4), (u14 5), (.slice (some ⟨b3, 0, none⟩) 0 0), (Iv n), (Iv (k : Int)), (Bo (icmp .lss (k : Int) n)), (u14 10), (u14 11), (u14 12), (u14 13), (u14 14), (u14 15), (u14 16), (u14 17), (u14 18), (u14 19), (u14 20), (u14 21), (u14 22), (u14 23), (u14 24), Ud]) rfl rfl (does_icmp (p := (k : Int)) (q := n) (.inr (.inr (.inl rfl))) (ev rfl) (ev rfl)) rfl ?_
    refine wpList_nil (hK29 _ _ ?_)
    refine wp_seq_k fun K30 hK30 => ?_
    refine wp_cond_split (t := icmp .lss (k : Int) n) (ev rfl) (fun c31 => ?_) (fun c31 => ?_)
    · have c31' := c31
      (try simp only [icmp, Bool.and_eq_true, Bool.or_eq_true, Bool.and_eq_false_iff, Bool.or_eq_false_iff, Bool.not_eq_true', Bool.not_eq_false', decide_eq_true_eq, decide_eq_false_iff_not, beq_iff_eq, bne_iff_ne, beq_eq_false_iff_ne, bne_eq_false_iff_eq] at c31')
      refine wp_skip (hK30 _ _ ?_)
      refine wp_seq_k fun K32 hK32 => ?_
      refine wp_block ?_
      refine wp_seq_k fun K33 hK33 => ?_
      refine wp_region_lit ?_
      refine q_is (l' := [(Iv n), Ud, (.slice none 0 0), (.slice p26 ((pairsTo n.toNat k).length) q27), (u14 4), (u14 5), (.slice (some ⟨b3, 0, none⟩) 0 0), (Iv n), (Iv (k : Int)), (Bo (icmp .lss (k : Int) n)), (Iv (k : Int)), (u14 11), (u14 12), (u14 13), (u14 14), (u14 15), (u14 16), (u14 17), (u14 18), (u14 19), (u14 20), (u14 21), (u14 22), (u14 23), (u14 24), Ud]) rfl rfl (does_move (u := (Iv (k : Int))) (ev rfl)) rfl ?_
      refine q_is (l' := [(Iv n), Ud, (.slice none 0 0), (.slice p26 ((pairsTo n.toNat k).length) q27), (Iv (k : Int)), (u14 5), (.slice (some ⟨b3, 0, none⟩) 0 0), (Iv n), (Iv (k : Int)), (Bo (icmp .lss (k : Int) n)), (Iv (k : Int)), (u14 11), (u14 12), (u14 13), (u14 14), (u14 15), (u14 16), (u14 17), (u14 18), (u14 19), (u14 20), (u14 21), (u14 22), (u14 23), (u14 24), Ud]) rfl rfl (does_assign (u := (Iv (k : Int))) (ev rfl)) rfl ?_
      refine wpList_nil (hK33 _ _ ?_)
      refine wp_seq_k fun K34 hK34 => ?_
      refine wp_region_lit ?_
      refine q_is (l' := [(Iv n), Ud, (.slice none 0 0), (.slice p26 ((pairsTo n.toNat k).length) q27), (Iv (k : Int)), (u14 5), (.slice (some ⟨b3, 0, none⟩) 0 0), (Iv n), (Iv (k : Int)), (Bo (icmp .lss (k : Int) n)), (Iv (k : Int)), (Iv (k : Int)), (u14 12), (u14 13), (u14 14), (u14 15), (u14 16), (u14 17), (u14 18), (u14 19), (u14 20), (u14 21), (u14 22), (u14 23), (u14 24), Ud]) rfl rfl (does_move (u := (Iv (k : Int))) (ev rfl)) rfl ?_
      refine q_is (l' := [(Iv n), Ud, (.slice none 0 0), (.slice p26 ((pairsTo n.toNat k).length) q27), (Iv (k : Int)), (u14 5), (.slice (some ⟨b3, 0, none⟩) 0 0), (Iv n), (Iv (k : Int)), (Bo (icmp .lss (k : Int) n)), (Iv (k : Int)), (Iv (k : Int)), (Iv ((k : Int) + 1)), (u14 13), (u14 14), (u14 15), (u14 16), (u14 17), (u14 18), (u14 19), (u14 20), (u14 21), (u14 22), (u14 23), (u14 24), Ud]) rfl rfl (does_iarith (p := (k : Int)) (q := 1) (r := (k : Int) + 1) (ev rfl) (ev rfl) (.inl ⟨rfl, (in_i64 (by omega) (by omega)).symm⟩)) rfl ?_
      refine q_is (l' := [(Iv n), Ud, (.slice none 0 0), (.slice p26 ((pairsTo n.toNat k).length) q27), (Iv (k : Int)), (Iv ((k : Int) + 1)), (.slice (some ⟨b3, 0, none⟩) 0 0), (Iv n), (Iv (k : Int)), (Bo (icmp .lss (k : Int) n)), (Iv (k : Int)), (Iv (k : Int)), (Iv ((k : Int) + 1)), (u14 13), (u14 14), (u14 15), (u14 16), (u14 17), (u14 18), (u14 19), (u14 20), (u14 21), (u14 22), (u14 23), (u14 24), Ud]) rfl rfl (does_assign (u := (Iv ((k : Int) + 1))) (ev rfl)) rfl ?_
      refine wpList_nil (hK34 _ _ ?_)
      refine wp_block ?_
      obtain ⟨gg36, hg37, hg38, hO39⟩ := Own.start hO24
      have hN40 : w.heap.size ≤ gg36 := by rcases hg37 with h | h; exact h ▸ hN19; exact Nat.le_trans (Below.size E7) h
      have g41 : w.heap.size ≤ gg36 := Nat.le_trans (Below.size (Ext.refl _)) hN40
      refine loop_ghost (σ := Nat) (fun j a w' => ∃ u35 : Nat → Value, ∃ y3 : Value, a = fr [(Iv n), Ud, (.slice none 0 0), y3, (Iv (k : Int)), (Iv (j : Int)), (.slice (some ⟨b3, 0, none⟩) 0 0), (Iv n), (Iv (k : Int)), (Bo (icmp .lss (k : Int) n)), (Iv (k : Int)), (Iv (k : Int)), (Iv ((k : Int) + 1)), (u35 13), (u35 14), (u35 15), (u35 16), (u35 17), (u35 18), (u35 19), (u35 20), (u35 21), (u35 22), (u35 23), (u14 24), Ud] ∧ KpL [gg36] w21 w' ∧ Own RP 2 115 gg36 w21.heap.size w' y3 (pairsTo n.toNat k ++ rowP k j) ∧ (k < j ∧ (j : Int) ≤ n)) (fun j => n.toNat - j) (k + 1) ?_ ?_
      · refine ⟨fun t => (([(Iv n), Ud, (.slice none 0 0), (.slice p26 ((pairsTo n.toNat k).length) q27), (Iv (k : Int)), (Iv ((k : Int) + 1)), (.slice (some ⟨b3, 0, none⟩) 0 0), (Iv n), (Iv (k : Int)), (Bo (icmp .lss (k : Int) n)), (Iv (k : Int)), (Iv (k : Int)), (Iv ((k : Int) + 1)), (u14 13), (u14 14), (u14 15), (u14 16), (u14 17), (u14 18), (u14 19), (u14 20), (u14 21), (u14 22), (u14 23), (u14 24), Ud] : List Value)[t]?).getD undef, (.slice p26 ((pairsTo n.toNat k).length) q27), rfl, KpL.refl _ _, (Own.cast hO39 (by (try dsimp only); rw [rowP_le (Nat.le_refl _), List.append_nil])), ?_⟩
        omega
      · rintro j a w42 ⟨u35, y3, rfl, E43, hO45, ⟨hkj, hj⟩⟩
        have X46 := Below.kl X25 E43 (allS g41 all0) (Nat.le_refl _)
        obtain ⟨p47, q48, rfl⟩ := Own.shape hO45
        have hH49 : Hang w.heap.size w42 (fun u => Sl RP 2 u (.slice p47 ((pairsTo n.toNat k ++ rowP k j).length) q48) (pairsTo n.toNat k ++ rowP k j)) := Own.hang hO45 RP.flat (by decide) hN40 (Nat.le_trans (Below.size E7) (KpL.size E22))
        have hrl := rowP_len k j
        refine wp_seq_k fun K50 hK50 => ?_
        refine wp_seq_k fun K51 hK51 => ?_
        refine wp_region_lit ?_
        refine q_is (l' := [(Iv n), Ud, (.slice none 0 0), (.slice p47 ((pairsTo n.toNat k ++ rowP k j).length) q48), (Iv (k : Int)), (Iv (j : Int)), (.slice (some ⟨b3, 0, none⟩) 0 0), (Iv n), (Iv (k : Int)), (Bo (icmp .lss (k : Int) n)), (Iv (k : Int)), (Iv (k : Int)), (Iv ((k : Int) + 1)), (Iv (j : Int)), (u35 14), (u35 15), (u35 16), (u35 17), (u35 18), (u35 19), (u35 20), (u35 21), (u35 22), (u35 23), (u14 24), Ud]) rfl rfl (does_move (u := (Iv (j : Int))) (ev rfl)) rfl ?_
        refine q_is (l' := [(Iv n), Ud, (.slice none 0 0), (.slice p47 ((pairsTo n.toNat k ++ rowP k j).length) q48), (Iv (k : Int)), (Iv (j : Int)), (.slice (some ⟨b3, 0, none⟩) 0 0), (Iv n), (Iv (k : Int)), (Bo (icmp .lss (k : Int) n)), (Iv (k : Int)), (Iv (k : Int)), (Iv ((k : Int) + 1)), (Iv (j : Int)), (Iv n), (u35 15), (u35 16), (u35 17), (u35 18), (u35 19), (u35 20), (u35 21), (u35 22), (u35 23), (u14 24), Ud]) rfl rfl (does_move (u := (Iv n)) (ev rfl)) rfl ?_
        refine q_is (l' := [(Iv n), Ud, (.slice none 0 0), (.slice p47 ((pairsTo n.toNat k ++ rowP k j).length) q48), (Iv (k : Int)), (Iv (j : Int)), (.slice (some ⟨b3, 0, none⟩) 0 0), (Iv n), (Iv (k : Int)), (Bo (icmp .lss (k : Int) n)), (Iv (k : Int)), (Iv (k : Int)), (Iv ((k : Int) + 1)), (Iv (j : Int)), (Iv n), (Bo (icmp .lss (j : Int) n)), (u35 16), (u35 17), (u35 18), (u35 19), (u35 20), (u35 21), (u35 22), (u35 23), (u14 24), Ud]) rfl rfl (does_icmp (p := (j : Int)) (q := n) (.inr (.inr (.inl rfl))) (ev rfl) (ev rfl)) rfl ?_
        refine wpList_nil (hK51 _ _ ?_)
        refine wp_cond_split (t := icmp .lss (j : Int) n) (ev rfl) (fun c52 => ?_) (fun c52 => ?_)
        · have c52' := c52
          (try simp only [icmp, Bool.and_eq_true, Bool.or_eq_true, Bool.and_eq_false_iff, Bool.or_eq_false_iff, Bool.not_eq_true', Bool.not_eq_false', decide_eq_true_eq, decide_eq_false_iff_not, beq_iff_eq, bne_iff_ne, beq_eq_false_iff_ne, bne_eq_false_iff_eq] at c52')
          refine wp_skip (hK50 _ _ ?_)
          refine wp_seq_k fun K53 hK53 => ?_
          refine wp_block ?_
          refine wp_region_lit ?_
          refine q_is (l' := [(Iv n), Ud, (.slice none 0 0), (.slice p47 ((pairsTo n.toNat k ++ rowP k j).length) q48), (Iv (k : Int)), (Iv (j : Int)), (.slice (some ⟨b3, 0, none⟩) 0 0), (Iv n), (Iv (k : Int)), (Bo (icmp .lss (k : Int) n)), (Iv (k : Int)), (Iv (k : Int)), (Iv ((k : Int) + 1)), (Iv (j : Int)), (Iv n), (Bo (icmp .lss (j : Int) n)), (u35 16), (u35 17), (.slice p47 ((pairsTo n.toNat k ++ rowP k j).length) q48), (u35 19), (u35 20), (u35 21), (u35 22), (u35 23), (u14 24), Ud]) rfl rfl (does_move (u := (.slice p47 ((pairsTo n.toNat k ++ rowP k j).length) q48)) (ev rfl)) rfl ?_
          refine q_is (l' := [(Iv n), Ud, (.slice none 0 0), (.slice p47 ((pairsTo n.toNat k ++ rowP k j).length) q48), (Iv (k : Int)), (Iv (j : Int)), (.slice (some ⟨b3, 0, none⟩) 0 0), (Iv n), (Iv (k : Int)), (Bo (icmp .lss (k : Int) n)), (Iv (k : Int)), (Iv (k : Int)), (Iv ((k : Int) + 1)), (Iv (j : Int)), (Iv n), (Bo (icmp .lss (j : Int) n)), (u35 16), (u35 17), (.slice p47 ((pairsTo n.toNat k ++ rowP k j).length) q48), (Iv (k : Int)), (u35 20), (u35 21), (u35 22), (u35 23), (u14 24), Ud]) rfl rfl (does_move (u := (Iv (k : Int))) (ev rfl)) rfl ?_
          refine q_is (l' := [(Iv n), Ud, (.slice none 0 0), (.slice p47 ((pairsTo n.toNat k ++ rowP k j).length) q48), (Iv (k : Int)), (Iv (j : Int)), (.slice (some ⟨b3, 0, none⟩) 0 0), (Iv n), (Iv (k : Int)), (Bo (icmp .lss (k : Int) n)), (Iv (k : Int)), (Iv (k : Int)), (Iv ((k : Int) + 1)), (Iv (j : Int)), (Iv n), (Bo (icmp .lss (j : Int) n)), (u35 16), (u35 17), (.slice p47 ((pairsTo n.toNat k ++ rowP k j).length) q48), (Iv (k : Int)), (Iv (j : Int)), (u35 21), (u35 22), (u35 23), (u14 24), Ud]) rfl rfl (does_move (u := (Iv (j : Int))) (ev rfl)) rfl ?_
          refine q_is (l' := [(Iv n), Ud, (.slice none 0 0), (.slice p47 ((pairsTo n.toNat k ++ rowP k j).length) q48), (Iv (k : Int)), (Iv (j : Int)), (.slice (some ⟨b3, 0, none⟩) 0 0), (Iv n), (Iv (k : Int)), (Bo (icmp .lss (k : Int) n)), (Iv (k : Int)), (Iv (k : Int)), (Iv ((k : Int) + 1)), (Iv (j : Int)), (Iv n), (Bo (icmp .lss (j : Int) n)), (u35 16), (u35 17), (.slice p47 ((pairsTo n.toNat k ++ rowP k j).length) q48), (Iv (k : Int)), (Iv (j : Int)), (.agg #[(Iv (k : Int)), (Iv (j : Int))]), (u35 22), (u35 23), (u14 24), Ud]) rfl rfl (does_build (parts' := [(0, (Iv (k : Int))), (1, (Iv (j : Int)))]) (cells := #[(Iv (k : Int)), (Iv (j : Int))]) (evp rfl) (by kernel_rfl)) rfl ?_
          refine seqd rfl rfl (does_buildSlice (e := 115) (parts' := [(0, (.agg #[(Iv (k : Int)), (Iv (j : Int))]))]) (cells := [(Iv (k : Int)), (Iv (j : Int))]) (evp rfl) (fun _ => by kernel_rfl)) ?_; rintro _ w58 ⟨b54, rfl, hb55, hB56, E57⟩
          have g59 : w.heap.size ≤ b54 := Nat.le_trans (Below.size X46) hb55
          have X60 := Ext.gr X46 E57
          show wpList _ _ _ _ (fr [(Iv n), Ud, (.slice none 0 0), (.slice p47 ((pairsTo n.toNat k ++ rowP k j).length) q48), (Iv (k : Int)), (Iv (j : Int)), (.slice (some ⟨b3, 0, none⟩) 0 0), (Iv n), (Iv (k : Int)), (Bo (icmp .lss (k : Int) n)), (Iv (k : Int)), (Iv (k : Int)), (Iv ((k : Int) + 1)), (Iv (j : Int)), (Iv n), (Bo (icmp .lss (j : Int) n)), (u35 16), (u35 17), (.slice p47 ((pairsTo n.toNat k ++ rowP k j).length) q48), (Iv (k : Int)), (Iv (j : Int)), (.agg #[(Iv (k : Int)), (Iv (j : Int))]), (.slice (some ⟨b54, 0, none⟩) 1 1), (u35 23), (u14 24), Ud]) _
          refine seqd rfl rfl (does_append (R := RP) (k := 2) (g0 := gg36) (B := w21.heap.size) (xs := (pairsTo n.toNat k ++ rowP k j)) (ys := [((k : Int), (j : Int))]) Try.underlying113 inf115 rfl (by decide) (ev rfl) (ev rfl) (Own.same hO45 RP.flat ((Same.refl _ _).ext E57) hN40 (Nat.le_trans (Below.size E7) (KpL.size E22))) RP.flat hB56 rfl rfl rfl (fun i x hi => lit1 (R := RP) (cs := [(Iv (k : Int)), (Iv (j : Int))]) (y := ((k : Int), (j : Int)))  rfl i x hi) (by first | (simp only [List.length_append, List.length_cons, List.length_nil]; omega) | omega) (Nat.le_trans (KpL.size E43) (Below.size E57))) ?_; rintro y' w61 ⟨gg62, hg63, K64, hO65⟩
          have hN66 : w.heap.size ≤ gg62 := by rcases hg63 with h | h; exact h ▸ hN40; exact Nat.le_trans (Nat.le_trans (Below.size E7) (KpL.size E22)) h
          have g67 : w.heap.size ≤ gg62 := Nat.le_trans (Below.size (Ext.refl _)) hN66
          have X68 := Below.kl X60 K64 (allS g67 all0) (Nat.le_refl _)
          obtain ⟨p69, q70, rfl⟩ := Own.shape hO65
          have hH71 : Hang w.heap.size w61 (fun u => Sl RP 2 u (.slice p69 (((pairsTo n.toNat k ++ rowP k j) ++ [((k : Int), (j : Int))]).length) q70) ((pairsTo n.toNat k ++ rowP k j) ++ [((k : Int), (j : Int))])) := Own.hang hO65 RP.flat (by decide) hN40 (Nat.le_trans (Below.size E7) (KpL.size E22))
          show wpList _ _ _ _ (fr [(Iv n), Ud, (.slice none 0 0), (.slice p47 ((pairsTo n.toNat k ++ rowP k j).length) q48), (Iv (k : Int)), (Iv (j : Int)), (.slice (some ⟨b3, 0, none⟩) 0 0), (Iv n), (Iv (k : Int)), (Bo (icmp .lss (k : Int) n)), (Iv (k : Int)), (Iv (k : Int)), (Iv ((k : Int) + 1)), (Iv (j : Int)), (Iv n), (Bo (icmp .lss (j : Int) n)), (u35 16), (u35 17), (.slice p47 ((pairsTo n.toNat k ++ rowP k j).length) q48), (Iv (k : Int)), (Iv (j : Int)), (.agg #[(Iv (k : Int)), (Iv (j : Int))]), (.slice (some ⟨b54, 0, none⟩) 1 1), (.slice p69 (((pairsTo n.toNat k ++ rowP k j) ++ [((k : Int), (j : Int))]).length) q70), (u14 24), Ud]) _
          refine q_is (l' := [(Iv n), Ud, (.slice none 0 0), (.slice p69 (((pairsTo n.toNat k ++ rowP k j) ++ [((k : Int), (j : Int))]).length) q70), (Iv (k : Int)), (Iv (j : Int)), (.slice (some ⟨b3, 0, none⟩) 0 0), (Iv n), (Iv (k : Int)), (Bo (icmp .lss (k : Int) n)), (Iv (k : Int)), (Iv (k : Int)), (Iv ((k : Int) + 1)), (Iv (j : Int)), (Iv n), (Bo (icmp .lss (j : Int) n)), (u35 16), (u35 17), (.slice p47 ((pairsTo n.toNat k ++ rowP k j).length) q48), (Iv (k : Int)), (Iv (j : Int)), (.agg #[(Iv (k : Int)), (Iv (j : Int))]), (.slice (some ⟨b54, 0, none⟩) 1 1), (.slice p69 (((pairsTo n.toNat k ++ rowP k j) ++ [((k : Int), (j : Int))]).length) q70), (u14 24), Ud]) rfl rfl (does_assign (u := (.slice p69 (((pairsTo n.toNat k ++ rowP k j) ++ [((k : Int), (j : Int))]).length) q70)) (ev rfl)) rfl ?_
          refine wpList_nil (hK53 _ _ ?_)
          refine wp_region_lit ?_
          refine q_is (l' := [(Iv n), Ud, (.slice none 0 0), (.slice p69 (((pairsTo n.toNat k ++ rowP k j) ++ [((k : Int), (j : Int))]).length) q70), (Iv (k : Int)), (Iv (j : Int)), (.slice (some ⟨b3, 0, none⟩) 0 0), (Iv n), (Iv (k : Int)), (Bo (icmp .lss (k : Int) n)), (Iv (k : Int)), (Iv (k : Int)), (Iv ((k : Int) + 1)), (Iv (j : Int)), (Iv n), (Bo (icmp .lss (j : Int) n)), (Iv (j : Int)), (u35 17), (.slice p47 ((pairsTo n.toNat k ++ rowP k j).length) q48), (Iv (k : Int)), (Iv (j : Int)), (.agg #[(Iv (k : Int)), (Iv (j : Int))]), (.slice (some ⟨b54, 0, none⟩) 1 1), (.slice p69 (((pairsTo n.toNat k ++ rowP k j) ++ [((k : Int), (j : Int))]).length) q70), (u14 24), Ud]) rfl rfl (does_move (u := (Iv (j : Int))) (ev rfl)) rfl ?_
          refine q_is (l' := [(Iv n), Ud, (.slice none 0 0), (.slice p69 (((pairsTo n.toNat k ++ rowP k j) ++ [((k : Int), (j : Int))]).length) q70), (Iv (k : Int)), (Iv (j : Int)), (.slice (some ⟨b3, 0, none⟩) 0 0), (Iv n), (Iv (k : Int)), (Bo (icmp .lss (k : Int) n)), (Iv (k : Int)), (Iv (k : Int)), (Iv ((k : Int) + 1)), (Iv (j : Int)), (Iv n), (Bo (icmp .lss (j : Int) n)), (Iv (j : Int)), (Iv ((j : Int) + 1)), (.slice p47 ((pairsTo n.toNat k ++ rowP k j).length) q48), (Iv (k : Int)), (Iv (j : Int)), (.agg #[(Iv (k : Int)), (Iv (j : Int))]), (.slice (some ⟨b54, 0, none⟩) 1 1), (.slice p69 (((pairsTo n.toNat k ++ rowP k j) ++ [((k : Int), (j : Int))]).length) q70), (u14 24), Ud]) rfl rfl (does_iarith (p := (j : Int)) (q := 1) (r := (j : Int) + 1) (ev rfl) (ev rfl) (.inl ⟨rfl, (in_i64 (by omega) (by omega)).symm⟩)) rfl ?_
          refine q_is (l' := [(Iv n), Ud, (.slice none 0 0), (.slice p69 (((pairsTo n.toNat k ++ rowP k j) ++ [((k : Int), (j : Int))]).length) q70), (Iv (k : Int)), (Iv ((j : Int) + 1)), (.slice (some ⟨b3, 0, none⟩) 0 0), (Iv n), (Iv (k : Int)), (Bo (icmp .lss (k : Int) n)), (Iv (k : Int)), (Iv (k : Int)), (Iv ((k : Int) + 1)), (Iv (j : Int)), (Iv n), (Bo (icmp .lss (j : Int) n)), (Iv (j : Int)), (Iv ((j : Int) + 1)), (.slice p47 ((pairsTo n.toNat k ++ rowP k j).length) q48), (Iv (k : Int)), (Iv (j : Int)), (.agg #[(Iv (k : Int)), (Iv (j : Int))]), (.slice (some ⟨b54, 0, none⟩) 1 1), (.slice p69 (((pairsTo n.toNat k ++ rowP k j) ++ [((k : Int), (j : Int))]).length) q70), (u14 24), Ud]) rfl rfl (does_assign (u := (Iv ((j : Int) + 1))) (ev rfl)) rfl ?_
          refine wpList_nil ?_
          have hO72 := Own.cast (ys := ((fun (j : Nat) => pairsTo n.toNat k ++ rowP k j) (j + 1))) hO65 (by (try dsimp only); (try dsimp only); rw [rowP_succ hkj, List.append_assoc])
          refine ⟨j + 1, ⟨fun t => (([(Iv n), Ud, (.slice none 0 0), (.slice p69 (((pairsTo n.toNat k ++ rowP k j) ++ [((k : Int), (j : Int))]).length) q70), (Iv (k : Int)), (Iv ((j : Int) + 1)), (.slice (some ⟨b3, 0, none⟩) 0 0), (Iv n), (Iv (k : Int)), (Bo (icmp .lss (k : Int) n)), (Iv (k : Int)), (Iv (k : Int)), (Iv ((k : Int) + 1)), (Iv (j : Int)), (Iv n), (Bo (icmp .lss (j : Int) n)), (Iv (j : Int)), (Iv ((j : Int) + 1)), (.slice p47 ((pairsTo n.toNat k ++ rowP k j).length) q48), (Iv (k : Int)), (Iv (j : Int)), (.agg #[(Iv (k : Int)), (Iv (j : Int))]), (.slice (some ⟨b54, 0, none⟩) 1 1), (.slice p69 (((pairsTo n.toNat k ++ rowP k j) ++ [((k : Int), (j : Int))]).length) q70), (u14 24), Ud] : List Value)[t]?).getD undef, (.slice p69 (((pairsTo n.toNat k ++ rowP k j) ++ [((k : Int), (j : Int))]).length) q70), ?_, (KpL.more (KpL.ext E43 E57) K64 (allS (hg63.imp (fun h => by simp [h]) id) all0)), hO72, ?_⟩, ?_⟩
          · first | rfl | (simp only [Nat.cast_add, Nat.cast_one, Int.natCast_add, Int.natCast_one]; rfl)
          · (try dsimp only); omega
          · (try dsimp only); omega
        have c52' := c52
        (try simp only [icmp, Bool.and_eq_true, Bool.or_eq_true, Bool.and_eq_false_iff, Bool.or_eq_false_iff, Bool.not_eq_true', Bool.not_eq_false', decide_eq_true_eq, decide_eq_false_iff_not, beq_iff_eq, bne_iff_ne, beq_eq_false_iff_ne, bne_eq_false_iff_eq] at c52')
        refine wp_exit ?_
        refine hK32 _ _ ?_
        refine wp_region_lit ?_
        refine q_is (l' := [(Iv n), Ud, (.slice none 0 0), (.slice p47 ((pairsTo n.toNat k ++ rowP k j).length) q48), (Iv (k : Int)), (Iv (j : Int)), (.slice (some ⟨b3, 0, none⟩) 0 0), (Iv n), (Iv (k : Int)), (Bo (icmp .lss (k : Int) n)), (Iv (k : Int)), (Iv (k : Int)), (Iv ((k : Int) + 1)), (Iv (j : Int)), (Iv n), (Bo (icmp .lss (j : Int) n)), (u35 16), (u35 17), (u35 18), (u35 19), (u35 20), (u35 21), (u35 22), (u35 23), (Iv ((k : Int) + 1)), Ud]) rfl rfl (does_iarith (p := (k : Int)) (q := 1) (r := (k : Int) + 1) (ev rfl) (ev rfl) (.inl ⟨rfl, (in_i64 (by omega) (by omega)).symm⟩)) rfl ?_
        refine q_is (l' := [(Iv n), Ud, (.slice none 0 0), (.slice p47 ((pairsTo n.toNat k ++ rowP k j).length) q48), (Iv (k : Int)), (Iv (j : Int)), (.slice (some ⟨b3, 0, none⟩) 0 0), (Iv n), (Iv ((k : Int) + 1)), (Bo (icmp .lss (k : Int) n)), (Iv (k : Int)), (Iv (k : Int)), (Iv ((k : Int) + 1)), (Iv (j : Int)), (Iv n), (Bo (icmp .lss (j : Int) n)), (u35 16), (u35 17), (u35 18), (u35 19), (u35 20), (u35 21), (u35 22), (u35 23), (Iv ((k : Int) + 1)), Ud]) rfl rfl (does_move (u := (Iv ((k : Int) + 1))) (ev rfl)) rfl ?_
        refine wpList_nil ?_
        have hO73 := Own.cast (ys := ((fun (k : Nat) => pairsTo n.toNat k) (k + 1))) (Own.back hO45 hg37 (KpL.size E22)) (by (try dsimp only); rw [show j = n.toNat by omega]; rfl)
        refine ⟨k + 1, ⟨fun t => (([(Iv n), Ud, (.slice none 0 0), (.slice p47 ((pairsTo n.toNat k ++ rowP k j).length) q48), (Iv (k : Int)), (Iv (j : Int)), (.slice (some ⟨b3, 0, none⟩) 0 0), (Iv n), (Iv ((k : Int) + 1)), (Bo (icmp .lss (k : Int) n)), (Iv (k : Int)), (Iv (k : Int)), (Iv ((k : Int) + 1)), (Iv (j : Int)), (Iv n), (Bo (icmp .lss (j : Int) n)), (u35 16), (u35 17), (u35 18), (u35 19), (u35 20), (u35 21), (u35 22), (u35 23), (Iv ((k : Int) + 1)), Ud] : List Value)[t]?).getD undef, (.slice p47 ((pairsTo n.toNat k ++ rowP k j).length) q48), ?_, (KpL.more E22 E43 (allS (hg37.imp (fun h => by simp [h]) id) all0)), hO73, ?_⟩, ?_⟩
        · first | rfl | (simp only [Nat.cast_add, Nat.cast_one, Int.natCast_add, Int.natCast_one]; rfl)
        · omega
        · omega
    have c31' := c31
    (try simp only [icmp, Bool.and_eq_true, Bool.or_eq_true, Bool.and_eq_false_iff, Bool.or_eq_false_iff, Bool.not_eq_true', Bool.not_eq_false', decide_eq_true_eq, decide_eq_false_iff_not, beq_iff_eq, bne_iff_ne, beq_eq_false_iff_ne, bne_eq_false_iff_eq] at c31')
    refine wp_exit ?_
    refine hK12 _ _ ?_
    refine wp_seq_k fun K74 hK74 => ?_
    refine wp_region_lit ?_
    refine q_is (l' := [(Iv n), Ud, (.slice none 0 0), (.slice p26 ((pairsTo n.toNat k).length) q27), (u14 4), (u14 5), (.slice (some ⟨b3, 0, none⟩) 0 0), (Iv n), (Iv (k : Int)), (Bo (icmp .lss (k : Int) n)), (u14 10), (u14 11), (u14 12), (u14 13), (u14 14), (u14 15), (u14 16), (u14 17), (u14 18), (u14 19), (u14 20), (u14 21), (u14 22), (u14 23), (u14 24), (.slice p26 ((pairsTo n.toNat k).length) q27)]) rfl rfl (does_move (u := (.slice p26 ((pairsTo n.toNat k).length) q27)) (ev rfl)) rfl ?_
    refine q_is (l' := [(Iv n), Ud, (.slice p26 ((pairsTo n.toNat k).length) q27), (.slice p26 ((pairsTo n.toNat k).length) q27), (u14 4), (u14 5), (.slice (some ⟨b3, 0, none⟩) 0 0), (Iv n), (Iv (k : Int)), (Bo (icmp .lss (k : Int) n)), (u14 10), (u14 11), (u14 12), (u14 13), (u14 14), (u14 15), (u14 16), (u14 17), (u14 18), (u14 19), (u14 20), (u14 21), (u14 22), (u14 23), (u14 24), (.slice p26 ((pairsTo n.toNat k).length) q27)]) rfl rfl (does_assign (u := (.slice p26 ((pairsTo n.toNat k).length) q27)) (ev rfl)) rfl ?_
    refine wpList_nil (hK74 _ _ ?_)
    refine wp_ret ?_
    refine ret_val (v := (.slice p26 ((pairsTo n.toNat k).length) q27)) (res_T rfl (slot rfl)) X25 ?_
    have x75 : (pairsTo n.toNat k) = (pairsTo n.toNat n.toNat) := by congr 1; omega
    exact ⟨(.slice p26 ((pairsTo n.toNat k).length) q27), rfl, (x75 ▸ (Own.hang hO24 RP.flat (by decide) (Nat.le_trans (Nat.le_refl _) hN19) (Nat.le_trans (Nat.le_refl _) (Below.size E7))))⟩

/- impl.RootNumber -/
theorem c_impl_RootNumber (x : Nat) (w : World) : Gives Try.prog 99 #[(Fl x)] w (fun v w' => ∃ r_1 : Nat, v = (Fl r_1) ∧ cf .f32 r_1 = rootF (cf .f32 x)) := by
  refine enter [(Fl x), Ud, Ud, Ud, Ud, Ud, Ud] Try.func99 rfl Try.ntmps99 rfl ?_
  refine wp_seq_k fun K1 hK1 => ?_
  refine wp_region_lit ?_
  refine q_is (l' := [(Fl x), Ud, (Fl 0), Ud, Ud, Ud, Ud]) rfl rfl (does_assign (u := (Fl 0)) (ev rfl)) rfl ?_
  refine wpList_nil (hK1 _ _ ?_)
  refine wp_seq_k fun K2 hK2 => ?_
  refine wp_region_lit ?_
  refine q_is (l' := [(Fl x), Ud, (Fl 0), (Fl x), Ud, Ud, Ud]) rfl rfl (does_move (u := (Fl x)) (ev rfl)) rfl ?_
  refine seqd rfl rfl (does_widen Try.underlying24 Try.underlying80 (ev rfl)) ?_; rintro _ w6 ⟨r3, rfl, h4, E5⟩
  have X7 := Ext.gr (Ext.refl w) E5
  show wpList _ _ _ _ (fr [(Fl x), Ud, (Fl 0), (Fl x), (Fd r3), Ud, Ud]) _
  refine seqd rfl rfl (does_call (args := #[(Fd r3)]) cal113 (evs rfl) (c_math_Sqrt r3 _)) ?_; rintro _ w9 ⟨E8, ⟨r10, rfl, h11⟩⟩
  have X12 := Ext.gr X7 E8
  show wpList _ _ _ _ (fr [(Fl x), Ud, (Fl 0), (Fl x), (Fd r3), (Fd r10), Ud]) _
  refine seqd rfl rfl (does_narrow Try.underlying80 Try.underlying24 (ev rfl) (by first | assumption | (simp only [h4, h11]; exact nov_sqrt _))) ?_; rintro _ w16 ⟨r13, rfl, h14, E15⟩
  have X17 := Ext.gr X12 E15
  show wpList _ _ _ _ (fr [(Fl x), Ud, (Fl 0), (Fl x), (Fd r3), (Fd r10), (Fl r13)]) _
  refine q_is (l' := [(Fl x), Ud, (Fl r13), (Fl x), (Fd r3), (Fd r10), (Fl r13)]) rfl rfl (does_assign (u := (Fl r13)) (ev rfl)) rfl ?_
  refine wpList_nil (hK2 _ _ ?_)
  refine wp_ret ?_
  refine ret_val (v := (Fl r13)) (res_T rfl (slot rfl)) X17 ?_
  have x18 : cf .f32 r13 = rootF (cf .f32 x) := by first | with_reducible rfl | (simp only [rootF, h4, h11, h14]; done) | (simp [rootF, h4, h11, h14]; done) | rfl
  exact ⟨r13, rfl, x18⟩

/- impl.InnerOf -/
theorem c_impl_InnerOf (a : List Value) (A_a : V3) (b : List Value) (A_b : V3) (w : World) (hv_a : RV3 w A_a a) (hv_b : RV3 w A_b b) : Gives Try.prog 100 #[(.agg a.toArray), (.agg b.toArray)] w (fun v w' => ∃ r_1 : Nat, v = (Fl r_1) ∧ cf .f32 r_1 = innerF A_a A_b) := by
  obtain ⟨r1, r3, r5, rfl, h2, h4, h6⟩ := hv_a
  obtain ⟨r7, r9, r11, rfl, h8, h10, h12⟩ := hv_b
  refine enter [(.agg #[(Fl r1), (Fl r3), (Fl r5)]), (.agg #[(Fl r7), (Fl r9), (Fl r11)]), Ud, Ud, Ud, Ud, Ud, Ud, Ud, Ud, Ud, Ud, Ud, Ud, Ud, Ud, Ud, Ud, Ud, Ud, Ud, Ud] Try.func100 rfl Try.ntmps100 rfl ?_
  refine wp_seq_k fun K13 hK13 => ?_
  refine wp_region_lit ?_
  refine seqd rfl rfl (does_box (u := (.agg #[(Fl r1), (Fl r3), (Fl r5)])) (ev rfl)) ?_; rintro _ w18 ⟨b14, rfl, hb15, hB16, E17⟩
  have g19 : w.heap.size ≤ b14 := Nat.le_trans (Below.size (Ext.refl w)) hb15
  change Blk _ _ [(Fl r1), (Fl r3), (Fl r5)] at hB16
  have X20 := Ext.gr (Ext.refl w) E17
  show wpList _ _ _ _ (fr [(.agg #[(Fl r1), (Fl r3), (Fl r5)]), (.agg #[(Fl r7), (Fl r9), (Fl r11)]), (Pt b14 0), Ud, Ud, Ud, Ud, Ud, Ud, Ud, Ud, Ud, Ud, Ud, Ud, Ud, Ud, Ud, Ud, Ud, Ud, Ud]) _
  refine seqd rfl rfl (does_box (u := (.agg #[(Fl r7), (Fl r9), (Fl r11)])) (ev rfl)) ?_; rintro _ w25 ⟨b21, rfl, hb22, hB23, E24⟩
  have n26 : b14 < b21 := Nat.lt_of_lt_of_le (Blk.lt hB16) hb22
  have g27 : w.heap.size ≤ b21 := Nat.le_trans (Below.size X20) hb22
  change Blk _ _ [(Fl r7), (Fl r9), (Fl r11)] at hB23
  have X28 := Ext.gr X20 E24
  show wpList _ _ _ _ (fr [(.agg #[(Fl r1), (Fl r3), (Fl r5)]), (.agg #[(Fl r7), (Fl r9), (Fl r11)]), (Pt b14 0), (Pt b21 0), Ud, Ud, Ud, Ud, Ud, Ud, Ud, Ud, Ud, Ud, Ud, Ud, Ud, Ud, Ud, Ud, Ud, Ud]) _
  refine q_is (l' := [(.agg #[(Fl r1), (Fl r3), (Fl r5)]), (.agg #[(Fl r7), (Fl r9), (Fl r11)]), (Pt b14 0), (Pt b21 0), (Fl 0), Ud, Ud, Ud, Ud, Ud, Ud, Ud, Ud, Ud, Ud, Ud, Ud, Ud, Ud, Ud, Ud, Ud]) rfl rfl (does_assign (u := (Fl 0)) (ev rfl)) rfl ?_
  refine wpList_nil (hK13 _ _ ?_)
  refine wp_seq_k fun K29 hK29 => ?_
  refine wp_region_lit ?_
  refine q_is (l' := [(.agg #[(Fl r1), (Fl r3), (Fl r5)]), (.agg #[(Fl r7), (Fl r9), (Fl r11)]), (Pt b14 0), (Pt b21 0), (Fl 0), (Pt b14 0), Ud, Ud, Ud, Ud, Ud, Ud, Ud, Ud, Ud, Ud, Ud, Ud, Ud, Ud, Ud, Ud]) rfl rfl (does_fieldAddr (ev rfl) fa26_0) rfl ?_
  refine q_is (l' := [(.agg #[(Fl r1), (Fl r3), (Fl r5)]), (.agg #[(Fl r7), (Fl r9), (Fl r11)]), (Pt b14 0), (Pt b21 0), (Fl 0), (Pt b14 0), (Fl r1), Ud, Ud, Ud, Ud, Ud, Ud, Ud, Ud, Ud, Ud, Ud, Ud, Ud, Ud, Ud]) rfl rfl (does_load (u := (Fl r1)) (ev rfl) Try.isAgg24 (Cells.at (Blk.cells (hB16.ext E24)) 0 rfl)) rfl ?_
  refine q_is (l' := [(.agg #[(Fl r1), (Fl r3), (Fl r5)]), (.agg #[(Fl r7), (Fl r9), (Fl r11)]), (Pt b14 0), (Pt b21 0), (Fl 0), (Pt b14 0), (Fl r1), (Pt b21 0), Ud, Ud, Ud, Ud, Ud, Ud, Ud, Ud, Ud, Ud, Ud, Ud, Ud, Ud]) rfl rfl (does_fieldAddr (ev rfl) fa26_0) rfl ?_
  refine q_is (l' := [(.agg #[(Fl r1), (Fl r3), (Fl r5)]), (.agg #[(Fl r7), (Fl r9), (Fl r11)]), (Pt b14 0), (Pt b21 0), (Fl 0), (Pt b14 0), (Fl r1), (Pt b21 0), (Fl r7), Ud, Ud, Ud, Ud, Ud, Ud, Ud, Ud, Ud, Ud, Ud, Ud, Ud]) rfl rfl (does_load (u := (Fl r7)) (ev rfl) Try.isAgg24 (Cells.at (Blk.cells hB23) 0 rfl)) rfl ?_
  refine seqd rfl rfl (does_float (.inr (.inr (.inl rfl))) (ev rfl) (ev rfl)) ?_; rintro _ w33 ⟨r30, rfl, h31, E32⟩
  have X34 := Ext.gr X28 E32
  show wpList _ _ _ _ (fr [(.agg #[(Fl r1), (Fl r3), (Fl r5)]), (.agg #[(Fl r7), (Fl r9), (Fl r11)]), (Pt b14 0), (Pt b21 0), (Fl 0), (Pt b14 0), (Fl r1), (Pt b21 0), (Fl r7), (Fl r30), Ud, Ud, Ud, Ud, Ud, Ud, Ud, Ud, Ud, Ud, Ud, Ud]) _
  refine q_is (l' := [(.agg #[(Fl r1), (Fl r3), (Fl r5)]), (.agg #[(Fl r7), (Fl r9), (Fl r11)]), (Pt b14 0), (Pt b21 0), (Fl 0), (Pt b14 0), (Fl r1), (Pt b21 0), (Fl r7), (Fl r30), (Pt b14 1), Ud, Ud, Ud, Ud, Ud, Ud, Ud, Ud, Ud, Ud, Ud]) rfl rfl (does_fieldAddr (ev rfl) fa26_1) rfl ?_
  refine q_is (l' := [(.agg #[(Fl r1), (Fl r3), (Fl r5)]), (.agg #[(Fl r7), (Fl r9), (Fl r11)]), (Pt b14 0), (Pt b21 0), (Fl 0), (Pt b14 0), (Fl r1), (Pt b21 0), (Fl r7), (Fl r30), (Pt b14 1), (Fl r3), Ud, Ud, Ud, Ud, Ud, Ud, Ud, Ud, Ud, Ud]) rfl rfl (does_load (u := (Fl r3)) (ev rfl) Try.isAgg24 (Cells.at (Blk.cells ((hB16.ext E24).ext E32)) 1 rfl)) rfl ?_
  refine q_is (l' := [(.agg #[(Fl r1), (Fl r3), (Fl r5)]), (.agg #[(Fl r7), (Fl r9), (Fl r11)]), (Pt b14 0), (Pt b21 0), (Fl 0), (Pt b14 0), (Fl r1), (Pt b21 0), (Fl r7), (Fl r30), (Pt b14 1), (Fl r3), (Pt b21 1), Ud, Ud, Ud, Ud, Ud, Ud, Ud, Ud, Ud]) rfl rfl (does_fieldAddr (ev rfl) fa26_1) rfl ?_
  refine q_is (l' := [(.agg #[(Fl r1), (Fl r3), (Fl r5)]), (.agg #[(Fl r7), (Fl r9), (Fl r11)]), (Pt b14 0), (Pt b21 0), (Fl 0), (Pt b14 0), (Fl r1), (Pt b21 0), (Fl r7), (Fl r30), (Pt b14 1), (Fl r3), (Pt b21 1), (Fl r9), Ud, Ud, Ud, Ud, Ud, Ud, Ud, Ud]) rfl rfl (does_load (u := (Fl r9)) (ev rfl) Try.isAgg24 (Cells.at (Blk.cells (hB23.ext E32)) 1 rfl)) rfl ?_
  refine seqd rfl rfl (does_float (.inr (.inr (.inl rfl))) (ev rfl) (ev rfl)) ?_; rintro _ w38 ⟨r35, rfl, h36, E37⟩
  have X39 := Ext.gr X34 E37
  show wpList _ _ _ _ (fr [(.agg #[(Fl r1), (Fl r3), (Fl r5)]), (.agg #[(Fl r7), (Fl r9), (Fl r11)]), (Pt b14 0), (Pt b21 0), (Fl 0), (Pt b14 0), (Fl r1), (Pt b21 0), (Fl r7), (Fl r30), (Pt b14 1), (Fl r3), (Pt b21 1), (Fl r9), (Fl r35), Ud, Ud, Ud, Ud, Ud, Ud, Ud]) _
  refine seqd rfl rfl (does_float (.inl rfl) (ev rfl) (ev rfl)) ?_; rintro _ w43 ⟨r40, rfl, h41, E42⟩
  have X44 := Ext.gr X39 E42
  show wpList _ _ _ _ (fr [(.agg #[(Fl r1), (Fl r3), (Fl r5)]), (.agg #[(Fl r7), (Fl r9), (Fl r11)]), (Pt b14 0), (Pt b21 0), (Fl 0), (Pt b14 0), (Fl r1), (Pt b21 0), (Fl r7), (Fl r30), (Pt b14 1), (Fl r3), (Pt b21 1), (Fl r9), (Fl r35), (Fl r40), Ud, Ud, Ud, Ud, Ud, Ud]) _
  refine q_is (l' := [(.agg #[(Fl r1), (Fl r3), (Fl r5)]), (.agg #[(Fl r7), (Fl r9), (Fl r11)]), (Pt b14 0), (Pt b21 0), (Fl 0), (Pt b14 0), (Fl r1), (Pt b21 0), (Fl r7), (Fl r30), (Pt b14 1), (Fl r3), (Pt b21 1), (Fl r9), (Fl r35), (Fl r40), (Pt b14 2), Ud, Ud, Ud, Ud, Ud]) rfl rfl (does_fieldAddr (ev rfl) fa26_2) rfl ?_
  refine q_is (l' := [(.agg #[(Fl r1), (Fl r3), (Fl r5)]), (.agg #[(Fl r7), (Fl r9), (Fl r11)]), (Pt b14 0), (Pt b21 0), (Fl 0), (Pt b14 0), (Fl r1), (Pt b21 0), (Fl r7), (Fl r30), (Pt b14 1), (Fl r3), (Pt b21 1), (Fl r9), (Fl r35), (Fl r40), (Pt b14 2), (Fl r5), Ud, Ud, Ud, Ud]) rfl rfl (does_load (u := (Fl r5)) (ev rfl) Try.isAgg24 (Cells.at (Blk.cells ((((hB16.ext E24).ext E32).ext E37).ext E42)) 2 rfl)) rfl ?_
  refine q_is (l' := [(.agg #[(Fl r1), (Fl r3), (Fl r5)]), (.agg #[(Fl r7), (Fl r9), (Fl r11)]), (Pt b14 0), (Pt b21 0), (Fl 0), (Pt b14 0), (Fl r1), (Pt b21 0), (Fl r7), (Fl r30), (Pt b14 1), (Fl r3), (Pt b21 1), (Fl r9), (Fl r35), (Fl r40), (Pt b14 2), (Fl r5), (Pt b21 2), Ud, Ud, Ud]) rfl rfl (does_fieldAddr (ev rfl) fa26_2) rfl ?_
  refine q_is (l' := [(.agg #[(Fl r1), (Fl r3), (Fl r5)]), (.agg #[(Fl r7), (Fl r9), (Fl r11)]), (Pt b14 0), (Pt b21 0), (Fl 0), (Pt b14 0), (Fl r1), (Pt b21 0), (Fl r7), (Fl r30), (Pt b14 1), (Fl r3), (Pt b21 1), (Fl r9), (Fl r35), (Fl r40), (Pt b14 2), (Fl r5), (Pt b21 2), (Fl r11), Ud, Ud]) rfl rfl (does_load (u := (Fl r11)) (ev rfl) Try.isAgg24 (Cells.at (Blk.cells (((hB23.ext E32).ext E37).ext E42)) 2 rfl)) rfl ?_
  refine seqd rfl rfl (does_float (.inr (.inr (.inl rfl))) (ev rfl) (ev rfl)) ?_; rintro _ w48 ⟨r45, rfl, h46, E47⟩
  have X49 := Ext.gr X44 E47
  show wpList _ _ _ _ (fr [(.agg #[(Fl r1), (Fl r3), (Fl r5)]), (.agg #[(Fl r7), (Fl r9), (Fl r11)]), (Pt b14 0), (Pt b21 0), (Fl 0), (Pt b14 0), (Fl r1), (Pt b21 0), (Fl r7), (Fl r30), (Pt b14 1), (Fl r3), (Pt b21 1), (Fl r9), (Fl r35), (Fl r40), (Pt b14 2), (Fl r5), (Pt b21 2), (Fl r11), (Fl r45), Ud]) _
  refine seqd rfl rfl (does_float (.inl rfl) (ev rfl) (ev rfl)) ?_; rintro _ w53 ⟨r50, rfl, h51, E52⟩
  have X54 := Ext.gr X49 E52
  show wpList _ _ _ _ (fr [(.agg #[(Fl r1), (Fl r3), (Fl r5)]), (.agg #[(Fl r7), (Fl r9), (Fl r11)]), (Pt b14 0), (Pt b21 0), (Fl 0), (Pt b14 0), (Fl r1), (Pt b21 0), (Fl r7), (Fl r30), (Pt b14 1), (Fl r3), (Pt b21 1), (Fl r9), (Fl r35), (Fl r40), (Pt b14 2), (Fl r5), (Pt b21 2), (Fl r11), (Fl r45), (Fl r50)]) _
  refine q_is (l' := [(.agg #[(Fl r1), (Fl r3), (Fl r5)]), (.agg #[(Fl r7), (Fl r9), (Fl r11)]), (Pt b14 0), (Pt b21 0), (Fl r50), (Pt b14 0), (Fl r1), (Pt b21 0), (Fl r7), (Fl r30), (Pt b14 1), (Fl r3), (Pt b21 1), (Fl r9), (Fl r35), (Fl r40), (Pt b14 2), (Fl r5), (Pt b21 2), (Fl r11), (Fl r45), (Fl r50)]) rfl rfl (does_assign (u := (Fl r50)) (ev rfl)) rfl ?_
  refine wpList_nil (hK29 _ _ ?_)
  refine wp_ret ?_
  refine ret_val (v := (Fl r50)) (res_T rfl (slot rfl)) X54 ?_
  have x55 : cf .f32 r50 = innerF A_a A_b := by first | with_reducible rfl | (simp only [innerF, h2, h4, h6, h8, h10, h12, h31, h36, h41, h46, h51]; done) | (simp [innerF, h2, h4, h6, h8, h10, h12, h31, h36, h41, h46, h51]; done) | rfl
  exact ⟨r50, rfl, x55⟩

/- impl.LongOf -/
theorem c_impl_LongOf (v : List Value) (A_v : V3) (w : World) (hv_v : RV3 w A_v v) : Gives Try.prog 63 #[(.agg v.toArray)] w (fun v w' => ∃ r_1 : Nat, v = (Fl r_1) ∧ cf .f32 r_1 = longF A_v) := by
  obtain ⟨r1, r3, r5, rfl, h2, h4, h6⟩ := hv_v
  refine enter [(.agg #[(Fl r1), (Fl r3), (Fl r5)]), Ud, Ud, Ud, Ud, Ud, Ud] Try.func63 rfl Try.ntmps63 rfl ?_
  refine wp_seq_k fun K7 hK7 => ?_
  refine wp_region_lit ?_
  refine seqd rfl rfl (does_box (u := (.agg #[(Fl r1), (Fl r3), (Fl r5)])) (ev rfl)) ?_; rintro _ w12 ⟨b8, rfl, hb9, hB10, E11⟩
  have g13 : w.heap.size ≤ b8 := Nat.le_trans (Below.size (Ext.refl w)) hb9
  change Blk _ _ [(Fl r1), (Fl r3), (Fl r5)] at hB10
  have X14 := Ext.gr (Ext.refl w) E11
  show wpList _ _ _ _ (fr [(.agg #[(Fl r1), (Fl r3), (Fl r5)]), (Pt b8 0), Ud, Ud, Ud, Ud, Ud]) _
  refine q_is (l' := [(.agg #[(Fl r1), (Fl r3), (Fl r5)]), (Pt b8 0), (Fl 0), Ud, Ud, Ud, Ud]) rfl rfl (does_assign (u := (Fl 0)) (ev rfl)) rfl ?_
  refine wpList_nil (hK7 _ _ ?_)
  refine wp_seq_k fun K15 hK15 => ?_
  refine wp_region_lit ?_
  refine q_is (l' := [(.agg #[(Fl r1), (Fl r3), (Fl r5)]), (Pt b8 0), (Fl 0), (.agg #[(Fl r1), (Fl r3), (Fl r5)]), Ud, Ud, Ud]) rfl rfl (does_loadAgg (cs := [(Fl r1), (Fl r3), (Fl r5)]) (ev rfl) Try.isAgg26 Try.sizeOf26 (Blk.cells hB10) rfl) rfl ?_
  refine q_is (l' := [(.agg #[(Fl r1), (Fl r3), (Fl r5)]), (Pt b8 0), (Fl 0), (.agg #[(Fl r1), (Fl r3), (Fl r5)]), (.agg #[(Fl r1), (Fl r3), (Fl r5)]), Ud, Ud]) rfl rfl (does_loadAgg (cs := [(Fl r1), (Fl r3), (Fl r5)]) (ev rfl) Try.isAgg26 Try.sizeOf26 (Blk.cells hB10) rfl) rfl ?_
  refine seqd rfl rfl (does_call (args := #[(.agg #[(Fl r1), (Fl r3), (Fl r5)]), (.agg #[(Fl r1), (Fl r3), (Fl r5)])]) cal100 (evs rfl) (c_impl_InnerOf [(Fl r1), (Fl r3), (Fl r5)] A_v [(Fl r1), (Fl r3), (Fl r5)] A_v _ ⟨r1, r3, r5, rfl, h2, h4, h6⟩ ⟨r1, r3, r5, rfl, h2, h4, h6⟩)) ?_; rintro _ w17 ⟨E16, ⟨r18, rfl, h19⟩⟩
  have X20 := Ext.gr X14 E16
  show wpList _ _ _ _ (fr [(.agg #[(Fl r1), (Fl r3), (Fl r5)]), (Pt b8 0), (Fl 0), (.agg #[(Fl r1), (Fl r3), (Fl r5)]), (.agg #[(Fl r1), (Fl r3), (Fl r5)]), (Fl r18), Ud]) _
  refine seqd rfl rfl (does_call (args := #[(Fl r18)]) cal99 (evs rfl) (c_impl_RootNumber r18 _)) ?_; rintro _ w22 ⟨E21, ⟨r23, rfl, h24⟩⟩
  have X25 := Ext.gr X20 E21
  show wpList _ _ _ _ (fr [(.agg #[(Fl r1), (Fl r3), (Fl r5)]), (Pt b8 0), (Fl 0), (.agg #[(Fl r1), (Fl r3), (Fl r5)]), (.agg #[(Fl r1), (Fl r3), (Fl r5)]), (Fl r18), (Fl r23)]) _
  refine q_is (l' := [(.agg #[(Fl r1), (Fl r3), (Fl r5)]), (Pt b8 0), (Fl r23), (.agg #[(Fl r1), (Fl r3), (Fl r5)]), (.agg #[(Fl r1), (Fl r3), (Fl r5)]), (Fl r18), (Fl r23)]) rfl rfl (does_assign (u := (Fl r23)) (ev rfl)) rfl ?_
  refine wpList_nil (hK15 _ _ ?_)
  refine wp_ret ?_
  refine ret_val (v := (Fl r23)) (res_T rfl (slot rfl)) X25 ?_
  have x26 : cf .f32 r23 = longF A_v := by first | with_reducible rfl | (simp only [longF, h2, h4, h6, h19, h24]; done) | (simp [longF, h2, h4, h6, h19, h24]; done) | rfl
  exact ⟨r23, rfl, x26⟩

/- impl.LessVectors -/
theorem c_impl_LessVectors (a : List Value) (A_a : V3) (b : List Value) (A_b : V3) (w : World) (hv_a : RV3 w A_a a) (hv_b : RV3 w A_b b) : Gives Try.prog 91 #[(.agg a.toArray), (.agg b.toArray)] w (fun v w' => ∃ cs_1 : List Value, v = (.agg cs_1.toArray) ∧ RV3 w (vsub A_a A_b) cs_1) := by
  obtain ⟨r1, r3, r5, rfl, h2, h4, h6⟩ := hv_a
  obtain ⟨r7, r9, r11, rfl, h8, h10, h12⟩ := hv_b
  refine enter [(.agg #[(Fl r1), (Fl r3), (Fl r5)]), (.agg #[(Fl r7), (Fl r9), (Fl r11)]), Ud, Ud, Ud, Ud, Ud, Ud, Ud, Ud, Ud, Ud, Ud, Ud, Ud, Ud, Ud, Ud, Ud, Ud, Ud] Try.func91 rfl Try.ntmps91 rfl ?_
  refine wp_seq_k fun K13 hK13 => ?_
  refine wp_region_lit ?_
  refine seqd rfl rfl (does_box (u := (.agg #[(Fl r1), (Fl r3), (Fl r5)])) (ev rfl)) ?_; rintro _ w18 ⟨b14, rfl, hb15, hB16, E17⟩
  have g19 : w.heap.size ≤ b14 := Nat.le_trans (Below.size (Ext.refl w)) hb15
  change Blk _ _ [(Fl r1), (Fl r3), (Fl r5)] at hB16
  have X20 := Ext.gr (Ext.refl w) E17
  show wpList _ _ _ _ (fr [(.agg #[(Fl r1), (Fl r3), (Fl r5)]), (.agg #[(Fl r7), (Fl r9), (Fl r11)]), (Pt b14 0), Ud, Ud, Ud, Ud, Ud, Ud, Ud, Ud, Ud, Ud, Ud, Ud, Ud, Ud, Ud, Ud, Ud, Ud]) _
  refine seqd rfl rfl (does_box (u := (.agg #[(Fl r7), (Fl r9), (Fl r11)])) (ev rfl)) ?_; rintro _ w25 ⟨b21, rfl, hb22, hB23, E24⟩
  have n26 : b14 < b21 := Nat.lt_of_lt_of_le (Blk.lt hB16) hb22
  have g27 : w.heap.size ≤ b21 := Nat.le_trans (Below.size X20) hb22
  change Blk _ _ [(Fl r7), (Fl r9), (Fl r11)] at hB23
  have X28 := Ext.gr X20 E24
  show wpList _ _ _ _ (fr [(.agg #[(Fl r1), (Fl r3), (Fl r5)]), (.agg #[(Fl r7), (Fl r9), (Fl r11)]), (Pt b14 0), (Pt b21 0), Ud, Ud, Ud, Ud, Ud, Ud, Ud, Ud, Ud, Ud, Ud, Ud, Ud, Ud, Ud, Ud, Ud]) _
  refine seqd rfl rfl (does_alloc z26) ?_; rintro _ w33 ⟨b29, rfl, hb30, hB31, E32⟩
  have n34 : b14 < b29 := Nat.lt_of_lt_of_le (Blk.lt (hB16.ext E24)) hb30
  have n35 : b21 < b29 := Nat.lt_of_lt_of_le (Blk.lt hB23) hb30
  have g36 : w.heap.size ≤ b29 := Nat.le_trans (Below.size X28) hb30
  change Blk _ _ [(Fl 0), (Fl 0), (Fl 0)] at hB31
  have X37 := Ext.gr X28 E32
  show wpList _ _ _ _ (fr [(.agg #[(Fl r1), (Fl r3), (Fl r5)]), (.agg #[(Fl r7), (Fl r9), (Fl r11)]), (Pt b14 0), (Pt b21 0), (Pt b29 0), Ud, Ud, Ud, Ud, Ud, Ud, Ud, Ud, Ud, Ud, Ud, Ud, Ud, Ud, Ud, Ud]) _
  refine wpList_nil (hK13 _ _ ?_)
  refine wp_seq_k fun K38 hK38 => ?_
  refine wp_region_lit ?_
  refine q_is (l' := [(.agg #[(Fl r1), (Fl r3), (Fl r5)]), (.agg #[(Fl r7), (Fl r9), (Fl r11)]), (Pt b14 0), (Pt b21 0), (Pt b29 0), (Pt b14 0), Ud, Ud, Ud, Ud, Ud, Ud, Ud, Ud, Ud, Ud, Ud, Ud, Ud, Ud, Ud]) rfl rfl (does_fieldAddr (ev rfl) fa26_0) rfl ?_
  refine q_is (l' := [(.agg #[(Fl r1), (Fl r3), (Fl r5)]), (.agg #[(Fl r7), (Fl r9), (Fl r11)]), (Pt b14 0), (Pt b21 0), (Pt b29 0), (Pt b14 0), (Fl r1), Ud, Ud, Ud, Ud, Ud, Ud, Ud, Ud, Ud, Ud, Ud, Ud, Ud, Ud]) rfl rfl (does_load (u := (Fl r1)) (ev rfl) Try.isAgg24 (Cells.at (Blk.cells ((hB16.ext E24).ext E32)) 0 rfl)) rfl ?_
  refine q_is (l' := [(.agg #[(Fl r1), (Fl r3), (Fl r5)]), (.agg #[(Fl r7), (Fl r9), (Fl r11)]), (Pt b14 0), (Pt b21 0), (Pt b29 0), (Pt b14 0), (Fl r1), (Pt b21 0), Ud, Ud, Ud, Ud, Ud, Ud, Ud, Ud, Ud, Ud, Ud, Ud, Ud]) rfl rfl (does_fieldAddr (ev rfl) fa26_0) rfl ?_
  refine q_is (l' := [(.agg #[(Fl r1), (Fl r3), (Fl r5)]), (.agg #[(Fl r7), (Fl r9), (Fl r11)]), (Pt b14 0), (Pt b21 0), (Pt b29 0), (Pt b14 0), (Fl r1), (Pt b21 0), (Fl r7), Ud, Ud, Ud, Ud, Ud, Ud, Ud, Ud, Ud, Ud, Ud, Ud]) rfl rfl (does_load (u := (Fl r7)) (ev rfl) Try.isAgg24 (Cells.at (Blk.cells (hB23.ext E32)) 0 rfl)) rfl ?_
  refine seqd rfl rfl (does_float (.inr (.inl rfl)) (ev rfl) (ev rfl)) ?_; rintro _ w42 ⟨r39, rfl, h40, E41⟩
  have X43 := Ext.gr X37 E41
  show wpList _ _ _ _ (fr [(.agg #[(Fl r1), (Fl r3), (Fl r5)]), (.agg #[(Fl r7), (Fl r9), (Fl r11)]), (Pt b14 0), (Pt b21 0), (Pt b29 0), (Pt b14 0), (Fl r1), (Pt b21 0), (Fl r7), (Fl r39), Ud, Ud, Ud, Ud, Ud, Ud, Ud, Ud, Ud, Ud, Ud]) _
  refine q_is (l' := [(.agg #[(Fl r1), (Fl r3), (Fl r5)]), (.agg #[(Fl r7), (Fl r9), (Fl r11)]), (Pt b14 0), (Pt b21 0), (Pt b29 0), (Pt b14 0), (Fl r1), (Pt b21 0), (Fl r7), (Fl r39), (Pt b14 1), Ud, Ud, Ud, Ud, Ud, Ud, Ud, Ud, Ud, Ud]) rfl rfl (does_fieldAddr (ev rfl) fa26_1) rfl ?_
  refine q_is (l' := [(.agg #[(Fl r1), (Fl r3), (Fl r5)]), (.agg #[(Fl r7), (Fl r9), (Fl r11)]), (Pt b14 0), (Pt b21 0), (Pt b29 0), (Pt b14 0), (Fl r1), (Pt b21 0), (Fl r7), (Fl r39), (Pt b14 1), (Fl r3), Ud, Ud, Ud, Ud, Ud, Ud, Ud, Ud, Ud]) rfl rfl (does_load (u := (Fl r3)) (ev rfl) Try.isAgg24 (Cells.at (Blk.cells (((hB16.ext E24).ext E32).ext E41)) 1 rfl)) rfl ?_
  refine q_is (l' := [(.agg #[(Fl r1), (Fl r3), (Fl r5)]), (.agg #[(Fl r7), (Fl r9), (Fl r11)]), (Pt b14 0), (Pt b21 0), (Pt b29 0), (Pt b14 0), (Fl r1), (Pt b21 0), (Fl r7), (Fl r39), (Pt b14 1), (Fl r3), (Pt b21 1), Ud, Ud, Ud, Ud, Ud, Ud, Ud, Ud]) rfl rfl (does_fieldAddr (ev rfl) fa26_1) rfl ?_
  refine q_is (l' := [(.agg #[(Fl r1), (Fl r3), (Fl r5)]), (.agg #[(Fl r7), (Fl r9), (Fl r11)]), (Pt b14 0), (Pt b21 0), (Pt b29 0), (Pt b14 0), (Fl r1), (Pt b21 0), (Fl r7), (Fl r39), (Pt b14 1), (Fl r3), (Pt b21 1), (Fl r9), Ud, Ud, Ud, Ud, Ud, Ud, Ud]) rfl rfl (does_load (u := (Fl r9)) (ev rfl) Try.isAgg24 (Cells.at (Blk.cells ((hB23.ext E32).ext E41)) 1 rfl)) rfl ?_
  refine seqd rfl rfl (does_float (.inr (.inl rfl)) (ev rfl) (ev rfl)) ?_; rintro _ w47 ⟨r44, rfl, h45, E46⟩
  have X48 := Ext.gr X43 E46
  show wpList _ _ _ _ (fr [(.agg #[(Fl r1), (Fl r3), (Fl r5)]), (.agg #[(Fl r7), (Fl r9), (Fl r11)]), (Pt b14 0), (Pt b21 0), (Pt b29 0), (Pt b14 0), (Fl r1), (Pt b21 0), (Fl r7), (Fl r39), (Pt b14 1), (Fl r3), (Pt b21 1), (Fl r9), (Fl r44), Ud, Ud, Ud, Ud, Ud, Ud]) _
  refine q_is (l' := [(.agg #[(Fl r1), (Fl r3), (Fl r5)]), (.agg #[(Fl r7), (Fl r9), (Fl r11)]), (Pt b14 0), (Pt b21 0), (Pt b29 0), (Pt b14 0), (Fl r1), (Pt b21 0), (Fl r7), (Fl r39), (Pt b14 1), (Fl r3), (Pt b21 1), (Fl r9), (Fl r44), (Pt b14 2), Ud, Ud, Ud, Ud, Ud]) rfl rfl (does_fieldAddr (ev rfl) fa26_2) rfl ?_
  refine q_is (l' := [(.agg #[(Fl r1), (Fl r3), (Fl r5)]), (.agg #[(Fl r7), (Fl r9), (Fl r11)]), (Pt b14 0), (Pt b21 0), (Pt b29 0), (Pt b14 0), (Fl r1), (Pt b21 0), (Fl r7), (Fl r39), (Pt b14 1), (Fl r3), (Pt b21 1), (Fl r9), (Fl r44), (Pt b14 2), (Fl r5), Ud, Ud, Ud, Ud]) rfl rfl (does_load (u := (Fl r5)) (ev rfl) Try.isAgg24 (Cells.at (Blk.cells ((((hB16.ext E24).ext E32).ext E41).ext E46)) 2 rfl)) rfl ?_
  refine q_is (l' := [(.agg #[(Fl r1), (Fl r3), (Fl r5)]), (.agg #[(Fl r7), (Fl r9), (Fl r11)]), (Pt b14 0), (Pt b21 0), (Pt b29 0), (Pt b14 0), (Fl r1), (Pt b21 0), (Fl r7), (Fl r39), (Pt b14 1), (Fl r3), (Pt b21 1), (Fl r9), (Fl r44), (Pt b14 2), (Fl r5), (Pt b21 2), Ud, Ud, Ud]) rfl rfl (does_fieldAddr (ev rfl) fa26_2) rfl ?_
  refine q_is (l' := [(.agg #[(Fl r1), (Fl r3), (Fl r5)]), (.agg #[(Fl r7), (Fl r9), (Fl r11)]), (Pt b14 0), (Pt b21 0), (Pt b29 0), (Pt b14 0), (Fl r1), (Pt b21 0), (Fl r7), (Fl r39), (Pt b14 1), (Fl r3), (Pt b21 1), (Fl r9), (Fl r44), (Pt b14 2), (Fl r5), (Pt b21 2), (Fl r11), Ud, Ud]) rfl rfl (does_load (u := (Fl r11)) (ev rfl) Try.isAgg24 (Cells.at (Blk.cells (((hB23.ext E32).ext E41).ext E46)) 2 rfl)) rfl ?_
  refine seqd rfl rfl (does_float (.inr (.inl rfl)) (ev rfl) (ev rfl)) ?_; rintro _ w52 ⟨r49, rfl, h50, E51⟩
  have X53 := Ext.gr X48 E51
  show wpList _ _ _ _ (fr [(.agg #[(Fl r1), (Fl r3), (Fl r5)]), (.agg #[(Fl r7), (Fl r9), (Fl r11)]), (Pt b14 0), (Pt b21 0), (Pt b29 0), (Pt b14 0), (Fl r1), (Pt b21 0), (Fl r7), (Fl r39), (Pt b14 1), (Fl r3), (Pt b21 1), (Fl r9), (Fl r44), (Pt b14 2), (Fl r5), (Pt b21 2), (Fl r11), (Fl r49), Ud]) _
  refine q_is (l' := [(.agg #[(Fl r1), (Fl r3), (Fl r5)]), (.agg #[(Fl r7), (Fl r9), (Fl r11)]), (Pt b14 0), (Pt b21 0), (Pt b29 0), (Pt b14 0), (Fl r1), (Pt b21 0), (Fl r7), (Fl r39), (Pt b14 1), (Fl r3), (Pt b21 1), (Fl r9), (Fl r44), (Pt b14 2), (Fl r5), (Pt b21 2), (Fl r11), (Fl r49), (.agg #[(Fl r39), (Fl r44), (Fl r49)])]) rfl rfl (does_build (parts' := [(0, (Fl r39)), (1, (Fl r44)), (2, (Fl r49))]) (cells := #[(Fl r39), (Fl r44), (Fl r49)]) (evp rfl) (by kernel_rfl)) rfl ?_
  refine seqn rfl rfl (does_store (n := 3) (cs := [(Fl 0), (Fl 0), (Fl 0)]) (u := (.agg #[(Fl r39), (Fl r44), (Fl r49)])) (ev rfl) (ev rfl) Try.sizeOf26 rfl (((hB31.ext E41).ext E46).ext E51) (Nat.le_of_ble_eq_true rfl) rfl) ?_; rintro _ w56 ⟨rfl, W54, hB55⟩
  change Blk _ _ [(Fl r39), (Fl r44), (Fl r49)] at hB55
  have X57 := Below.wr X53 W54 g36
  refine wpList_nil (hK38 _ _ ?_)
  refine wp_ret ?_
  refine ret_val (v := (.agg #[(Fl r39), (Fl r44), (Fl r49)])) (res_C rfl (slot rfl) (run_loadAgg (cs := [(Fl r39), (Fl r44), (Fl r49)]) Try.isAgg26 Try.sizeOf26 (Blk.cells hB55) rfl)) X57 ?_
  have x58 : cf .f32 r39 = (vsub A_a A_b).x := by first | with_reducible rfl | (simp only [vsub, h2, h4, h6, h8, h10, h12, h40, h45, h50]; done) | (simp [vsub, h2, h4, h6, h8, h10, h12, h40, h45, h50]; done) | rfl
  have x59 : cf .f32 r44 = (vsub A_a A_b).y := by first | with_reducible rfl | (simp only [vsub, h2, h4, h6, h8, h10, h12, h40, h45, h50]; done) | (simp [vsub, h2, h4, h6, h8, h10, h12, h40, h45, h50]; done) | rfl
  have x60 : cf .f32 r49 = (vsub A_a A_b).z := by first | with_reducible rfl | (simp only [vsub, h2, h4, h6, h8, h10, h12, h40, h45, h50]; done) | (simp [vsub, h2, h4, h6, h8, h10, h12, h40, h45, h50]; done) | rfl
  exact ⟨[(Fl r39), (Fl r44), (Fl r49)], rfl, ⟨r39, r44, r49, rfl, x58, x59, x60⟩⟩

/- impl.overlap -/
theorem c_impl_overlap (ctr : Value) (L_ctr : List V3) (rad : Value) (L_rad : List Nat) (i_ : Int) (k_ : Int) (w : World) (hv_ctr : Sl RV3 3 w ctr L_ctr) (hv_rad : Sl RF 1 w rad L_rad) (hi0 : 0 ≤ i_ ∧ i_ < L_ctr.length) (hk0 : 0 ≤ k_ ∧ k_ < L_ctr.length) (hrl : L_rad.length = L_ctr.length) : Gives Try.prog 82 #[ctr, rad, (Iv i_), (Iv k_)] w (fun v w' => ∃ r_1 : Nat, v = (Fl r_1) ∧ cf .f32 r_1 = ovF L_ctr L_rad i_.toNat k_.toNat) := by
  have hlen_ctr := Sl.len hv_ctr; obtain ⟨p_ctr, q_ctr, rfl⟩ := Sl.shape hv_ctr
  have hlen_rad := Sl.len hv_rad; obtain ⟨p_rad, q_rad, rfl⟩ := Sl.shape hv_rad
  refine enter [(.slice p_ctr L_ctr.length q_ctr), (.slice p_rad L_rad.length q_rad), (Iv i_), (Iv k_), Ud, Ud, Ud, Ud, Ud, Ud, Ud, Ud, Ud, Ud, Ud, Ud, Ud, Ud, Ud, Ud, Ud, Ud, Ud, Ud, Ud, Ud, Ud, Ud, Ud] Try.func82 rfl Try.ntmps82 rfl ?_
  refine wp_seq_k fun K1 hK1 => ?_
  refine wp_region_lit ?_
  refine q_is (l' := [(.slice p_ctr L_ctr.length q_ctr), (.slice p_rad L_rad.length q_rad), (Iv i_), (Iv k_), Ud, Ud, Ud, Ud, (Fl 0), Ud, Ud, Ud, Ud, Ud, Ud, Ud, Ud, Ud, Ud, Ud, Ud, Ud, Ud, Ud, Ud, Ud, Ud, Ud, Ud]) rfl rfl (does_assign (u := (Fl 0)) (ev rfl)) rfl ?_
  refine wpList_nil (hK1 _ _ ?_)
  refine wp_seq_k fun K2 hK2 => ?_
  obtain ⟨el1, hel1⟩ : ∃ e, L_rad[i_.toNat]? = some e := ⟨_, List.getElem?_eq_getElem (by omega)⟩
  obtain ⟨el2, hel2⟩ : ∃ e, L_rad[k_.toNat]? = some e := ⟨_, List.getElem?_eq_getElem (by omega)⟩
  obtain ⟨el3, hel3⟩ : ∃ e, L_ctr[k_.toNat]? = some e := ⟨_, List.getElem?_eq_getElem (by omega)⟩
  obtain ⟨el4, hel4⟩ : ∃ e, L_ctr[i_.toNat]? = some e := ⟨_, List.getElem?_eq_getElem (by omega)⟩
  refine region_draw (
    [Fact.pure [] (fun v => v = (.slice p_rad L_rad.length q_rad)),
    Fact.pure [] (fun v => v = (Iv i_)),
    Fact.mem [9, 10] (fun v w' => PtrR RF w' v el1) (by intro v w1 w2 hx h; exact h.ext RF.mono hx),
    Fact.pure [11] (fun v => ∃ r_1 : Nat, v = (Fl r_1) ∧ cf .f32 r_1 = el1),
    Fact.pure [] (fun v => v = (.slice p_rad L_rad.length q_rad)),
    Fact.pure [] (fun v => v = (Iv k_)),
    Fact.mem [13, 14] (fun v w' => PtrR RF w' v el2) (by intro v w1 w2 hx h; exact h.ext RF.mono hx),
    Fact.pure [15] (fun v => ∃ r_1 : Nat, v = (Fl r_1) ∧ cf .f32 r_1 = el2),
    Fact.pure [12, 16] (fun v => ∃ r_1 : Nat, v = (Fl r_1) ∧ cf .f32 r_1 = fop .add .f32 el1 el2),
    Fact.pure [] (fun v => v = (.slice p_ctr L_ctr.length q_ctr)),
    Fact.pure [] (fun v => v = (Iv k_)),
    Fact.mem [18, 19] (fun v w' => PtrR RV3 w' v el3) (by intro v w1 w2 hx h; exact h.ext RV3.mono hx),
    Fact.pure [20] (fun v => ∃ cs_1 : List Value, v = (.agg cs_1.toArray) ∧ RV3 w el3 cs_1),
    Fact.pure [] (fun v => v = (.slice p_ctr L_ctr.length q_ctr)),
    Fact.pure [] (fun v => v = (Iv i_)),
    Fact.mem [22, 23] (fun v w' => PtrR RV3 w' v el4) (by intro v w1 w2 hx h; exact h.ext RV3.mono hx),
    Fact.pure [24] (fun v => ∃ cs_1 : List Value, v = (.agg cs_1.toArray) ∧ RV3 w el4 cs_1),
    Fact.pure [21, 25] (fun v => ∃ cs_1 : List Value, v = (.agg cs_1.toArray) ∧ RV3 w (vsub el3 el4) cs_1),
    Fact.pure [26] (fun v => ∃ r_1 : Nat, v = (Fl r_1) ∧ cf .f32 r_1 = longF (vsub el3 el4)),
    Fact.pure [17, 27] (fun v => ∃ r_1 : Nat, v = (Fl r_1) ∧ cf .f32 r_1 = fop .sub .f32 (fop .add .f32 el1 el2) (longF (vsub el3 el4)))]) mixed (by kernel_rfl) (by intro _ _ d _ _ h; cases d <;> exact h) ?_
  obtain ⟨w3, hw5⟩ : ∃ w', w' = World.drew w := ⟨_, rfl⟩; rw [← hw5]; have E4 : Ext w w3 := by rw [hw5]; exact Ext.draw _
  clear hw5
  have X6 := Ext.gr (Ext.refl w) E4
  refine RW_d (fun v7 => [(.slice p_ctr L_ctr.length q_ctr), (.slice p_rad L_rad.length q_rad), (Iv i_), (Iv k_), Ud, Ud, Ud, Ud, (Fl 0), v7, Ud, Ud, Ud, Ud, Ud, Ud, Ud, Ud, Ud, Ud, Ud, Ud, Ud, Ud, Ud, Ud, Ud, Ud, Ud]) rfl (fun _ => rfl) (fun u hu hF => ?_) (fun v7 => ?_)
  · clear hF
    refine doesG_un rfl ?_
    refine (does_move (u := (.slice p_rad L_rad.length q_rad)) (ev rfl)).mono ?_; rintro _ _ ⟨rfl, rfl⟩
    exact ⟨rfl, Ext.refl _⟩
  refine RW_d (fun v8 => [(.slice p_ctr L_ctr.length q_ctr), (.slice p_rad L_rad.length q_rad), (Iv i_), (Iv k_), Ud, Ud, Ud, Ud, (Fl 0), v7, v8, Ud, Ud, Ud, Ud, Ud, Ud, Ud, Ud, Ud, Ud, Ud, Ud, Ud, Ud, Ud, Ud, Ud, Ud]) rfl (fun _ => rfl) (fun u hu hF => ?_) (fun v8 => ?_)
  · clear hF
    refine doesG_un rfl ?_
    refine (does_move (u := (Iv i_)) (ev rfl)).mono ?_; rintro _ _ ⟨rfl, rfl⟩
    exact ⟨rfl, Ext.refl _⟩
  refine RW_d (fun v9 => [(.slice p_ctr L_ctr.length q_ctr), (.slice p_rad L_rad.length q_rad), (Iv i_), (Iv k_), Ud, Ud, Ud, Ud, (Fl 0), v7, v8, v9, Ud, Ud, Ud, Ud, Ud, Ud, Ud, Ud, Ud, Ud, Ud, Ud, Ud, Ud, Ud, Ud, Ud]) rfl (fun _ => rfl) (fun u hu hF => ?_) (fun v9 => ?_)
  · have h9_ : v7 = (.slice p_rad L_rad.length q_rad) := hF.1
    have h10_ : v8 = (Iv i_) := hF.2.1
    clear hF
    refine doesG_un rfl ?_
    obtain rfl := h9_
    obtain rfl := h10_
    refine (does_indexSl (R := RF) (i := i_) (xs := L_rad) (e := el1) Try.underlying75 Try.sizeOf24 (ev rfl) (ev rfl) (Sl.ext (Sl.ext hv_rad RF.mono (Ext.gr (Ext.refl w) E4)) RF.mono hu) (by omega) hel1).mono ?_; rintro v u' ⟨b, of, cs, hv, hc, hR, hu'⟩; subst hu'
    exact ⟨⟨b, of, cs, hv, hc, hR⟩, Ext.refl _⟩
  refine RW_d (fun v10 => [(.slice p_ctr L_ctr.length q_ctr), (.slice p_rad L_rad.length q_rad), (Iv i_), (Iv k_), Ud, Ud, Ud, Ud, (Fl 0), v7, v8, v9, v10, Ud, Ud, Ud, Ud, Ud, Ud, Ud, Ud, Ud, Ud, Ud, Ud, Ud, Ud, Ud, Ud]) rfl (fun _ => rfl) (fun u hu hF => ?_) (fun v10 => ?_)
  · have h11_ : PtrR RF u v9 el1 := hF.1
    clear hF
    refine doesG_un rfl ?_
    obtain ⟨b11_, o11_, _, rfl, hc11_, ⟨r11_1, rfl, h11_2⟩⟩ := h11_
    refine (does_load (u := (Fl r11_1)) (ev rfl) Try.isAgg24 (Cells.at hc11_ 0 rfl)).mono ?_; rintro _ _ ⟨rfl, rfl⟩
    exact ⟨⟨r11_1, rfl, (by simp only [h11_2])⟩, Ext.refl _⟩
  refine RW_d (fun v11 => [(.slice p_ctr L_ctr.length q_ctr), (.slice p_rad L_rad.length q_rad), (Iv i_), (Iv k_), Ud, Ud, Ud, Ud, (Fl 0), v7, v8, v9, v10, v11, Ud, Ud, Ud, Ud, Ud, Ud, Ud, Ud, Ud, Ud, Ud, Ud, Ud, Ud, Ud]) rfl (fun _ => rfl) (fun u hu hF => ?_) (fun v11 => ?_)
  · clear hF
    refine doesG_un rfl ?_
    refine (does_move (u := (.slice p_rad L_rad.length q_rad)) (ev rfl)).mono ?_; rintro _ _ ⟨rfl, rfl⟩
    exact ⟨rfl, Ext.refl _⟩
  refine RW_d (fun v12 => [(.slice p_ctr L_ctr.length q_ctr), (.slice p_rad L_rad.length q_rad), (Iv i_), (Iv k_), Ud, Ud, Ud, Ud, (Fl 0), v7, v8, v9, v10, v11, v12, Ud, Ud, Ud, Ud, Ud, Ud, Ud, Ud, Ud, Ud, Ud, Ud, Ud, Ud]) rfl (fun _ => rfl) (fun u hu hF => ?_) (fun v12 => ?_)
  · clear hF
    refine doesG_un rfl ?_
    refine (does_move (u := (Iv k_)) (ev rfl)).mono ?_; rintro _ _ ⟨rfl, rfl⟩
    exact ⟨rfl, Ext.refl _⟩
  refine RW_d (fun v13 => [(.slice p_ctr L_ctr.length q_ctr), (.slice p_rad L_rad.length q_rad), (Iv i_), (Iv k_), Ud, Ud, Ud, Ud, (Fl 0), v7, v8, v9, v10, v11, v12, v13, Ud, Ud, Ud, Ud, Ud, Ud, Ud, Ud, Ud, Ud, Ud, Ud, Ud]) rfl (fun _ => rfl) (fun u hu hF => ?_) (fun v13 => ?_)
  · have h13_ : v11 = (.slice p_rad L_rad.length q_rad) := hF.1
    have h14_ : v12 = (Iv k_) := hF.2.1
    clear hF
    refine doesG_un rfl ?_
    obtain rfl := h13_
    obtain rfl := h14_
    refine (does_indexSl (R := RF) (i := k_) (xs := L_rad) (e := el2) Try.underlying75 Try.sizeOf24 (ev rfl) (ev rfl) (Sl.ext (Sl.ext hv_rad RF.mono (Ext.gr (Ext.refl w) E4)) RF.mono hu) (by omega) hel2).mono ?_; rintro v u' ⟨b, of, cs, hv, hc, hR, hu'⟩; subst hu'
    exact ⟨⟨b, of, cs, hv, hc, hR⟩, Ext.refl _⟩
  refine RW_d (fun v14 => [(.slice p_ctr L_ctr.length q_ctr), (.slice p_rad L_rad.length q_rad), (Iv i_), (Iv k_), Ud, Ud, Ud, Ud, (Fl 0), v7, v8, v9, v10, v11, v12, v13, v14, Ud, Ud, Ud, Ud, Ud, Ud, Ud, Ud, Ud, Ud, Ud, Ud]) rfl (fun _ => rfl) (fun u hu hF => ?_) (fun v14 => ?_)
  · have h15_ : PtrR RF u v13 el2 := hF.1
    clear hF
    refine doesG_un rfl ?_
    obtain ⟨b15_, o15_, _, rfl, hc15_, ⟨r15_1, rfl, h15_2⟩⟩ := h15_
    refine (does_load (u := (Fl r15_1)) (ev rfl) Try.isAgg24 (Cells.at hc15_ 0 rfl)).mono ?_; rintro _ _ ⟨rfl, rfl⟩
    exact ⟨⟨r15_1, rfl, (by simp only [h15_2])⟩, Ext.refl _⟩
  refine RW_d (fun v15 => [(.slice p_ctr L_ctr.length q_ctr), (.slice p_rad L_rad.length q_rad), (Iv i_), (Iv k_), Ud, Ud, Ud, Ud, (Fl 0), v7, v8, v9, v10, v11, v12, v13, v14, v15, Ud, Ud, Ud, Ud, Ud, Ud, Ud, Ud, Ud, Ud, Ud]) rfl (fun _ => rfl) (fun u hu hF => ?_) (fun v15 => ?_)
  · have h12_ : ∃ r_1 : Nat, v10 = (Fl r_1) ∧ cf .f32 r_1 = el1 := hF.1
    have h16_ : ∃ r_1 : Nat, v14 = (Fl r_1) ∧ cf .f32 r_1 = el2 := hF.2.1
    clear hF
    refine doesG_un rfl ?_
    obtain ⟨r12_1, rfl, h12_2⟩ := h12_
    obtain ⟨r16_1, rfl, h16_2⟩ := h16_
    refine (does_float (.inl rfl) (ev rfl) (ev rfl)).mono ?_; rintro _ _ ⟨r, rfl, hr, hx⟩
    exact ⟨⟨r, rfl, (by simp only [hr, h12_2, h16_2])⟩, hx⟩
  refine RW_d (fun v16 => [(.slice p_ctr L_ctr.length q_ctr), (.slice p_rad L_rad.length q_rad), (Iv i_), (Iv k_), Ud, Ud, Ud, Ud, (Fl 0), v7, v8, v9, v10, v11, v12, v13, v14, v15, v16, Ud, Ud, Ud, Ud, Ud, Ud, Ud, Ud, Ud, Ud]) rfl (fun _ => rfl) (fun u hu hF => ?_) (fun v16 => ?_)
  · clear hF
    refine doesG_un rfl ?_
    refine (does_move (u := (.slice p_ctr L_ctr.length q_ctr)) (ev rfl)).mono ?_; rintro _ _ ⟨rfl, rfl⟩
    exact ⟨rfl, Ext.refl _⟩
  refine RW_d (fun v17 => [(.slice p_ctr L_ctr.length q_ctr), (.slice p_rad L_rad.length q_rad), (Iv i_), (Iv k_), Ud, Ud, Ud, Ud, (Fl 0), v7, v8, v9, v10, v11, v12, v13, v14, v15, v16, v17, Ud, Ud, Ud, Ud, Ud, Ud, Ud, Ud, Ud]) rfl (fun _ => rfl) (fun u hu hF => ?_) (fun v17 => ?_)
  · clear hF
    refine doesG_un rfl ?_
    refine (does_move (u := (Iv k_)) (ev rfl)).mono ?_; rintro _ _ ⟨rfl, rfl⟩
    exact ⟨rfl, Ext.refl _⟩
  refine RW_d (fun v18 => [(.slice p_ctr L_ctr.length q_ctr), (.slice p_rad L_rad.length q_rad), (Iv i_), (Iv k_), Ud, Ud, Ud, Ud, (Fl 0), v7, v8, v9, v10, v11, v12, v13, v14, v15, v16, v17, v18, Ud, Ud, Ud, Ud, Ud, Ud, Ud, Ud]) rfl (fun _ => rfl) (fun u hu hF => ?_) (fun v18 => ?_)
  · have h18_ : v16 = (.slice p_ctr L_ctr.length q_ctr) := hF.1
    have h19_ : v17 = (Iv k_) := hF.2.1
    clear hF
    refine doesG_un rfl ?_
    obtain rfl := h18_
    obtain rfl := h19_
    refine (does_indexSl (R := RV3) (i := k_) (xs := L_ctr) (e := el3) Try.underlying31 Try.sizeOf26 (ev rfl) (ev rfl) (Sl.ext (Sl.ext hv_ctr RV3.mono (Ext.gr (Ext.refl w) E4)) RV3.mono hu) (by omega) hel3).mono ?_; rintro v u' ⟨b, of, cs, hv, hc, hR, hu'⟩; subst hu'
    exact ⟨⟨b, of, cs, hv, hc, hR⟩, Ext.refl _⟩
  refine RW_d (fun v19 => [(.slice p_ctr L_ctr.length q_ctr), (.slice p_rad L_rad.length q_rad), (Iv i_), (Iv k_), Ud, Ud, Ud, Ud, (Fl 0), v7, v8, v9, v10, v11, v12, v13, v14, v15, v16, v17, v18, v19, Ud, Ud, Ud, Ud, Ud, Ud, Ud]) rfl (fun _ => rfl) (fun u hu hF => ?_) (fun v19 => ?_)
  · have h20_ : PtrR RV3 u v18 el3 := hF.1
    clear hF
    refine doesG_un rfl ?_
    obtain ⟨b20_, o20_, _, rfl, hc20_, ⟨r20_1, r20_3, r20_5, rfl, h20_2, h20_4, h20_6⟩⟩ := h20_
    refine (does_loadAgg (cs := [(Fl r20_1), (Fl r20_3), (Fl r20_5)]) (ev rfl) Try.isAgg26 Try.sizeOf26 hc20_ rfl).mono ?_; rintro _ _ ⟨rfl, rfl⟩
    exact ⟨⟨[(Fl r20_1), (Fl r20_3), (Fl r20_5)], rfl, ⟨r20_1, r20_3, r20_5, rfl, (by first | assumption | rfl), (by first | assumption | rfl), (by first | assumption | rfl)⟩⟩, Ext.refl _⟩
  refine RW_d (fun v20 => [(.slice p_ctr L_ctr.length q_ctr), (.slice p_rad L_rad.length q_rad), (Iv i_), (Iv k_), Ud, Ud, Ud, Ud, (Fl 0), v7, v8, v9, v10, v11, v12, v13, v14, v15, v16, v17, v18, v19, v20, Ud, Ud, Ud, Ud, Ud, Ud]) rfl (fun _ => rfl) (fun u hu hF => ?_) (fun v20 => ?_)
  · clear hF
    refine doesG_un rfl ?_
    refine (does_move (u := (.slice p_ctr L_ctr.length q_ctr)) (ev rfl)).mono ?_; rintro _ _ ⟨rfl, rfl⟩
    exact ⟨rfl, Ext.refl _⟩
  refine RW_d (fun v21 => [(.slice p_ctr L_ctr.length q_ctr), (.slice p_rad L_rad.length q_rad), (Iv i_), (Iv k_), Ud, Ud, Ud, Ud, (Fl 0), v7, v8, v9, v10, v11, v12, v13, v14, v15, v16, v17, v18, v19, v20, v21, Ud, Ud, Ud, Ud, Ud]) rfl (fun _ => rfl) (fun u hu hF => ?_) (fun v21 => ?_)
  · clear hF
    refine doesG_un rfl ?_
    refine (does_move (u := (Iv i_)) (ev rfl)).mono ?_; rintro _ _ ⟨rfl, rfl⟩
    exact ⟨rfl, Ext.refl _⟩
  refine RW_d (fun v22 => [(.slice p_ctr L_ctr.length q_ctr), (.slice p_rad L_rad.length q_rad), (Iv i_), (Iv k_), Ud, Ud, Ud, Ud, (Fl 0), v7, v8, v9, v10, v11, v12, v13, v14, v15, v16, v17, v18, v19, v20, v21, v22, Ud, Ud, Ud, Ud]) rfl (fun _ => rfl) (fun u hu hF => ?_) (fun v22 => ?_)
  · have h22_ : v20 = (.slice p_ctr L_ctr.length q_ctr) := hF.1
    have h23_ : v21 = (Iv i_) := hF.2.1
    clear hF
    refine doesG_un rfl ?_
    obtain rfl := h22_
    obtain rfl := h23_
    refine (does_indexSl (R := RV3) (i := i_) (xs := L_ctr) (e := el4) Try.underlying31 Try.sizeOf26 (ev rfl) (ev rfl) (Sl.ext (Sl.ext hv_ctr RV3.mono (Ext.gr (Ext.refl w) E4)) RV3.mono hu) (by omega) hel4).mono ?_; rintro v u' ⟨b, of, cs, hv, hc, hR, hu'⟩; subst hu'
    exact ⟨⟨b, of, cs, hv, hc, hR⟩, Ext.refl _⟩
  refine RW_d (fun v23 => [(.slice p_ctr L_ctr.length q_ctr), (.slice p_rad L_rad.length q_rad), (Iv i_), (Iv k_), Ud, Ud, Ud, Ud, (Fl 0), v7, v8, v9, v10, v11, v12, v13, v14, v15, v16, v17, v18, v19, v20, v21, v22, v23, Ud, Ud, Ud]) rfl (fun _ => rfl) (fun u hu hF => ?_) (fun v23 => ?_)
  · have h24_ : PtrR RV3 u v22 el4 := hF.1
    clear hF
    refine doesG_un rfl ?_
    obtain ⟨b24_, o24_, _, rfl, hc24_, ⟨r24_1, r24_3, r24_5, rfl, h24_2, h24_4, h24_6⟩⟩ := h24_
    refine (does_loadAgg (cs := [(Fl r24_1), (Fl r24_3), (Fl r24_5)]) (ev rfl) Try.isAgg26 Try.sizeOf26 hc24_ rfl).mono ?_; rintro _ _ ⟨rfl, rfl⟩
    exact ⟨⟨[(Fl r24_1), (Fl r24_3), (Fl r24_5)], rfl, ⟨r24_1, r24_3, r24_5, rfl, (by first | assumption | rfl), (by first | assumption | rfl), (by first | assumption | rfl)⟩⟩, Ext.refl _⟩
  refine RW_d (fun v24 => [(.slice p_ctr L_ctr.length q_ctr), (.slice p_rad L_rad.length q_rad), (Iv i_), (Iv k_), Ud, Ud, Ud, Ud, (Fl 0), v7, v8, v9, v10, v11, v12, v13, v14, v15, v16, v17, v18, v19, v20, v21, v22, v23, v24, Ud, Ud]) rfl (fun _ => rfl) (fun u hu hF => ?_) (fun v24 => ?_)
  · have h21_ : ∃ cs_1 : List Value, v19 = (.agg cs_1.toArray) ∧ RV3 w el3 cs_1 := hF.1
    have h25_ : ∃ cs_1 : List Value, v23 = (.agg cs_1.toArray) ∧ RV3 w el4 cs_1 := hF.2.1
    clear hF
    refine doesG_un rfl ?_
    obtain ⟨_, rfl, ⟨r21_1, r21_3, r21_5, rfl, h21_2, h21_4, h21_6⟩⟩ := h21_
    obtain ⟨_, rfl, ⟨r25_1, r25_3, r25_5, rfl, h25_2, h25_4, h25_6⟩⟩ := h25_
    refine (does_call (args := #[(.agg #[(Fl r21_1), (Fl r21_3), (Fl r21_5)]), (.agg #[(Fl r25_1), (Fl r25_3), (Fl r25_5)])]) cal91 (evs rfl) (c_impl_LessVectors [(Fl r21_1), (Fl r21_3), (Fl r21_5)] el3 [(Fl r25_1), (Fl r25_3), (Fl r25_5)] el4 _ ⟨r21_1, r21_3, r21_5, rfl, (by assumption), (by assumption), (by assumption)⟩ ⟨r25_1, r25_3, r25_5, rfl, (by assumption), (by assumption), (by assumption)⟩)).mono ?_; rintro v u' ⟨hx, ⟨csn1, hv, k0⟩⟩
    exact ⟨⟨csn1, hv.trans (by simp only [h21_2, h21_4, h21_6, h25_2, h25_4, h25_6]), (by first | exact k0 | simpa only [h21_2, h21_4, h21_6, h25_2, h25_4, h25_6] using RV3.any (w := w) k0)⟩, hx⟩
  refine RW_d (fun v25 => [(.slice p_ctr L_ctr.length q_ctr), (.slice p_rad L_rad.length q_rad), (Iv i_), (Iv k_), Ud, Ud, Ud, Ud, (Fl 0), v7, v8, v9, v10, v11, v12, v13, v14, v15, v16, v17, v18, v19, v20, v21, v22, v23, v24, v25, Ud]) rfl (fun _ => rfl) (fun u hu hF => ?_) (fun v25 => ?_)
  · have h26_ : ∃ cs_1 : List Value, v24 = (.agg cs_1.toArray) ∧ RV3 w (vsub el3 el4) cs_1 := hF.1
    clear hF
    refine doesG_un rfl ?_
    obtain ⟨_, rfl, ⟨r26_1, r26_3, r26_5, rfl, h26_2, h26_4, h26_6⟩⟩ := h26_
    refine (does_call (args := #[(.agg #[(Fl r26_1), (Fl r26_3), (Fl r26_5)])]) cal63 (evs rfl) (c_impl_LongOf [(Fl r26_1), (Fl r26_3), (Fl r26_5)] (vsub el3 el4) _ ⟨r26_1, r26_3, r26_5, rfl, (by assumption), (by assumption), (by assumption)⟩)).mono ?_; rintro v u' ⟨hx, ⟨rn1, hv, k0⟩⟩
    exact ⟨⟨rn1, hv.trans (by simp only [h26_2, h26_4, h26_6]), (by simp only [k0, h26_2, h26_4, h26_6])⟩, hx⟩
  refine RW_d (fun v26 => [(.slice p_ctr L_ctr.length q_ctr), (.slice p_rad L_rad.length q_rad), (Iv i_), (Iv k_), Ud, Ud, Ud, Ud, (Fl 0), v7, v8, v9, v10, v11, v12, v13, v14, v15, v16, v17, v18, v19, v20, v21, v22, v23, v24, v25, v26]) rfl (fun _ => rfl) (fun u hu hF => ?_) (fun v26 => ?_)
  · have h17_ : ∃ r_1 : Nat, v15 = (Fl r_1) ∧ cf .f32 r_1 = fop .add .f32 el1 el2 := hF.1
    have h27_ : ∃ r_1 : Nat, v25 = (Fl r_1) ∧ cf .f32 r_1 = longF (vsub el3 el4) := hF.2.1
    clear hF
    refine doesG_un rfl ?_
    obtain ⟨r17_1, rfl, h17_2⟩ := h17_
    obtain ⟨r27_1, rfl, h27_2⟩ := h27_
    refine (does_float (.inr (.inl rfl)) (ev rfl) (ev rfl)).mono ?_; rintro _ _ ⟨r, rfl, hr, hx⟩
    exact ⟨⟨r, rfl, (by simp only [hr, h17_2, h27_2])⟩, hx⟩
  refine RW_fin ?_; intro w27 E28 hP29
  obtain ⟨⟨⟨⟨⟨⟨⟨⟨⟨⟨⟨⟨⟨⟨⟨⟨⟨⟨⟨⟨-, -⟩, -⟩, -⟩, -⟩, -⟩, -⟩, -⟩, -⟩, -⟩, -⟩, -⟩, -⟩, -⟩, -⟩, -⟩, -⟩, -⟩, -⟩, -⟩, q30⟩ := hP29
  have X31 := Ext.gr X6 E28
  have q30 : ∃ r_1 : Nat, v26 = (Fl r_1) ∧ cf .f32 r_1 = fop .sub .f32 (fop .add .f32 el1 el2) (longF (vsub el3 el4)) := q30
  obtain ⟨r32, rfl, h33⟩ := q30
  show wpList _ _ _ _ (fr [(.slice p_ctr L_ctr.length q_ctr), (.slice p_rad L_rad.length q_rad), (Iv i_), (Iv k_), Ud, Ud, Ud, Ud, (Fl 0), v7, v8, v9, v10, v11, v12, v13, v14, v15, v16, v17, v18, v19, v20, v21, v22, v23, v24, v25, (Fl r32)]) _
  refine q_is (l' := [(.slice p_ctr L_ctr.length q_ctr), (.slice p_rad L_rad.length q_rad), (Iv i_), (Iv k_), Ud, Ud, Ud, Ud, (Fl r32), v7, v8, v9, v10, v11, v12, v13, v14, v15, v16, v17, v18, v19, v20, v21, v22, v23, v24, v25, (Fl r32)]) rfl rfl (does_assign (u := (Fl r32)) (ev rfl)) rfl ?_
  refine wpList_nil (hK2 _ _ ?_)
  refine wp_ret ?_
  refine ret_val (v := (Fl r32)) (res_T rfl (slot rfl)) X31 ?_
  have x34 : cf .f32 r32 = ovF L_ctr L_rad i_.toNat k_.toNat := by first | with_reducible rfl | (simp only [ovF, Option.getD_some, hel1, hel2, hel3, hel4, h33]; done) | (simp [ovF, Option.getD_some, hel1, hel2, hel3, hel4, h33]; done) | rfl
  exact ⟨r32, rfl, x34⟩

/- impl.OverlapOf -/
theorem c_impl_OverlapOf (ctr : Value) (L_ctr : List V3) (rad : Value) (L_rad : List Nat) (w : World) (hv_ctr : Sl RV3 3 w ctr L_ctr) (hv_rad : Sl RF 1 w rad L_rad) : Gives Try.prog 44 #[ctr, rad] w (fun v w' => ∃ r_1 : Nat, v = (.tuple #[(Fl r_1), (Bo (okBalls L_ctr L_rad))]) ∧ cf .f32 r_1 = gvF (okBalls L_ctr L_rad) (mostO L_ctr L_rad)) := by
  have hlen_ctr := Sl.len hv_ctr; obtain ⟨p_ctr, q_ctr, rfl⟩ := Sl.shape hv_ctr
  have hlen_rad := Sl.len hv_rad; obtain ⟨p_rad, q_rad, rfl⟩ := Sl.shape hv_rad
  refine enter [(.slice p_ctr L_ctr.length q_ctr), (.slice p_rad L_rad.length q_rad), Ud, Ud, Ud, Ud, Ud, Ud, Ud, Ud, Ud, Ud, Ud, Ud, Ud, Ud, Ud, Ud, Ud, Ud, Ud, Ud, Ud, Ud, Ud, Ud, Ud, Ud, Ud, Ud, Ud, Ud] Try.func44 rfl Try.ntmps44 rfl ?_
  refine wp_seq_k fun K1 hK1 => ?_
  refine wp_region_lit ?_
  refine q_is (l' := [(.slice p_ctr L_ctr.length q_ctr), (.slice p_rad L_rad.length q_rad), Ud, Ud, (Fl 0), Ud, Ud, Ud, Ud, Ud, Ud, Ud, Ud, Ud, Ud, Ud, Ud, Ud, Ud, Ud, Ud, Ud, Ud, Ud, Ud, Ud, Ud, Ud, Ud, Ud, Ud, Ud]) rfl rfl (does_assign (u := (Fl 0)) (ev rfl)) rfl ?_
  refine q_is (l' := [(.slice p_ctr L_ctr.length q_ctr), (.slice p_rad L_rad.length q_rad), Ud, Ud, (Fl 0), (Bo false), Ud, Ud, Ud, Ud, Ud, Ud, Ud, Ud, Ud, Ud, Ud, Ud, Ud, Ud, Ud, Ud, Ud, Ud, Ud, Ud, Ud, Ud, Ud, Ud, Ud, Ud]) rfl rfl (does_assign (u := (Bo false)) (ev rfl)) rfl ?_
  refine wpList_nil (hK1 _ _ ?_)
  refine wp_seq_k fun K2 hK2 => ?_
  refine wp_seq_k fun K3 hK3 => ?_
  refine wp_region_lit ?_
  refine q_is (l' := [(.slice p_ctr L_ctr.length q_ctr), (.slice p_rad L_rad.length q_rad), Ud, Ud, (Fl 0), (Bo false), Ud, Ud, Ud, (.slice p_ctr L_ctr.length q_ctr), Ud, Ud, Ud, Ud, Ud, Ud, Ud, Ud, Ud, Ud, Ud, Ud, Ud, Ud, Ud, Ud, Ud, Ud, Ud, Ud, Ud, Ud]) rfl rfl (does_move (u := (.slice p_ctr L_ctr.length q_ctr)) (ev rfl)) rfl ?_
  refine q_is (l' := [(.slice p_ctr L_ctr.length q_ctr), (.slice p_rad L_rad.length q_rad), Ud, Ud, (Fl 0), (Bo false), Ud, Ud, Ud, (.slice p_ctr L_ctr.length q_ctr), (.slice p_rad L_rad.length q_rad), Ud, Ud, Ud, Ud, Ud, Ud, Ud, Ud, Ud, Ud, Ud, Ud, Ud, Ud, Ud, Ud, Ud, Ud, Ud, Ud, Ud]) rfl rfl (does_move (u := (.slice p_rad L_rad.length q_rad)) (ev rfl)) rfl ?_
  refine seqd rfl rfl (does_call (args := #[(.slice p_ctr L_ctr.length q_ctr), (.slice p_rad L_rad.length q_rad)]) cal80 (evs rfl) (c_impl_ballsOk (.slice p_ctr L_ctr.length q_ctr) L_ctr (.slice p_rad L_rad.length q_rad) L_rad _ hv_ctr hv_rad)) ?_; rintro _ w5 ⟨E4, rfl⟩
  have X6 := Ext.gr (Ext.refl w) E4
  show wpList _ _ _ _ (fr [(.slice p_ctr L_ctr.length q_ctr), (.slice p_rad L_rad.length q_rad), Ud, Ud, (Fl 0), (Bo false), Ud, Ud, Ud, (.slice p_ctr L_ctr.length q_ctr), (.slice p_rad L_rad.length q_rad), (Bo (okBalls L_ctr L_rad)), Ud, Ud, Ud, Ud, Ud, Ud, Ud, Ud, Ud, Ud, Ud, Ud, Ud, Ud, Ud, Ud, Ud, Ud, Ud, Ud]) _
  refine q_is (l' := [(.slice p_ctr L_ctr.length q_ctr), (.slice p_rad L_rad.length q_rad), Ud, Ud, (Fl 0), (Bo false), Ud, Ud, Ud, (.slice p_ctr L_ctr.length q_ctr), (.slice p_rad L_rad.length q_rad), (Bo (okBalls L_ctr L_rad)), (Bo (!(okBalls L_ctr L_rad))), Ud, Ud, Ud, Ud, Ud, Ud, Ud, Ud, Ud, Ud, Ud, Ud, Ud, Ud, Ud, Ud, Ud, Ud, Ud]) rfl rfl (does_not (ev rfl)) rfl ?_
  refine wpList_nil (hK3 _ _ ?_)
  refine wp_cond_split (t := !(okBalls L_ctr L_rad)) (ev rfl) (fun c7 => ?_) (fun c7 => ?_)
  · rw [Bool.not_eq_true'] at c7
    have c7' := c7
    refine wp_seq_k fun K8 hK8 => ?_
    refine wp_region_lit ?_
    refine q_is (l' := [(.slice p_ctr L_ctr.length q_ctr), (.slice p_rad L_rad.length q_rad), Ud, Ud, (Fl 0), (Bo false), Ud, Ud, Ud, (.slice p_ctr L_ctr.length q_ctr), (.slice p_rad L_rad.length q_rad), (Bo (okBalls L_ctr L_rad)), (Bo (!(okBalls L_ctr L_rad))), Ud, Ud, Ud, Ud, Ud, Ud, Ud, Ud, Ud, Ud, Ud, Ud, Ud, Ud, Ud, Ud, Ud, Ud, Ud]) rfl rfl (does_assign (u := (Fl 0)) (ev rfl)) rfl ?_
    refine q_is (l' := [(.slice p_ctr L_ctr.length q_ctr), (.slice p_rad L_rad.length q_rad), Ud, Ud, (Fl 0), (Bo false), Ud, Ud, Ud, (.slice p_ctr L_ctr.length q_ctr), (.slice p_rad L_rad.length q_rad), (Bo (okBalls L_ctr L_rad)), (Bo (!(okBalls L_ctr L_rad))), Ud, Ud, Ud, Ud, Ud, Ud, Ud, Ud, Ud, Ud, Ud, Ud, Ud, Ud, Ud, Ud, Ud, Ud, Ud]) rfl rfl (does_assign (u := (Bo false)) (ev rfl)) rfl ?_
    refine wpList_nil (hK8 _ _ ?_)
    refine wp_ret ?_
    dsimp only [Exit.then, Exit.inBlock]
    refine ret_val (v := (.tuple #[(Fl 0), (Bo false)])) (res_TT rfl (slot rfl) (slot rfl)) X6 ?_
    have x9 : (okBalls L_ctr L_rad) = false := by first | rfl | assumption | (rw [‹okBalls _ _ = false›]; rfl) | (rw [‹okBalls _ _ = true›, gvF_t, mostO]; first | (rw [← List.take_of_length_le (l := pairsTo _ _) (by omega)]; assumption) | (rw [hm, show s.1 = L_ctr.length by omega]; done) | (rw [hm, List.take_of_length_le (by omega)]; done) | (simp_all))
    have x10 : cf .f32 0 = gvF (okBalls L_ctr L_rad) (mostO L_ctr L_rad) := by first | rfl | assumption | (rw [‹okBalls _ _ = false›]; rfl) | (rw [‹okBalls _ _ = true›, gvF_t, mostO]; first | (rw [← List.take_of_length_le (l := pairsTo _ _) (by omega)]; assumption) | (rw [hm, show s.1 = L_ctr.length by omega]; done) | (rw [hm, List.take_of_length_le (by omega)]; done) | (simp_all))
    exact ⟨0, (by first | rfl | rw [x9]), x10⟩
  rw [Bool.not_eq_false'] at c7
  have c7' := c7
  refine wp_skip (hK2 _ _ ?_)
  refine wp_seq_k fun K11 hK11 => ?_
  refine wp_region_lit ?_
  refine q_is (l' := [(.slice p_ctr L_ctr.length q_ctr), (.slice p_rad L_rad.length q_rad), Ud, Ud, (Fl 0), (Bo false), (Fl 0), Ud, Ud, (.slice p_ctr L_ctr.length q_ctr), (.slice p_rad L_rad.length q_rad), (Bo (okBalls L_ctr L_rad)), (Bo (!(okBalls L_ctr L_rad))), Ud, Ud, Ud, Ud, Ud, Ud, Ud, Ud, Ud, Ud, Ud, Ud, Ud, Ud, Ud, Ud, Ud, Ud, Ud]) rfl rfl (does_assign (u := (Fl 0)) (ev rfl)) rfl ?_
  refine wpList_nil (hK11 _ _ ?_)
  refine wp_seq_k fun K12 hK12 => ?_
  refine wp_seq_k fun K13 hK13 => ?_
  refine wp_region_lit ?_
  refine q_is (l' := [(.slice p_ctr L_ctr.length q_ctr), (.slice p_rad L_rad.length q_rad), Ud, Ud, (Fl 0), (Bo false), (Fl 0), Ud, Ud, (.slice p_ctr L_ctr.length q_ctr), (.slice p_rad L_rad.length q_rad), (Bo (okBalls L_ctr L_rad)), (Bo (!(okBalls L_ctr L_rad))), (.slice p_ctr L_ctr.length q_ctr), Ud, Ud, Ud, Ud, Ud, Ud, Ud, Ud, Ud, Ud, Ud, Ud, Ud, Ud, Ud, Ud, Ud, Ud]) rfl rfl (does_move (u := (.slice p_ctr L_ctr.length q_ctr)) (ev rfl)) rfl ?_
  refine q_is (l' := [(.slice p_ctr L_ctr.length q_ctr), (.slice p_rad L_rad.length q_rad), Ud, Ud, (Fl 0), (Bo false), (Fl 0), Ud, Ud, (.slice p_ctr L_ctr.length q_ctr), (.slice p_rad L_rad.length q_rad), (Bo (okBalls L_ctr L_rad)), (Bo (!(okBalls L_ctr L_rad))), (.slice p_ctr L_ctr.length q_ctr), (Iv (L_ctr.length : Int)), Ud, Ud, Ud, Ud, Ud, Ud, Ud, Ud, Ud, Ud, Ud, Ud, Ud, Ud, Ud, Ud, Ud]) rfl rfl (does_len_slice Try.underlying31 (ev rfl)) rfl ?_
  refine seqd rfl rfl (does_call (args := #[(Iv (L_ctr.length : Int))]) cal81 (evs rfl) (c_impl_ballPairs (L_ctr.length : Int) _ (by have := okBalls_len (c := L_ctr) (r := L_rad) (by assumption); omega))) ?_; rintro _ w15 ⟨E14, ⟨y17, rfl, hh16⟩⟩
  have X18 := Ext.gr X6 E14
  obtain ⟨p19, q20, rfl⟩ := Sl.shape hh16.get
  show wpList _ _ _ _ (fr [(.slice p_ctr L_ctr.length q_ctr), (.slice p_rad L_rad.length q_rad), Ud, Ud, (Fl 0), (Bo false), (Fl 0), Ud, Ud, (.slice p_ctr L_ctr.length q_ctr), (.slice p_rad L_rad.length q_rad), (Bo (okBalls L_ctr L_rad)), (Bo (!(okBalls L_ctr L_rad))), (.slice p_ctr L_ctr.length q_ctr), (Iv (L_ctr.length : Int)), (.slice p19 ((pairsTo L_ctr.length L_ctr.length).length) q20), Ud, Ud, Ud, Ud, Ud, Ud, Ud, Ud, Ud, Ud, Ud, Ud, Ud, Ud, Ud, Ud]) _
  refine q_is (l' := [(.slice p_ctr L_ctr.length q_ctr), (.slice p_rad L_rad.length q_rad), Ud, Ud, (Fl 0), (Bo false), (Fl 0), Ud, Ud, (.slice p_ctr L_ctr.length q_ctr), (.slice p_rad L_rad.length q_rad), (Bo (okBalls L_ctr L_rad)), (Bo (!(okBalls L_ctr L_rad))), (.slice p_ctr L_ctr.length q_ctr), (Iv (L_ctr.length : Int)), (.slice p19 ((pairsTo L_ctr.length L_ctr.length).length) q20), (Iv (((pairsTo L_ctr.length L_ctr.length).length) : Int)), Ud, Ud, Ud, Ud, Ud, Ud, Ud, Ud, Ud, Ud, Ud, Ud, Ud, Ud, Ud]) rfl rfl (does_len_slice Try.underlying113 (ev rfl)) rfl ?_
  refine q_is (l' := [(.slice p_ctr L_ctr.length q_ctr), (.slice p_rad L_rad.length q_rad), Ud, Ud, (Fl 0), (Bo false), (Fl 0), Ud, Ud, (.slice p_ctr L_ctr.length q_ctr), (.slice p_rad L_rad.length q_rad), (Bo (okBalls L_ctr L_rad)), (Bo (!(okBalls L_ctr L_rad))), (.slice p_ctr L_ctr.length q_ctr), (Iv (L_ctr.length : Int)), (.slice p19 ((pairsTo L_ctr.length L_ctr.length).length) q20), (Iv (((pairsTo L_ctr.length L_ctr.length).length) : Int)), (Iv 0), Ud, Ud, Ud, Ud, Ud, Ud, Ud, Ud, Ud, Ud, Ud, Ud, Ud, Ud]) rfl rfl (does_move (u := (Iv 0)) (ev rfl)) rfl ?_
  refine wpList_nil (hK13 _ _ ?_)
  refine wp_block ?_
  refine loop_ghost (σ := Nat × Nat) (fun s a w' => ∃ u21 : Nat → Value, a = fr [(.slice p_ctr L_ctr.length q_ctr), (.slice p_rad L_rad.length q_rad), Ud, Ud, (Fl 0), (Bo false), (Fl s.2), Ud, (u21 8), (.slice p_ctr L_ctr.length q_ctr), (.slice p_rad L_rad.length q_rad), (Bo (okBalls L_ctr L_rad)), (Bo (!(okBalls L_ctr L_rad))), (.slice p_ctr L_ctr.length q_ctr), (Iv (L_ctr.length : Int)), (.slice p19 ((pairsTo L_ctr.length L_ctr.length).length) q20), (Iv (((pairsTo L_ctr.length L_ctr.length).length) : Int)), (Iv (s.1 : Int)), (u21 18), (u21 19), (u21 20), (u21 21), (u21 22), (u21 23), (u21 24), (u21 25), (u21 26), (u21 27), (u21 28), (u21 29), (u21 30), Ud] ∧ Ext w15 w' ∧ (s.1 ≤ (pairsTo L_ctr.length L_ctr.length).length ∧ cf .f32 s.2 = ovL L_ctr L_rad ((pairsTo L_ctr.length L_ctr.length).take s.1))) (fun s => (pairsTo L_ctr.length L_ctr.length).length - s.1) (0, 0) ?_ ?_
  · refine ⟨fun t => (([(.slice p_ctr L_ctr.length q_ctr), (.slice p_rad L_rad.length q_rad), Ud, Ud, (Fl 0), (Bo false), (Fl 0), Ud, Ud, (.slice p_ctr L_ctr.length q_ctr), (.slice p_rad L_rad.length q_rad), (Bo (okBalls L_ctr L_rad)), (Bo (!(okBalls L_ctr L_rad))), (.slice p_ctr L_ctr.length q_ctr), (Iv (L_ctr.length : Int)), (.slice p19 ((pairsTo L_ctr.length L_ctr.length).length) q20), (Iv (((pairsTo L_ctr.length L_ctr.length).length) : Int)), (Iv 0), Ud, Ud, Ud, Ud, Ud, Ud, Ud, Ud, Ud, Ud, Ud, Ud, Ud, Ud] : List Value)[t]?).getD undef, rfl, Ext.refl _, ?_⟩
    exact ⟨Nat.zero_le _, rfl⟩
  · rintro s a w22 ⟨u21, rfl, E23, ⟨hk, hm⟩⟩
    have X25 := Ext.gr X18 E23
    have hob := okBalls_len (c := L_ctr) (r := L_rad) (by assumption)
    have hpl := pairsTo_len L_ctr.length hob.2.1 L_ctr.length
    refine wp_seq_k fun K26 hK26 => ?_
    refine wp_region_lit ?_
    refine q_is (l' := [(.slice p_ctr L_ctr.length q_ctr), (.slice p_rad L_rad.length q_rad), Ud, Ud, (Fl 0), (Bo false), (Fl s.2), Ud, (u21 8), (.slice p_ctr L_ctr.length q_ctr), (.slice p_rad L_rad.length q_rad), (Bo (okBalls L_ctr L_rad)), (Bo (!(okBalls L_ctr L_rad))), (.slice p_ctr L_ctr.length q_ctr), (Iv (L_ctr.length : Int)), (.slice p19 ((pairsTo L_ctr.length L_ctr.length).length) q20), (Iv (((pairsTo L_ctr.length L_ctr.length).length) : Int)), (Iv (s.1 : Int)), (Bo (icmp .lss (s.1 : Int) (((pairsTo L_ctr.length L_ctr.length).length) : Int))), (u21 19), (u21 20), (u21 21), (u21 22), (u21 23), (u21 24), (u21 25), (u21 26), (u21 27), (u21 28), (u21 29), (u21 30), Ud]) rfl rfl (does_icmp (p := (s.1 : Int)) (q := (((pairsTo L_ctr.length L_ctr.length).length) : Int)) (.inr (.inr (.inl rfl))) (ev rfl) (ev rfl)) rfl ?_
    refine wpList_nil (hK26 _ _ ?_)
    refine wp_seq_k fun K27 hK27 => ?_
    refine wp_cond_split (t := icmp .lss (s.1 : Int) (((pairsTo L_ctr.length L_ctr.length).length) : Int)) (ev rfl) (fun c28 => ?_) (fun c28 => ?_)
    · have c28' := c28
      (try simp only [icmp, Bool.and_eq_true, Bool.or_eq_true, Bool.and_eq_false_iff, Bool.or_eq_false_iff, Bool.not_eq_true', Bool.not_eq_false', decide_eq_true_eq, decide_eq_false_iff_not, beq_iff_eq, bne_iff_ne, beq_eq_false_iff_ne, bne_eq_false_iff_eq] at c28')
      refine wp_skip (hK27 _ _ ?_)
      refine wp_seq_k fun K29 hK29 => ?_
      refine wp_block ?_
      refine wp_seq_k fun K30 hK30 => ?_
      refine wp_region_lit ?_
      obtain ⟨el1, hel1⟩ : ∃ e, (pairsTo L_ctr.length L_ctr.length)[s.1]? = some e := ⟨_, List.getElem?_eq_getElem (by omega)⟩
      refine seqd rfl rfl (does_indexSl (R := RP) (i := (s.1 : Int)) (xs := (pairsTo L_ctr.length L_ctr.length)) (e := el1) Try.underlying113 Try.sizeOf115 (ev rfl) (ev rfl) (hh16 _ ((Same.refl _ _).ext E23)) (by omega) hel1) ?_; rintro _ _ ⟨b31, o32, _, rfl, hc34, rfl, rfl⟩
      show wpList _ _ _ _ (fr [(.slice p_ctr L_ctr.length q_ctr), (.slice p_rad L_rad.length q_rad), Ud, Ud, (Fl 0), (Bo false), (Fl s.2), Ud, (u21 8), (.slice p_ctr L_ctr.length q_ctr), (.slice p_rad L_rad.length q_rad), (Bo (okBalls L_ctr L_rad)), (Bo (!(okBalls L_ctr L_rad))), (.slice p_ctr L_ctr.length q_ctr), (Iv (L_ctr.length : Int)), (.slice p19 ((pairsTo L_ctr.length L_ctr.length).length) q20), (Iv (((pairsTo L_ctr.length L_ctr.length).length) : Int)), (Iv (s.1 : Int)), (Bo (icmp .lss (s.1 : Int) (((pairsTo L_ctr.length L_ctr.length).length) : Int))), (Pt b31 o32), (u21 20), (u21 21), (u21 22), (u21 23), (u21 24), (u21 25), (u21 26), (u21 27), (u21 28), (u21 29), (u21 30), Ud]) _
      refine q_is (l' := [(.slice p_ctr L_ctr.length q_ctr), (.slice p_rad L_rad.length q_rad), Ud, Ud, (Fl 0), (Bo false), (Fl s.2), Ud, (u21 8), (.slice p_ctr L_ctr.length q_ctr), (.slice p_rad L_rad.length q_rad), (Bo (okBalls L_ctr L_rad)), (Bo (!(okBalls L_ctr L_rad))), (.slice p_ctr L_ctr.length q_ctr), (Iv (L_ctr.length : Int)), (.slice p19 ((pairsTo L_ctr.length L_ctr.length).length) q20), (Iv (((pairsTo L_ctr.length L_ctr.length).length) : Int)), (Iv (s.1 : Int)), (Bo (icmp .lss (s.1 : Int) (((pairsTo L_ctr.length L_ctr.length).length) : Int))), (Pt b31 o32), (.agg #[(Iv el1.1), (Iv el1.2)]), (u21 21), (u21 22), (u21 23), (u21 24), (u21 25), (u21 26), (u21 27), (u21 28), (u21 29), (u21 30), Ud]) rfl rfl (does_loadAgg (cs := [(Iv el1.1), (Iv el1.2)]) (ev rfl) Try.isAgg115 Try.sizeOf115 hc34 rfl) rfl ?_
      refine seqd rfl rfl (does_alloc z115) ?_; rintro _ w39 ⟨b35, rfl, hb36, hB37, E38⟩
      have n40 : b31 < b35 := Nat.lt_of_lt_of_le (cell_lt (Cells.at hc34 0 rfl)) hb36
      have g41 : w.heap.size ≤ b35 := Nat.le_trans (Below.size X25) hb36
      change Blk _ _ [(Iv 0), (Iv 0)] at hB37
      have X42 := Ext.gr X25 E38
      show wpList _ _ _ _ (fr [(.slice p_ctr L_ctr.length q_ctr), (.slice p_rad L_rad.length q_rad), Ud, Ud, (Fl 0), (Bo false), (Fl s.2), Ud, (Pt b35 0), (.slice p_ctr L_ctr.length q_ctr), (.slice p_rad L_rad.length q_rad), (Bo (okBalls L_ctr L_rad)), (Bo (!(okBalls L_ctr L_rad))), (.slice p_ctr L_ctr.length q_ctr), (Iv (L_ctr.length : Int)), (.slice p19 ((pairsTo L_ctr.length L_ctr.length).length) q20), (Iv (((pairsTo L_ctr.length L_ctr.length).length) : Int)), (Iv (s.1 : Int)), (Bo (icmp .lss (s.1 : Int) (((pairsTo L_ctr.length L_ctr.length).length) : Int))), (Pt b31 o32), (.agg #[(Iv el1.1), (Iv el1.2)]), (u21 21), (u21 22), (u21 23), (u21 24), (u21 25), (u21 26), (u21 27), (u21 28), (u21 29), (u21 30), Ud]) _
      refine seqn rfl rfl (does_store (n := 2) (cs := [(Iv 0), (Iv 0)]) (u := (.agg #[(Iv el1.1), (Iv el1.2)])) (ev rfl) (ev rfl) Try.sizeOf115 rfl hB37 (Nat.le_of_ble_eq_true rfl) rfl) ?_; rintro _ w45 ⟨rfl, W43, hB44⟩
      change Blk _ _ [(Iv el1.1), (Iv el1.2)] at hB44
      have X46 := Below.wr X42 W43 g41
      refine wpList_nil (hK30 _ _ ?_)
      refine wp_region_lit ?_
      refine q_is (l' := [(.slice p_ctr L_ctr.length q_ctr), (.slice p_rad L_rad.length q_rad), Ud, Ud, (Fl 0), (Bo false), (Fl s.2), Ud, (Pt b35 0), (.slice p_ctr L_ctr.length q_ctr), (.slice p_rad L_rad.length q_rad), (Bo (okBalls L_ctr L_rad)), (Bo (!(okBalls L_ctr L_rad))), (.slice p_ctr L_ctr.length q_ctr), (Iv (L_ctr.length : Int)), (.slice p19 ((pairsTo L_ctr.length L_ctr.length).length) q20), (Iv (((pairsTo L_ctr.length L_ctr.length).length) : Int)), (Iv (s.1 : Int)), (Bo (icmp .lss (s.1 : Int) (((pairsTo L_ctr.length L_ctr.length).length) : Int))), (Pt b31 o32), (.agg #[(Iv el1.1), (Iv el1.2)]), (Fl s.2), (u21 22), (u21 23), (u21 24), (u21 25), (u21 26), (u21 27), (u21 28), (u21 29), (u21 30), Ud]) rfl rfl (does_move (u := (Fl s.2)) (ev rfl)) rfl ?_
      refine q_is (l' := [(.slice p_ctr L_ctr.length q_ctr), (.slice p_rad L_rad.length q_rad), Ud, Ud, (Fl 0), (Bo false), (Fl s.2), Ud, (Pt b35 0), (.slice p_ctr L_ctr.length q_ctr), (.slice p_rad L_rad.length q_rad), (Bo (okBalls L_ctr L_rad)), (Bo (!(okBalls L_ctr L_rad))), (.slice p_ctr L_ctr.length q_ctr), (Iv (L_ctr.length : Int)), (.slice p19 ((pairsTo L_ctr.length L_ctr.length).length) q20), (Iv (((pairsTo L_ctr.length L_ctr.length).length) : Int)), (Iv (s.1 : Int)), (Bo (icmp .lss (s.1 : Int) (((pairsTo L_ctr.length L_ctr.length).length) : Int))), (Pt b31 o32), (.agg #[(Iv el1.1), (Iv el1.2)]), (Fl s.2), (.slice p_ctr L_ctr.length q_ctr), (u21 23), (u21 24), (u21 25), (u21 26), (u21 27), (u21 28), (u21 29), (u21 30), Ud]) rfl rfl (does_move (u := (.slice p_ctr L_ctr.length q_ctr)) (ev rfl)) rfl ?_
      refine q_is (l' := [(.slice p_ctr L_ctr.length q_ctr), (.slice p_rad L_rad.length q_rad), Ud, Ud, (Fl 0), (Bo false), (Fl s.2), Ud, (Pt b35 0), (.slice p_ctr L_ctr.length q_ctr), (.slice p_rad L_rad.length q_rad), (Bo (okBalls L_ctr L_rad)), (Bo (!(okBalls L_ctr L_rad))), (.slice p_ctr L_ctr.length q_ctr), (Iv (L_ctr.length : Int)), (.slice p19 ((pairsTo L_ctr.length L_ctr.length).length) q20), (Iv (((pairsTo L_ctr.length L_ctr.length).length) : Int)), (Iv (s.1 : Int)), (Bo (icmp .lss (s.1 : Int) (((pairsTo L_ctr.length L_ctr.length).length) : Int))), (Pt b31 o32), (.agg #[(Iv el1.1), (Iv el1.2)]), (Fl s.2), (.slice p_ctr L_ctr.length q_ctr), (.slice p_rad L_rad.length q_rad), (u21 24), (u21 25), (u21 26), (u21 27), (u21 28), (u21 29), (u21 30), Ud]) rfl rfl (does_move (u := (.slice p_rad L_rad.length q_rad)) (ev rfl)) rfl ?_
      refine q_is (l' := [(.slice p_ctr L_ctr.length q_ctr), (.slice p_rad L_rad.length q_rad), Ud, Ud, (Fl 0), (Bo false), (Fl s.2), Ud, (Pt b35 0), (.slice p_ctr L_ctr.length q_ctr), (.slice p_rad L_rad.length q_rad), (Bo (okBalls L_ctr L_rad)), (Bo (!(okBalls L_ctr L_rad))), (.slice p_ctr L_ctr.length q_ctr), (Iv (L_ctr.length : Int)), (.slice p19 ((pairsTo L_ctr.length L_ctr.length).length) q20), (Iv (((pairsTo L_ctr.length L_ctr.length).length) : Int)), (Iv (s.1 : Int)), (Bo (icmp .lss (s.1 : Int) (((pairsTo L_ctr.length L_ctr.length).length) : Int))), (Pt b31 o32), (.agg #[(Iv el1.1), (Iv el1.2)]), (Fl s.2), (.slice p_ctr L_ctr.length q_ctr), (.slice p_rad L_rad.length q_rad), (Pt b35 0), (u21 25), (u21 26), (u21 27), (u21 28), (u21 29), (u21 30), Ud]) rfl rfl (does_indexAt_run (r := (Pt b35 0)) (ev rfl) (ev rfl) (fun w => ia115_0 _ _ w)) rfl ?_
      refine q_is (l' := [(.slice p_ctr L_ctr.length q_ctr), (.slice p_rad L_rad.length q_rad), Ud, Ud, (Fl 0), (Bo false), (Fl s.2), Ud, (Pt b35 0), (.slice p_ctr L_ctr.length q_ctr), (.slice p_rad L_rad.length q_rad), (Bo (okBalls L_ctr L_rad)), (Bo (!(okBalls L_ctr L_rad))), (.slice p_ctr L_ctr.length q_ctr), (Iv (L_ctr.length : Int)), (.slice p19 ((pairsTo L_ctr.length L_ctr.length).length) q20), (Iv (((pairsTo L_ctr.length L_ctr.length).length) : Int)), (Iv (s.1 : Int)), (Bo (icmp .lss (s.1 : Int) (((pairsTo L_ctr.length L_ctr.length).length) : Int))), (Pt b31 o32), (.agg #[(Iv el1.1), (Iv el1.2)]), (Fl s.2), (.slice p_ctr L_ctr.length q_ctr), (.slice p_rad L_rad.length q_rad), (Pt b35 0), (Iv el1.1), (u21 26), (u21 27), (u21 28), (u21 29), (u21 30), Ud]) rfl rfl (does_load (u := (Iv el1.1)) (ev rfl) Try.isAgg3 (Cells.at (Blk.cells hB44) 0 rfl)) rfl ?_
      refine q_is (l' := [(.slice p_ctr L_ctr.length q_ctr), (.slice p_rad L_rad.length q_rad), Ud, Ud, (Fl 0), (Bo false), (Fl s.2), Ud, (Pt b35 0), (.slice p_ctr L_ctr.length q_ctr), (.slice p_rad L_rad.length q_rad), (Bo (okBalls L_ctr L_rad)), (Bo (!(okBalls L_ctr L_rad))), (.slice p_ctr L_ctr.length q_ctr), (Iv (L_ctr.length : Int)), (.slice p19 ((pairsTo L_ctr.length L_ctr.length).length) q20), (Iv (((pairsTo L_ctr.length L_ctr.length).length) : Int)), (Iv (s.1 : Int)), (Bo (icmp .lss (s.1 : Int) (((pairsTo L_ctr.length L_ctr.length).length) : Int))), (Pt b31 o32), (.agg #[(Iv el1.1), (Iv el1.2)]), (Fl s.2), (.slice p_ctr L_ctr.length q_ctr), (.slice p_rad L_rad.length q_rad), (Pt b35 0), (Iv el1.1), (Pt b35 1), (u21 27), (u21 28), (u21 29), (u21 30), Ud]) rfl rfl (does_indexAt_run (r := (Pt b35 1)) (ev rfl) (ev rfl) (fun w => ia115_1 _ _ w)) rfl ?_
      refine q_is (l' := [(.slice p_ctr L_ctr.length q_ctr), (.slice p_rad L_rad.length q_rad), Ud, Ud, (Fl 0), (Bo false), (Fl s.2), Ud, (Pt b35 0), (.slice p_ctr L_ctr.length q_ctr), (.slice p_rad L_rad.length q_rad), (Bo (okBalls L_ctr L_rad)), (Bo (!(okBalls L_ctr L_rad))), (.slice p_ctr L_ctr.length q_ctr), (Iv (L_ctr.length : Int)), (.slice p19 ((pairsTo L_ctr.length L_ctr.length).length) q20), (Iv (((pairsTo L_ctr.length L_ctr.length).length) : Int)), (Iv (s.1 : Int)), (Bo (icmp .lss (s.1 : Int) (((pairsTo L_ctr.length L_ctr.length).length) : Int))), (Pt b31 o32), (.agg #[(Iv el1.1), (Iv el1.2)]), (Fl s.2), (.slice p_ctr L_ctr.length q_ctr), (.slice p_rad L_rad.length q_rad), (Pt b35 0), (Iv el1.1), (Pt b35 1), (Iv el1.2), (u21 28), (u21 29), (u21 30), Ud]) rfl rfl (does_load (u := (Iv el1.2)) (ev rfl) Try.isAgg3 (Cells.at (Blk.cells hB44) 1 rfl)) rfl ?_
      refine seqd rfl rfl (does_call (args := #[(.slice p_ctr L_ctr.length q_ctr), (.slice p_rad L_rad.length q_rad), (Iv el1.1), (Iv el1.2)]) cal82 (evs rfl) (c_impl_overlap (.slice p_ctr L_ctr.length q_ctr) L_ctr (.slice p_rad L_rad.length q_rad) L_rad el1.1 el1.2 _ (Sl.ext hv_ctr RV3.mono X46) (Sl.ext hv_rad RF.mono X46) (by have := pairsTo_mem (Nat.le_refl _) (List.mem_of_getElem? hel1); omega) (by have := pairsTo_mem (Nat.le_refl _) (List.mem_of_getElem? hel1); omega) (by exact hob.2.2))) ?_; rintro _ w48 ⟨E47, ⟨r49, rfl, h50⟩⟩
      have X51 := Ext.gr X46 E47
      show wpList _ _ _ _ (fr [(.slice p_ctr L_ctr.length q_ctr), (.slice p_rad L_rad.length q_rad), Ud, Ud, (Fl 0), (Bo false), (Fl s.2), Ud, (Pt b35 0), (.slice p_ctr L_ctr.length q_ctr), (.slice p_rad L_rad.length q_rad), (Bo (okBalls L_ctr L_rad)), (Bo (!(okBalls L_ctr L_rad))), (.slice p_ctr L_ctr.length q_ctr), (Iv (L_ctr.length : Int)), (.slice p19 ((pairsTo L_ctr.length L_ctr.length).length) q20), (Iv (((pairsTo L_ctr.length L_ctr.length).length) : Int)), (Iv (s.1 : Int)), (Bo (icmp .lss (s.1 : Int) (((pairsTo L_ctr.length L_ctr.length).length) : Int))), (Pt b31 o32), (.agg #[(Iv el1.1), (Iv el1.2)]), (Fl s.2), (.slice p_ctr L_ctr.length q_ctr), (.slice p_rad L_rad.length q_rad), (Pt b35 0), (Iv el1.1), (Pt b35 1), (Iv el1.2), (Fl r49), (u21 29), (u21 30), Ud]) _
      refine seqd rfl rfl (does_call (args := #[(Fl s.2), (Fl r49)]) cal60 (evs rfl) (c_impl_greater s.2 r49 _)) ?_; rintro _ w53 ⟨E52, ⟨r54, rfl, h55⟩⟩
      have X56 := Ext.gr X51 E52
      show wpList _ _ _ _ (fr [(.slice p_ctr L_ctr.length q_ctr), (.slice p_rad L_rad.length q_rad), Ud, Ud, (Fl 0), (Bo false), (Fl s.2), Ud, (Pt b35 0), (.slice p_ctr L_ctr.length q_ctr), (.slice p_rad L_rad.length q_rad), (Bo (okBalls L_ctr L_rad)), (Bo (!(okBalls L_ctr L_rad))), (.slice p_ctr L_ctr.length q_ctr), (Iv (L_ctr.length : Int)), (.slice p19 ((pairsTo L_ctr.length L_ctr.length).length) q20), (Iv (((pairsTo L_ctr.length L_ctr.length).length) : Int)), (Iv (s.1 : Int)), (Bo (icmp .lss (s.1 : Int) (((pairsTo L_ctr.length L_ctr.length).length) : Int))), (Pt b31 o32), (.agg #[(Iv el1.1), (Iv el1.2)]), (Fl s.2), (.slice p_ctr L_ctr.length q_ctr), (.slice p_rad L_rad.length q_rad), (Pt b35 0), (Iv el1.1), (Pt b35 1), (Iv el1.2), (Fl r49), (Fl r54), (u21 30), Ud]) _
      refine q_is (l' := [(.slice p_ctr L_ctr.length q_ctr), (.slice p_rad L_rad.length q_rad), Ud, Ud, (Fl 0), (Bo false), (Fl r54), Ud, (Pt b35 0), (.slice p_ctr L_ctr.length q_ctr), (.slice p_rad L_rad.length q_rad), (Bo (okBalls L_ctr L_rad)), (Bo (!(okBalls L_ctr L_rad))), (.slice p_ctr L_ctr.length q_ctr), (Iv (L_ctr.length : Int)), (.slice p19 ((pairsTo L_ctr.length L_ctr.length).length) q20), (Iv (((pairsTo L_ctr.length L_ctr.length).length) : Int)), (Iv (s.1 : Int)), (Bo (icmp .lss (s.1 : Int) (((pairsTo L_ctr.length L_ctr.length).length) : Int))), (Pt b31 o32), (.agg #[(Iv el1.1), (Iv el1.2)]), (Fl s.2), (.slice p_ctr L_ctr.length q_ctr), (.slice p_rad L_rad.length q_rad), (Pt b35 0), (Iv el1.1), (Pt b35 1), (Iv el1.2), (Fl r49), (Fl r54), (u21 30), Ud]) rfl rfl (does_assign (u := (Fl r54)) (ev rfl)) rfl ?_
      refine wpList_nil (hK29 _ _ ?_)
      refine wp_region_lit ?_
      refine q_is (l' := [(.slice p_ctr L_ctr.length q_ctr), (.slice p_rad L_rad.length q_rad), Ud, Ud, (Fl 0), (Bo false), (Fl r54), Ud, (Pt b35 0), (.slice p_ctr L_ctr.length q_ctr), (.slice p_rad L_rad.length q_rad), (Bo (okBalls L_ctr L_rad)), (Bo (!(okBalls L_ctr L_rad))), (.slice p_ctr L_ctr.length q_ctr), (Iv (L_ctr.length : Int)), (.slice p19 ((pairsTo L_ctr.length L_ctr.length).length) q20), (Iv (((pairsTo L_ctr.length L_ctr.length).length) : Int)), (Iv (s.1 : Int)), (Bo (icmp .lss (s.1 : Int) (((pairsTo L_ctr.length L_ctr.length).length) : Int))), (Pt b31 o32), (.agg #[(Iv el1.1), (Iv el1.2)]), (Fl s.2), (.slice p_ctr L_ctr.length q_ctr), (.slice p_rad L_rad.length q_rad), (Pt b35 0), (Iv el1.1), (Pt b35 1), (Iv el1.2), (Fl r49), (Fl r54), (Iv ((s.1 : Int) + 1)), Ud]) rfl rfl (does_iarith (p := (s.1 : Int)) (q := 1) (r := (s.1 : Int) + 1) (ev rfl) (ev rfl) (.inl ⟨rfl, (in_i64 (by omega) (by omega)).symm⟩)) rfl ?_
      refine q_is (l' := [(.slice p_ctr L_ctr.length q_ctr), (.slice p_rad L_rad.length q_rad), Ud, Ud, (Fl 0), (Bo false), (Fl r54), Ud, (Pt b35 0), (.slice p_ctr L_ctr.length q_ctr), (.slice p_rad L_rad.length q_rad), (Bo (okBalls L_ctr L_rad)), (Bo (!(okBalls L_ctr L_rad))), (.slice p_ctr L_ctr.length q_ctr), (Iv (L_ctr.length : Int)), (.slice p19 ((pairsTo L_ctr.length L_ctr.length).length) q20), (Iv (((pairsTo L_ctr.length L_ctr.length).length) : Int)), (Iv ((s.1 : Int) + 1)), (Bo (icmp .lss (s.1 : Int) (((pairsTo L_ctr.length L_ctr.length).length) : Int))), (Pt b31 o32), (.agg #[(Iv el1.1), (Iv el1.2)]), (Fl s.2), (.slice p_ctr L_ctr.length q_ctr), (.slice p_rad L_rad.length q_rad), (Pt b35 0), (Iv el1.1), (Pt b35 1), (Iv el1.2), (Fl r49), (Fl r54), (Iv ((s.1 : Int) + 1)), Ud]) rfl rfl (does_move (u := (Iv ((s.1 : Int) + 1))) (ev rfl)) rfl ?_
      refine wpList_nil ?_
      refine ⟨(s.1 + 1, r54), ⟨fun t => (([(.slice p_ctr L_ctr.length q_ctr), (.slice p_rad L_rad.length q_rad), Ud, Ud, (Fl 0), (Bo false), (Fl r54), Ud, (Pt b35 0), (.slice p_ctr L_ctr.length q_ctr), (.slice p_rad L_rad.length q_rad), (Bo (okBalls L_ctr L_rad)), (Bo (!(okBalls L_ctr L_rad))), (.slice p_ctr L_ctr.length q_ctr), (Iv (L_ctr.length : Int)), (.slice p19 ((pairsTo L_ctr.length L_ctr.length).length) q20), (Iv (((pairsTo L_ctr.length L_ctr.length).length) : Int)), (Iv ((s.1 : Int) + 1)), (Bo (icmp .lss (s.1 : Int) (((pairsTo L_ctr.length L_ctr.length).length) : Int))), (Pt b31 o32), (.agg #[(Iv el1.1), (Iv el1.2)]), (Fl s.2), (.slice p_ctr L_ctr.length q_ctr), (.slice p_rad L_rad.length q_rad), (Pt b35 0), (Iv el1.1), (Pt b35 1), (Iv el1.2), (Fl r49), (Fl r54), (Iv ((s.1 : Int) + 1)), Ud] : List Value)[t]?).getD undef, ?_, (Ext.gr (Ext.gr (Below.kl (Ext.gr E23 E38) (KpL.of_wr W43) (allS (Nat.le_trans E23.size hb36) all0) (Nat.le_refl _)) E47) E52), ?_⟩, ?_⟩
      · first | rfl | (simp only [Nat.cast_add, Nat.cast_one, Int.natCast_add, Int.natCast_one]; rfl)
      · (try dsimp only); exact ⟨by omega, by rw [ovL_take (by assumption)]; simp_all⟩
      · (try dsimp only); omega
    have c28' := c28
    (try simp only [icmp, Bool.and_eq_true, Bool.or_eq_true, Bool.and_eq_false_iff, Bool.or_eq_false_iff, Bool.not_eq_true', Bool.not_eq_false', decide_eq_true_eq, decide_eq_false_iff_not, beq_iff_eq, bne_iff_ne, beq_eq_false_iff_ne, bne_eq_false_iff_eq] at c28')
    refine wp_exit ?_
    refine hK12 _ _ ?_
    refine wp_seq_k fun K57 hK57 => ?_
    refine wp_region_lit ?_
    refine q_is (l' := [(.slice p_ctr L_ctr.length q_ctr), (.slice p_rad L_rad.length q_rad), Ud, Ud, (Fl 0), (Bo false), (Fl s.2), Ud, (u21 8), (.slice p_ctr L_ctr.length q_ctr), (.slice p_rad L_rad.length q_rad), (Bo (okBalls L_ctr L_rad)), (Bo (!(okBalls L_ctr L_rad))), (.slice p_ctr L_ctr.length q_ctr), (Iv (L_ctr.length : Int)), (.slice p19 ((pairsTo L_ctr.length L_ctr.length).length) q20), (Iv (((pairsTo L_ctr.length L_ctr.length).length) : Int)), (Iv (s.1 : Int)), (Bo (icmp .lss (s.1 : Int) (((pairsTo L_ctr.length L_ctr.length).length) : Int))), (u21 19), (u21 20), (u21 21), (u21 22), (u21 23), (u21 24), (u21 25), (u21 26), (u21 27), (u21 28), (u21 29), (u21 30), (Fl s.2)]) rfl rfl (does_move (u := (Fl s.2)) (ev rfl)) rfl ?_
    refine q_is (l' := [(.slice p_ctr L_ctr.length q_ctr), (.slice p_rad L_rad.length q_rad), Ud, Ud, (Fl s.2), (Bo false), (Fl s.2), Ud, (u21 8), (.slice p_ctr L_ctr.length q_ctr), (.slice p_rad L_rad.length q_rad), (Bo (okBalls L_ctr L_rad)), (Bo (!(okBalls L_ctr L_rad))), (.slice p_ctr L_ctr.length q_ctr), (Iv (L_ctr.length : Int)), (.slice p19 ((pairsTo L_ctr.length L_ctr.length).length) q20), (Iv (((pairsTo L_ctr.length L_ctr.length).length) : Int)), (Iv (s.1 : Int)), (Bo (icmp .lss (s.1 : Int) (((pairsTo L_ctr.length L_ctr.length).length) : Int))), (u21 19), (u21 20), (u21 21), (u21 22), (u21 23), (u21 24), (u21 25), (u21 26), (u21 27), (u21 28), (u21 29), (u21 30), (Fl s.2)]) rfl rfl (does_assign (u := (Fl s.2)) (ev rfl)) rfl ?_
    refine q_is (l' := [(.slice p_ctr L_ctr.length q_ctr), (.slice p_rad L_rad.length q_rad), Ud, Ud, (Fl s.2), (Bo true), (Fl s.2), Ud, (u21 8), (.slice p_ctr L_ctr.length q_ctr), (.slice p_rad L_rad.length q_rad), (Bo (okBalls L_ctr L_rad)), (Bo (!(okBalls L_ctr L_rad))), (.slice p_ctr L_ctr.length q_ctr), (Iv (L_ctr.length : Int)), (.slice p19 ((pairsTo L_ctr.length L_ctr.length).length) q20), (Iv (((pairsTo L_ctr.length L_ctr.length).length) : Int)), (Iv (s.1 : Int)), (Bo (icmp .lss (s.1 : Int) (((pairsTo L_ctr.length L_ctr.length).length) : Int))), (u21 19), (u21 20), (u21 21), (u21 22), (u21 23), (u21 24), (u21 25), (u21 26), (u21 27), (u21 28), (u21 29), (u21 30), (Fl s.2)]) rfl rfl (does_assign (u := (Bo true)) (ev rfl)) rfl ?_
    refine wpList_nil (hK57 _ _ ?_)
    refine wp_ret ?_
    refine ret_val (v := (.tuple #[(Fl s.2), (Bo true)])) (res_TT rfl (slot rfl) (slot rfl)) X25 ?_
    have x58 : (okBalls L_ctr L_rad) = true := by first | rfl | assumption | (rw [‹okBalls _ _ = false›]; rfl) | (rw [‹okBalls _ _ = true›, gvF_t, mostO]; first | (rw [← List.take_of_length_le (l := pairsTo _ _) (by omega)]; assumption) | (rw [hm, show s.1 = L_ctr.length by omega]; done) | (rw [hm, List.take_of_length_le (by omega)]; done) | (simp_all))
    have x59 : cf .f32 s.2 = gvF (okBalls L_ctr L_rad) (mostO L_ctr L_rad) := by first | rfl | assumption | (rw [‹okBalls _ _ = false›]; rfl) | (rw [‹okBalls _ _ = true›, gvF_t, mostO]; first | (rw [← List.take_of_length_le (l := pairsTo _ _) (by omega)]; assumption) | (rw [hm, show s.1 = L_ctr.length by omega]; done) | (rw [hm, List.take_of_length_le (by omega)]; done) | (simp_all))
    exact ⟨s.2, (by first | rfl | rw [x58]), x59⟩

/- laws.eqFloat32S -/
theorem c_laws_eqFloat32S (a : Value) (L_a : List Nat) (b : Value) (L_b : List Nat) (w : World) (hv_a : Sl RF 1 w a L_a) (hv_b : Sl RF 1 w b L_b) : Gives Try.prog 46 #[a, b] w (fun v w' => v = (Bo (sameL L_a L_b))) := by
  have hlen_a := Sl.len hv_a; obtain ⟨p_a, q_a, rfl⟩ := Sl.shape hv_a
  have hlen_b := Sl.len hv_b; obtain ⟨p_b, q_b, rfl⟩ := Sl.shape hv_b
  refine enter [(.slice p_a L_a.length q_a), (.slice p_b L_b.length q_b), Ud, Ud, Ud, Ud, Ud, Ud, Ud, Ud, Ud, Ud, Ud, Ud, Ud, Ud, Ud, Ud, Ud, Ud, Ud, Ud, Ud, Ud, Ud, Ud, Ud, Ud, Ud] Try.func46 rfl Try.ntmps46 rfl ?_
  refine wp_seq_k fun K1 hK1 => ?_
  refine wp_region_lit ?_
  refine q_is (l' := [(.slice p_a L_a.length q_a), (.slice p_b L_b.length q_b), Ud, Ud, (Bo false), Ud, Ud, Ud, Ud, Ud, Ud, Ud, Ud, Ud, Ud, Ud, Ud, Ud, Ud, Ud, Ud, Ud, Ud, Ud, Ud, Ud, Ud, Ud, Ud]) rfl rfl (does_assign (u := (Bo false)) (ev rfl)) rfl ?_
  refine wpList_nil (hK1 _ _ ?_)
  refine wp_seq_k fun K2 hK2 => ?_
  refine wp_seq_k fun K3 hK3 => ?_
  refine wp_region_lit ?_
  refine q_is (l' := [(.slice p_a L_a.length q_a), (.slice p_b L_b.length q_b), Ud, Ud, (Bo false), Ud, (.slice p_a L_a.length q_a), Ud, Ud, Ud, Ud, Ud, Ud, Ud, Ud, Ud, Ud, Ud, Ud, Ud, Ud, Ud, Ud, Ud, Ud, Ud, Ud, Ud, Ud]) rfl rfl (does_move (u := (.slice p_a L_a.length q_a)) (ev rfl)) rfl ?_
  refine q_is (l' := [(.slice p_a L_a.length q_a), (.slice p_b L_b.length q_b), Ud, Ud, (Bo false), Ud, (.slice p_a L_a.length q_a), (Iv (L_a.length : Int)), Ud, Ud, Ud, Ud, Ud, Ud, Ud, Ud, Ud, Ud, Ud, Ud, Ud, Ud, Ud, Ud, Ud, Ud, Ud, Ud, Ud]) rfl rfl (does_len_slice Try.underlying75 (ev rfl)) rfl ?_
  refine q_is (l' := [(.slice p_a L_a.length q_a), (.slice p_b L_b.length q_b), Ud, Ud, (Bo false), Ud, (.slice p_a L_a.length q_a), (Iv (L_a.length : Int)), (.slice p_b L_b.length q_b), Ud, Ud, Ud, Ud, Ud, Ud, Ud, Ud, Ud, Ud, Ud, Ud, Ud, Ud, Ud, Ud, Ud, Ud, Ud, Ud]) rfl rfl (does_move (u := (.slice p_b L_b.length q_b)) (ev rfl)) rfl ?_
  refine q_is (l' := [(.slice p_a L_a.length q_a), (.slice p_b L_b.length q_b), Ud, Ud, (Bo false), Ud, (.slice p_a L_a.length q_a), (Iv (L_a.length : Int)), (.slice p_b L_b.length q_b), (Iv (L_b.length : Int)), Ud, Ud, Ud, Ud, Ud, Ud, Ud, Ud, Ud, Ud, Ud, Ud, Ud, Ud, Ud, Ud, Ud, Ud, Ud]) rfl rfl (does_len_slice Try.underlying75 (ev rfl)) rfl ?_
  refine q_is (l' := [(.slice p_a L_a.length q_a), (.slice p_b L_b.length q_b), Ud, Ud, (Bo false), Ud, (.slice p_a L_a.length q_a), (Iv (L_a.length : Int)), (.slice p_b L_b.length q_b), (Iv (L_b.length : Int)), (Bo (icmp .neq (L_a.length : Int) (L_b.length : Int))), Ud, Ud, Ud, Ud, Ud, Ud, Ud, Ud, Ud, Ud, Ud, Ud, Ud, Ud, Ud, Ud, Ud, Ud]) rfl rfl (does_icmp (p := (L_a.length : Int)) (q := (L_b.length : Int)) (.inr (.inl rfl)) (ev rfl) (ev rfl)) rfl ?_
  refine wpList_nil (hK3 _ _ ?_)
  refine wp_cond_split (t := icmp .neq (L_a.length : Int) (L_b.length : Int)) (ev rfl) (fun c4 => ?_) (fun c4 => ?_)
  · have c4' := c4
    (try simp only [icmp, Bool.and_eq_true, Bool.or_eq_true, Bool.and_eq_false_iff, Bool.or_eq_false_iff, Bool.not_eq_true', Bool.not_eq_false', decide_eq_true_eq, decide_eq_false_iff_not, beq_iff_eq, bne_iff_ne, beq_eq_false_iff_ne, bne_eq_false_iff_eq] at c4')
    refine wp_seq_k fun K5 hK5 => ?_
    refine wp_region_lit ?_
    refine q_is (l' := [(.slice p_a L_a.length q_a), (.slice p_b L_b.length q_b), Ud, Ud, (Bo false), Ud, (.slice p_a L_a.length q_a), (Iv (L_a.length : Int)), (.slice p_b L_b.length q_b), (Iv (L_b.length : Int)), (Bo (icmp .neq (L_a.length : Int) (L_b.length : Int))), Ud, Ud, Ud, Ud, Ud, Ud, Ud, Ud, Ud, Ud, Ud, Ud, Ud, Ud, Ud, Ud, Ud, Ud]) rfl rfl (does_assign (u := (Bo false)) (ev rfl)) rfl ?_
    refine wpList_nil (hK5 _ _ ?_)
    refine wp_ret ?_
    dsimp only [Exit.then, Exit.inBlock]
    refine ret_val (v := (Bo false)) (res_T rfl (slot rfl)) (Ext.refl w) ?_
    have x6 : (sameL L_a L_b) = false := by first | exact (sameL_len (by omega)) | exact (sameL_not (by omega) (by assumption) (by assumption) (by simp_all)) | exact (sameL_all (by omega) (by omega) hs)
    exact (by first | rfl | rw [x6])
  have c4' := c4
  (try simp only [icmp, Bool.and_eq_true, Bool.or_eq_true, Bool.and_eq_false_iff, Bool.or_eq_false_iff, Bool.not_eq_true', Bool.not_eq_false', decide_eq_true_eq, decide_eq_false_iff_not, beq_iff_eq, bne_iff_ne, beq_eq_false_iff_ne, bne_eq_false_iff_eq] at c4')
  refine wp_skip (hK2 _ _ ?_)
  refine wp_seq_k fun K7 hK7 => ?_
  refine wp_seq_k fun K8 hK8 => ?_
  refine wp_region_lit ?_
  refine q_is (l' := [(.slice p_a L_a.length q_a), (.slice p_b L_b.length q_b), Ud, Ud, (Bo false), (Iv 0), (.slice p_a L_a.length q_a), (Iv (L_a.length : Int)), (.slice p_b L_b.length q_b), (Iv (L_b.length : Int)), (Bo (icmp .neq (L_a.length : Int) (L_b.length : Int))), Ud, Ud, Ud, Ud, Ud, Ud, Ud, Ud, Ud, Ud, Ud, Ud, Ud, Ud, Ud, Ud, Ud, Ud]) rfl rfl (does_assign (u := (Iv 0)) (ev rfl)) rfl ?_
  refine wpList_nil (hK8 _ _ ?_)
  refine wp_block ?_
  refine loop_ghost (σ := Nat) (fun k a w' => ∃ u9 : Nat → Value, a = fr [(.slice p_a L_a.length q_a), (.slice p_b L_b.length q_b), Ud, Ud, (u9 4), (Iv (k : Int)), (.slice p_a L_a.length q_a), (Iv (L_a.length : Int)), (.slice p_b L_b.length q_b), (Iv (L_b.length : Int)), (Bo (icmp .neq (L_a.length : Int) (L_b.length : Int))), (u9 11), (u9 12), (u9 13), (u9 14), (u9 15), (u9 16), (u9 17), (u9 18), (u9 19), (u9 20), (u9 21), (u9 22), (u9 23), (u9 24), (u9 25), (u9 26), (u9 27), (u9 28)] ∧ Ext w w' ∧ (k ≤ L_a.length ∧ SameTo L_a L_b k)) (fun k => L_a.length - k) 0 ?_ ?_
  · refine ⟨fun t => (([(.slice p_a L_a.length q_a), (.slice p_b L_b.length q_b), Ud, Ud, (Bo false), (Iv 0), (.slice p_a L_a.length q_a), (Iv (L_a.length : Int)), (.slice p_b L_b.length q_b), (Iv (L_b.length : Int)), (Bo (icmp .neq (L_a.length : Int) (L_b.length : Int))), Ud, Ud, Ud, Ud, Ud, Ud, Ud, Ud, Ud, Ud, Ud, Ud, Ud, Ud, Ud, Ud, Ud, Ud] : List Value)[t]?).getD undef, rfl, Ext.refl _, ?_⟩
    exact ⟨Nat.zero_le _, SameTo.zero⟩
  · rintro k a w10 ⟨u9, rfl, E11, ⟨hk, hs⟩⟩
    have X13 := Ext.gr (Ext.refl w) E11
    refine wp_seq_k fun K14 hK14 => ?_
    refine wp_seq_k fun K15 hK15 => ?_
    refine wp_region_lit ?_
    refine q_is (l' := [(.slice p_a L_a.length q_a), (.slice p_b L_b.length q_b), Ud, Ud, (u9 4), (Iv (k : Int)), (.slice p_a L_a.length q_a), (Iv (L_a.length : Int)), (.slice p_b L_b.length q_b), (Iv (L_b.length : Int)), (Bo (icmp .neq (L_a.length : Int) (L_b.length : Int))), (Iv (k : Int)), (u9 12), (u9 13), (u9 14), (u9 15), (u9 16), (u9 17), (u9 18), (u9 19), (u9 20), (u9 21), (u9 22), (u9 23), (u9 24), (u9 25), (u9 26), (u9 27), (u9 28)]) rfl rfl (does_move (u := (Iv (k : Int))) (ev rfl)) rfl ?_
    refine q_is (l' := [(.slice p_a L_a.length q_a), (.slice p_b L_b.length q_b), Ud, Ud, (u9 4), (Iv (k : Int)), (.slice p_a L_a.length q_a), (Iv (L_a.length : Int)), (.slice p_b L_b.length q_b), (Iv (L_b.length : Int)), (Bo (icmp .neq (L_a.length : Int) (L_b.length : Int))), (Iv (k : Int)), (.slice p_a L_a.length q_a), (u9 13), (u9 14), (u9 15), (u9 16), (u9 17), (u9 18), (u9 19), (u9 20), (u9 21), (u9 22), (u9 23), (u9 24), (u9 25), (u9 26), (u9 27), (u9 28)]) rfl rfl (does_move (u := (.slice p_a L_a.length q_a)) (ev rfl)) rfl ?_
    refine q_is (l' := [(.slice p_a L_a.length q_a), (.slice p_b L_b.length q_b), Ud, Ud, (u9 4), (Iv (k : Int)), (.slice p_a L_a.length q_a), (Iv (L_a.length : Int)), (.slice p_b L_b.length q_b), (Iv (L_b.length : Int)), (Bo (icmp .neq (L_a.length : Int) (L_b.length : Int))), (Iv (k : Int)), (.slice p_a L_a.length q_a), (Iv (L_a.length : Int)), (u9 14), (u9 15), (u9 16), (u9 17), (u9 18), (u9 19), (u9 20), (u9 21), (u9 22), (u9 23), (u9 24), (u9 25), (u9 26), (u9 27), (u9 28)]) rfl rfl (does_len_slice Try.underlying75 (ev rfl)) rfl ?_
    refine q_is (l' := [(.slice p_a L_a.length q_a), (.slice p_b L_b.length q_b), Ud, Ud, (u9 4), (Iv (k : Int)), (.slice p_a L_a.length q_a), (Iv (L_a.length : Int)), (.slice p_b L_b.length q_b), (Iv (L_b.length : Int)), (Bo (icmp .neq (L_a.length : Int) (L_b.length : Int))), (Iv (k : Int)), (.slice p_a L_a.length q_a), (Iv (L_a.length : Int)), (Bo (icmp .lss (k : Int) (L_a.length : Int))), (u9 15), (u9 16), (u9 17), (u9 18), (u9 19), (u9 20), (u9 21), (u9 22), (u9 23), (u9 24), (u9 25), (u9 26), (u9 27), (u9 28)]) rfl rfl (does_icmp (p := (k : Int)) (q := (L_a.length : Int)) (.inr (.inr (.inl rfl))) (ev rfl) (ev rfl)) rfl ?_
    refine wpList_nil (hK15 _ _ ?_)
    refine wp_cond_split (t := icmp .lss (k : Int) (L_a.length : Int)) (ev rfl) (fun c16 => ?_) (fun c16 => ?_)
    · have c16' := c16
      (try simp only [icmp, Bool.and_eq_true, Bool.or_eq_true, Bool.and_eq_false_iff, Bool.or_eq_false_iff, Bool.not_eq_true', Bool.not_eq_false', decide_eq_true_eq, decide_eq_false_iff_not, beq_iff_eq, bne_iff_ne, beq_eq_false_iff_ne, bne_eq_false_iff_eq] at c16')
      refine wp_skip (hK14 _ _ ?_)
      refine wp_seq_k fun K17 hK17 => ?_
      refine wp_block ?_
      refine wp_seq_k fun K18 hK18 => ?_
      obtain ⟨el1, hel1⟩ : ∃ e, L_a[k]? = some e := ⟨_, List.getElem?_eq_getElem (by omega)⟩
      obtain ⟨el2, hel2⟩ : ∃ e, L_b[k]? = some e := ⟨_, List.getElem?_eq_getElem (by omega)⟩
      obtain ⟨β1, hβ1⟩ : ∃ b : Bool, b = (sameF (fwid el1) (fwid el2)) := ⟨_, rfl⟩
      refine region_draw (
        [Fact.pure [] (fun v => v = (.slice p_a L_a.length q_a)),
    Fact.pure [] (fun v => v = (Iv (k : Int))),
    Fact.mem [17, 18] (fun v w' => PtrR RF w' v el1) (by intro v w1 w2 hx h; exact h.ext RF.mono hx),
    Fact.pure [19] (fun v => ∃ r_1 : Nat, v = (Fl r_1) ∧ cf .f32 r_1 = el1),
    Fact.pure [20] (fun v => ∃ r_1 : Nat, v = (Fd r_1) ∧ cf .f64 r_1 = fwid el1),
    Fact.pure [] (fun v => v = (.slice p_b L_b.length q_b)),
    Fact.pure [] (fun v => v = (Iv (k : Int))),
    Fact.mem [22, 23] (fun v w' => PtrR RF w' v el2) (by intro v w1 w2 hx h; exact h.ext RF.mono hx),
    Fact.pure [24] (fun v => ∃ r_1 : Nat, v = (Fl r_1) ∧ cf .f32 r_1 = el2),
    Fact.pure [25] (fun v => ∃ r_1 : Nat, v = (Fd r_1) ∧ cf .f64 r_1 = fwid el2),
    Fact.pure [21, 26] (fun v => v = (Bo β1)),
    Fact.pure [27] (fun v => v = (Bo (!β1)))]) mixed (by kernel_rfl) (by intro _ _ d _ _ h; cases d <;> exact h) ?_
      obtain ⟨w19, hw21⟩ : ∃ w', w' = World.drew w10 := ⟨_, rfl⟩; rw [← hw21]; have E20 : Ext w10 w19 := by rw [hw21]; exact Ext.draw _
      clear hw21
      have X22 := Ext.gr X13 E20
      refine RW_d (fun v23 => [(.slice p_a L_a.length q_a), (.slice p_b L_b.length q_b), Ud, Ud, (u9 4), (Iv (k : Int)), (.slice p_a L_a.length q_a), (Iv (L_a.length : Int)), (.slice p_b L_b.length q_b), (Iv (L_b.length : Int)), (Bo (icmp .neq (L_a.length : Int) (L_b.length : Int))), (Iv (k : Int)), (.slice p_a L_a.length q_a), (Iv (L_a.length : Int)), (Bo (icmp .lss (k : Int) (L_a.length : Int))), (u9 15), (u9 16), v23, (u9 18), (u9 19), (u9 20), (u9 21), (u9 22), (u9 23), (u9 24), (u9 25), (u9 26), (u9 27), (u9 28)]) rfl (fun _ => rfl) (fun u hu hF => ?_) (fun v23 => ?_)
      · clear hF
        refine doesG_un rfl ?_
        refine (does_move (u := (.slice p_a L_a.length q_a)) (ev rfl)).mono ?_; rintro _ _ ⟨rfl, rfl⟩
        exact ⟨rfl, Ext.refl _⟩
      refine RW_d (fun v24 => [(.slice p_a L_a.length q_a), (.slice p_b L_b.length q_b), Ud, Ud, (u9 4), (Iv (k : Int)), (.slice p_a L_a.length q_a), (Iv (L_a.length : Int)), (.slice p_b L_b.length q_b), (Iv (L_b.length : Int)), (Bo (icmp .neq (L_a.length : Int) (L_b.length : Int))), (Iv (k : Int)), (.slice p_a L_a.length q_a), (Iv (L_a.length : Int)), (Bo (icmp .lss (k : Int) (L_a.length : Int))), (u9 15), (u9 16), v23, v24, (u9 19), (u9 20), (u9 21), (u9 22), (u9 23), (u9 24), (u9 25), (u9 26), (u9 27), (u9 28)]) rfl (fun _ => rfl) (fun u hu hF => ?_) (fun v24 => ?_)
      · clear hF
        refine doesG_un rfl ?_
        refine (does_move (u := (Iv (k : Int))) (ev rfl)).mono ?_; rintro _ _ ⟨rfl, rfl⟩
        exact ⟨rfl, Ext.refl _⟩
      refine RW_d (fun v25 => [(.slice p_a L_a.length q_a), (.slice p_b L_b.length q_b), Ud, Ud, (u9 4), (Iv (k : Int)), (.slice p_a L_a.length q_a), (Iv (L_a.length : Int)), (.slice p_b L_b.length q_b), (Iv (L_b.length : Int)), (Bo (icmp .neq (L_a.length : Int) (L_b.length : Int))), (Iv (k : Int)), (.slice p_a L_a.length q_a), (Iv (L_a.length : Int)), (Bo (icmp .lss (k : Int) (L_a.length : Int))), (u9 15), (u9 16), v23, v24, v25, (u9 20), (u9 21), (u9 22), (u9 23), (u9 24), (u9 25), (u9 26), (u9 27), (u9 28)]) rfl (fun _ => rfl) (fun u hu hF => ?_) (fun v25 => ?_)
      · have h17_ : v23 = (.slice p_a L_a.length q_a) := hF.1
        have h18_ : v24 = (Iv (k : Int)) := hF.2.1
        clear hF
        refine doesG_un rfl ?_
        obtain rfl := h17_
        obtain rfl := h18_
        refine (does_indexSl (R := RF) (i := (k : Int)) (xs := L_a) (e := el1) Try.underlying75 Try.sizeOf24 (ev rfl) (ev rfl) (Sl.ext (Sl.ext hv_a RF.mono (Ext.gr X13 E20)) RF.mono hu) (by omega) hel1).mono ?_; rintro v u' ⟨b, of, cs, hv, hc, hR, hu'⟩; subst hu'
        exact ⟨⟨b, of, cs, hv, hc, hR⟩, Ext.refl _⟩
      refine RW_d (fun v26 => [(.slice p_a L_a.length q_a), (.slice p_b L_b.length q_b), Ud, Ud, (u9 4), (Iv (k : Int)), (.slice p_a L_a.length q_a), (Iv (L_a.length : Int)), (.slice p_b L_b.length q_b), (Iv (L_b.length : Int)), (Bo (icmp .neq (L_a.length : Int) (L_b.length : Int))), (Iv (k : Int)), (.slice p_a L_a.length q_a), (Iv (L_a.length : Int)), (Bo (icmp .lss (k : Int) (L_a.length : Int))), (u9 15), (u9 16), v23, v24, v25, v26, (u9 21), (u9 22), (u9 23), (u9 24), (u9 25), (u9 26), (u9 27), (u9 28)]) rfl (fun _ => rfl) (fun u hu hF => ?_) (fun v26 => ?_)
      · have h19_ : PtrR RF u v25 el1 := hF.1
        clear hF
        refine doesG_un rfl ?_
        obtain ⟨b19_, o19_, _, rfl, hc19_, ⟨r19_1, rfl, h19_2⟩⟩ := h19_
        refine (does_load (u := (Fl r19_1)) (ev rfl) Try.isAgg24 (Cells.at hc19_ 0 rfl)).mono ?_; rintro _ _ ⟨rfl, rfl⟩
        exact ⟨⟨r19_1, rfl, (by simp only [h19_2])⟩, Ext.refl _⟩
      refine RW_d (fun v27 => [(.slice p_a L_a.length q_a), (.slice p_b L_b.length q_b), Ud, Ud, (u9 4), (Iv (k : Int)), (.slice p_a L_a.length q_a), (Iv (L_a.length : Int)), (.slice p_b L_b.length q_b), (Iv (L_b.length : Int)), (Bo (icmp .neq (L_a.length : Int) (L_b.length : Int))), (Iv (k : Int)), (.slice p_a L_a.length q_a), (Iv (L_a.length : Int)), (Bo (icmp .lss (k : Int) (L_a.length : Int))), (u9 15), (u9 16), v23, v24, v25, v26, v27, (u9 22), (u9 23), (u9 24), (u9 25), (u9 26), (u9 27), (u9 28)]) rfl (fun _ => rfl) (fun u hu hF => ?_) (fun v27 => ?_)
      · have h20_ : ∃ r_1 : Nat, v26 = (Fl r_1) ∧ cf .f32 r_1 = el1 := hF.1
        clear hF
        refine doesG_un rfl ?_
        obtain ⟨r20_1, rfl, h20_2⟩ := h20_
        refine (does_widen Try.underlying24 Try.underlying80 (ev rfl)).mono ?_; rintro _ _ ⟨r, rfl, hr, hx⟩
        exact ⟨⟨r, rfl, (by simp only [hr, h20_2])⟩, hx⟩
      refine RW_d (fun v28 => [(.slice p_a L_a.length q_a), (.slice p_b L_b.length q_b), Ud, Ud, (u9 4), (Iv (k : Int)), (.slice p_a L_a.length q_a), (Iv (L_a.length : Int)), (.slice p_b L_b.length q_b), (Iv (L_b.length : Int)), (Bo (icmp .neq (L_a.length : Int) (L_b.length : Int))), (Iv (k : Int)), (.slice p_a L_a.length q_a), (Iv (L_a.length : Int)), (Bo (icmp .lss (k : Int) (L_a.length : Int))), (u9 15), (u9 16), v23, v24, v25, v26, v27, v28, (u9 23), (u9 24), (u9 25), (u9 26), (u9 27), (u9 28)]) rfl (fun _ => rfl) (fun u hu hF => ?_) (fun v28 => ?_)
      · clear hF
        refine doesG_un rfl ?_
        refine (does_move (u := (.slice p_b L_b.length q_b)) (ev rfl)).mono ?_; rintro _ _ ⟨rfl, rfl⟩
        exact ⟨rfl, Ext.refl _⟩
      refine RW_d (fun v29 => [(.slice p_a L_a.length q_a), (.slice p_b L_b.length q_b), Ud, Ud, (u9 4), (Iv (k : Int)), (.slice p_a L_a.length q_a), (Iv (L_a.length : Int)), (.slice p_b L_b.length q_b), (Iv (L_b.length : Int)), (Bo (icmp .neq (L_a.length : Int) (L_b.length : Int))), (Iv (k : Int)), (.slice p_a L_a.length q_a), (Iv (L_a.length : Int)), (Bo (icmp .lss (k : Int) (L_a.length : Int))), (u9 15), (u9 16), v23, v24, v25, v26, v27, v28, v29, (u9 24), (u9 25), (u9 26), (u9 27), (u9 28)]) rfl (fun _ => rfl) (fun u hu hF => ?_) (fun v29 => ?_)
      · clear hF
        refine doesG_un rfl ?_
        refine (does_move (u := (Iv (k : Int))) (ev rfl)).mono ?_; rintro _ _ ⟨rfl, rfl⟩
        exact ⟨rfl, Ext.refl _⟩
      refine RW_d (fun v30 => [(.slice p_a L_a.length q_a), (.slice p_b L_b.length q_b), Ud, Ud, (u9 4), (Iv (k : Int)), (.slice p_a L_a.length q_a), (Iv (L_a.length : Int)), (.slice p_b L_b.length q_b), (Iv (L_b.length : Int)), (Bo (icmp .neq (L_a.length : Int) (L_b.length : Int))), (Iv (k : Int)), (.slice p_a L_a.length q_a), (Iv (L_a.length : Int)), (Bo (icmp .lss (k : Int) (L_a.length : Int))), (u9 15), (u9 16), v23, v24, v25, v26, v27, v28, v29, v30, (u9 25), (u9 26), (u9 27), (u9 28)]) rfl (fun _ => rfl) (fun u hu hF => ?_) (fun v30 => ?_)
      · have h22_ : v28 = (.slice p_b L_b.length q_b) := hF.1
        have h23_ : v29 = (Iv (k : Int)) := hF.2.1
        clear hF
        refine doesG_un rfl ?_
        obtain rfl := h22_
        obtain rfl := h23_
        refine (does_indexSl (R := RF) (i := (k : Int)) (xs := L_b) (e := el2) Try.underlying75 Try.sizeOf24 (ev rfl) (ev rfl) (Sl.ext (Sl.ext hv_b RF.mono (Ext.gr X13 E20)) RF.mono hu) (by omega) hel2).mono ?_; rintro v u' ⟨b, of, cs, hv, hc, hR, hu'⟩; subst hu'
        exact ⟨⟨b, of, cs, hv, hc, hR⟩, Ext.refl _⟩
      refine RW_d (fun v31 => [(.slice p_a L_a.length q_a), (.slice p_b L_b.length q_b), Ud, Ud, (u9 4), (Iv (k : Int)), (.slice p_a L_a.length q_a), (Iv (L_a.length : Int)), (.slice p_b L_b.length q_b), (Iv (L_b.length : Int)), (Bo (icmp .neq (L_a.length : Int) (L_b.length : Int))), (Iv (k : Int)), (.slice p_a L_a.length q_a), (Iv (L_a.length : Int)), (Bo (icmp .lss (k : Int) (L_a.length : Int))), (u9 15), (u9 16), v23, v24, v25, v26, v27, v28, v29, v30, v31, (u9 26), (u9 27), (u9 28)]) rfl (fun _ => rfl) (fun u hu hF => ?_) (fun v31 => ?_)
      · have h24_ : PtrR RF u v30 el2 := hF.1
        clear hF
        refine doesG_un rfl ?_
        obtain ⟨b24_, o24_, _, rfl, hc24_, ⟨r24_1, rfl, h24_2⟩⟩ := h24_
        refine (does_load (u := (Fl r24_1)) (ev rfl) Try.isAgg24 (Cells.at hc24_ 0 rfl)).mono ?_; rintro _ _ ⟨rfl, rfl⟩
        exact ⟨⟨r24_1, rfl, (by simp only [h24_2])⟩, Ext.refl _⟩
      refine RW_d (fun v32 => [(.slice p_a L_a.length q_a), (.slice p_b L_b.length q_b), Ud, Ud, (u9 4), (Iv (k : Int)), (.slice p_a L_a.length q_a), (Iv (L_a.length : Int)), (.slice p_b L_b.length q_b), (Iv (L_b.length : Int)), (Bo (icmp .neq (L_a.length : Int) (L_b.length : Int))), (Iv (k : Int)), (.slice p_a L_a.length q_a), (Iv (L_a.length : Int)), (Bo (icmp .lss (k : Int) (L_a.length : Int))), (u9 15), (u9 16), v23, v24, v25, v26, v27, v28, v29, v30, v31, v32, (u9 27), (u9 28)]) rfl (fun _ => rfl) (fun u hu hF => ?_) (fun v32 => ?_)
      · have h25_ : ∃ r_1 : Nat, v31 = (Fl r_1) ∧ cf .f32 r_1 = el2 := hF.1
        clear hF
        refine doesG_un rfl ?_
        obtain ⟨r25_1, rfl, h25_2⟩ := h25_
        refine (does_widen Try.underlying24 Try.underlying80 (ev rfl)).mono ?_; rintro _ _ ⟨r, rfl, hr, hx⟩
        exact ⟨⟨r, rfl, (by simp only [hr, h25_2])⟩, hx⟩
      refine RW_d (fun v33 => [(.slice p_a L_a.length q_a), (.slice p_b L_b.length q_b), Ud, Ud, (u9 4), (Iv (k : Int)), (.slice p_a L_a.length q_a), (Iv (L_a.length : Int)), (.slice p_b L_b.length q_b), (Iv (L_b.length : Int)), (Bo (icmp .neq (L_a.length : Int) (L_b.length : Int))), (Iv (k : Int)), (.slice p_a L_a.length q_a), (Iv (L_a.length : Int)), (Bo (icmp .lss (k : Int) (L_a.length : Int))), (u9 15), (u9 16), v23, v24, v25, v26, v27, v28, v29, v30, v31, v32, v33, (u9 28)]) rfl (fun _ => rfl) (fun u hu hF => ?_) (fun v33 => ?_)
      · have h21_ : ∃ r_1 : Nat, v27 = (Fd r_1) ∧ cf .f64 r_1 = fwid el1 := hF.1
        have h26_ : ∃ r_1 : Nat, v32 = (Fd r_1) ∧ cf .f64 r_1 = fwid el2 := hF.2.1
        clear hF
        refine doesG_un rfl ?_
        obtain ⟨r21_1, rfl, h21_2⟩ := h21_
        obtain ⟨r26_1, rfl, h26_2⟩ := h26_
        refine (does_call (args := #[(Fd r21_1), (Fd r26_1)]) cal45 (evs rfl) (c_laws_sameFloat r21_1 r26_1 _)).mono ?_; rintro v u' ⟨hx, hv⟩
        exact ⟨hv.trans (by simp only [hβ1, h21_2, h26_2]), hx⟩
      refine RW_d (fun v34 => [(.slice p_a L_a.length q_a), (.slice p_b L_b.length q_b), Ud, Ud, (u9 4), (Iv (k : Int)), (.slice p_a L_a.length q_a), (Iv (L_a.length : Int)), (.slice p_b L_b.length q_b), (Iv (L_b.length : Int)), (Bo (icmp .neq (L_a.length : Int) (L_b.length : Int))), (Iv (k : Int)), (.slice p_a L_a.length q_a), (Iv (L_a.length : Int)), (Bo (icmp .lss (k : Int) (L_a.length : Int))), (u9 15), (u9 16), v23, v24, v25, v26, v27, v28, v29, v30, v31, v32, v33, v34]) rfl (fun _ => rfl) (fun u hu hF => ?_) (fun v34 => ?_)
      · have h27_ : v33 = (Bo β1) := hF.1
        clear hF
        refine doesG_un rfl ?_
        obtain rfl := h27_
        refine (does_not (ev rfl)).mono ?_; rintro _ _ ⟨rfl, rfl⟩
        exact ⟨rfl, Ext.refl _⟩
      refine RW_fin ?_; intro w35 E36 hP37
      obtain ⟨⟨⟨⟨⟨⟨⟨⟨⟨⟨⟨⟨-, -⟩, -⟩, -⟩, -⟩, -⟩, -⟩, -⟩, -⟩, -⟩, -⟩, -⟩, q38⟩ := hP37
      have X39 := Ext.gr X22 E36
      have q38 : v34 = (Bo (!β1)) := q38
      obtain rfl := q38
      show wpList _ _ _ _ (fr [(.slice p_a L_a.length q_a), (.slice p_b L_b.length q_b), Ud, Ud, (u9 4), (Iv (k : Int)), (.slice p_a L_a.length q_a), (Iv (L_a.length : Int)), (.slice p_b L_b.length q_b), (Iv (L_b.length : Int)), (Bo (icmp .neq (L_a.length : Int) (L_b.length : Int))), (Iv (k : Int)), (.slice p_a L_a.length q_a), (Iv (L_a.length : Int)), (Bo (icmp .lss (k : Int) (L_a.length : Int))), (u9 15), (u9 16), v23, v24, v25, v26, v27, v28, v29, v30, v31, v32, v33, (Bo (!β1))]) _
      refine wpList_nil (hK18 _ _ ?_)
      refine wp_cond_split (t := !β1) (ev rfl) (fun c40 => ?_) (fun c40 => ?_)
      · rw [Bool.not_eq_true'] at c40
        have c40' := c40
        (try simp only [hβ1] at c40')
        (try simp only [icmp, Bool.and_eq_true, Bool.or_eq_true, Bool.and_eq_false_iff, Bool.or_eq_false_iff, Bool.not_eq_true', Bool.not_eq_false', decide_eq_true_eq, decide_eq_false_iff_not, beq_iff_eq, bne_iff_ne, beq_eq_false_iff_ne, bne_eq_false_iff_eq] at c40')
        refine wp_seq_k fun K41 hK41 => ?_
        refine wp_region_lit ?_
        refine q_is (l' := [(.slice p_a L_a.length q_a), (.slice p_b L_b.length q_b), Ud, Ud, (Bo false), (Iv (k : Int)), (.slice p_a L_a.length q_a), (Iv (L_a.length : Int)), (.slice p_b L_b.length q_b), (Iv (L_b.length : Int)), (Bo (icmp .neq (L_a.length : Int) (L_b.length : Int))), (Iv (k : Int)), (.slice p_a L_a.length q_a), (Iv (L_a.length : Int)), (Bo (icmp .lss (k : Int) (L_a.length : Int))), (u9 15), (u9 16), v23, v24, v25, v26, v27, v28, v29, v30, v31, v32, v33, (Bo (!β1))]) rfl rfl (does_assign (u := (Bo false)) (ev rfl)) rfl ?_
        refine wpList_nil (hK41 _ _ ?_)
        refine wp_ret ?_
        dsimp only [Exit.then, Exit.inBlock]
        refine ret_val (v := (Bo false)) (res_T rfl (slot rfl)) X39 ?_
        try simp only [hβ1, hel1, hel2] at c4 c16 c40
        have x42 : (sameL L_a L_b) = false := by first | exact (sameL_len (by omega)) | exact (sameL_not (by omega) (by assumption) (by assumption) (by simp_all)) | exact (sameL_all (by omega) (by omega) hs)
        exact (by first | rfl | rw [x42])
      rw [Bool.not_eq_false'] at c40
      have c40' := c40
      (try simp only [hβ1] at c40')
      (try simp only [icmp, Bool.and_eq_true, Bool.or_eq_true, Bool.and_eq_false_iff, Bool.or_eq_false_iff, Bool.not_eq_true', Bool.not_eq_false', decide_eq_true_eq, decide_eq_false_iff_not, beq_iff_eq, bne_iff_ne, beq_eq_false_iff_ne, bne_eq_false_iff_eq] at c40')
      refine wp_skip (hK17 _ _ ?_)
      refine wp_region_lit ?_
      refine q_is (l' := [(.slice p_a L_a.length q_a), (.slice p_b L_b.length q_b), Ud, Ud, (u9 4), (Iv (k : Int)), (.slice p_a L_a.length q_a), (Iv (L_a.length : Int)), (.slice p_b L_b.length q_b), (Iv (L_b.length : Int)), (Bo (icmp .neq (L_a.length : Int) (L_b.length : Int))), (Iv (k : Int)), (.slice p_a L_a.length q_a), (Iv (L_a.length : Int)), (Bo (icmp .lss (k : Int) (L_a.length : Int))), (Iv (k : Int)), (u9 16), v23, v24, v25, v26, v27, v28, v29, v30, v31, v32, v33, (Bo (!β1))]) rfl rfl (does_move (u := (Iv (k : Int))) (ev rfl)) rfl ?_
      refine q_is (l' := [(.slice p_a L_a.length q_a), (.slice p_b L_b.length q_b), Ud, Ud, (u9 4), (Iv (k : Int)), (.slice p_a L_a.length q_a), (Iv (L_a.length : Int)), (.slice p_b L_b.length q_b), (Iv (L_b.length : Int)), (Bo (icmp .neq (L_a.length : Int) (L_b.length : Int))), (Iv (k : Int)), (.slice p_a L_a.length q_a), (Iv (L_a.length : Int)), (Bo (icmp .lss (k : Int) (L_a.length : Int))), (Iv (k : Int)), (Iv ((k : Int) + 1)), v23, v24, v25, v26, v27, v28, v29, v30, v31, v32, v33, (Bo (!β1))]) rfl rfl (does_iarith (p := (k : Int)) (q := 1) (r := (k : Int) + 1) (ev rfl) (ev rfl) (.inl ⟨rfl, (in_i64 (by omega) (by omega)).symm⟩)) rfl ?_
      refine q_is (l' := [(.slice p_a L_a.length q_a), (.slice p_b L_b.length q_b), Ud, Ud, (u9 4), (Iv ((k : Int) + 1)), (.slice p_a L_a.length q_a), (Iv (L_a.length : Int)), (.slice p_b L_b.length q_b), (Iv (L_b.length : Int)), (Bo (icmp .neq (L_a.length : Int) (L_b.length : Int))), (Iv (k : Int)), (.slice p_a L_a.length q_a), (Iv (L_a.length : Int)), (Bo (icmp .lss (k : Int) (L_a.length : Int))), (Iv (k : Int)), (Iv ((k : Int) + 1)), v23, v24, v25, v26, v27, v28, v29, v30, v31, v32, v33, (Bo (!β1))]) rfl rfl (does_assign (u := (Iv ((k : Int) + 1))) (ev rfl)) rfl ?_
      refine wpList_nil ?_
      refine ⟨k + 1, ⟨fun t => (([(.slice p_a L_a.length q_a), (.slice p_b L_b.length q_b), Ud, Ud, (u9 4), (Iv ((k : Int) + 1)), (.slice p_a L_a.length q_a), (Iv (L_a.length : Int)), (.slice p_b L_b.length q_b), (Iv (L_b.length : Int)), (Bo (icmp .neq (L_a.length : Int) (L_b.length : Int))), (Iv (k : Int)), (.slice p_a L_a.length q_a), (Iv (L_a.length : Int)), (Bo (icmp .lss (k : Int) (L_a.length : Int))), (Iv (k : Int)), (Iv ((k : Int) + 1)), v23, v24, v25, v26, v27, v28, v29, v30, v31, v32, v33, (Bo (!β1))] : List Value)[t]?).getD undef, ?_, (Ext.gr (Ext.gr E11 E20) E36), ?_⟩, ?_⟩
      · first | rfl | (simp only [Nat.cast_add, Nat.cast_one, Int.natCast_add, Int.natCast_one]; rfl)
      · exact ⟨by omega, SameTo.step hs (by assumption) (by assumption) (by simp_all)⟩
      · omega
    have c16' := c16
    (try simp only [icmp, Bool.and_eq_true, Bool.or_eq_true, Bool.and_eq_false_iff, Bool.or_eq_false_iff, Bool.not_eq_true', Bool.not_eq_false', decide_eq_true_eq, decide_eq_false_iff_not, beq_iff_eq, bne_iff_ne, beq_eq_false_iff_ne, bne_eq_false_iff_eq] at c16')
    refine wp_exit ?_
    refine hK7 _ _ ?_
    refine wp_seq_k fun K43 hK43 => ?_
    refine wp_region_lit ?_
    refine q_is (l' := [(.slice p_a L_a.length q_a), (.slice p_b L_b.length q_b), Ud, Ud, (Bo true), (Iv (k : Int)), (.slice p_a L_a.length q_a), (Iv (L_a.length : Int)), (.slice p_b L_b.length q_b), (Iv (L_b.length : Int)), (Bo (icmp .neq (L_a.length : Int) (L_b.length : Int))), (Iv (k : Int)), (.slice p_a L_a.length q_a), (Iv (L_a.length : Int)), (Bo (icmp .lss (k : Int) (L_a.length : Int))), (u9 15), (u9 16), (u9 17), (u9 18), (u9 19), (u9 20), (u9 21), (u9 22), (u9 23), (u9 24), (u9 25), (u9 26), (u9 27), (u9 28)]) rfl rfl (does_assign (u := (Bo true)) (ev rfl)) rfl ?_
    refine wpList_nil (hK43 _ _ ?_)
    refine wp_ret ?_
    refine ret_val (v := (Bo true)) (res_T rfl (slot rfl)) X13 ?_
    have x44 : (sameL L_a L_b) = true := by first | exact (sameL_len (by omega)) | exact (sameL_not (by omega) (by assumption) (by assumption) (by simp_all)) | exact (sameL_all (by omega) (by omega) hs)
    exact (by first | rfl | rw [x44])

/- laws.FnExactOverlapOf -/
theorem c_laws_FnExactOverlapOf (ctr : Value) (L_ctr : List V3) (rad : Value) (L_rad : List Nat) (w : World) (hv_ctr : Sl RV3 3 w ctr L_ctr) (hv_rad : Sl RF 1 w rad L_rad) : Gives Try.prog 11 #[ctr, rad] w (fun v w' => v = (Bo true)) := by
  have hlen_ctr := Sl.len hv_ctr; obtain ⟨p_ctr, q_ctr, rfl⟩ := Sl.shape hv_ctr
  have hlen_rad := Sl.len hv_rad; obtain ⟨p_rad, q_rad, rfl⟩ := Sl.shape hv_rad
  refine enter [(.slice p_ctr L_ctr.length q_ctr), (.slice p_rad L_rad.length q_rad), Ud, Ud, Ud, Ud, Ud, Ud, Ud, Ud, Ud, Ud, Ud, Ud, Ud, Ud, Ud, Ud, Ud, Ud, Ud, Ud, Ud, Ud, Ud, Ud, Ud, Ud, Ud, Ud, Ud, Ud, Ud, Ud, Ud, Ud, Ud, Ud, Ud, Ud, Ud, Ud, Ud, Ud, Ud, Ud, Ud, Ud, Ud, Ud, Ud, Ud, Ud, Ud, Ud, Ud, Ud, Ud, Ud] Try.func11 rfl Try.ntmps11 rfl ?_
  refine wp_seq_k fun K1 hK1 => ?_
  refine wp_region_lit ?_
  refine q_is (l' := [(.slice p_ctr L_ctr.length q_ctr), (.slice p_rad L_rad.length q_rad), Ud, Ud, (Bo false), Ud, Ud, Ud, Ud, Ud, Ud, Ud, Ud, Ud, Ud, Ud, Ud, Ud, Ud, Ud, Ud, Ud, Ud, Ud, Ud, Ud, Ud, Ud, Ud, Ud, Ud, Ud, Ud, Ud, Ud, Ud, Ud, Ud, Ud, Ud, Ud, Ud, Ud, Ud, Ud, Ud, Ud, Ud, Ud, Ud, Ud, Ud, Ud, Ud, Ud, Ud, Ud, Ud, Ud]) rfl rfl (does_assign (u := (Bo false)) (ev rfl)) rfl ?_
  refine wpList_nil (hK1 _ _ ?_)
  refine wp_seq_k fun K2 hK2 => ?_
  refine wp_seq_k fun K3 hK3 => ?_
  refine wp_region_lit ?_
  refine q_is (l' := [(.slice p_ctr L_ctr.length q_ctr), (.slice p_rad L_rad.length q_rad), Ud, Ud, (Bo false), Ud, Ud, Ud, Ud, Ud, Ud, Ud, (.slice p_rad L_rad.length q_rad), Ud, Ud, Ud, Ud, Ud, Ud, Ud, Ud, Ud, Ud, Ud, Ud, Ud, Ud, Ud, Ud, Ud, Ud, Ud, Ud, Ud, Ud, Ud, Ud, Ud, Ud, Ud, Ud, Ud, Ud, Ud, Ud, Ud, Ud, Ud, Ud, Ud, Ud, Ud, Ud, Ud, Ud, Ud, Ud, Ud, Ud]) rfl rfl (does_move (u := (.slice p_rad L_rad.length q_rad)) (ev rfl)) rfl ?_
  refine q_is (l' := [(.slice p_ctr L_ctr.length q_ctr), (.slice p_rad L_rad.length q_rad), Ud, Ud, (Bo false), Ud, Ud, Ud, Ud, Ud, Ud, Ud, (.slice p_rad L_rad.length q_rad), (Iv (L_rad.length : Int)), Ud, Ud, Ud, Ud, Ud, Ud, Ud, Ud, Ud, Ud, Ud, Ud, Ud, Ud, Ud, Ud, Ud, Ud, Ud, Ud, Ud, Ud, Ud, Ud, Ud, Ud, Ud, Ud, Ud, Ud, Ud, Ud, Ud, Ud, Ud, Ud, Ud, Ud, Ud, Ud, Ud, Ud, Ud, Ud, Ud]) rfl rfl (does_len_slice Try.underlying75 (ev rfl)) rfl ?_
  refine q_is (l' := [(.slice p_ctr L_ctr.length q_ctr), (.slice p_rad L_rad.length q_rad), Ud, Ud, (Bo false), Ud, Ud, Ud, Ud, Ud, Ud, Ud, (.slice p_rad L_rad.length q_rad), (Iv (L_rad.length : Int)), (Bo (icmp .gtr (L_rad.length : Int) 1048576)), Ud, Ud, Ud, Ud, Ud, Ud, Ud, Ud, Ud, Ud, Ud, Ud, Ud, Ud, Ud, Ud, Ud, Ud, Ud, Ud, Ud, Ud, Ud, Ud, Ud, Ud, Ud, Ud, Ud, Ud, Ud, Ud, Ud, Ud, Ud, Ud, Ud, Ud, Ud, Ud, Ud, Ud, Ud, Ud]) rfl rfl (does_icmp (p := (L_rad.length : Int)) (q := 1048576) (.inr (.inr (.inr (.inr (.inl rfl))))) (ev rfl) (ev rfl)) rfl ?_
  refine wpList_nil (hK3 _ _ ?_)
  refine wp_cond_split (t := icmp .gtr (L_rad.length : Int) 1048576) (ev rfl) (fun c4 => ?_) (fun c4 => ?_)
  · have c4' := c4
    (try simp only [icmp, Bool.and_eq_true, Bool.or_eq_true, Bool.and_eq_false_iff, Bool.or_eq_false_iff, Bool.not_eq_true', Bool.not_eq_false', decide_eq_true_eq, decide_eq_false_iff_not, beq_iff_eq, bne_iff_ne, beq_eq_false_iff_ne, bne_eq_false_iff_eq] at c4')
    refine wp_seq_k fun K5 hK5 => ?_
    refine wp_region_lit ?_
    refine q_is (l' := [(.slice p_ctr L_ctr.length q_ctr), (.slice p_rad L_rad.length q_rad), Ud, Ud, (Bo true), Ud, Ud, Ud, Ud, Ud, Ud, Ud, (.slice p_rad L_rad.length q_rad), (Iv (L_rad.length : Int)), (Bo (icmp .gtr (L_rad.length : Int) 1048576)), Ud, Ud, Ud, Ud, Ud, Ud, Ud, Ud, Ud, Ud, Ud, Ud, Ud, Ud, Ud, Ud, Ud, Ud, Ud, Ud, Ud, Ud, Ud, Ud, Ud, Ud, Ud, Ud, Ud, Ud, Ud, Ud, Ud, Ud, Ud, Ud, Ud, Ud, Ud, Ud, Ud, Ud, Ud, Ud]) rfl rfl (does_assign (u := (Bo true)) (ev rfl)) rfl ?_
    refine wpList_nil (hK5 _ _ ?_)
    refine wp_ret ?_
    dsimp only [Exit.then, Exit.inBlock]
    refine ret_val (v := (Bo true)) (res_T rfl (slot rfl)) (Ext.refl w) ?_
    exact rfl
  have c4' := c4
  (try simp only [icmp, Bool.and_eq_true, Bool.or_eq_true, Bool.and_eq_false_iff, Bool.or_eq_false_iff, Bool.not_eq_true', Bool.not_eq_false', decide_eq_true_eq, decide_eq_false_iff_not, beq_iff_eq, bne_iff_ne, beq_eq_false_iff_ne, bne_eq_false_iff_eq] at c4')
  refine wp_skip (hK2 _ _ ?_)
  refine wp_seq_k fun K6 hK6 => ?_
  refine wp_region_lit ?_
  refine q_is (l' := [(.slice p_ctr L_ctr.length q_ctr), (.slice p_rad L_rad.length q_rad), Ud, Ud, (Bo false), (Iv 1048576), Ud, Ud, Ud, Ud, Ud, Ud, (.slice p_rad L_rad.length q_rad), (Iv (L_rad.length : Int)), (Bo (icmp .gtr (L_rad.length : Int) 1048576)), Ud, Ud, Ud, Ud, Ud, Ud, Ud, Ud, Ud, Ud, Ud, Ud, Ud, Ud, Ud, Ud, Ud, Ud, Ud, Ud, Ud, Ud, Ud, Ud, Ud, Ud, Ud, Ud, Ud, Ud, Ud, Ud, Ud, Ud, Ud, Ud, Ud, Ud, Ud, Ud, Ud, Ud, Ud, Ud]) rfl rfl (does_assign (u := (Iv 1048576)) (ev rfl)) rfl ?_
  refine wpList_nil (hK6 _ _ ?_)
  refine wp_seq_k fun K7 hK7 => ?_
  refine wp_region_lit ?_
  refine q_is (l' := [(.slice p_ctr L_ctr.length q_ctr), (.slice p_rad L_rad.length q_rad), Ud, Ud, (Bo false), (Iv 1048576), Ud, Ud, Ud, Ud, Ud, Ud, (.slice p_rad L_rad.length q_rad), (Iv (L_rad.length : Int)), (Bo (icmp .gtr (L_rad.length : Int) 1048576)), (.slice p_ctr L_ctr.length q_ctr), Ud, Ud, Ud, Ud, Ud, Ud, Ud, Ud, Ud, Ud, Ud, Ud, Ud, Ud, Ud, Ud, Ud, Ud, Ud, Ud, Ud, Ud, Ud, Ud, Ud, Ud, Ud, Ud, Ud, Ud, Ud, Ud, Ud, Ud, Ud, Ud, Ud, Ud, Ud, Ud, Ud, Ud, Ud]) rfl rfl (does_move (u := (.slice p_ctr L_ctr.length q_ctr)) (ev rfl)) rfl ?_
  refine q_is (l' := [(.slice p_ctr L_ctr.length q_ctr), (.slice p_rad L_rad.length q_rad), Ud, Ud, (Bo false), (Iv 1048576), Ud, Ud, Ud, Ud, Ud, Ud, (.slice p_rad L_rad.length q_rad), (Iv (L_rad.length : Int)), (Bo (icmp .gtr (L_rad.length : Int) 1048576)), (.slice p_ctr L_ctr.length q_ctr), (Iv 1048576), Ud, Ud, Ud, Ud, Ud, Ud, Ud, Ud, Ud, Ud, Ud, Ud, Ud, Ud, Ud, Ud, Ud, Ud, Ud, Ud, Ud, Ud, Ud, Ud, Ud, Ud, Ud, Ud, Ud, Ud, Ud, Ud, Ud, Ud, Ud, Ud, Ud, Ud, Ud, Ud, Ud, Ud]) rfl rfl (does_move (u := (Iv 1048576)) (ev rfl)) rfl ?_
  refine seqd rfl rfl (does_call (args := #[(.slice p_ctr L_ctr.length q_ctr), (Iv 1048576)]) cal13 (evs rfl) (c_laws_szVectorS (.slice p_ctr L_ctr.length q_ctr) L_ctr 1048576 _ hv_ctr (by omega) (by omega))) ?_; rintro _ w9 ⟨E8, ⟨i10, rfl, h11⟩⟩
  have X12 := Ext.gr (Ext.refl w) E8
  show wpList _ _ _ _ (fr [(.slice p_ctr L_ctr.length q_ctr), (.slice p_rad L_rad.length q_rad), Ud, Ud, (Bo false), (Iv 1048576), Ud, Ud, Ud, Ud, Ud, Ud, (.slice p_rad L_rad.length q_rad), (Iv (L_rad.length : Int)), (Bo (icmp .gtr (L_rad.length : Int) 1048576)), (.slice p_ctr L_ctr.length q_ctr), (Iv 1048576), (Iv i10), Ud, Ud, Ud, Ud, Ud, Ud, Ud, Ud, Ud, Ud, Ud, Ud, Ud, Ud, Ud, Ud, Ud, Ud, Ud, Ud, Ud, Ud, Ud, Ud, Ud, Ud, Ud, Ud, Ud, Ud, Ud, Ud, Ud, Ud, Ud, Ud, Ud, Ud, Ud, Ud, Ud]) _
  refine q_is (l' := [(.slice p_ctr L_ctr.length q_ctr), (.slice p_rad L_rad.length q_rad), Ud, Ud, (Bo false), (Iv i10), Ud, Ud, Ud, Ud, Ud, Ud, (.slice p_rad L_rad.length q_rad), (Iv (L_rad.length : Int)), (Bo (icmp .gtr (L_rad.length : Int) 1048576)), (.slice p_ctr L_ctr.length q_ctr), (Iv 1048576), (Iv i10), Ud, Ud, Ud, Ud, Ud, Ud, Ud, Ud, Ud, Ud, Ud, Ud, Ud, Ud, Ud, Ud, Ud, Ud, Ud, Ud, Ud, Ud, Ud, Ud, Ud, Ud, Ud, Ud, Ud, Ud, Ud, Ud, Ud, Ud, Ud, Ud, Ud, Ud, Ud, Ud, Ud]) rfl rfl (does_assign (u := (Iv i10)) (ev rfl)) rfl ?_
  refine wpList_nil (hK7 _ _ ?_)
  refine wp_seq_k fun K13 hK13 => ?_
  refine wp_seq_k fun K14 hK14 => ?_
  refine wp_region_lit ?_
  refine q_is (l' := [(.slice p_ctr L_ctr.length q_ctr), (.slice p_rad L_rad.length q_rad), Ud, Ud, (Bo false), (Iv i10), Ud, Ud, Ud, Ud, Ud, Ud, (.slice p_rad L_rad.length q_rad), (Iv (L_rad.length : Int)), (Bo (icmp .gtr (L_rad.length : Int) 1048576)), (.slice p_ctr L_ctr.length q_ctr), (Iv 1048576), (Iv i10), (Iv i10), Ud, Ud, Ud, Ud, Ud, Ud, Ud, Ud, Ud, Ud, Ud, Ud, Ud, Ud, Ud, Ud, Ud, Ud, Ud, Ud, Ud, Ud, Ud, Ud, Ud, Ud, Ud, Ud, Ud, Ud, Ud, Ud, Ud, Ud, Ud, Ud, Ud, Ud, Ud, Ud]) rfl rfl (does_move (u := (Iv i10)) (ev rfl)) rfl ?_
  refine q_is (l' := [(.slice p_ctr L_ctr.length q_ctr), (.slice p_rad L_rad.length q_rad), Ud, Ud, (Bo false), (Iv i10), Ud, Ud, Ud, Ud, Ud, Ud, (.slice p_rad L_rad.length q_rad), (Iv (L_rad.length : Int)), (Bo (icmp .gtr (L_rad.length : Int) 1048576)), (.slice p_ctr L_ctr.length q_ctr), (Iv 1048576), (Iv i10), (Iv i10), (Bo (icmp .lss i10 0)), Ud, Ud, Ud, Ud, Ud, Ud, Ud, Ud, Ud, Ud, Ud, Ud, Ud, Ud, Ud, Ud, Ud, Ud, Ud, Ud, Ud, Ud, Ud, Ud, Ud, Ud, Ud, Ud, Ud, Ud, Ud, Ud, Ud, Ud, Ud, Ud, Ud, Ud, Ud]) rfl rfl (does_icmp (p := i10) (q := 0) (.inr (.inr (.inl rfl))) (ev rfl) (ev rfl)) rfl ?_
  refine wpList_nil (hK14 _ _ ?_)
  refine wp_cond_split (t := icmp .lss i10 0) (ev rfl) (fun c15 => ?_) (fun c15 => ?_)
  · have c15' := c15
    (try simp only [icmp, Bool.and_eq_true, Bool.or_eq_true, Bool.and_eq_false_iff, Bool.or_eq_false_iff, Bool.not_eq_true', Bool.not_eq_false', decide_eq_true_eq, decide_eq_false_iff_not, beq_iff_eq, bne_iff_ne, beq_eq_false_iff_ne, bne_eq_false_iff_eq] at c15')
    refine wp_seq_k fun K16 hK16 => ?_
    refine wp_region_lit ?_
    refine q_is (l' := [(.slice p_ctr L_ctr.length q_ctr), (.slice p_rad L_rad.length q_rad), Ud, Ud, (Bo true), (Iv i10), Ud, Ud, Ud, Ud, Ud, Ud, (.slice p_rad L_rad.length q_rad), (Iv (L_rad.length : Int)), (Bo (icmp .gtr (L_rad.length : Int) 1048576)), (.slice p_ctr L_ctr.length q_ctr), (Iv 1048576), (Iv i10), (Iv i10), (Bo (icmp .lss i10 0)), Ud, Ud, Ud, Ud, Ud, Ud, Ud, Ud, Ud, Ud, Ud, Ud, Ud, Ud, Ud, Ud, Ud, Ud, Ud, Ud, Ud, Ud, Ud, Ud, Ud, Ud, Ud, Ud, Ud, Ud, Ud, Ud, Ud, Ud, Ud, Ud, Ud, Ud, Ud]) rfl rfl (does_assign (u := (Bo true)) (ev rfl)) rfl ?_
    refine wpList_nil (hK16 _ _ ?_)
    refine wp_ret ?_
    dsimp only [Exit.then, Exit.inBlock]
    refine ret_val (v := (Bo true)) (res_T rfl (slot rfl)) X12 ?_
    exact rfl
  have c15' := c15
  (try simp only [icmp, Bool.and_eq_true, Bool.or_eq_true, Bool.and_eq_false_iff, Bool.or_eq_false_iff, Bool.not_eq_true', Bool.not_eq_false', decide_eq_true_eq, decide_eq_false_iff_not, beq_iff_eq, bne_iff_ne, beq_eq_false_iff_ne, bne_eq_false_iff_eq] at c15')
  refine wp_skip (hK13 _ _ ?_)
  refine wp_seq_k fun K17 hK17 => ?_
  refine wp_region_lit ?_
  refine q_is (l' := [(.slice p_ctr L_ctr.length q_ctr), (.slice p_rad L_rad.length q_rad), Ud, Ud, (Bo false), (Iv i10), Ud, Ud, Ud, Ud, Ud, Ud, (.slice p_rad L_rad.length q_rad), (Iv (L_rad.length : Int)), (Bo (icmp .gtr (L_rad.length : Int) 1048576)), (.slice p_ctr L_ctr.length q_ctr), (Iv 1048576), (Iv i10), (Iv i10), (Bo (icmp .lss i10 0)), Ud, (.slice p_ctr L_ctr.length q_ctr), Ud, Ud, Ud, Ud, Ud, Ud, Ud, Ud, Ud, Ud, Ud, Ud, Ud, Ud, Ud, Ud, Ud, Ud, Ud, Ud, Ud, Ud, Ud, Ud, Ud, Ud, Ud, Ud, Ud, Ud, Ud, Ud, Ud, Ud, Ud, Ud, Ud]) rfl rfl (does_move (u := (.slice p_ctr L_ctr.length q_ctr)) (ev rfl)) rfl ?_
  refine seqd rfl rfl (does_call (args := #[(.slice p_ctr L_ctr.length q_ctr)]) cal15 (evs rfl) (c_laws_toVectorS (.slice p_ctr L_ctr.length q_ctr) L_ctr _ (Sl.ext hv_ctr RV3.mono X12) (by omega))) ?_; rintro _ w19 ⟨E18, ⟨y21, rfl, hh20⟩⟩
  have X22 := Ext.gr X12 E18
  obtain ⟨p23, q24, rfl⟩ := Sl.shape hh20.get
  show wpList _ _ _ _ (fr [(.slice p_ctr L_ctr.length q_ctr), (.slice p_rad L_rad.length q_rad), Ud, Ud, (Bo false), (Iv i10), Ud, Ud, Ud, Ud, Ud, Ud, (.slice p_rad L_rad.length q_rad), (Iv (L_rad.length : Int)), (Bo (icmp .gtr (L_rad.length : Int) 1048576)), (.slice p_ctr L_ctr.length q_ctr), (Iv 1048576), (Iv i10), (Iv i10), (Bo (icmp .lss i10 0)), Ud, (.slice p_ctr L_ctr.length q_ctr), (.slice p23 L_ctr.length q24), Ud, Ud, Ud, Ud, Ud, Ud, Ud, Ud, Ud, Ud, Ud, Ud, Ud, Ud, Ud, Ud, Ud, Ud, Ud, Ud, Ud, Ud, Ud, Ud, Ud, Ud, Ud, Ud, Ud, Ud, Ud, Ud, Ud, Ud, Ud, Ud]) _
  refine q_is (l' := [(.slice p_ctr L_ctr.length q_ctr), (.slice p_rad L_rad.length q_rad), Ud, Ud, (Bo false), (Iv i10), Ud, Ud, Ud, Ud, Ud, Ud, (.slice p_rad L_rad.length q_rad), (Iv (L_rad.length : Int)), (Bo (icmp .gtr (L_rad.length : Int) 1048576)), (.slice p_ctr L_ctr.length q_ctr), (Iv 1048576), (Iv i10), (Iv i10), (Bo (icmp .lss i10 0)), Ud, (.slice p_ctr L_ctr.length q_ctr), (.slice p23 L_ctr.length q24), (.slice p_rad L_rad.length q_rad), Ud, Ud, Ud, Ud, Ud, Ud, Ud, Ud, Ud, Ud, Ud, Ud, Ud, Ud, Ud, Ud, Ud, Ud, Ud, Ud, Ud, Ud, Ud, Ud, Ud, Ud, Ud, Ud, Ud, Ud, Ud, Ud, Ud, Ud, Ud]) rfl rfl (does_move (u := (.slice p_rad L_rad.length q_rad)) (ev rfl)) rfl ?_
  refine seqd rfl rfl (does_call (args := #[(.slice p_rad L_rad.length q_rad)]) cal43 (evs rfl) (c_laws_toFloat32S (.slice p_rad L_rad.length q_rad) L_rad _ (Sl.ext hv_rad RF.mono X22) (by omega))) ?_; rintro _ w26 ⟨E25, ⟨y28, rfl, hh27⟩⟩
  have X29 := Ext.gr X22 E25
  obtain ⟨p30, q31, rfl⟩ := Sl.shape hh27.get
  show wpList _ _ _ _ (fr [(.slice p_ctr L_ctr.length q_ctr), (.slice p_rad L_rad.length q_rad), Ud, Ud, (Bo false), (Iv i10), Ud, Ud, Ud, Ud, Ud, Ud, (.slice p_rad L_rad.length q_rad), (Iv (L_rad.length : Int)), (Bo (icmp .gtr (L_rad.length : Int) 1048576)), (.slice p_ctr L_ctr.length q_ctr), (Iv 1048576), (Iv i10), (Iv i10), (Bo (icmp .lss i10 0)), Ud, (.slice p_ctr L_ctr.length q_ctr), (.slice p23 L_ctr.length q24), (.slice p_rad L_rad.length q_rad), (.slice p30 L_rad.length q31), Ud, Ud, Ud, Ud, Ud, Ud, Ud, Ud, Ud, Ud, Ud, Ud, Ud, Ud, Ud, Ud, Ud, Ud, Ud, Ud, Ud, Ud, Ud, Ud, Ud, Ud, Ud, Ud, Ud, Ud, Ud, Ud, Ud, Ud]) _
  refine seqd rfl rfl (does_call (args := #[(.slice p23 L_ctr.length q24), (.slice p30 L_rad.length q31)]) cal42 (evs rfl) (c_spec_OverlapOf (.slice p23 L_ctr.length q24) L_ctr (.slice p30 L_rad.length q31) L_rad _ (hh20 _ ((Same.refl _ _).ext E25)) hh27.get)) ?_; rintro _ w33 ⟨E32, ⟨r34, rfl, h35⟩⟩
  have X36 := Ext.gr X29 E32
  show wpList _ _ _ _ (fr [(.slice p_ctr L_ctr.length q_ctr), (.slice p_rad L_rad.length q_rad), Ud, Ud, (Bo false), (Iv i10), Ud, Ud, Ud, Ud, Ud, Ud, (.slice p_rad L_rad.length q_rad), (Iv (L_rad.length : Int)), (Bo (icmp .gtr (L_rad.length : Int) 1048576)), (.slice p_ctr L_ctr.length q_ctr), (Iv 1048576), (Iv i10), (Iv i10), (Bo (icmp .lss i10 0)), Ud, (.slice p_ctr L_ctr.length q_ctr), (.slice p23 L_ctr.length q24), (.slice p_rad L_rad.length q_rad), (.slice p30 L_rad.length q31), (.tuple #[(Fl r34), (Bo (okBalls L_ctr L_rad))]), Ud, Ud, Ud, Ud, Ud, Ud, Ud, Ud, Ud, Ud, Ud, Ud, Ud, Ud, Ud, Ud, Ud, Ud, Ud, Ud, Ud, Ud, Ud, Ud, Ud, Ud, Ud, Ud, Ud, Ud, Ud, Ud, Ud]) _
  refine q_is (l' := [(.slice p_ctr L_ctr.length q_ctr), (.slice p_rad L_rad.length q_rad), Ud, Ud, (Bo false), (Iv i10), Ud, Ud, Ud, Ud, Ud, Ud, (.slice p_rad L_rad.length q_rad), (Iv (L_rad.length : Int)), (Bo (icmp .gtr (L_rad.length : Int) 1048576)), (.slice p_ctr L_ctr.length q_ctr), (Iv 1048576), (Iv i10), (Iv i10), (Bo (icmp .lss i10 0)), (.tuple #[(Fl r34), (Bo (okBalls L_ctr L_rad))]), (.slice p_ctr L_ctr.length q_ctr), (.slice p23 L_ctr.length q24), (.slice p_rad L_rad.length q_rad), (.slice p30 L_rad.length q31), (.tuple #[(Fl r34), (Bo (okBalls L_ctr L_rad))]), Ud, Ud, Ud, Ud, Ud, Ud, Ud, Ud, Ud, Ud, Ud, Ud, Ud, Ud, Ud, Ud, Ud, Ud, Ud, Ud, Ud, Ud, Ud, Ud, Ud, Ud, Ud, Ud, Ud, Ud, Ud, Ud, Ud]) rfl rfl (does_move (u := (.tuple #[(Fl r34), (Bo (okBalls L_ctr L_rad))])) (ev rfl)) rfl ?_
  refine q_is (l' := [(.slice p_ctr L_ctr.length q_ctr), (.slice p_rad L_rad.length q_rad), Ud, Ud, (Bo false), (Iv i10), Ud, Ud, Ud, Ud, Ud, Ud, (.slice p_rad L_rad.length q_rad), (Iv (L_rad.length : Int)), (Bo (icmp .gtr (L_rad.length : Int) 1048576)), (.slice p_ctr L_ctr.length q_ctr), (Iv 1048576), (Iv i10), (Iv i10), (Bo (icmp .lss i10 0)), (.tuple #[(Fl r34), (Bo (okBalls L_ctr L_rad))]), (.slice p_ctr L_ctr.length q_ctr), (.slice p23 L_ctr.length q24), (.slice p_rad L_rad.length q_rad), (.slice p30 L_rad.length q31), (.tuple #[(Fl r34), (Bo (okBalls L_ctr L_rad))]), (Fl r34), Ud, Ud, Ud, Ud, Ud, Ud, Ud, Ud, Ud, Ud, Ud, Ud, Ud, Ud, Ud, Ud, Ud, Ud, Ud, Ud, Ud, Ud, Ud, Ud, Ud, Ud, Ud, Ud, Ud, Ud, Ud, Ud]) rfl rfl (does_extract (vs := #[(Fl r34), (Bo (okBalls L_ctr L_rad))]) (u := (Fl r34)) (ev rfl) rfl) rfl ?_
  refine q_is (l' := [(.slice p_ctr L_ctr.length q_ctr), (.slice p_rad L_rad.length q_rad), Ud, Ud, (Bo false), (Iv i10), Ud, Ud, Ud, Ud, Ud, Ud, (.slice p_rad L_rad.length q_rad), (Iv (L_rad.length : Int)), (Bo (icmp .gtr (L_rad.length : Int) 1048576)), (.slice p_ctr L_ctr.length q_ctr), (Iv 1048576), (Iv i10), (Iv i10), (Bo (icmp .lss i10 0)), (.tuple #[(Fl r34), (Bo (okBalls L_ctr L_rad))]), (.slice p_ctr L_ctr.length q_ctr), (.slice p23 L_ctr.length q24), (.slice p_rad L_rad.length q_rad), (.slice p30 L_rad.length q31), (.tuple #[(Fl r34), (Bo (okBalls L_ctr L_rad))]), (Fl r34), (Bo (okBalls L_ctr L_rad)), Ud, Ud, Ud, Ud, Ud, Ud, Ud, Ud, Ud, Ud, Ud, Ud, Ud, Ud, Ud, Ud, Ud, Ud, Ud, Ud, Ud, Ud, Ud, Ud, Ud, Ud, Ud, Ud, Ud, Ud, Ud]) rfl rfl (does_extract (vs := #[(Fl r34), (Bo (okBalls L_ctr L_rad))]) (u := (Bo (okBalls L_ctr L_rad))) (ev rfl) rfl) rfl ?_
  refine q_is (l' := [(.slice p_ctr L_ctr.length q_ctr), (.slice p_rad L_rad.length q_rad), Ud, Ud, (Bo false), (Iv i10), (Fl r34), Ud, Ud, Ud, Ud, Ud, (.slice p_rad L_rad.length q_rad), (Iv (L_rad.length : Int)), (Bo (icmp .gtr (L_rad.length : Int) 1048576)), (.slice p_ctr L_ctr.length q_ctr), (Iv 1048576), (Iv i10), (Iv i10), (Bo (icmp .lss i10 0)), (.tuple #[(Fl r34), (Bo (okBalls L_ctr L_rad))]), (.slice p_ctr L_ctr.length q_ctr), (.slice p23 L_ctr.length q24), (.slice p_rad L_rad.length q_rad), (.slice p30 L_rad.length q31), (.tuple #[(Fl r34), (Bo (okBalls L_ctr L_rad))]), (Fl r34), (Bo (okBalls L_ctr L_rad)), Ud, Ud, Ud, Ud, Ud, Ud, Ud, Ud, Ud, Ud, Ud, Ud, Ud, Ud, Ud, Ud, Ud, Ud, Ud, Ud, Ud, Ud, Ud, Ud, Ud, Ud, Ud, Ud, Ud, Ud, Ud]) rfl rfl (does_assign (u := (Fl r34)) (ev rfl)) rfl ?_
  refine q_is (l' := [(.slice p_ctr L_ctr.length q_ctr), (.slice p_rad L_rad.length q_rad), Ud, Ud, (Bo false), (Iv i10), (Fl r34), (Bo (okBalls L_ctr L_rad)), Ud, Ud, Ud, Ud, (.slice p_rad L_rad.length q_rad), (Iv (L_rad.length : Int)), (Bo (icmp .gtr (L_rad.length : Int) 1048576)), (.slice p_ctr L_ctr.length q_ctr), (Iv 1048576), (Iv i10), (Iv i10), (Bo (icmp .lss i10 0)), (.tuple #[(Fl r34), (Bo (okBalls L_ctr L_rad))]), (.slice p_ctr L_ctr.length q_ctr), (.slice p23 L_ctr.length q24), (.slice p_rad L_rad.length q_rad), (.slice p30 L_rad.length q31), (.tuple #[(Fl r34), (Bo (okBalls L_ctr L_rad))]), (Fl r34), (Bo (okBalls L_ctr L_rad)), Ud, Ud, Ud, Ud, Ud, Ud, Ud, Ud, Ud, Ud, Ud, Ud, Ud, Ud, Ud, Ud, Ud, Ud, Ud, Ud, Ud, Ud, Ud, Ud, Ud, Ud, Ud, Ud, Ud, Ud, Ud]) rfl rfl (does_assign (u := (Bo (okBalls L_ctr L_rad))) (ev rfl)) rfl ?_
  refine wpList_nil (hK17 _ _ ?_)
  refine wp_seq_k fun K37 hK37 => ?_
  refine wp_region_lit ?_
  refine q_is (l' := [(.slice p_ctr L_ctr.length q_ctr), (.slice p_rad L_rad.length q_rad), Ud, Ud, (Bo false), (Iv i10), (Fl r34), (Bo (okBalls L_ctr L_rad)), Ud, Ud, Ud, Ud, (.slice p_rad L_rad.length q_rad), (Iv (L_rad.length : Int)), (Bo (icmp .gtr (L_rad.length : Int) 1048576)), (.slice p_ctr L_ctr.length q_ctr), (Iv 1048576), (Iv i10), (Iv i10), (Bo (icmp .lss i10 0)), (.tuple #[(Fl r34), (Bo (okBalls L_ctr L_rad))]), (.slice p_ctr L_ctr.length q_ctr), (.slice p23 L_ctr.length q24), (.slice p_rad L_rad.length q_rad), (.slice p30 L_rad.length q31), (.tuple #[(Fl r34), (Bo (okBalls L_ctr L_rad))]), (Fl r34), (Bo (okBalls L_ctr L_rad)), (.slice p_ctr L_ctr.length q_ctr), Ud, Ud, Ud, Ud, Ud, Ud, Ud, Ud, Ud, Ud, Ud, Ud, Ud, Ud, Ud, Ud, Ud, Ud, Ud, Ud, Ud, Ud, Ud, Ud, Ud, Ud, Ud, Ud, Ud, Ud]) rfl rfl (does_move (u := (.slice p_ctr L_ctr.length q_ctr)) (ev rfl)) rfl ?_
  refine seqd rfl rfl (does_call (args := #[(.slice p_ctr L_ctr.length q_ctr)]) cal15 (evs rfl) (c_laws_toVectorS (.slice p_ctr L_ctr.length q_ctr) L_ctr _ (Sl.ext hv_ctr RV3.mono X36) (by omega))) ?_; rintro _ w39 ⟨E38, ⟨y41, rfl, hh40⟩⟩
  have X42 := Ext.gr X36 E38
  obtain ⟨p43, q44, rfl⟩ := Sl.shape hh40.get
  show wpList _ _ _ _ (fr [(.slice p_ctr L_ctr.length q_ctr), (.slice p_rad L_rad.length q_rad), Ud, Ud, (Bo false), (Iv i10), (Fl r34), (Bo (okBalls L_ctr L_rad)), Ud, Ud, Ud, Ud, (.slice p_rad L_rad.length q_rad), (Iv (L_rad.length : Int)), (Bo (icmp .gtr (L_rad.length : Int) 1048576)), (.slice p_ctr L_ctr.length q_ctr), (Iv 1048576), (Iv i10), (Iv i10), (Bo (icmp .lss i10 0)), (.tuple #[(Fl r34), (Bo (okBalls L_ctr L_rad))]), (.slice p_ctr L_ctr.length q_ctr), (.slice p23 L_ctr.length q24), (.slice p_rad L_rad.length q_rad), (.slice p30 L_rad.length q31), (.tuple #[(Fl r34), (Bo (okBalls L_ctr L_rad))]), (Fl r34), (Bo (okBalls L_ctr L_rad)), (.slice p_ctr L_ctr.length q_ctr), (.slice p43 L_ctr.length q44), Ud, Ud, Ud, Ud, Ud, Ud, Ud, Ud, Ud, Ud, Ud, Ud, Ud, Ud, Ud, Ud, Ud, Ud, Ud, Ud, Ud, Ud, Ud, Ud, Ud, Ud, Ud, Ud, Ud]) _
  refine q_is (l' := [(.slice p_ctr L_ctr.length q_ctr), (.slice p_rad L_rad.length q_rad), Ud, Ud, (Bo false), (Iv i10), (Fl r34), (Bo (okBalls L_ctr L_rad)), (.slice p43 L_ctr.length q44), Ud, Ud, Ud, (.slice p_rad L_rad.length q_rad), (Iv (L_rad.length : Int)), (Bo (icmp .gtr (L_rad.length : Int) 1048576)), (.slice p_ctr L_ctr.length q_ctr), (Iv 1048576), (Iv i10), (Iv i10), (Bo (icmp .lss i10 0)), (.tuple #[(Fl r34), (Bo (okBalls L_ctr L_rad))]), (.slice p_ctr L_ctr.length q_ctr), (.slice p23 L_ctr.length q24), (.slice p_rad L_rad.length q_rad), (.slice p30 L_rad.length q31), (.tuple #[(Fl r34), (Bo (okBalls L_ctr L_rad))]), (Fl r34), (Bo (okBalls L_ctr L_rad)), (.slice p_ctr L_ctr.length q_ctr), (.slice p43 L_ctr.length q44), Ud, Ud, Ud, Ud, Ud, Ud, Ud, Ud, Ud, Ud, Ud, Ud, Ud, Ud, Ud, Ud, Ud, Ud, Ud, Ud, Ud, Ud, Ud, Ud, Ud, Ud, Ud, Ud, Ud]) rfl rfl (does_assign (u := (.slice p43 L_ctr.length q44)) (ev rfl)) rfl ?_
  refine wpList_nil (hK37 _ _ ?_)
  refine wp_seq_k fun K45 hK45 => ?_
  refine wp_region_lit ?_
  refine q_is (l' := [(.slice p_ctr L_ctr.length q_ctr), (.slice p_rad L_rad.length q_rad), Ud, Ud, (Bo false), (Iv i10), (Fl r34), (Bo (okBalls L_ctr L_rad)), (.slice p43 L_ctr.length q44), Ud, Ud, Ud, (.slice p_rad L_rad.length q_rad), (Iv (L_rad.length : Int)), (Bo (icmp .gtr (L_rad.length : Int) 1048576)), (.slice p_ctr L_ctr.length q_ctr), (Iv 1048576), (Iv i10), (Iv i10), (Bo (icmp .lss i10 0)), (.tuple #[(Fl r34), (Bo (okBalls L_ctr L_rad))]), (.slice p_ctr L_ctr.length q_ctr), (.slice p23 L_ctr.length q24), (.slice p_rad L_rad.length q_rad), (.slice p30 L_rad.length q31), (.tuple #[(Fl r34), (Bo (okBalls L_ctr L_rad))]), (Fl r34), (Bo (okBalls L_ctr L_rad)), (.slice p_ctr L_ctr.length q_ctr), (.slice p43 L_ctr.length q44), (.slice p_rad L_rad.length q_rad), Ud, Ud, Ud, Ud, Ud, Ud, Ud, Ud, Ud, Ud, Ud, Ud, Ud, Ud, Ud, Ud, Ud, Ud, Ud, Ud, Ud, Ud, Ud, Ud, Ud, Ud, Ud, Ud]) rfl rfl (does_move (u := (.slice p_rad L_rad.length q_rad)) (ev rfl)) rfl ?_
  refine seqd rfl rfl (does_call (args := #[(.slice p_rad L_rad.length q_rad)]) cal43 (evs rfl) (c_laws_toFloat32S (.slice p_rad L_rad.length q_rad) L_rad _ (Sl.ext hv_rad RF.mono X42) (by omega))) ?_; rintro _ w47 ⟨E46, ⟨y49, rfl, hh48⟩⟩
  have X50 := Ext.gr X42 E46
  obtain ⟨p51, q52, rfl⟩ := Sl.shape hh48.get
  show wpList _ _ _ _ (fr [(.slice p_ctr L_ctr.length q_ctr), (.slice p_rad L_rad.length q_rad), Ud, Ud, (Bo false), (Iv i10), (Fl r34), (Bo (okBalls L_ctr L_rad)), (.slice p43 L_ctr.length q44), Ud, Ud, Ud, (.slice p_rad L_rad.length q_rad), (Iv (L_rad.length : Int)), (Bo (icmp .gtr (L_rad.length : Int) 1048576)), (.slice p_ctr L_ctr.length q_ctr), (Iv 1048576), (Iv i10), (Iv i10), (Bo (icmp .lss i10 0)), (.tuple #[(Fl r34), (Bo (okBalls L_ctr L_rad))]), (.slice p_ctr L_ctr.length q_ctr), (.slice p23 L_ctr.length q24), (.slice p_rad L_rad.length q_rad), (.slice p30 L_rad.length q31), (.tuple #[(Fl r34), (Bo (okBalls L_ctr L_rad))]), (Fl r34), (Bo (okBalls L_ctr L_rad)), (.slice p_ctr L_ctr.length q_ctr), (.slice p43 L_ctr.length q44), (.slice p_rad L_rad.length q_rad), (.slice p51 L_rad.length q52), Ud, Ud, Ud, Ud, Ud, Ud, Ud, Ud, Ud, Ud, Ud, Ud, Ud, Ud, Ud, Ud, Ud, Ud, Ud, Ud, Ud, Ud, Ud, Ud, Ud, Ud, Ud]) _
  refine q_is (l' := [(.slice p_ctr L_ctr.length q_ctr), (.slice p_rad L_rad.length q_rad), Ud, Ud, (Bo false), (Iv i10), (Fl r34), (Bo (okBalls L_ctr L_rad)), (.slice p43 L_ctr.length q44), (.slice p51 L_rad.length q52), Ud, Ud, (.slice p_rad L_rad.length q_rad), (Iv (L_rad.length : Int)), (Bo (icmp .gtr (L_rad.length : Int) 1048576)), (.slice p_ctr L_ctr.length q_ctr), (Iv 1048576), (Iv i10), (Iv i10), (Bo (icmp .lss i10 0)), (.tuple #[(Fl r34), (Bo (okBalls L_ctr L_rad))]), (.slice p_ctr L_ctr.length q_ctr), (.slice p23 L_ctr.length q24), (.slice p_rad L_rad.length q_rad), (.slice p30 L_rad.length q31), (.tuple #[(Fl r34), (Bo (okBalls L_ctr L_rad))]), (Fl r34), (Bo (okBalls L_ctr L_rad)), (.slice p_ctr L_ctr.length q_ctr), (.slice p43 L_ctr.length q44), (.slice p_rad L_rad.length q_rad), (.slice p51 L_rad.length q52), Ud, Ud, Ud, Ud, Ud, Ud, Ud, Ud, Ud, Ud, Ud, Ud, Ud, Ud, Ud, Ud, Ud, Ud, Ud, Ud, Ud, Ud, Ud, Ud, Ud, Ud, Ud]) rfl rfl (does_assign (u := (.slice p51 L_rad.length q52)) (ev rfl)) rfl ?_
  refine wpList_nil (hK45 _ _ ?_)
  refine wp_seq_k fun K53 hK53 => ?_
  refine wp_region_lit ?_
  refine q_is (l' := [(.slice p_ctr L_ctr.length q_ctr), (.slice p_rad L_rad.length q_rad), Ud, Ud, (Bo false), (Iv i10), (Fl r34), (Bo (okBalls L_ctr L_rad)), (.slice p43 L_ctr.length q44), (.slice p51 L_rad.length q52), Ud, Ud, (.slice p_rad L_rad.length q_rad), (Iv (L_rad.length : Int)), (Bo (icmp .gtr (L_rad.length : Int) 1048576)), (.slice p_ctr L_ctr.length q_ctr), (Iv 1048576), (Iv i10), (Iv i10), (Bo (icmp .lss i10 0)), (.tuple #[(Fl r34), (Bo (okBalls L_ctr L_rad))]), (.slice p_ctr L_ctr.length q_ctr), (.slice p23 L_ctr.length q24), (.slice p_rad L_rad.length q_rad), (.slice p30 L_rad.length q31), (.tuple #[(Fl r34), (Bo (okBalls L_ctr L_rad))]), (Fl r34), (Bo (okBalls L_ctr L_rad)), (.slice p_ctr L_ctr.length q_ctr), (.slice p43 L_ctr.length q44), (.slice p_rad L_rad.length q_rad), (.slice p51 L_rad.length q52), Ud, (.slice p43 L_ctr.length q44), Ud, Ud, Ud, Ud, Ud, Ud, Ud, Ud, Ud, Ud, Ud, Ud, Ud, Ud, Ud, Ud, Ud, Ud, Ud, Ud, Ud, Ud, Ud, Ud, Ud]) rfl rfl (does_move (u := (.slice p43 L_ctr.length q44)) (ev rfl)) rfl ?_
  refine q_is (l' := [(.slice p_ctr L_ctr.length q_ctr), (.slice p_rad L_rad.length q_rad), Ud, Ud, (Bo false), (Iv i10), (Fl r34), (Bo (okBalls L_ctr L_rad)), (.slice p43 L_ctr.length q44), (.slice p51 L_rad.length q52), Ud, Ud, (.slice p_rad L_rad.length q_rad), (Iv (L_rad.length : Int)), (Bo (icmp .gtr (L_rad.length : Int) 1048576)), (.slice p_ctr L_ctr.length q_ctr), (Iv 1048576), (Iv i10), (Iv i10), (Bo (icmp .lss i10 0)), (.tuple #[(Fl r34), (Bo (okBalls L_ctr L_rad))]), (.slice p_ctr L_ctr.length q_ctr), (.slice p23 L_ctr.length q24), (.slice p_rad L_rad.length q_rad), (.slice p30 L_rad.length q31), (.tuple #[(Fl r34), (Bo (okBalls L_ctr L_rad))]), (Fl r34), (Bo (okBalls L_ctr L_rad)), (.slice p_ctr L_ctr.length q_ctr), (.slice p43 L_ctr.length q44), (.slice p_rad L_rad.length q_rad), (.slice p51 L_rad.length q52), Ud, (.slice p43 L_ctr.length q44), (.slice p51 L_rad.length q52), Ud, Ud, Ud, Ud, Ud, Ud, Ud, Ud, Ud, Ud, Ud, Ud, Ud, Ud, Ud, Ud, Ud, Ud, Ud, Ud, Ud, Ud, Ud, Ud]) rfl rfl (does_move (u := (.slice p51 L_rad.length q52)) (ev rfl)) rfl ?_
  refine seqd rfl rfl (does_call (args := #[(.slice p43 L_ctr.length q44), (.slice p51 L_rad.length q52)]) cal44 (evs rfl) (c_impl_OverlapOf (.slice p43 L_ctr.length q44) L_ctr (.slice p51 L_rad.length q52) L_rad _ (hh40 _ ((Same.refl _ _).ext E46)) hh48.get)) ?_; rintro _ w55 ⟨E54, ⟨r56, rfl, h57⟩⟩
  have X58 := Ext.gr X50 E54
  show wpList _ _ _ _ (fr [(.slice p_ctr L_ctr.length q_ctr), (.slice p_rad L_rad.length q_rad), Ud, Ud, (Bo false), (Iv i10), (Fl r34), (Bo (okBalls L_ctr L_rad)), (.slice p43 L_ctr.length q44), (.slice p51 L_rad.length q52), Ud, Ud, (.slice p_rad L_rad.length q_rad), (Iv (L_rad.length : Int)), (Bo (icmp .gtr (L_rad.length : Int) 1048576)), (.slice p_ctr L_ctr.length q_ctr), (Iv 1048576), (Iv i10), (Iv i10), (Bo (icmp .lss i10 0)), (.tuple #[(Fl r34), (Bo (okBalls L_ctr L_rad))]), (.slice p_ctr L_ctr.length q_ctr), (.slice p23 L_ctr.length q24), (.slice p_rad L_rad.length q_rad), (.slice p30 L_rad.length q31), (.tuple #[(Fl r34), (Bo (okBalls L_ctr L_rad))]), (Fl r34), (Bo (okBalls L_ctr L_rad)), (.slice p_ctr L_ctr.length q_ctr), (.slice p43 L_ctr.length q44), (.slice p_rad L_rad.length q_rad), (.slice p51 L_rad.length q52), Ud, (.slice p43 L_ctr.length q44), (.slice p51 L_rad.length q52), (.tuple #[(Fl r56), (Bo (okBalls L_ctr L_rad))]), Ud, Ud, Ud, Ud, Ud, Ud, Ud, Ud, Ud, Ud, Ud, Ud, Ud, Ud, Ud, Ud, Ud, Ud, Ud, Ud, Ud, Ud, Ud]) _
  refine q_is (l' := [(.slice p_ctr L_ctr.length q_ctr), (.slice p_rad L_rad.length q_rad), Ud, Ud, (Bo false), (Iv i10), (Fl r34), (Bo (okBalls L_ctr L_rad)), (.slice p43 L_ctr.length q44), (.slice p51 L_rad.length q52), Ud, Ud, (.slice p_rad L_rad.length q_rad), (Iv (L_rad.length : Int)), (Bo (icmp .gtr (L_rad.length : Int) 1048576)), (.slice p_ctr L_ctr.length q_ctr), (Iv 1048576), (Iv i10), (Iv i10), (Bo (icmp .lss i10 0)), (.tuple #[(Fl r34), (Bo (okBalls L_ctr L_rad))]), (.slice p_ctr L_ctr.length q_ctr), (.slice p23 L_ctr.length q24), (.slice p_rad L_rad.length q_rad), (.slice p30 L_rad.length q31), (.tuple #[(Fl r34), (Bo (okBalls L_ctr L_rad))]), (Fl r34), (Bo (okBalls L_ctr L_rad)), (.slice p_ctr L_ctr.length q_ctr), (.slice p43 L_ctr.length q44), (.slice p_rad L_rad.length q_rad), (.slice p51 L_rad.length q52), (.tuple #[(Fl r56), (Bo (okBalls L_ctr L_rad))]), (.slice p43 L_ctr.length q44), (.slice p51 L_rad.length q52), (.tuple #[(Fl r56), (Bo (okBalls L_ctr L_rad))]), Ud, Ud, Ud, Ud, Ud, Ud, Ud, Ud, Ud, Ud, Ud, Ud, Ud, Ud, Ud, Ud, Ud, Ud, Ud, Ud, Ud, Ud, Ud]) rfl rfl (does_move (u := (.tuple #[(Fl r56), (Bo (okBalls L_ctr L_rad))])) (ev rfl)) rfl ?_
  refine q_is (l' := [(.slice p_ctr L_ctr.length q_ctr), (.slice p_rad L_rad.length q_rad), Ud, Ud, (Bo false), (Iv i10), (Fl r34), (Bo (okBalls L_ctr L_rad)), (.slice p43 L_ctr.length q44), (.slice p51 L_rad.length q52), Ud, Ud, (.slice p_rad L_rad.length q_rad), (Iv (L_rad.length : Int)), (Bo (icmp .gtr (L_rad.length : Int) 1048576)), (.slice p_ctr L_ctr.length q_ctr), (Iv 1048576), (Iv i10), (Iv i10), (Bo (icmp .lss i10 0)), (.tuple #[(Fl r34), (Bo (okBalls L_ctr L_rad))]), (.slice p_ctr L_ctr.length q_ctr), (.slice p23 L_ctr.length q24), (.slice p_rad L_rad.length q_rad), (.slice p30 L_rad.length q31), (.tuple #[(Fl r34), (Bo (okBalls L_ctr L_rad))]), (Fl r34), (Bo (okBalls L_ctr L_rad)), (.slice p_ctr L_ctr.length q_ctr), (.slice p43 L_ctr.length q44), (.slice p_rad L_rad.length q_rad), (.slice p51 L_rad.length q52), (.tuple #[(Fl r56), (Bo (okBalls L_ctr L_rad))]), (.slice p43 L_ctr.length q44), (.slice p51 L_rad.length q52), (.tuple #[(Fl r56), (Bo (okBalls L_ctr L_rad))]), (Fl r56), Ud, Ud, Ud, Ud, Ud, Ud, Ud, Ud, Ud, Ud, Ud, Ud, Ud, Ud, Ud, Ud, Ud, Ud, Ud, Ud, Ud, Ud]) rfl rfl (does_extract (vs := #[(Fl r56), (Bo (okBalls L_ctr L_rad))]) (u := (Fl r56)) (ev rfl) rfl) rfl ?_
  refine q_is (l' := [(.slice p_ctr L_ctr.length q_ctr), (.slice p_rad L_rad.length q_rad), Ud, Ud, (Bo false), (Iv i10), (Fl r34), (Bo (okBalls L_ctr L_rad)), (.slice p43 L_ctr.length q44), (.slice p51 L_rad.length q52), Ud, Ud, (.slice p_rad L_rad.length q_rad), (Iv (L_rad.length : Int)), (Bo (icmp .gtr (L_rad.length : Int) 1048576)), (.slice p_ctr L_ctr.length q_ctr), (Iv 1048576), (Iv i10), (Iv i10), (Bo (icmp .lss i10 0)), (.tuple #[(Fl r34), (Bo (okBalls L_ctr L_rad))]), (.slice p_ctr L_ctr.length q_ctr), (.slice p23 L_ctr.length q24), (.slice p_rad L_rad.length q_rad), (.slice p30 L_rad.length q31), (.tuple #[(Fl r34), (Bo (okBalls L_ctr L_rad))]), (Fl r34), (Bo (okBalls L_ctr L_rad)), (.slice p_ctr L_ctr.length q_ctr), (.slice p43 L_ctr.length q44), (.slice p_rad L_rad.length q_rad), (.slice p51 L_rad.length q52), (.tuple #[(Fl r56), (Bo (okBalls L_ctr L_rad))]), (.slice p43 L_ctr.length q44), (.slice p51 L_rad.length q52), (.tuple #[(Fl r56), (Bo (okBalls L_ctr L_rad))]), (Fl r56), (Bo (okBalls L_ctr L_rad)), Ud, Ud, Ud, Ud, Ud, Ud, Ud, Ud, Ud, Ud, Ud, Ud, Ud, Ud, Ud, Ud, Ud, Ud, Ud, Ud, Ud]) rfl rfl (does_extract (vs := #[(Fl r56), (Bo (okBalls L_ctr L_rad))]) (u := (Bo (okBalls L_ctr L_rad))) (ev rfl) rfl) rfl ?_
  refine q_is (l' := [(.slice p_ctr L_ctr.length q_ctr), (.slice p_rad L_rad.length q_rad), Ud, Ud, (Bo false), (Iv i10), (Fl r34), (Bo (okBalls L_ctr L_rad)), (.slice p43 L_ctr.length q44), (.slice p51 L_rad.length q52), (Fl r56), Ud, (.slice p_rad L_rad.length q_rad), (Iv (L_rad.length : Int)), (Bo (icmp .gtr (L_rad.length : Int) 1048576)), (.slice p_ctr L_ctr.length q_ctr), (Iv 1048576), (Iv i10), (Iv i10), (Bo (icmp .lss i10 0)), (.tuple #[(Fl r34), (Bo (okBalls L_ctr L_rad))]), (.slice p_ctr L_ctr.length q_ctr), (.slice p23 L_ctr.length q24), (.slice p_rad L_rad.length q_rad), (.slice p30 L_rad.length q31), (.tuple #[(Fl r34), (Bo (okBalls L_ctr L_rad))]), (Fl r34), (Bo (okBalls L_ctr L_rad)), (.slice p_ctr L_ctr.length q_ctr), (.slice p43 L_ctr.length q44), (.slice p_rad L_rad.length q_rad), (.slice p51 L_rad.length q52), (.tuple #[(Fl r56), (Bo (okBalls L_ctr L_rad))]), (.slice p43 L_ctr.length q44), (.slice p51 L_rad.length q52), (.tuple #[(Fl r56), (Bo (okBalls L_ctr L_rad))]), (Fl r56), (Bo (okBalls L_ctr L_rad)), Ud, Ud, Ud, Ud, Ud, Ud, Ud, Ud, Ud, Ud, Ud, Ud, Ud, Ud, Ud, Ud, Ud, Ud, Ud, Ud, Ud]) rfl rfl (does_assign (u := (Fl r56)) (ev rfl)) rfl ?_
  refine q_is (l' := [(.slice p_ctr L_ctr.length q_ctr), (.slice p_rad L_rad.length q_rad), Ud, Ud, (Bo false), (Iv i10), (Fl r34), (Bo (okBalls L_ctr L_rad)), (.slice p43 L_ctr.length q44), (.slice p51 L_rad.length q52), (Fl r56), (Bo (okBalls L_ctr L_rad)), (.slice p_rad L_rad.length q_rad), (Iv (L_rad.length : Int)), (Bo (icmp .gtr (L_rad.length : Int) 1048576)), (.slice p_ctr L_ctr.length q_ctr), (Iv 1048576), (Iv i10), (Iv i10), (Bo (icmp .lss i10 0)), (.tuple #[(Fl r34), (Bo (okBalls L_ctr L_rad))]), (.slice p_ctr L_ctr.length q_ctr), (.slice p23 L_ctr.length q24), (.slice p_rad L_rad.length q_rad), (.slice p30 L_rad.length q31), (.tuple #[(Fl r34), (Bo (okBalls L_ctr L_rad))]), (Fl r34), (Bo (okBalls L_ctr L_rad)), (.slice p_ctr L_ctr.length q_ctr), (.slice p43 L_ctr.length q44), (.slice p_rad L_rad.length q_rad), (.slice p51 L_rad.length q52), (.tuple #[(Fl r56), (Bo (okBalls L_ctr L_rad))]), (.slice p43 L_ctr.length q44), (.slice p51 L_rad.length q52), (.tuple #[(Fl r56), (Bo (okBalls L_ctr L_rad))]), (Fl r56), (Bo (okBalls L_ctr L_rad)), Ud, Ud, Ud, Ud, Ud, Ud, Ud, Ud, Ud, Ud, Ud, Ud, Ud, Ud, Ud, Ud, Ud, Ud, Ud, Ud, Ud]) rfl rfl (does_assign (u := (Bo (okBalls L_ctr L_rad))) (ev rfl)) rfl ?_
  refine wpList_nil (hK53 _ _ ?_)
  refine wp_seq_k fun K59 hK59 => ?_
  refine wp_seq_k fun K60 hK60 => ?_
  obtain ⟨β1, hβ1⟩ : ∃ b : Bool, b = (sameF (fwid (cf .f32 r56)) (fwid (cf .f32 r34))) := ⟨_, rfl⟩
  obtain ⟨β2, hβ2⟩ : ∃ b : Bool, b = ((okBalls L_ctr L_rad) != (okBalls L_ctr L_rad)) := ⟨_, rfl⟩
  refine region_text (
    [Fact.pure [] (fun v => v = (Fl r56)),
    Fact.pure [38] (fun v => ∃ r_1 : Nat, v = (Fd r_1) ∧ cf .f64 r_1 = fwid (cf .f32 r56)),
    Fact.pure [] (fun v => v = (Fl r34)),
    Fact.pure [40] (fun v => ∃ r_1 : Nat, v = (Fd r_1) ∧ cf .f64 r_1 = fwid (cf .f32 r34)),
    Fact.pure [39, 41] (fun v => v = (Bo β1)),
    Fact.pure [42] (fun v => v = (Bo (!β1))),
    Fact.pure [43] (fun v => v = (Bo (!β1))),
    Fact.pure [44] (fun v => (!β1) = false → v = (Bo (okBalls L_ctr L_rad))),
    Fact.pure [44] (fun v => (!β1) = false → v = (Bo (okBalls L_ctr L_rad))),
    Fact.pure [45, 46, 44] (fun v => (!β1) = false → v = (Bo β2)),
    Fact.pure [44, 47] (fun v => v = (Bo ((!β1) || β2)))]) (by simp [Fact.pure, Fact.mem]) ?_
  refine RW_d (fun v61 => [(.slice p_ctr L_ctr.length q_ctr), (.slice p_rad L_rad.length q_rad), Ud, Ud, (Bo false), (Iv i10), (Fl r34), (Bo (okBalls L_ctr L_rad)), (.slice p43 L_ctr.length q44), (.slice p51 L_rad.length q52), (Fl r56), (Bo (okBalls L_ctr L_rad)), (.slice p_rad L_rad.length q_rad), (Iv (L_rad.length : Int)), (Bo (icmp .gtr (L_rad.length : Int) 1048576)), (.slice p_ctr L_ctr.length q_ctr), (Iv 1048576), (Iv i10), (Iv i10), (Bo (icmp .lss i10 0)), (.tuple #[(Fl r34), (Bo (okBalls L_ctr L_rad))]), (.slice p_ctr L_ctr.length q_ctr), (.slice p23 L_ctr.length q24), (.slice p_rad L_rad.length q_rad), (.slice p30 L_rad.length q31), (.tuple #[(Fl r34), (Bo (okBalls L_ctr L_rad))]), (Fl r34), (Bo (okBalls L_ctr L_rad)), (.slice p_ctr L_ctr.length q_ctr), (.slice p43 L_ctr.length q44), (.slice p_rad L_rad.length q_rad), (.slice p51 L_rad.length q52), (.tuple #[(Fl r56), (Bo (okBalls L_ctr L_rad))]), (.slice p43 L_ctr.length q44), (.slice p51 L_rad.length q52), (.tuple #[(Fl r56), (Bo (okBalls L_ctr L_rad))]), (Fl r56), (Bo (okBalls L_ctr L_rad)), v61, Ud, Ud, Ud, Ud, Ud, Ud, Ud, Ud, Ud, Ud, Ud, Ud, Ud, Ud, Ud, Ud, Ud, Ud, Ud, Ud]) rfl (fun _ => rfl) (fun u hu hF => ?_) (fun v61 => ?_)
  · clear hF
    refine doesG_un rfl ?_
    refine (does_move (u := (Fl r56)) (ev rfl)).mono ?_; rintro _ _ ⟨rfl, rfl⟩
    exact ⟨rfl, Ext.refl _⟩
  refine RW_d (fun v62 => [(.slice p_ctr L_ctr.length q_ctr), (.slice p_rad L_rad.length q_rad), Ud, Ud, (Bo false), (Iv i10), (Fl r34), (Bo (okBalls L_ctr L_rad)), (.slice p43 L_ctr.length q44), (.slice p51 L_rad.length q52), (Fl r56), (Bo (okBalls L_ctr L_rad)), (.slice p_rad L_rad.length q_rad), (Iv (L_rad.length : Int)), (Bo (icmp .gtr (L_rad.length : Int) 1048576)), (.slice p_ctr L_ctr.length q_ctr), (Iv 1048576), (Iv i10), (Iv i10), (Bo (icmp .lss i10 0)), (.tuple #[(Fl r34), (Bo (okBalls L_ctr L_rad))]), (.slice p_ctr L_ctr.length q_ctr), (.slice p23 L_ctr.length q24), (.slice p_rad L_rad.length q_rad), (.slice p30 L_rad.length q31), (.tuple #[(Fl r34), (Bo (okBalls L_ctr L_rad))]), (Fl r34), (Bo (okBalls L_ctr L_rad)), (.slice p_ctr L_ctr.length q_ctr), (.slice p43 L_ctr.length q44), (.slice p_rad L_rad.length q_rad), (.slice p51 L_rad.length q52), (.tuple #[(Fl r56), (Bo (okBalls L_ctr L_rad))]), (.slice p43 L_ctr.length q44), (.slice p51 L_rad.length q52), (.tuple #[(Fl r56), (Bo (okBalls L_ctr L_rad))]), (Fl r56), (Bo (okBalls L_ctr L_rad)), v61, v62, Ud, Ud, Ud, Ud, Ud, Ud, Ud, Ud, Ud, Ud, Ud, Ud, Ud, Ud, Ud, Ud, Ud, Ud, Ud]) rfl (fun _ => rfl) (fun u hu hF => ?_) (fun v62 => ?_)
  · have h38_ : v61 = (Fl r56) := hF.1
    clear hF
    refine doesG_un rfl ?_
    obtain rfl := h38_
    refine (does_widen Try.underlying24 Try.underlying80 (ev rfl)).mono ?_; rintro _ _ ⟨r, rfl, hr, hx⟩
    exact ⟨⟨r, rfl, (by simp only [hr])⟩, hx⟩
  refine RW_d (fun v63 => [(.slice p_ctr L_ctr.length q_ctr), (.slice p_rad L_rad.length q_rad), Ud, Ud, (Bo false), (Iv i10), (Fl r34), (Bo (okBalls L_ctr L_rad)), (.slice p43 L_ctr.length q44), (.slice p51 L_rad.length q52), (Fl r56), (Bo (okBalls L_ctr L_rad)), (.slice p_rad L_rad.length q_rad), (Iv (L_rad.length : Int)), (Bo (icmp .gtr (L_rad.length : Int) 1048576)), (.slice p_ctr L_ctr.length q_ctr), (Iv 1048576), (Iv i10), (Iv i10), (Bo (icmp .lss i10 0)), (.tuple #[(Fl r34), (Bo (okBalls L_ctr L_rad))]), (.slice p_ctr L_ctr.length q_ctr), (.slice p23 L_ctr.length q24), (.slice p_rad L_rad.length q_rad), (.slice p30 L_rad.length q31), (.tuple #[(Fl r34), (Bo (okBalls L_ctr L_rad))]), (Fl r34), (Bo (okBalls L_ctr L_rad)), (.slice p_ctr L_ctr.length q_ctr), (.slice p43 L_ctr.length q44), (.slice p_rad L_rad.length q_rad), (.slice p51 L_rad.length q52), (.tuple #[(Fl r56), (Bo (okBalls L_ctr L_rad))]), (.slice p43 L_ctr.length q44), (.slice p51 L_rad.length q52), (.tuple #[(Fl r56), (Bo (okBalls L_ctr L_rad))]), (Fl r56), (Bo (okBalls L_ctr L_rad)), v61, v62, v63, Ud, Ud, Ud, Ud, Ud, Ud, Ud, Ud, Ud, Ud, Ud, Ud, Ud, Ud, Ud, Ud, Ud, Ud]) rfl (fun _ => rfl) (fun u hu hF => ?_) (fun v63 => ?_)
  · clear hF
    refine doesG_un rfl ?_
    refine (does_move (u := (Fl r34)) (ev rfl)).mono ?_; rintro _ _ ⟨rfl, rfl⟩
    exact ⟨rfl, Ext.refl _⟩
  refine RW_d (fun v64 => [(.slice p_ctr L_ctr.length q_ctr), (.slice p_rad L_rad.length q_rad), Ud, Ud, (Bo false), (Iv i10), (Fl r34), (Bo (okBalls L_ctr L_rad)), (.slice p43 L_ctr.length q44), (.slice p51 L_rad.length q52), (Fl r56), (Bo (okBalls L_ctr L_rad)), (.slice p_rad L_rad.length q_rad), (Iv (L_rad.length : Int)), (Bo (icmp .gtr (L_rad.length : Int) 1048576)), (.slice p_ctr L_ctr.length q_ctr), (Iv 1048576), (Iv i10), (Iv i10), (Bo (icmp .lss i10 0)), (.tuple #[(Fl r34), (Bo (okBalls L_ctr L_rad))]), (.slice p_ctr L_ctr.length q_ctr), (.slice p23 L_ctr.length q24), (.slice p_rad L_rad.length q_rad), (.slice p30 L_rad.length q31), (.tuple #[(Fl r34), (Bo (okBalls L_ctr L_rad))]), (Fl r34), (Bo (okBalls L_ctr L_rad)), (.slice p_ctr L_ctr.length q_ctr), (.slice p43 L_ctr.length q44), (.slice p_rad L_rad.length q_rad), (.slice p51 L_rad.length q52), (.tuple #[(Fl r56), (Bo (okBalls L_ctr L_rad))]), (.slice p43 L_ctr.length q44), (.slice p51 L_rad.length q52), (.tuple #[(Fl r56), (Bo (okBalls L_ctr L_rad))]), (Fl r56), (Bo (okBalls L_ctr L_rad)), v61, v62, v63, v64, Ud, Ud, Ud, Ud, Ud, Ud, Ud, Ud, Ud, Ud, Ud, Ud, Ud, Ud, Ud, Ud, Ud]) rfl (fun _ => rfl) (fun u hu hF => ?_) (fun v64 => ?_)
  · have h40_ : v63 = (Fl r34) := hF.1
    clear hF
    refine doesG_un rfl ?_
    obtain rfl := h40_
    refine (does_widen Try.underlying24 Try.underlying80 (ev rfl)).mono ?_; rintro _ _ ⟨r, rfl, hr, hx⟩
    exact ⟨⟨r, rfl, (by simp only [hr])⟩, hx⟩
  refine RW_d (fun v65 => [(.slice p_ctr L_ctr.length q_ctr), (.slice p_rad L_rad.length q_rad), Ud, Ud, (Bo false), (Iv i10), (Fl r34), (Bo (okBalls L_ctr L_rad)), (.slice p43 L_ctr.length q44), (.slice p51 L_rad.length q52), (Fl r56), (Bo (okBalls L_ctr L_rad)), (.slice p_rad L_rad.length q_rad), (Iv (L_rad.length : Int)), (Bo (icmp .gtr (L_rad.length : Int) 1048576)), (.slice p_ctr L_ctr.length q_ctr), (Iv 1048576), (Iv i10), (Iv i10), (Bo (icmp .lss i10 0)), (.tuple #[(Fl r34), (Bo (okBalls L_ctr L_rad))]), (.slice p_ctr L_ctr.length q_ctr), (.slice p23 L_ctr.length q24), (.slice p_rad L_rad.length q_rad), (.slice p30 L_rad.length q31), (.tuple #[(Fl r34), (Bo (okBalls L_ctr L_rad))]), (Fl r34), (Bo (okBalls L_ctr L_rad)), (.slice p_ctr L_ctr.length q_ctr), (.slice p43 L_ctr.length q44), (.slice p_rad L_rad.length q_rad), (.slice p51 L_rad.length q52), (.tuple #[(Fl r56), (Bo (okBalls L_ctr L_rad))]), (.slice p43 L_ctr.length q44), (.slice p51 L_rad.length q52), (.tuple #[(Fl r56), (Bo (okBalls L_ctr L_rad))]), (Fl r56), (Bo (okBalls L_ctr L_rad)), v61, v62, v63, v64, v65, Ud, Ud, Ud, Ud, Ud, Ud, Ud, Ud, Ud, Ud, Ud, Ud, Ud, Ud, Ud, Ud]) rfl (fun _ => rfl) (fun u hu hF => ?_) (fun v65 => ?_)
  · have h39_ : ∃ r_1 : Nat, v62 = (Fd r_1) ∧ cf .f64 r_1 = fwid (cf .f32 r56) := hF.1
    have h41_ : ∃ r_1 : Nat, v64 = (Fd r_1) ∧ cf .f64 r_1 = fwid (cf .f32 r34) := hF.2.1
    clear hF
    refine doesG_un rfl ?_
    obtain ⟨r39_1, rfl, h39_2⟩ := h39_
    obtain ⟨r41_1, rfl, h41_2⟩ := h41_
    refine (does_call (args := #[(Fd r39_1), (Fd r41_1)]) cal45 (evs rfl) (c_laws_sameFloat r39_1 r41_1 _)).mono ?_; rintro v u' ⟨hx, hv⟩
    exact ⟨hv.trans (by simp only [hβ1, h39_2, h41_2]), hx⟩
  refine RW_d (fun v66 => [(.slice p_ctr L_ctr.length q_ctr), (.slice p_rad L_rad.length q_rad), Ud, Ud, (Bo false), (Iv i10), (Fl r34), (Bo (okBalls L_ctr L_rad)), (.slice p43 L_ctr.length q44), (.slice p51 L_rad.length q52), (Fl r56), (Bo (okBalls L_ctr L_rad)), (.slice p_rad L_rad.length q_rad), (Iv (L_rad.length : Int)), (Bo (icmp .gtr (L_rad.length : Int) 1048576)), (.slice p_ctr L_ctr.length q_ctr), (Iv 1048576), (Iv i10), (Iv i10), (Bo (icmp .lss i10 0)), (.tuple #[(Fl r34), (Bo (okBalls L_ctr L_rad))]), (.slice p_ctr L_ctr.length q_ctr), (.slice p23 L_ctr.length q24), (.slice p_rad L_rad.length q_rad), (.slice p30 L_rad.length q31), (.tuple #[(Fl r34), (Bo (okBalls L_ctr L_rad))]), (Fl r34), (Bo (okBalls L_ctr L_rad)), (.slice p_ctr L_ctr.length q_ctr), (.slice p43 L_ctr.length q44), (.slice p_rad L_rad.length q_rad), (.slice p51 L_rad.length q52), (.tuple #[(Fl r56), (Bo (okBalls L_ctr L_rad))]), (.slice p43 L_ctr.length q44), (.slice p51 L_rad.length q52), (.tuple #[(Fl r56), (Bo (okBalls L_ctr L_rad))]), (Fl r56), (Bo (okBalls L_ctr L_rad)), v61, v62, v63, v64, v65, v66, Ud, Ud, Ud, Ud, Ud, Ud, Ud, Ud, Ud, Ud, Ud, Ud, Ud, Ud, Ud]) rfl (fun _ => rfl) (fun u hu hF => ?_) (fun v66 => ?_)
  · have h42_ : v65 = (Bo β1) := hF.1
    clear hF
    refine doesG_un rfl ?_
    obtain rfl := h42_
    refine (does_not (ev rfl)).mono ?_; rintro _ _ ⟨rfl, rfl⟩
    exact ⟨rfl, Ext.refl _⟩
  refine RW_d (fun v67 => [(.slice p_ctr L_ctr.length q_ctr), (.slice p_rad L_rad.length q_rad), Ud, Ud, (Bo false), (Iv i10), (Fl r34), (Bo (okBalls L_ctr L_rad)), (.slice p43 L_ctr.length q44), (.slice p51 L_rad.length q52), (Fl r56), (Bo (okBalls L_ctr L_rad)), (.slice p_rad L_rad.length q_rad), (Iv (L_rad.length : Int)), (Bo (icmp .gtr (L_rad.length : Int) 1048576)), (.slice p_ctr L_ctr.length q_ctr), (Iv 1048576), (Iv i10), (Iv i10), (Bo (icmp .lss i10 0)), (.tuple #[(Fl r34), (Bo (okBalls L_ctr L_rad))]), (.slice p_ctr L_ctr.length q_ctr), (.slice p23 L_ctr.length q24), (.slice p_rad L_rad.length q_rad), (.slice p30 L_rad.length q31), (.tuple #[(Fl r34), (Bo (okBalls L_ctr L_rad))]), (Fl r34), (Bo (okBalls L_ctr L_rad)), (.slice p_ctr L_ctr.length q_ctr), (.slice p43 L_ctr.length q44), (.slice p_rad L_rad.length q_rad), (.slice p51 L_rad.length q52), (.tuple #[(Fl r56), (Bo (okBalls L_ctr L_rad))]), (.slice p43 L_ctr.length q44), (.slice p51 L_rad.length q52), (.tuple #[(Fl r56), (Bo (okBalls L_ctr L_rad))]), (Fl r56), (Bo (okBalls L_ctr L_rad)), v61, v62, v63, v64, v65, v66, v67, Ud, Ud, Ud, Ud, Ud, Ud, Ud, Ud, Ud, Ud, Ud, Ud, Ud, Ud]) rfl (fun _ => rfl) (fun u hu hF => ?_) (fun v67 => ?_)
  · have h43_ : v66 = (Bo (!β1)) := hF.1
    clear hF
    refine doesG_un rfl ?_
    obtain rfl := h43_
    refine (does_move (u := (Bo (!β1))) (ev rfl)).mono ?_; rintro _ _ ⟨rfl, rfl⟩
    exact ⟨rfl, Ext.refl _⟩
  refine RW_d (fun v68 => [(.slice p_ctr L_ctr.length q_ctr), (.slice p_rad L_rad.length q_rad), Ud, Ud, (Bo false), (Iv i10), (Fl r34), (Bo (okBalls L_ctr L_rad)), (.slice p43 L_ctr.length q44), (.slice p51 L_rad.length q52), (Fl r56), (Bo (okBalls L_ctr L_rad)), (.slice p_rad L_rad.length q_rad), (Iv (L_rad.length : Int)), (Bo (icmp .gtr (L_rad.length : Int) 1048576)), (.slice p_ctr L_ctr.length q_ctr), (Iv 1048576), (Iv i10), (Iv i10), (Bo (icmp .lss i10 0)), (.tuple #[(Fl r34), (Bo (okBalls L_ctr L_rad))]), (.slice p_ctr L_ctr.length q_ctr), (.slice p23 L_ctr.length q24), (.slice p_rad L_rad.length q_rad), (.slice p30 L_rad.length q31), (.tuple #[(Fl r34), (Bo (okBalls L_ctr L_rad))]), (Fl r34), (Bo (okBalls L_ctr L_rad)), (.slice p_ctr L_ctr.length q_ctr), (.slice p43 L_ctr.length q44), (.slice p_rad L_rad.length q_rad), (.slice p51 L_rad.length q52), (.tuple #[(Fl r56), (Bo (okBalls L_ctr L_rad))]), (.slice p43 L_ctr.length q44), (.slice p51 L_rad.length q52), (.tuple #[(Fl r56), (Bo (okBalls L_ctr L_rad))]), (Fl r56), (Bo (okBalls L_ctr L_rad)), v61, v62, v63, v64, v65, v66, v67, v68, Ud, Ud, Ud, Ud, Ud, Ud, Ud, Ud, Ud, Ud, Ud, Ud, Ud]) rfl (fun _ => rfl) (fun u hu hF => ?_) (fun v68 => ?_)
  · have h44_ : v67 = (Bo (!β1)) := hF.1
    clear hF
    obtain rfl := h44_
    refine doesG_g (b := (!β1)) rfl (yld rfl rfl) (fun hg1 => ?_) (fun hc => ⟨fun hg1 => absurd hg1 hc, Ext.refl _⟩)
    refine (does_move (u := (Bo (okBalls L_ctr L_rad))) (ev rfl)).mono ?_; rintro _ _ ⟨rfl, rfl⟩
    exact ⟨fun _ => rfl, Ext.refl _⟩
  refine RW_d (fun v69 => [(.slice p_ctr L_ctr.length q_ctr), (.slice p_rad L_rad.length q_rad), Ud, Ud, (Bo false), (Iv i10), (Fl r34), (Bo (okBalls L_ctr L_rad)), (.slice p43 L_ctr.length q44), (.slice p51 L_rad.length q52), (Fl r56), (Bo (okBalls L_ctr L_rad)), (.slice p_rad L_rad.length q_rad), (Iv (L_rad.length : Int)), (Bo (icmp .gtr (L_rad.length : Int) 1048576)), (.slice p_ctr L_ctr.length q_ctr), (Iv 1048576), (Iv i10), (Iv i10), (Bo (icmp .lss i10 0)), (.tuple #[(Fl r34), (Bo (okBalls L_ctr L_rad))]), (.slice p_ctr L_ctr.length q_ctr), (.slice p23 L_ctr.length q24), (.slice p_rad L_rad.length q_rad), (.slice p30 L_rad.length q31), (.tuple #[(Fl r34), (Bo (okBalls L_ctr L_rad))]), (Fl r34), (Bo (okBalls L_ctr L_rad)), (.slice p_ctr L_ctr.length q_ctr), (.slice p43 L_ctr.length q44), (.slice p_rad L_rad.length q_rad), (.slice p51 L_rad.length q52), (.tuple #[(Fl r56), (Bo (okBalls L_ctr L_rad))]), (.slice p43 L_ctr.length q44), (.slice p51 L_rad.length q52), (.tuple #[(Fl r56), (Bo (okBalls L_ctr L_rad))]), (Fl r56), (Bo (okBalls L_ctr L_rad)), v61, v62, v63, v64, v65, v66, v67, v68, v69, Ud, Ud, Ud, Ud, Ud, Ud, Ud, Ud, Ud, Ud, Ud, Ud]) rfl (fun _ => rfl) (fun u hu hF => ?_) (fun v69 => ?_)
  · have h44_ : v67 = (Bo (!β1)) := hF.1
    clear hF
    obtain rfl := h44_
    refine doesG_g (b := (!β1)) rfl (yld rfl rfl) (fun hg1 => ?_) (fun hc => ⟨fun hg1 => absurd hg1 hc, Ext.refl _⟩)
    refine (does_move (u := (Bo (okBalls L_ctr L_rad))) (ev rfl)).mono ?_; rintro _ _ ⟨rfl, rfl⟩
    exact ⟨fun _ => rfl, Ext.refl _⟩
  refine RW_d (fun v70 => [(.slice p_ctr L_ctr.length q_ctr), (.slice p_rad L_rad.length q_rad), Ud, Ud, (Bo false), (Iv i10), (Fl r34), (Bo (okBalls L_ctr L_rad)), (.slice p43 L_ctr.length q44), (.slice p51 L_rad.length q52), (Fl r56), (Bo (okBalls L_ctr L_rad)), (.slice p_rad L_rad.length q_rad), (Iv (L_rad.length : Int)), (Bo (icmp .gtr (L_rad.length : Int) 1048576)), (.slice p_ctr L_ctr.length q_ctr), (Iv 1048576), (Iv i10), (Iv i10), (Bo (icmp .lss i10 0)), (.tuple #[(Fl r34), (Bo (okBalls L_ctr L_rad))]), (.slice p_ctr L_ctr.length q_ctr), (.slice p23 L_ctr.length q24), (.slice p_rad L_rad.length q_rad), (.slice p30 L_rad.length q31), (.tuple #[(Fl r34), (Bo (okBalls L_ctr L_rad))]), (Fl r34), (Bo (okBalls L_ctr L_rad)), (.slice p_ctr L_ctr.length q_ctr), (.slice p43 L_ctr.length q44), (.slice p_rad L_rad.length q_rad), (.slice p51 L_rad.length q52), (.tuple #[(Fl r56), (Bo (okBalls L_ctr L_rad))]), (.slice p43 L_ctr.length q44), (.slice p51 L_rad.length q52), (.tuple #[(Fl r56), (Bo (okBalls L_ctr L_rad))]), (Fl r56), (Bo (okBalls L_ctr L_rad)), v61, v62, v63, v64, v65, v66, v67, v68, v69, v70, Ud, Ud, Ud, Ud, Ud, Ud, Ud, Ud, Ud, Ud, Ud]) rfl (fun _ => rfl) (fun u hu hF => ?_) (fun v70 => ?_)
  · have h45_ : (!β1) = false → v68 = (Bo (okBalls L_ctr L_rad)) := hF.1
    have h46_ : (!β1) = false → v69 = (Bo (okBalls L_ctr L_rad)) := hF.2.1
    have h44_ : v67 = (Bo (!β1)) := hF.2.2.1
    clear hF
    obtain rfl := h44_
    refine doesG_g (b := (!β1)) rfl (yld rfl rfl) (fun hg1 => ?_) (fun hc => ⟨fun hg1 => absurd hg1 hc, Ext.refl _⟩)
    obtain rfl := h45_ hg1
    obtain rfl := h46_ hg1
    refine (does_bne (p := (okBalls L_ctr L_rad)) (q := (okBalls L_ctr L_rad)) Try.underlying4 (ev rfl) (ev rfl)).mono ?_; rintro _ _ ⟨rfl, rfl⟩
    exact ⟨fun _ => (by first | rfl | (show _ = _; simp only [hβ2])), Ext.refl _⟩
  refine RW_d (fun v71 => [(.slice p_ctr L_ctr.length q_ctr), (.slice p_rad L_rad.length q_rad), Ud, Ud, (Bo false), (Iv i10), (Fl r34), (Bo (okBalls L_ctr L_rad)), (.slice p43 L_ctr.length q44), (.slice p51 L_rad.length q52), (Fl r56), (Bo (okBalls L_ctr L_rad)), (.slice p_rad L_rad.length q_rad), (Iv (L_rad.length : Int)), (Bo (icmp .gtr (L_rad.length : Int) 1048576)), (.slice p_ctr L_ctr.length q_ctr), (Iv 1048576), (Iv i10), (Iv i10), (Bo (icmp .lss i10 0)), (.tuple #[(Fl r34), (Bo (okBalls L_ctr L_rad))]), (.slice p_ctr L_ctr.length q_ctr), (.slice p23 L_ctr.length q24), (.slice p_rad L_rad.length q_rad), (.slice p30 L_rad.length q31), (.tuple #[(Fl r34), (Bo (okBalls L_ctr L_rad))]), (Fl r34), (Bo (okBalls L_ctr L_rad)), (.slice p_ctr L_ctr.length q_ctr), (.slice p43 L_ctr.length q44), (.slice p_rad L_rad.length q_rad), (.slice p51 L_rad.length q52), (.tuple #[(Fl r56), (Bo (okBalls L_ctr L_rad))]), (.slice p43 L_ctr.length q44), (.slice p51 L_rad.length q52), (.tuple #[(Fl r56), (Bo (okBalls L_ctr L_rad))]), (Fl r56), (Bo (okBalls L_ctr L_rad)), v61, v62, v63, v64, v65, v66, v67, v68, v69, v70, v71, Ud, Ud, Ud, Ud, Ud, Ud, Ud, Ud, Ud, Ud]) rfl (fun _ => rfl) (fun u hu hF => ?_) (fun v71 => ?_)
  · have h44_ : v67 = (Bo (!β1)) := hF.1
    have h47_ : (!β1) = false → v70 = (Bo β2) := hF.2.1
    clear hF
    refine doesG_un rfl ?_
    skip
    obtain rfl := h44_
    refine (does_pick (b := (!β1)) (ev rfl) (ev rfl) (ev rfl)).mono ?_; rintro _ _ ⟨rfl, rfl⟩; refine ⟨?_, Ext.refl _⟩; skip
    cases hbb : (!β1) <;> simp [hbb] at h47_ ⊢
    all_goals (first | rfl | (subst h47_; rfl) | simp_all)
  refine RW_fin ?_; intro w72 E73 hP74
  obtain ⟨⟨⟨⟨⟨⟨⟨⟨⟨⟨⟨-, -⟩, -⟩, -⟩, -⟩, -⟩, -⟩, -⟩, -⟩, -⟩, -⟩, q75⟩ := hP74
  have X76 := Ext.gr X58 E73
  have q75 : v71 = (Bo ((!β1) || β2)) := q75
  obtain rfl := q75
  show wpList _ _ _ _ (fr [(.slice p_ctr L_ctr.length q_ctr), (.slice p_rad L_rad.length q_rad), Ud, Ud, (Bo false), (Iv i10), (Fl r34), (Bo (okBalls L_ctr L_rad)), (.slice p43 L_ctr.length q44), (.slice p51 L_rad.length q52), (Fl r56), (Bo (okBalls L_ctr L_rad)), (.slice p_rad L_rad.length q_rad), (Iv (L_rad.length : Int)), (Bo (icmp .gtr (L_rad.length : Int) 1048576)), (.slice p_ctr L_ctr.length q_ctr), (Iv 1048576), (Iv i10), (Iv i10), (Bo (icmp .lss i10 0)), (.tuple #[(Fl r34), (Bo (okBalls L_ctr L_rad))]), (.slice p_ctr L_ctr.length q_ctr), (.slice p23 L_ctr.length q24), (.slice p_rad L_rad.length q_rad), (.slice p30 L_rad.length q31), (.tuple #[(Fl r34), (Bo (okBalls L_ctr L_rad))]), (Fl r34), (Bo (okBalls L_ctr L_rad)), (.slice p_ctr L_ctr.length q_ctr), (.slice p43 L_ctr.length q44), (.slice p_rad L_rad.length q_rad), (.slice p51 L_rad.length q52), (.tuple #[(Fl r56), (Bo (okBalls L_ctr L_rad))]), (.slice p43 L_ctr.length q44), (.slice p51 L_rad.length q52), (.tuple #[(Fl r56), (Bo (okBalls L_ctr L_rad))]), (Fl r56), (Bo (okBalls L_ctr L_rad)), v61, v62, v63, v64, v65, v66, v67, v68, v69, v70, (Bo ((!β1) || β2)), Ud, Ud, Ud, Ud, Ud, Ud, Ud, Ud, Ud, Ud]) _
  refine wpList_nil (hK60 _ _ ?_)
  refine wp_cond_split (t := (!β1) || β2) (ev rfl) (fun c77 => ?_) (fun c77 => ?_)
  · have c77' := c77
    (try simp only [hβ1, hβ2] at c77')
    (try simp only [icmp, Bool.and_eq_true, Bool.or_eq_true, Bool.and_eq_false_iff, Bool.or_eq_false_iff, Bool.not_eq_true', Bool.not_eq_false', decide_eq_true_eq, decide_eq_false_iff_not, beq_iff_eq, bne_iff_ne, beq_eq_false_iff_ne, bne_eq_false_iff_eq] at c77')
    refine wp_seq_k fun K78 hK78 => ?_
    refine wp_region_lit ?_
    refine q_is (l' := [(.slice p_ctr L_ctr.length q_ctr), (.slice p_rad L_rad.length q_rad), Ud, Ud, (Bo false), (Iv i10), (Fl r34), (Bo (okBalls L_ctr L_rad)), (.slice p43 L_ctr.length q44), (.slice p51 L_rad.length q52), (Fl r56), (Bo (okBalls L_ctr L_rad)), (.slice p_rad L_rad.length q_rad), (Iv (L_rad.length : Int)), (Bo (icmp .gtr (L_rad.length : Int) 1048576)), (.slice p_ctr L_ctr.length q_ctr), (Iv 1048576), (Iv i10), (Iv i10), (Bo (icmp .lss i10 0)), (.tuple #[(Fl r34), (Bo (okBalls L_ctr L_rad))]), (.slice p_ctr L_ctr.length q_ctr), (.slice p23 L_ctr.length q24), (.slice p_rad L_rad.length q_rad), (.slice p30 L_rad.length q31), (.tuple #[(Fl r34), (Bo (okBalls L_ctr L_rad))]), (Fl r34), (Bo (okBalls L_ctr L_rad)), (.slice p_ctr L_ctr.length q_ctr), (.slice p43 L_ctr.length q44), (.slice p_rad L_rad.length q_rad), (.slice p51 L_rad.length q52), (.tuple #[(Fl r56), (Bo (okBalls L_ctr L_rad))]), (.slice p43 L_ctr.length q44), (.slice p51 L_rad.length q52), (.tuple #[(Fl r56), (Bo (okBalls L_ctr L_rad))]), (Fl r56), (Bo (okBalls L_ctr L_rad)), v61, v62, v63, v64, v65, v66, v67, v68, v69, v70, (Bo ((!β1) || β2)), Ud, Ud, Ud, Ud, Ud, Ud, Ud, Ud, Ud, Ud]) rfl rfl (does_assign (u := (Bo false)) (ev rfl)) rfl ?_
    refine wpList_nil (hK78 _ _ ?_)
    refine wp_ret ?_
    dsimp only [Exit.then, Exit.inBlock]
    refine ret_val (v := (Bo false)) (res_T rfl (slot rfl)) X76 ?_
    try simp only [h35, h57, hβ1, hβ2] at c4 c15 c77
    have x79 : true = false := by first | with_reducible rfl | (simp only [sameF_self, sameX_selfV, sameL_self, bne_self_eq_false, h35, h57, hβ1, hβ2, c4, c15, c77]; done) | (simp [sameF_self, sameX_selfV, sameL_self, bne_self_eq_false, h35, h57, hβ1, hβ2, c4, c15, c77]; done) | (revert c4 c15 c77; simp +contextual [sameF_self, sameX_selfV, sameL_self, bne_self_eq_false, h35, h57, hβ1, hβ2]; done) | (rcases c4' with hh | hh <;> simp only [hh, sameF_self, sameX_selfV, sameL_self, bne_self_eq_false, h35, h57, hβ1, hβ2, c4, c15, c77]; done) | (rcases c15' with hh | hh <;> simp only [hh, sameF_self, sameX_selfV, sameL_self, bne_self_eq_false, h35, h57, hβ1, hβ2, c4, c15, c77]; done) | (rcases c77' with hh | hh <;> simp only [hh, sameF_self, sameX_selfV, sameL_self, bne_self_eq_false, h35, h57, hβ1, hβ2, c4, c15, c77]; done) | (rcases c77' with hh | hh <;> simp_all [sameF_self, sameX_selfV, sameL_self, bne_self_eq_false]; done) | (rcases c77' with hh | hh | hh <;> simp_all [sameF_self, sameX_selfV, sameL_self, bne_self_eq_false]; done) | (rcases c77' with hh | hh | hh | hh <;> simp_all [sameF_self, sameX_selfV, sameL_self, bne_self_eq_false]; done) | (simp_all [sameF_self, sameX_selfV, sameL_self, bne_self_eq_false]; done) | rfl
    exact (by first | rfl | rw [x79])
  have c77' := c77
  (try simp only [hβ1, hβ2] at c77')
  (try simp only [icmp, Bool.and_eq_true, Bool.or_eq_true, Bool.and_eq_false_iff, Bool.or_eq_false_iff, Bool.not_eq_true', Bool.not_eq_false', decide_eq_true_eq, decide_eq_false_iff_not, beq_iff_eq, bne_iff_ne, beq_eq_false_iff_ne, bne_eq_false_iff_eq] at c77')
  refine wp_skip (hK59 _ _ ?_)
  refine wp_seq_k fun K80 hK80 => ?_
  refine wp_seq_k fun K81 hK81 => ?_
  refine wp_region_lit ?_
  refine q_is (l' := [(.slice p_ctr L_ctr.length q_ctr), (.slice p_rad L_rad.length q_rad), Ud, Ud, (Bo false), (Iv i10), (Fl r34), (Bo (okBalls L_ctr L_rad)), (.slice p43 L_ctr.length q44), (.slice p51 L_rad.length q52), (Fl r56), (Bo (okBalls L_ctr L_rad)), (.slice p_rad L_rad.length q_rad), (Iv (L_rad.length : Int)), (Bo (icmp .gtr (L_rad.length : Int) 1048576)), (.slice p_ctr L_ctr.length q_ctr), (Iv 1048576), (Iv i10), (Iv i10), (Bo (icmp .lss i10 0)), (.tuple #[(Fl r34), (Bo (okBalls L_ctr L_rad))]), (.slice p_ctr L_ctr.length q_ctr), (.slice p23 L_ctr.length q24), (.slice p_rad L_rad.length q_rad), (.slice p30 L_rad.length q31), (.tuple #[(Fl r34), (Bo (okBalls L_ctr L_rad))]), (Fl r34), (Bo (okBalls L_ctr L_rad)), (.slice p_ctr L_ctr.length q_ctr), (.slice p43 L_ctr.length q44), (.slice p_rad L_rad.length q_rad), (.slice p51 L_rad.length q52), (.tuple #[(Fl r56), (Bo (okBalls L_ctr L_rad))]), (.slice p43 L_ctr.length q44), (.slice p51 L_rad.length q52), (.tuple #[(Fl r56), (Bo (okBalls L_ctr L_rad))]), (Fl r56), (Bo (okBalls L_ctr L_rad)), v61, v62, v63, v64, v65, v66, v67, v68, v69, v70, (Bo ((!β1) || β2)), (.slice p43 L_ctr.length q44), Ud, Ud, Ud, Ud, Ud, Ud, Ud, Ud, Ud]) rfl rfl (does_move (u := (.slice p43 L_ctr.length q44)) (ev rfl)) rfl ?_
  refine q_is (l' := [(.slice p_ctr L_ctr.length q_ctr), (.slice p_rad L_rad.length q_rad), Ud, Ud, (Bo false), (Iv i10), (Fl r34), (Bo (okBalls L_ctr L_rad)), (.slice p43 L_ctr.length q44), (.slice p51 L_rad.length q52), (Fl r56), (Bo (okBalls L_ctr L_rad)), (.slice p_rad L_rad.length q_rad), (Iv (L_rad.length : Int)), (Bo (icmp .gtr (L_rad.length : Int) 1048576)), (.slice p_ctr L_ctr.length q_ctr), (Iv 1048576), (Iv i10), (Iv i10), (Bo (icmp .lss i10 0)), (.tuple #[(Fl r34), (Bo (okBalls L_ctr L_rad))]), (.slice p_ctr L_ctr.length q_ctr), (.slice p23 L_ctr.length q24), (.slice p_rad L_rad.length q_rad), (.slice p30 L_rad.length q31), (.tuple #[(Fl r34), (Bo (okBalls L_ctr L_rad))]), (Fl r34), (Bo (okBalls L_ctr L_rad)), (.slice p_ctr L_ctr.length q_ctr), (.slice p43 L_ctr.length q44), (.slice p_rad L_rad.length q_rad), (.slice p51 L_rad.length q52), (.tuple #[(Fl r56), (Bo (okBalls L_ctr L_rad))]), (.slice p43 L_ctr.length q44), (.slice p51 L_rad.length q52), (.tuple #[(Fl r56), (Bo (okBalls L_ctr L_rad))]), (Fl r56), (Bo (okBalls L_ctr L_rad)), v61, v62, v63, v64, v65, v66, v67, v68, v69, v70, (Bo ((!β1) || β2)), (.slice p43 L_ctr.length q44), (.slice p_ctr L_ctr.length q_ctr), Ud, Ud, Ud, Ud, Ud, Ud, Ud, Ud]) rfl rfl (does_move (u := (.slice p_ctr L_ctr.length q_ctr)) (ev rfl)) rfl ?_
  refine seqd rfl rfl (does_call (args := #[(.slice p_ctr L_ctr.length q_ctr)]) cal15 (evs rfl) (c_laws_toVectorS (.slice p_ctr L_ctr.length q_ctr) L_ctr _ (Sl.ext hv_ctr RV3.mono X76) (by omega))) ?_; rintro _ w83 ⟨E82, ⟨y85, rfl, hh84⟩⟩
  have X86 := Ext.gr X76 E82
  obtain ⟨p87, q88, rfl⟩ := Sl.shape hh84.get
  show wpList _ _ _ _ (fr [(.slice p_ctr L_ctr.length q_ctr), (.slice p_rad L_rad.length q_rad), Ud, Ud, (Bo false), (Iv i10), (Fl r34), (Bo (okBalls L_ctr L_rad)), (.slice p43 L_ctr.length q44), (.slice p51 L_rad.length q52), (Fl r56), (Bo (okBalls L_ctr L_rad)), (.slice p_rad L_rad.length q_rad), (Iv (L_rad.length : Int)), (Bo (icmp .gtr (L_rad.length : Int) 1048576)), (.slice p_ctr L_ctr.length q_ctr), (Iv 1048576), (Iv i10), (Iv i10), (Bo (icmp .lss i10 0)), (.tuple #[(Fl r34), (Bo (okBalls L_ctr L_rad))]), (.slice p_ctr L_ctr.length q_ctr), (.slice p23 L_ctr.length q24), (.slice p_rad L_rad.length q_rad), (.slice p30 L_rad.length q31), (.tuple #[(Fl r34), (Bo (okBalls L_ctr L_rad))]), (Fl r34), (Bo (okBalls L_ctr L_rad)), (.slice p_ctr L_ctr.length q_ctr), (.slice p43 L_ctr.length q44), (.slice p_rad L_rad.length q_rad), (.slice p51 L_rad.length q52), (.tuple #[(Fl r56), (Bo (okBalls L_ctr L_rad))]), (.slice p43 L_ctr.length q44), (.slice p51 L_rad.length q52), (.tuple #[(Fl r56), (Bo (okBalls L_ctr L_rad))]), (Fl r56), (Bo (okBalls L_ctr L_rad)), v61, v62, v63, v64, v65, v66, v67, v68, v69, v70, (Bo ((!β1) || β2)), (.slice p43 L_ctr.length q44), (.slice p_ctr L_ctr.length q_ctr), (.slice p87 L_ctr.length q88), Ud, Ud, Ud, Ud, Ud, Ud, Ud]) _
  refine seqd rfl rfl (does_call (args := #[(.slice p43 L_ctr.length q44), (.slice p87 L_ctr.length q88)]) cal18 (evs rfl) (c_laws_eqVectorS (.slice p43 L_ctr.length q44) L_ctr (.slice p87 L_ctr.length q88) L_ctr _ (hh40 _ (((((Same.refl _ _).ext E46).ext E54).ext E73).ext E82)) hh84.get)) ?_; rintro _ w90 ⟨E89, rfl⟩
  have X91 := Ext.gr X86 E89
  show wpList _ _ _ _ (fr [(.slice p_ctr L_ctr.length q_ctr), (.slice p_rad L_rad.length q_rad), Ud, Ud, (Bo false), (Iv i10), (Fl r34), (Bo (okBalls L_ctr L_rad)), (.slice p43 L_ctr.length q44), (.slice p51 L_rad.length q52), (Fl r56), (Bo (okBalls L_ctr L_rad)), (.slice p_rad L_rad.length q_rad), (Iv (L_rad.length : Int)), (Bo (icmp .gtr (L_rad.length : Int) 1048576)), (.slice p_ctr L_ctr.length q_ctr), (Iv 1048576), (Iv i10), (Iv i10), (Bo (icmp .lss i10 0)), (.tuple #[(Fl r34), (Bo (okBalls L_ctr L_rad))]), (.slice p_ctr L_ctr.length q_ctr), (.slice p23 L_ctr.length q24), (.slice p_rad L_rad.length q_rad), (.slice p30 L_rad.length q31), (.tuple #[(Fl r34), (Bo (okBalls L_ctr L_rad))]), (Fl r34), (Bo (okBalls L_ctr L_rad)), (.slice p_ctr L_ctr.length q_ctr), (.slice p43 L_ctr.length q44), (.slice p_rad L_rad.length q_rad), (.slice p51 L_rad.length q52), (.tuple #[(Fl r56), (Bo (okBalls L_ctr L_rad))]), (.slice p43 L_ctr.length q44), (.slice p51 L_rad.length q52), (.tuple #[(Fl r56), (Bo (okBalls L_ctr L_rad))]), (Fl r56), (Bo (okBalls L_ctr L_rad)), v61, v62, v63, v64, v65, v66, v67, v68, v69, v70, (Bo ((!β1) || β2)), (.slice p43 L_ctr.length q44), (.slice p_ctr L_ctr.length q_ctr), (.slice p87 L_ctr.length q88), (Bo (sameX sameV L_ctr L_ctr)), Ud, Ud, Ud, Ud, Ud, Ud]) _
  refine q_is (l' := [(.slice p_ctr L_ctr.length q_ctr), (.slice p_rad L_rad.length q_rad), Ud, Ud, (Bo false), (Iv i10), (Fl r34), (Bo (okBalls L_ctr L_rad)), (.slice p43 L_ctr.length q44), (.slice p51 L_rad.length q52), (Fl r56), (Bo (okBalls L_ctr L_rad)), (.slice p_rad L_rad.length q_rad), (Iv (L_rad.length : Int)), (Bo (icmp .gtr (L_rad.length : Int) 1048576)), (.slice p_ctr L_ctr.length q_ctr), (Iv 1048576), (Iv i10), (Iv i10), (Bo (icmp .lss i10 0)), (.tuple #[(Fl r34), (Bo (okBalls L_ctr L_rad))]), (.slice p_ctr L_ctr.length q_ctr), (.slice p23 L_ctr.length q24), (.slice p_rad L_rad.length q_rad), (.slice p30 L_rad.length q31), (.tuple #[(Fl r34), (Bo (okBalls L_ctr L_rad))]), (Fl r34), (Bo (okBalls L_ctr L_rad)), (.slice p_ctr L_ctr.length q_ctr), (.slice p43 L_ctr.length q44), (.slice p_rad L_rad.length q_rad), (.slice p51 L_rad.length q52), (.tuple #[(Fl r56), (Bo (okBalls L_ctr L_rad))]), (.slice p43 L_ctr.length q44), (.slice p51 L_rad.length q52), (.tuple #[(Fl r56), (Bo (okBalls L_ctr L_rad))]), (Fl r56), (Bo (okBalls L_ctr L_rad)), v61, v62, v63, v64, v65, v66, v67, v68, v69, v70, (Bo ((!β1) || β2)), (.slice p43 L_ctr.length q44), (.slice p_ctr L_ctr.length q_ctr), (.slice p87 L_ctr.length q88), (Bo (sameX sameV L_ctr L_ctr)), (Bo (!(sameX sameV L_ctr L_ctr))), Ud, Ud, Ud, Ud, Ud]) rfl rfl (does_not (ev rfl)) rfl ?_
  refine wpList_nil (hK81 _ _ ?_)
  refine wp_cond_split (t := !(sameX sameV L_ctr L_ctr)) (ev rfl) (fun c92 => ?_) (fun c92 => ?_)
  · rw [Bool.not_eq_true'] at c92
    have c92' := c92
    (try simp only [hβ1, hβ2] at c92')
    (try simp only [icmp, Bool.and_eq_true, Bool.or_eq_true, Bool.and_eq_false_iff, Bool.or_eq_false_iff, Bool.not_eq_true', Bool.not_eq_false', decide_eq_true_eq, decide_eq_false_iff_not, beq_iff_eq, bne_iff_ne, beq_eq_false_iff_ne, bne_eq_false_iff_eq] at c92')
    refine wp_seq_k fun K93 hK93 => ?_
    refine wp_region_lit ?_
    refine q_is (l' := [(.slice p_ctr L_ctr.length q_ctr), (.slice p_rad L_rad.length q_rad), Ud, Ud, (Bo false), (Iv i10), (Fl r34), (Bo (okBalls L_ctr L_rad)), (.slice p43 L_ctr.length q44), (.slice p51 L_rad.length q52), (Fl r56), (Bo (okBalls L_ctr L_rad)), (.slice p_rad L_rad.length q_rad), (Iv (L_rad.length : Int)), (Bo (icmp .gtr (L_rad.length : Int) 1048576)), (.slice p_ctr L_ctr.length q_ctr), (Iv 1048576), (Iv i10), (Iv i10), (Bo (icmp .lss i10 0)), (.tuple #[(Fl r34), (Bo (okBalls L_ctr L_rad))]), (.slice p_ctr L_ctr.length q_ctr), (.slice p23 L_ctr.length q24), (.slice p_rad L_rad.length q_rad), (.slice p30 L_rad.length q31), (.tuple #[(Fl r34), (Bo (okBalls L_ctr L_rad))]), (Fl r34), (Bo (okBalls L_ctr L_rad)), (.slice p_ctr L_ctr.length q_ctr), (.slice p43 L_ctr.length q44), (.slice p_rad L_rad.length q_rad), (.slice p51 L_rad.length q52), (.tuple #[(Fl r56), (Bo (okBalls L_ctr L_rad))]), (.slice p43 L_ctr.length q44), (.slice p51 L_rad.length q52), (.tuple #[(Fl r56), (Bo (okBalls L_ctr L_rad))]), (Fl r56), (Bo (okBalls L_ctr L_rad)), v61, v62, v63, v64, v65, v66, v67, v68, v69, v70, (Bo ((!β1) || β2)), (.slice p43 L_ctr.length q44), (.slice p_ctr L_ctr.length q_ctr), (.slice p87 L_ctr.length q88), (Bo (sameX sameV L_ctr L_ctr)), (Bo (!(sameX sameV L_ctr L_ctr))), Ud, Ud, Ud, Ud, Ud]) rfl rfl (does_assign (u := (Bo false)) (ev rfl)) rfl ?_
    refine wpList_nil (hK93 _ _ ?_)
    refine wp_ret ?_
    dsimp only [Exit.then, Exit.inBlock]
    refine ret_val (v := (Bo false)) (res_T rfl (slot rfl)) X91 ?_
    try simp only [h35, h57, hβ1, hβ2] at c4 c15 c77 c92
    have x94 : true = false := by first | with_reducible rfl | (simp only [sameF_self, sameX_selfV, sameL_self, bne_self_eq_false, h35, h57, hβ1, hβ2, c4, c15, c77, c92]; done) | (simp [sameF_self, sameX_selfV, sameL_self, bne_self_eq_false, h35, h57, hβ1, hβ2, c4, c15, c77, c92]; done) | (revert c4 c15 c77 c92; simp +contextual [sameF_self, sameX_selfV, sameL_self, bne_self_eq_false, h35, h57, hβ1, hβ2]; done) | (rcases c4' with hh | hh <;> simp only [hh, sameF_self, sameX_selfV, sameL_self, bne_self_eq_false, h35, h57, hβ1, hβ2, c4, c15, c77, c92]; done) | (rcases c15' with hh | hh <;> simp only [hh, sameF_self, sameX_selfV, sameL_self, bne_self_eq_false, h35, h57, hβ1, hβ2, c4, c15, c77, c92]; done) | (rcases c77' with hh | hh <;> simp only [hh, sameF_self, sameX_selfV, sameL_self, bne_self_eq_false, h35, h57, hβ1, hβ2, c4, c15, c77, c92]; done) | (rcases c92' with hh | hh <;> simp only [hh, sameF_self, sameX_selfV, sameL_self, bne_self_eq_false, h35, h57, hβ1, hβ2, c4, c15, c77, c92]; done) | (rcases c92' with hh | hh <;> simp_all [sameF_self, sameX_selfV, sameL_self, bne_self_eq_false]; done) | (rcases c92' with hh | hh | hh <;> simp_all [sameF_self, sameX_selfV, sameL_self, bne_self_eq_false]; done) | (rcases c92' with hh | hh | hh | hh <;> simp_all [sameF_self, sameX_selfV, sameL_self, bne_self_eq_false]; done) | (simp_all [sameF_self, sameX_selfV, sameL_self, bne_self_eq_false]; done) | rfl
    exact (by first | rfl | rw [x94])
  rw [Bool.not_eq_false'] at c92
  have c92' := c92
  (try simp only [hβ1, hβ2] at c92')
  (try simp only [icmp, Bool.and_eq_true, Bool.or_eq_true, Bool.and_eq_false_iff, Bool.or_eq_false_iff, Bool.not_eq_true', Bool.not_eq_false', decide_eq_true_eq, decide_eq_false_iff_not, beq_iff_eq, bne_iff_ne, beq_eq_false_iff_ne, bne_eq_false_iff_eq] at c92')
  refine wp_skip (hK80 _ _ ?_)
  refine wp_seq_k fun K95 hK95 => ?_
  refine wp_seq_k fun K96 hK96 => ?_
  refine wp_region_lit ?_
  refine q_is (l' := [(.slice p_ctr L_ctr.length q_ctr), (.slice p_rad L_rad.length q_rad), Ud, Ud, (Bo false), (Iv i10), (Fl r34), (Bo (okBalls L_ctr L_rad)), (.slice p43 L_ctr.length q44), (.slice p51 L_rad.length q52), (Fl r56), (Bo (okBalls L_ctr L_rad)), (.slice p_rad L_rad.length q_rad), (Iv (L_rad.length : Int)), (Bo (icmp .gtr (L_rad.length : Int) 1048576)), (.slice p_ctr L_ctr.length q_ctr), (Iv 1048576), (Iv i10), (Iv i10), (Bo (icmp .lss i10 0)), (.tuple #[(Fl r34), (Bo (okBalls L_ctr L_rad))]), (.slice p_ctr L_ctr.length q_ctr), (.slice p23 L_ctr.length q24), (.slice p_rad L_rad.length q_rad), (.slice p30 L_rad.length q31), (.tuple #[(Fl r34), (Bo (okBalls L_ctr L_rad))]), (Fl r34), (Bo (okBalls L_ctr L_rad)), (.slice p_ctr L_ctr.length q_ctr), (.slice p43 L_ctr.length q44), (.slice p_rad L_rad.length q_rad), (.slice p51 L_rad.length q52), (.tuple #[(Fl r56), (Bo (okBalls L_ctr L_rad))]), (.slice p43 L_ctr.length q44), (.slice p51 L_rad.length q52), (.tuple #[(Fl r56), (Bo (okBalls L_ctr L_rad))]), (Fl r56), (Bo (okBalls L_ctr L_rad)), v61, v62, v63, v64, v65, v66, v67, v68, v69, v70, (Bo ((!β1) || β2)), (.slice p43 L_ctr.length q44), (.slice p_ctr L_ctr.length q_ctr), (.slice p87 L_ctr.length q88), (Bo (sameX sameV L_ctr L_ctr)), (Bo (!(sameX sameV L_ctr L_ctr))), (.slice p51 L_rad.length q52), Ud, Ud, Ud, Ud]) rfl rfl (does_move (u := (.slice p51 L_rad.length q52)) (ev rfl)) rfl ?_
  refine q_is (l' := [(.slice p_ctr L_ctr.length q_ctr), (.slice p_rad L_rad.length q_rad), Ud, Ud, (Bo false), (Iv i10), (Fl r34), (Bo (okBalls L_ctr L_rad)), (.slice p43 L_ctr.length q44), (.slice p51 L_rad.length q52), (Fl r56), (Bo (okBalls L_ctr L_rad)), (.slice p_rad L_rad.length q_rad), (Iv (L_rad.length : Int)), (Bo (icmp .gtr (L_rad.length : Int) 1048576)), (.slice p_ctr L_ctr.length q_ctr), (Iv 1048576), (Iv i10), (Iv i10), (Bo (icmp .lss i10 0)), (.tuple #[(Fl r34), (Bo (okBalls L_ctr L_rad))]), (.slice p_ctr L_ctr.length q_ctr), (.slice p23 L_ctr.length q24), (.slice p_rad L_rad.length q_rad), (.slice p30 L_rad.length q31), (.tuple #[(Fl r34), (Bo (okBalls L_ctr L_rad))]), (Fl r34), (Bo (okBalls L_ctr L_rad)), (.slice p_ctr L_ctr.length q_ctr), (.slice p43 L_ctr.length q44), (.slice p_rad L_rad.length q_rad), (.slice p51 L_rad.length q52), (.tuple #[(Fl r56), (Bo (okBalls L_ctr L_rad))]), (.slice p43 L_ctr.length q44), (.slice p51 L_rad.length q52), (.tuple #[(Fl r56), (Bo (okBalls L_ctr L_rad))]), (Fl r56), (Bo (okBalls L_ctr L_rad)), v61, v62, v63, v64, v65, v66, v67, v68, v69, v70, (Bo ((!β1) || β2)), (.slice p43 L_ctr.length q44), (.slice p_ctr L_ctr.length q_ctr), (.slice p87 L_ctr.length q88), (Bo (sameX sameV L_ctr L_ctr)), (Bo (!(sameX sameV L_ctr L_ctr))), (.slice p51 L_rad.length q52), (.slice p_rad L_rad.length q_rad), Ud, Ud, Ud]) rfl rfl (does_move (u := (.slice p_rad L_rad.length q_rad)) (ev rfl)) rfl ?_
  refine seqd rfl rfl (does_call (args := #[(.slice p_rad L_rad.length q_rad)]) cal43 (evs rfl) (c_laws_toFloat32S (.slice p_rad L_rad.length q_rad) L_rad _ (Sl.ext hv_rad RF.mono X91) (by omega))) ?_; rintro _ w98 ⟨E97, ⟨y100, rfl, hh99⟩⟩
  have X101 := Ext.gr X91 E97
  obtain ⟨p102, q103, rfl⟩ := Sl.shape hh99.get
  show wpList _ _ _ _ (fr [(.slice p_ctr L_ctr.length q_ctr), (.slice p_rad L_rad.length q_rad), Ud, Ud, (Bo false), (Iv i10), (Fl r34), (Bo (okBalls L_ctr L_rad)), (.slice p43 L_ctr.length q44), (.slice p51 L_rad.length q52), (Fl r56), (Bo (okBalls L_ctr L_rad)), (.slice p_rad L_rad.length q_rad), (Iv (L_rad.length : Int)), (Bo (icmp .gtr (L_rad.length : Int) 1048576)), (.slice p_ctr L_ctr.length q_ctr), (Iv 1048576), (Iv i10), (Iv i10), (Bo (icmp .lss i10 0)), (.tuple #[(Fl r34), (Bo (okBalls L_ctr L_rad))]), (.slice p_ctr L_ctr.length q_ctr), (.slice p23 L_ctr.length q24), (.slice p_rad L_rad.length q_rad), (.slice p30 L_rad.length q31), (.tuple #[(Fl r34), (Bo (okBalls L_ctr L_rad))]), (Fl r34), (Bo (okBalls L_ctr L_rad)), (.slice p_ctr L_ctr.length q_ctr), (.slice p43 L_ctr.length q44), (.slice p_rad L_rad.length q_rad), (.slice p51 L_rad.length q52), (.tuple #[(Fl r56), (Bo (okBalls L_ctr L_rad))]), (.slice p43 L_ctr.length q44), (.slice p51 L_rad.length q52), (.tuple #[(Fl r56), (Bo (okBalls L_ctr L_rad))]), (Fl r56), (Bo (okBalls L_ctr L_rad)), v61, v62, v63, v64, v65, v66, v67, v68, v69, v70, (Bo ((!β1) || β2)), (.slice p43 L_ctr.length q44), (.slice p_ctr L_ctr.length q_ctr), (.slice p87 L_ctr.length q88), (Bo (sameX sameV L_ctr L_ctr)), (Bo (!(sameX sameV L_ctr L_ctr))), (.slice p51 L_rad.length q52), (.slice p_rad L_rad.length q_rad), (.slice p102 L_rad.length q103), Ud, Ud]) _
  refine seqd rfl rfl (does_call (args := #[(.slice p51 L_rad.length q52), (.slice p102 L_rad.length q103)]) cal46 (evs rfl) (c_laws_eqFloat32S (.slice p51 L_rad.length q52) L_rad (.slice p102 L_rad.length q103) L_rad _ (hh48 _ ((((((Same.refl _ _).ext E54).ext E73).ext E82).ext E89).ext E97)) hh99.get)) ?_; rintro _ w105 ⟨E104, rfl⟩
  have X106 := Ext.gr X101 E104
  show wpList _ _ _ _ (fr [(.slice p_ctr L_ctr.length q_ctr), (.slice p_rad L_rad.length q_rad), Ud, Ud, (Bo false), (Iv i10), (Fl r34), (Bo (okBalls L_ctr L_rad)), (.slice p43 L_ctr.length q44), (.slice p51 L_rad.length q52), (Fl r56), (Bo (okBalls L_ctr L_rad)), (.slice p_rad L_rad.length q_rad), (Iv (L_rad.length : Int)), (Bo (icmp .gtr (L_rad.length : Int) 1048576)), (.slice p_ctr L_ctr.length q_ctr), (Iv 1048576), (Iv i10), (Iv i10), (Bo (icmp .lss i10 0)), (.tuple #[(Fl r34), (Bo (okBalls L_ctr L_rad))]), (.slice p_ctr L_ctr.length q_ctr), (.slice p23 L_ctr.length q24), (.slice p_rad L_rad.length q_rad), (.slice p30 L_rad.length q31), (.tuple #[(Fl r34), (Bo (okBalls L_ctr L_rad))]), (Fl r34), (Bo (okBalls L_ctr L_rad)), (.slice p_ctr L_ctr.length q_ctr), (.slice p43 L_ctr.length q44), (.slice p_rad L_rad.length q_rad), (.slice p51 L_rad.length q52), (.tuple #[(Fl r56), (Bo (okBalls L_ctr L_rad))]), (.slice p43 L_ctr.length q44), (.slice p51 L_rad.length q52), (.tuple #[(Fl r56), (Bo (okBalls L_ctr L_rad))]), (Fl r56), (Bo (okBalls L_ctr L_rad)), v61, v62, v63, v64, v65, v66, v67, v68, v69, v70, (Bo ((!β1) || β2)), (.slice p43 L_ctr.length q44), (.slice p_ctr L_ctr.length q_ctr), (.slice p87 L_ctr.length q88), (Bo (sameX sameV L_ctr L_ctr)), (Bo (!(sameX sameV L_ctr L_ctr))), (.slice p51 L_rad.length q52), (.slice p_rad L_rad.length q_rad), (.slice p102 L_rad.length q103), (Bo (sameL L_rad L_rad)), Ud]) _
  refine q_is (l' := [(.slice p_ctr L_ctr.length q_ctr), (.slice p_rad L_rad.length q_rad), Ud, Ud, (Bo false), (Iv i10), (Fl r34), (Bo (okBalls L_ctr L_rad)), (.slice p43 L_ctr.length q44), (.slice p51 L_rad.length q52), (Fl r56), (Bo (okBalls L_ctr L_rad)), (.slice p_rad L_rad.length q_rad), (Iv (L_rad.length : Int)), (Bo (icmp .gtr (L_rad.length : Int) 1048576)), (.slice p_ctr L_ctr.length q_ctr), (Iv 1048576), (Iv i10), (Iv i10), (Bo (icmp .lss i10 0)), (.tuple #[(Fl r34), (Bo (okBalls L_ctr L_rad))]), (.slice p_ctr L_ctr.length q_ctr), (.slice p23 L_ctr.length q24), (.slice p_rad L_rad.length q_rad), (.slice p30 L_rad.length q31), (.tuple #[(Fl r34), (Bo (okBalls L_ctr L_rad))]), (Fl r34), (Bo (okBalls L_ctr L_rad)), (.slice p_ctr L_ctr.length q_ctr), (.slice p43 L_ctr.length q44), (.slice p_rad L_rad.length q_rad), (.slice p51 L_rad.length q52), (.tuple #[(Fl r56), (Bo (okBalls L_ctr L_rad))]), (.slice p43 L_ctr.length q44), (.slice p51 L_rad.length q52), (.tuple #[(Fl r56), (Bo (okBalls L_ctr L_rad))]), (Fl r56), (Bo (okBalls L_ctr L_rad)), v61, v62, v63, v64, v65, v66, v67, v68, v69, v70, (Bo ((!β1) || β2)), (.slice p43 L_ctr.length q44), (.slice p_ctr L_ctr.length q_ctr), (.slice p87 L_ctr.length q88), (Bo (sameX sameV L_ctr L_ctr)), (Bo (!(sameX sameV L_ctr L_ctr))), (.slice p51 L_rad.length q52), (.slice p_rad L_rad.length q_rad), (.slice p102 L_rad.length q103), (Bo (sameL L_rad L_rad)), (Bo (!(sameL L_rad L_rad)))]) rfl rfl (does_not (ev rfl)) rfl ?_
  refine wpList_nil (hK96 _ _ ?_)
  refine wp_cond_split (t := !(sameL L_rad L_rad)) (ev rfl) (fun c107 => ?_) (fun c107 => ?_)
  · rw [Bool.not_eq_true'] at c107
    have c107' := c107
    (try simp only [hβ1, hβ2] at c107')
    (try simp only [icmp, Bool.and_eq_true, Bool.or_eq_true, Bool.and_eq_false_iff, Bool.or_eq_false_iff, Bool.not_eq_true', Bool.not_eq_false', decide_eq_true_eq, decide_eq_false_iff_not, beq_iff_eq, bne_iff_ne, beq_eq_false_iff_ne, bne_eq_false_iff_eq] at c107')
    refine wp_seq_k fun K108 hK108 => ?_
    refine wp_region_lit ?_
    refine q_is (l' := [(.slice p_ctr L_ctr.length q_ctr), (.slice p_rad L_rad.length q_rad), Ud, Ud, (Bo false), (Iv i10), (Fl r34), (Bo (okBalls L_ctr L_rad)), (.slice p43 L_ctr.length q44), (.slice p51 L_rad.length q52), (Fl r56), (Bo (okBalls L_ctr L_rad)), (.slice p_rad L_rad.length q_rad), (Iv (L_rad.length : Int)), (Bo (icmp .gtr (L_rad.length : Int) 1048576)), (.slice p_ctr L_ctr.length q_ctr), (Iv 1048576), (Iv i10), (Iv i10), (Bo (icmp .lss i10 0)), (.tuple #[(Fl r34), (Bo (okBalls L_ctr L_rad))]), (.slice p_ctr L_ctr.length q_ctr), (.slice p23 L_ctr.length q24), (.slice p_rad L_rad.length q_rad), (.slice p30 L_rad.length q31), (.tuple #[(Fl r34), (Bo (okBalls L_ctr L_rad))]), (Fl r34), (Bo (okBalls L_ctr L_rad)), (.slice p_ctr L_ctr.length q_ctr), (.slice p43 L_ctr.length q44), (.slice p_rad L_rad.length q_rad), (.slice p51 L_rad.length q52), (.tuple #[(Fl r56), (Bo (okBalls L_ctr L_rad))]), (.slice p43 L_ctr.length q44), (.slice p51 L_rad.length q52), (.tuple #[(Fl r56), (Bo (okBalls L_ctr L_rad))]), (Fl r56), (Bo (okBalls L_ctr L_rad)), v61, v62, v63, v64, v65, v66, v67, v68, v69, v70, (Bo ((!β1) || β2)), (.slice p43 L_ctr.length q44), (.slice p_ctr L_ctr.length q_ctr), (.slice p87 L_ctr.length q88), (Bo (sameX sameV L_ctr L_ctr)), (Bo (!(sameX sameV L_ctr L_ctr))), (.slice p51 L_rad.length q52), (.slice p_rad L_rad.length q_rad), (.slice p102 L_rad.length q103), (Bo (sameL L_rad L_rad)), (Bo (!(sameL L_rad L_rad)))]) rfl rfl (does_assign (u := (Bo false)) (ev rfl)) rfl ?_
    refine wpList_nil (hK108 _ _ ?_)
    refine wp_ret ?_
    dsimp only [Exit.then, Exit.inBlock]
    refine ret_val (v := (Bo false)) (res_T rfl (slot rfl)) X106 ?_
    try simp only [h35, h57, hβ1, hβ2] at c4 c15 c77 c92 c107
    have x109 : true = false := by first | with_reducible rfl | (simp only [sameF_self, sameX_selfV, sameL_self, bne_self_eq_false, h35, h57, hβ1, hβ2, c4, c15, c77, c92, c107]; done) | (simp [sameF_self, sameX_selfV, sameL_self, bne_self_eq_false, h35, h57, hβ1, hβ2, c4, c15, c77, c92, c107]; done) | (revert c4 c15 c77 c92 c107; simp +contextual [sameF_self, sameX_selfV, sameL_self, bne_self_eq_false, h35, h57, hβ1, hβ2]; done) | (rcases c4' with hh | hh <;> simp only [hh, sameF_self, sameX_selfV, sameL_self, bne_self_eq_false, h35, h57, hβ1, hβ2, c4, c15, c77, c92, c107]; done) | (rcases c15' with hh | hh <;> simp only [hh, sameF_self, sameX_selfV, sameL_self, bne_self_eq_false, h35, h57, hβ1, hβ2, c4, c15, c77, c92, c107]; done) | (rcases c77' with hh | hh <;> simp only [hh, sameF_self, sameX_selfV, sameL_self, bne_self_eq_false, h35, h57, hβ1, hβ2, c4, c15, c77, c92, c107]; done) | (rcases c92' with hh | hh <;> simp only [hh, sameF_self, sameX_selfV, sameL_self, bne_self_eq_false, h35, h57, hβ1, hβ2, c4, c15, c77, c92, c107]; done) | (rcases c107' with hh | hh <;> simp only [hh, sameF_self, sameX_selfV, sameL_self, bne_self_eq_false, h35, h57, hβ1, hβ2, c4, c15, c77, c92, c107]; done) | (rcases c107' with hh | hh <;> simp_all [sameF_self, sameX_selfV, sameL_self, bne_self_eq_false]; done) | (rcases c107' with hh | hh | hh <;> simp_all [sameF_self, sameX_selfV, sameL_self, bne_self_eq_false]; done) | (rcases c107' with hh | hh | hh | hh <;> simp_all [sameF_self, sameX_selfV, sameL_self, bne_self_eq_false]; done) | (simp_all [sameF_self, sameX_selfV, sameL_self, bne_self_eq_false]; done) | rfl
    exact (by first | rfl | rw [x109])
  rw [Bool.not_eq_false'] at c107
  have c107' := c107
  (try simp only [hβ1, hβ2] at c107')
  (try simp only [icmp, Bool.and_eq_true, Bool.or_eq_true, Bool.and_eq_false_iff, Bool.or_eq_false_iff, Bool.not_eq_true', Bool.not_eq_false', decide_eq_true_eq, decide_eq_false_iff_not, beq_iff_eq, bne_iff_ne, beq_eq_false_iff_ne, bne_eq_false_iff_eq] at c107')
  refine wp_skip (hK95 _ _ ?_)
  refine wp_seq_k fun K110 hK110 => ?_
  refine wp_region_lit ?_
  refine q_is (l' := [(.slice p_ctr L_ctr.length q_ctr), (.slice p_rad L_rad.length q_rad), Ud, Ud, (Bo true), (Iv i10), (Fl r34), (Bo (okBalls L_ctr L_rad)), (.slice p43 L_ctr.length q44), (.slice p51 L_rad.length q52), (Fl r56), (Bo (okBalls L_ctr L_rad)), (.slice p_rad L_rad.length q_rad), (Iv (L_rad.length : Int)), (Bo (icmp .gtr (L_rad.length : Int) 1048576)), (.slice p_ctr L_ctr.length q_ctr), (Iv 1048576), (Iv i10), (Iv i10), (Bo (icmp .lss i10 0)), (.tuple #[(Fl r34), (Bo (okBalls L_ctr L_rad))]), (.slice p_ctr L_ctr.length q_ctr), (.slice p23 L_ctr.length q24), (.slice p_rad L_rad.length q_rad), (.slice p30 L_rad.length q31), (.tuple #[(Fl r34), (Bo (okBalls L_ctr L_rad))]), (Fl r34), (Bo (okBalls L_ctr L_rad)), (.slice p_ctr L_ctr.length q_ctr), (.slice p43 L_ctr.length q44), (.slice p_rad L_rad.length q_rad), (.slice p51 L_rad.length q52), (.tuple #[(Fl r56), (Bo (okBalls L_ctr L_rad))]), (.slice p43 L_ctr.length q44), (.slice p51 L_rad.length q52), (.tuple #[(Fl r56), (Bo (okBalls L_ctr L_rad))]), (Fl r56), (Bo (okBalls L_ctr L_rad)), v61, v62, v63, v64, v65, v66, v67, v68, v69, v70, (Bo ((!β1) || β2)), (.slice p43 L_ctr.length q44), (.slice p_ctr L_ctr.length q_ctr), (.slice p87 L_ctr.length q88), (Bo (sameX sameV L_ctr L_ctr)), (Bo (!(sameX sameV L_ctr L_ctr))), (.slice p51 L_rad.length q52), (.slice p_rad L_rad.length q_rad), (.slice p102 L_rad.length q103), (Bo (sameL L_rad L_rad)), (Bo (!(sameL L_rad L_rad)))]) rfl rfl (does_assign (u := (Bo true)) (ev rfl)) rfl ?_
  refine wpList_nil (hK110 _ _ ?_)
  refine wp_ret ?_
  refine ret_val (v := (Bo true)) (res_T rfl (slot rfl)) X106 ?_
  try simp only [h35, h57, hβ1, hβ2] at c4 c15 c77 c92 c107
  exact rfl

end Go.Proofs.Ytbbidfadenmmjaa
