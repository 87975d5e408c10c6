/- contracts of functions, each walked once -/
import Derived.Test.YthoigfibpnnmkaaTy
import Derived.Test.YthoigfibpnnmkaaUni
import Derived.Test.YthoigfibpnnmkaaOwn
import Derived.Test.YthoigfibpnnmkaaFlo
namespace Go.Proofs.Ythoigfibpnnmkaa
open Go Go.RowKit
set_option maxRecDepth 100000
set_option maxHeartbeats 3200000
set_option linter.unusedVariables false
set_option linter.unusedSimpArgs false

/- math.Floor -/
theorem c_math_Floor (x : Nat) (w : World) : Gives Try.prog 13 #[(Fd x)] w (fun v w' => ∃ r_1 : Nat, v = (Fd r_1) ∧ cf .f64 r_1 = ffloor (cf .f64 x)) := by
  refine enter [(Fd x), Ud, Ud, Ud, Ud, Ud, Ud] Try.func13 rfl Try.ntmps13 rfl ?_
  refine wp_seq_k fun K1 hK1 => ?_
  refine wp_region_lit ?_
  refine q_is (l' := [(Fd x), Ud, (Fd 0), Ud, Ud, Ud, Ud]) rfl rfl (does_assign (u := (Fd 0)) (ev rfl)) rfl ?_
  refine wpList_nil (hK1 _ _ ?_)
  refine wp_seq_k fun K2 hK2 => ?_
  refine wp_cond_true (ev rfl) ?_
  refine wp_seq_k fun K3 hK3 => ?_
  refine wp_region_lit ?_
  refine q_is (l' := [(Fd x), Ud, (Fd 0), (Fd x), Ud, Ud, Ud]) rfl rfl (does_move (u := (Fd x)) (ev rfl)) rfl ?_
  refine seqd rfl rfl (does_floor (p := x) (ev rfl) cfl21) ?_; rintro _ w7 ⟨r4, rfl, h5, E6⟩
  have X8 := Ext.gr (Ext.refl w) E6
  show wpList _ _ _ _ (fr [(Fd x), Ud, (Fd 0), (Fd x), (Fd r4), Ud, Ud]) _
  refine q_is (l' := [(Fd x), Ud, (Fd r4), (Fd x), (Fd r4), Ud, Ud]) rfl rfl (does_assign (u := (Fd r4)) (ev rfl)) rfl ?_
  refine wpList_nil (hK3 _ _ ?_)
  refine wp_ret ?_
  dsimp only [Exit.then, Exit.inBlock]
  refine ret_val (v := (Fd r4)) (res_T rfl (slot rfl)) X8 ?_
  have x9 : cf .f64 r4 = ffloor (cf .f64 x) := by first | with_reducible rfl | (simp only [h5]; done) | (simp [h5]; done) | rfl
  exact ⟨r4, rfl, x9⟩

/- spec.l09Byte -/
theorem c_spec_l09Byte (x_ : Nat) (w : World) : Gives Try.prog 11 #[(Fl x_)] w (fun v w' => v = (Iv (byteF (cf .f32 x_)))) := by
  refine enter [(Fl x_), Ud, Ud, Ud, Ud, Ud, Ud, Ud, Ud, Ud, Ud, Ud, Ud, Ud] Try.func11 rfl Try.ntmps11 rfl ?_
  refine wp_seq_k fun K1 hK1 => ?_
  refine wp_region_lit ?_
  refine q_is (l' := [(Fl x_), Ud, (Iv 0), Ud, Ud, Ud, Ud, Ud, Ud, Ud, Ud, Ud, Ud, Ud]) rfl rfl (does_assign (u := (Iv 0)) (ev rfl)) rfl ?_
  refine wpList_nil (hK1 _ _ ?_)
  refine wp_seq_k fun K2 hK2 => ?_
  refine wp_seq_k fun K3 hK3 => ?_
  refine wp_region_lit ?_
  refine q_is (l' := [(Fl x_), Ud, (Iv 0), (Fl x_), Ud, Ud, Ud, Ud, Ud, Ud, Ud, Ud, Ud, Ud]) rfl rfl (does_move (u := (Fl x_)) (ev rfl)) rfl ?_
  refine q_is (l' := [(Fl x_), Ud, (Iv 0), (Fl x_), (Bo (fcmp .geq (ford .f32 (cf .f32 x_) (cf .f32 0)))), Ud, Ud, Ud, Ud, Ud, Ud, Ud, Ud, Ud]) rfl rfl (does_fcmp (.inr (.inr (.inr (.inr (.inr rfl))))) (ev rfl) (ev rfl)) rfl ?_
  refine q_is (l' := [(Fl x_), Ud, (Iv 0), (Fl x_), (Bo (fcmp .geq (ford .f32 (cf .f32 x_) (cf .f32 0)))), (Bo (!(fcmp .geq (ford .f32 (cf .f32 x_) (cf .f32 0))))), Ud, Ud, Ud, Ud, Ud, Ud, Ud, Ud]) rfl rfl (does_not (ev rfl)) rfl ?_
  refine wpList_nil (hK3 _ _ ?_)
  refine wp_cond_split (t := !(fcmp .geq (ford .f32 (cf .f32 x_) (cf .f32 0)))) (ev rfl) (fun c4 => ?_) (fun c4 => ?_)
  · rw [Bool.not_eq_true'] at c4
    have c4' := c4
    refine wp_seq_k fun K5 hK5 => ?_
    refine wp_region_lit ?_
    refine q_is (l' := [(Fl x_), Ud, (Iv 0), (Fl x_), (Bo (fcmp .geq (ford .f32 (cf .f32 x_) (cf .f32 0)))), (Bo (!(fcmp .geq (ford .f32 (cf .f32 x_) (cf .f32 0))))), Ud, Ud, Ud, Ud, Ud, Ud, Ud, Ud]) rfl rfl (does_assign (u := (Iv 0)) (ev rfl)) rfl ?_
    refine wpList_nil (hK5 _ _ ?_)
    refine wp_ret ?_
    dsimp only [Exit.then, Exit.inBlock]
    refine ret_val (v := (Iv 0)) (res_T rfl (slot rfl)) (Ext.refl w) ?_
    have x6 : (byteF (cf .f32 x_) : Int) = 0 := by first | exact byteF_0 (geq_not' (by assumption)) | exact byteF_255 (geq_yes' (by assumption)) (by assumption) | (simp only [c4]; exact byteF_in (geq_yes' (by assumption)) (by assumption)) | exact byteF_0 (by assumption) | exact byteF_255 (by assumption) (by assumption) | exact byteF_0 (geq_not (by assumption)) | exact byteF_255 (geq_yes (by assumption)) (by assumption) | (simp only [c4]; exact byteF_in (by assumption) (by assumption)) | (simp only [c4]; exact byteF_in (geq_yes (by assumption)) (by assumption))
    exact (by first | rfl | rw [x6])
  rw [Bool.not_eq_false'] at c4
  have c4' := c4
  refine wp_skip (hK2 _ _ ?_)
  refine wp_seq_k fun K7 hK7 => ?_
  refine wp_seq_k fun K8 hK8 => ?_
  refine wp_region_lit ?_
  refine q_is (l' := [(Fl x_), Ud, (Iv 0), (Fl x_), (Bo (fcmp .geq (ford .f32 (cf .f32 x_) (cf .f32 0)))), (Bo (!(fcmp .geq (ford .f32 (cf .f32 x_) (cf .f32 0))))), (Fl x_), Ud, Ud, Ud, Ud, Ud, Ud, Ud]) rfl rfl (does_move (u := (Fl x_)) (ev rfl)) rfl ?_
  refine q_is (l' := [(Fl x_), Ud, (Iv 0), (Fl x_), (Bo (fcmp .geq (ford .f32 (cf .f32 x_) (cf .f32 0)))), (Bo (!(fcmp .geq (ford .f32 (cf .f32 x_) (cf .f32 0))))), (Fl x_), (Bo (fcmp .gtr (ford .f32 (cf .f32 x_) (cf .f32 1065353216)))), Ud, Ud, Ud, Ud, Ud, Ud]) rfl rfl (does_fcmp (.inr (.inr (.inr (.inr (.inl rfl))))) (ev rfl) (ev rfl)) rfl ?_
  refine wpList_nil (hK8 _ _ ?_)
  refine wp_cond_split (t := fcmp .gtr (ford .f32 (cf .f32 x_) (cf .f32 1065353216))) (ev rfl) (fun c9 => ?_) (fun c9 => ?_)
  · have c9' := c9
    refine wp_seq_k fun K10 hK10 => ?_
    refine wp_region_lit ?_
    refine q_is (l' := [(Fl x_), Ud, (Iv 255), (Fl x_), (Bo (fcmp .geq (ford .f32 (cf .f32 x_) (cf .f32 0)))), (Bo (!(fcmp .geq (ford .f32 (cf .f32 x_) (cf .f32 0))))), (Fl x_), (Bo (fcmp .gtr (ford .f32 (cf .f32 x_) (cf .f32 1065353216)))), Ud, Ud, Ud, Ud, Ud, Ud]) rfl rfl (does_assign (u := (Iv 255)) (ev rfl)) rfl ?_
    refine wpList_nil (hK10 _ _ ?_)
    refine wp_ret ?_
    dsimp only [Exit.then, Exit.inBlock]
    refine ret_val (v := (Iv 255)) (res_T rfl (slot rfl)) (Ext.refl w) ?_
    have x11 : (byteF (cf .f32 x_) : Int) = 255 := by first | exact byteF_0 (geq_not' (by assumption)) | exact byteF_255 (geq_yes' (by assumption)) (by assumption) | (simp only [c4, c9]; exact byteF_in (geq_yes' (by assumption)) (by assumption)) | exact byteF_0 (by assumption) | exact byteF_255 (by assumption) (by assumption) | exact byteF_0 (geq_not (by assumption)) | exact byteF_255 (geq_yes (by assumption)) (by assumption) | (simp only [c4, c9]; exact byteF_in (by assumption) (by assumption)) | (simp only [c4, c9]; exact byteF_in (geq_yes (by assumption)) (by assumption))
    exact (by first | rfl | rw [x11])
  have c9' := c9
  refine wp_skip (hK7 _ _ ?_)
  refine wp_seq_k fun K12 hK12 => ?_
  refine wp_region_lit ?_
  refine q_is (l' := [(Fl x_), Ud, (Iv 0), (Fl x_), (Bo (fcmp .geq (ford .f32 (cf .f32 x_) (cf .f32 0)))), (Bo (!(fcmp .geq (ford .f32 (cf .f32 x_) (cf .f32 0))))), (Fl x_), (Bo (fcmp .gtr (ford .f32 (cf .f32 x_) (cf .f32 1065353216)))), (Fl x_), Ud, Ud, Ud, Ud, Ud]) rfl rfl (does_move (u := (Fl x_)) (ev rfl)) rfl ?_
  refine seqd rfl rfl (does_widen Try.underlying22 Try.underlying37 (ev rfl)) ?_; rintro _ w16 ⟨r13, rfl, h14, E15⟩
  have X17 := Ext.gr (Ext.refl w) E15
  show wpList _ _ _ _ (fr [(Fl x_), Ud, (Iv 0), (Fl x_), (Bo (fcmp .geq (ford .f32 (cf .f32 x_) (cf .f32 0)))), (Bo (!(fcmp .geq (ford .f32 (cf .f32 x_) (cf .f32 0))))), (Fl x_), (Bo (fcmp .gtr (ford .f32 (cf .f32 x_) (cf .f32 1065353216)))), (Fl x_), (Fd r13), Ud, Ud, Ud, Ud]) _
  refine seqd rfl rfl (does_float (.inr (.inr (.inl rfl))) (ev rfl) (ev rfl)) ?_; rintro _ w21 ⟨r18, rfl, h19, E20⟩
  have X22 := Ext.gr X17 E20
  show wpList _ _ _ _ (fr [(Fl x_), Ud, (Iv 0), (Fl x_), (Bo (fcmp .geq (ford .f32 (cf .f32 x_) (cf .f32 0)))), (Bo (!(fcmp .geq (ford .f32 (cf .f32 x_) (cf .f32 0))))), (Fl x_), (Bo (fcmp .gtr (ford .f32 (cf .f32 x_) (cf .f32 1065353216)))), (Fl x_), (Fd r13), (Fd r18), Ud, Ud, Ud]) _
  refine seqd rfl rfl (does_float (.inl rfl) (ev rfl) (ev rfl)) ?_; rintro _ w26 ⟨r23, rfl, h24, E25⟩
  have X27 := Ext.gr X22 E25
  show wpList _ _ _ _ (fr [(Fl x_), Ud, (Iv 0), (Fl x_), (Bo (fcmp .geq (ford .f32 (cf .f32 x_) (cf .f32 0)))), (Bo (!(fcmp .geq (ford .f32 (cf .f32 x_) (cf .f32 0))))), (Fl x_), (Bo (fcmp .gtr (ford .f32 (cf .f32 x_) (cf .f32 1065353216)))), (Fl x_), (Fd r13), (Fd r18), (Fd r23), Ud, Ud]) _
  refine seqd rfl rfl (does_call (args := #[(Fd r23)]) cal13 (evs rfl) (c_math_Floor r23 _)) ?_; rintro _ w29 ⟨E28, ⟨r30, rfl, h31⟩⟩
  have X32 := Ext.gr X27 E28
  show wpList _ _ _ _ (fr [(Fl x_), Ud, (Iv 0), (Fl x_), (Bo (fcmp .geq (ford .f32 (cf .f32 x_) (cf .f32 0)))), (Bo (!(fcmp .geq (ford .f32 (cf .f32 x_) (cf .f32 0))))), (Fl x_), (Bo (fcmp .gtr (ford .f32 (cf .f32 x_) (cf .f32 1065353216)))), (Fl x_), (Fd r13), (Fd r18), (Fd r23), (Fd r30), Ud]) _
  refine q_is (l' := [(Fl x_), Ud, (Iv 0), (Fl x_), (Bo (fcmp .geq (ford .f32 (cf .f32 x_) (cf .f32 0)))), (Bo (!(fcmp .geq (ford .f32 (cf .f32 x_) (cf .f32 0))))), (Fl x_), (Bo (fcmp .gtr (ford .f32 (cf .f32 x_) (cf .f32 1065353216)))), (Fl x_), (Fd r13), (Fd r18), (Fd r23), (Fd r30), (Iv (intOf (cf .f64 r30)))]) rfl rfl (does_conv_fi (p := r30) Try.underlying37 Try.underlying2 (ev rfl) (by first | assumption | (simp only [h14, h19, h24, h31]; first | assumption | exact byte_in (by assumption) (by assumption)))) rfl ?_
  refine q_is (l' := [(Fl x_), Ud, (Iv (intOf (cf .f64 r30))), (Fl x_), (Bo (fcmp .geq (ford .f32 (cf .f32 x_) (cf .f32 0)))), (Bo (!(fcmp .geq (ford .f32 (cf .f32 x_) (cf .f32 0))))), (Fl x_), (Bo (fcmp .gtr (ford .f32 (cf .f32 x_) (cf .f32 1065353216)))), (Fl x_), (Fd r13), (Fd r18), (Fd r23), (Fd r30), (Iv (intOf (cf .f64 r30)))]) rfl rfl (does_assign (u := (Iv (intOf (cf .f64 r30)))) (ev rfl)) rfl ?_
  refine wpList_nil (hK12 _ _ ?_)
  refine wp_ret ?_
  refine ret_val (v := (Iv (intOf (cf .f64 r30)))) (res_T rfl (slot rfl)) X32 ?_
  try simp only [h14, h19, h24, h31] at c4 c9
  have x33 : (byteF (cf .f32 x_) : Int) = (intOf (cf .f64 r30)) := by first | exact byteF_0 (geq_not' (by assumption)) | exact byteF_255 (geq_yes' (by assumption)) (by assumption) | (simp only [h14, h19, h24, h31, c4, c9]; exact byteF_in (geq_yes' (by assumption)) (by assumption)) | exact byteF_0 (by assumption) | exact byteF_255 (by assumption) (by assumption) | exact byteF_0 (geq_not (by assumption)) | exact byteF_255 (geq_yes (by assumption)) (by assumption) | (simp only [h14, h19, h24, h31, c4, c9]; exact byteF_in (by assumption) (by assumption)) | (simp only [h14, h19, h24, h31, c4, c9]; exact byteF_in (geq_yes (by assumption)) (by assumption))
  exact (by first | rfl | rw [x33])

/- spec.ByteOf -/
theorem c_spec_ByteOf (x_ : Nat) (w : World) : Gives Try.prog 5 #[(Fl x_)] w (fun v w' => v = (Iv (byteF (cf .f32 x_)))) := by
  refine enter [(Fl x_), Ud, Ud, Ud, Ud] Try.func5 rfl Try.ntmps5 rfl ?_
  refine wp_seq_k fun K1 hK1 => ?_
  refine wp_region_lit ?_
  refine q_is (l' := [(Fl x_), Ud, (Iv 0), Ud, Ud]) rfl rfl (does_assign (u := (Iv 0)) (ev rfl)) rfl ?_
  refine wpList_nil (hK1 _ _ ?_)
  refine wp_seq_k fun K2 hK2 => ?_
  refine wp_region_lit ?_
  refine q_is (l' := [(Fl x_), Ud, (Iv 0), (Fl x_), Ud]) rfl rfl (does_move (u := (Fl x_)) (ev rfl)) rfl ?_
  refine seqd rfl rfl (does_call (args := #[(Fl x_)]) cal11 (evs rfl) (c_spec_l09Byte x_ _)) ?_; rintro _ w4 ⟨E3, rfl⟩
  have X5 := Ext.gr (Ext.refl w) E3
  show wpList _ _ _ _ (fr [(Fl x_), Ud, (Iv 0), (Fl x_), (Iv (byteF (cf .f32 x_)))]) _
  refine q_is (l' := [(Fl x_), Ud, (Iv (byteF (cf .f32 x_))), (Fl x_), (Iv (byteF (cf .f32 x_)))]) rfl rfl (does_assign (u := (Iv (byteF (cf .f32 x_)))) (ev rfl)) rfl ?_
  refine wpList_nil (hK2 _ _ ?_)
  refine wp_ret ?_
  refine ret_val (v := (Iv (byteF (cf .f32 x_)))) (res_T rfl (slot rfl)) X5 ?_
  have x6 : (byteF (cf .f32 x_) : Int) = (byteF (cf .f32 x_)) := by first | with_reducible rfl | (simp only []; done) | (simp []; done) | rfl
  exact (by first | rfl | rw [x6])

/- impl.isNaN -/
theorem c_impl_isNaN (x : Nat) (w : World) : Gives Try.prog 12 #[(Fl x)] w (fun v w' => v = (Bo (fcmp .neq (ford .f32 (cf .f32 x) (cf .f32 x))))) := by
  refine enter [(Fl x), Ud, Ud, Ud, Ud, Ud] Try.func12 rfl Try.ntmps12 rfl ?_
  refine wp_seq_k fun K1 hK1 => ?_
  refine wp_region_lit ?_
  refine q_is (l' := [(Fl x), Ud, (Bo false), Ud, Ud, Ud]) rfl rfl (does_assign (u := (Bo false)) (ev rfl)) rfl ?_
  refine wpList_nil (hK1 _ _ ?_)
  refine wp_seq_k fun K2 hK2 => ?_
  refine wp_region_lit ?_
  refine q_is (l' := [(Fl x), Ud, (Bo false), (Fl x), Ud, Ud]) rfl rfl (does_move (u := (Fl x)) (ev rfl)) rfl ?_
  refine q_is (l' := [(Fl x), Ud, (Bo false), (Fl x), (Fl x), Ud]) rfl rfl (does_move (u := (Fl x)) (ev rfl)) rfl ?_
  refine q_is (l' := [(Fl x), Ud, (Bo false), (Fl x), (Fl x), (Bo (fcmp .neq (ford .f32 (cf .f32 x) (cf .f32 x))))]) rfl rfl (does_fcmp (.inr (.inl rfl)) (ev rfl) (ev rfl)) rfl ?_
  refine q_is (l' := [(Fl x), Ud, (Bo (fcmp .neq (ford .f32 (cf .f32 x) (cf .f32 x)))), (Fl x), (Fl x), (Bo (fcmp .neq (ford .f32 (cf .f32 x) (cf .f32 x))))]) rfl rfl (does_assign (u := (Bo (fcmp .neq (ford .f32 (cf .f32 x) (cf .f32 x))))) (ev rfl)) rfl ?_
  refine wpList_nil (hK2 _ _ ?_)
  refine wp_ret ?_
  refine ret_val (v := (Bo (fcmp .neq (ford .f32 (cf .f32 x) (cf .f32 x))))) (res_T rfl (slot rfl)) (Ext.refl w) ?_
  exact rfl

/- impl.ByteOf -/
theorem c_impl_ByteOf (x_ : Nat) (w : World) : Gives Try.prog 6 #[(Fl x_)] w (fun v w' => v = (Iv (byteF (cf .f32 x_)))) := by
  refine enter [(Fl x_), Ud, Ud, Ud, Ud, Ud, Ud, Ud, Ud, Ud, Ud, Ud, Ud, Ud, Ud, Ud, Ud, Ud, Ud] Try.func6 rfl Try.ntmps6 rfl ?_
  refine wp_seq_k fun K1 hK1 => ?_
  refine wp_region_lit ?_
  refine q_is (l' := [(Fl x_), Ud, (Iv 0), Ud, Ud, Ud, Ud, Ud, Ud, Ud, Ud, Ud, Ud, Ud, Ud, Ud, Ud, Ud, Ud]) rfl rfl (does_assign (u := (Iv 0)) (ev rfl)) rfl ?_
  refine wpList_nil (hK1 _ _ ?_)
  refine wp_seq_k fun K2 hK2 => ?_
  refine wp_block ?_
  refine wp_seq_k fun K3 hK3 => ?_
  obtain ⟨β1, hβ1⟩ : ∃ b : Bool, b = (fcmp .neq (ford .f32 (cf .f32 x_) (cf .f32 x_))) := ⟨_, rfl⟩
  obtain ⟨β2, hβ2⟩ : ∃ b : Bool, b = (fcmp .lss (ford .f32 (cf .f32 x_) (cf .f32 0))) := ⟨_, rfl⟩
  refine region_text (
    [Fact.pure [] (fun v => v = (Fl x_)),
    Fact.pure [4] (fun v => v = (Bo β1)),
    Fact.pure [5] (fun v => v = (Bo β1)),
    Fact.pure [6] (fun v => β1 = false → v = (Fl x_)),
    Fact.pure [7, 6] (fun v => β1 = false → v = (Bo β2)),
    Fact.pure [6, 8] (fun v => v = (Bo (β1 || β2)))]) (by simp [Fact.pure, Fact.mem]) ?_
  refine RW_d (fun v4 => [(Fl x_), Ud, (Iv 0), Ud, v4, Ud, Ud, Ud, Ud, Ud, Ud, Ud, Ud, Ud, Ud, Ud, Ud, Ud, Ud]) rfl (fun _ => rfl) (fun u hu hF => ?_) (fun v4 => ?_)
  · clear hF
    refine doesG_un rfl ?_
    refine (does_move (u := (Fl x_)) (ev rfl)).mono ?_; rintro _ _ ⟨rfl, rfl⟩
    exact ⟨rfl, Ext.refl _⟩
  refine RW_d (fun v5 => [(Fl x_), Ud, (Iv 0), Ud, v4, v5, Ud, Ud, Ud, Ud, Ud, Ud, Ud, Ud, Ud, Ud, Ud, Ud, Ud]) rfl (fun _ => rfl) (fun u hu hF => ?_) (fun v5 => ?_)
  · have h4_ : v4 = (Fl x_) := hF.1
    clear hF
    refine doesG_un rfl ?_
    obtain rfl := h4_
    refine (does_call (args := #[(Fl x_)]) cal12 (evs rfl) (c_impl_isNaN x_ _)).mono ?_; rintro v u' ⟨hx, hv⟩
    exact ⟨hv.trans (by simp only [hβ1]), hx⟩
  refine RW_d (fun v6 => [(Fl x_), Ud, (Iv 0), Ud, v4, v5, v6, Ud, Ud, Ud, Ud, Ud, Ud, Ud, Ud, Ud, Ud, Ud, Ud]) rfl (fun _ => rfl) (fun u hu hF => ?_) (fun v6 => ?_)
  · have h5_ : v5 = (Bo β1) := hF.1
    clear hF
    refine doesG_un rfl ?_
    obtain rfl := h5_
    refine (does_move (u := (Bo β1)) (ev rfl)).mono ?_; rintro _ _ ⟨rfl, rfl⟩
    exact ⟨rfl, Ext.refl _⟩
  refine RW_d (fun v7 => [(Fl x_), Ud, (Iv 0), Ud, v4, v5, v6, v7, Ud, Ud, Ud, Ud, Ud, Ud, Ud, Ud, Ud, Ud, Ud]) rfl (fun _ => rfl) (fun u hu hF => ?_) (fun v7 => ?_)
  · have h6_ : v6 = (Bo β1) := hF.1
    clear hF
    obtain rfl := h6_
    refine doesG_g (b := β1) rfl (yld rfl rfl) (fun hg1 => ?_) (fun hc => ⟨fun hg1 => absurd hg1 hc, Ext.refl _⟩)
    refine (does_move (u := (Fl x_)) (ev rfl)).mono ?_; rintro _ _ ⟨rfl, rfl⟩
    exact ⟨fun _ => rfl, Ext.refl _⟩
  refine RW_d (fun v8 => [(Fl x_), Ud, (Iv 0), Ud, v4, v5, v6, v7, v8, Ud, Ud, Ud, Ud, Ud, Ud, Ud, Ud, Ud, Ud]) rfl (fun _ => rfl) (fun u hu hF => ?_) (fun v8 => ?_)
  · have h7_ : β1 = false → v7 = (Fl x_) := hF.1
    have h6_ : v6 = (Bo β1) := hF.2.1
    clear hF
    obtain rfl := h6_
    refine doesG_g (b := β1) rfl (yld rfl rfl) (fun hg1 => ?_) (fun hc => ⟨fun hg1 => absurd hg1 hc, Ext.refl _⟩)
    obtain rfl := h7_ hg1
    refine (does_fcmp (.inr (.inr (.inl rfl))) (ev rfl) (ev rfl)).mono ?_; rintro _ _ ⟨rfl, rfl⟩
    exact ⟨fun _ => (by first | rfl | (show _ = _; simp only [hβ2])), Ext.refl _⟩
  refine RW_d (fun v9 => [(Fl x_), Ud, (Iv 0), Ud, v4, v5, v6, v7, v8, v9, Ud, Ud, Ud, Ud, Ud, Ud, Ud, Ud, Ud]) rfl (fun _ => rfl) (fun u hu hF => ?_) (fun v9 => ?_)
  · have h6_ : v6 = (Bo β1) := hF.1
    have h8_ : β1 = false → v8 = (Bo β2) := hF.2.1
    clear hF
    refine doesG_un rfl ?_
    skip
    obtain rfl := h6_
    refine (does_pick (b := β1) (ev rfl) (ev rfl) (ev rfl)).mono ?_; rintro _ _ ⟨rfl, rfl⟩; refine ⟨?_, Ext.refl _⟩; skip
    cases hbb : β1 <;> simp [hbb] at h8_ ⊢
    all_goals (first | rfl | (subst h8_; rfl) | simp_all)
  refine RW_fin ?_; intro w10 E11 hP12
  obtain ⟨⟨⟨⟨⟨⟨-, -⟩, -⟩, -⟩, -⟩, -⟩, q13⟩ := hP12
  have X14 := Ext.gr (Ext.refl w) E11
  have q13 : v9 = (Bo (β1 || β2)) := q13
  obtain rfl := q13
  show wpList _ _ _ _ (fr [(Fl x_), Ud, (Iv 0), Ud, v4, v5, v6, v7, v8, (Bo (β1 || β2)), Ud, Ud, Ud, Ud, Ud, Ud, Ud, Ud, Ud]) _
  refine q_is (l' := [(Fl x_), Ud, (Iv 0), (Bo (β1 || β2)), v4, v5, v6, v7, v8, (Bo (β1 || β2)), Ud, Ud, Ud, Ud, Ud, Ud, Ud, Ud, Ud]) rfl rfl (does_assign (u := (Bo (β1 || β2))) (ev rfl)) rfl ?_
  refine wpList_nil (hK3 _ _ ?_)
  refine wp_cond_split (t := β1 || β2) (ev rfl) (fun c15 => ?_) (fun c15 => ?_)
  · have c15' := c15
    (try simp only [hβ1, hβ2] at c15')
    (try simp only [icmp, Bool.and_eq_true, Bool.or_eq_true, Bool.and_eq_false_iff, Bool.or_eq_false_iff, Bool.not_eq_true', Bool.not_eq_false', decide_eq_true_eq, decide_eq_false_iff_not, beq_iff_eq, bne_iff_ne, beq_eq_false_iff_ne, bne_eq_false_iff_eq] at c15')
    refine wp_seq_k fun K16 hK16 => ?_
    refine wp_region_lit ?_
    refine q_is (l' := [(Fl x_), Ud, (Iv 0), (Bo (β1 || β2)), v4, v5, v6, v7, v8, (Bo (β1 || β2)), Ud, Ud, Ud, Ud, Ud, Ud, Ud, Ud, Ud]) rfl rfl (does_assign (u := (Iv 0)) (ev rfl)) rfl ?_
    refine wpList_nil (hK16 _ _ ?_)
    refine wp_ret ?_
    dsimp only [Exit.then, Exit.inBlock]
    refine ret_val (v := (Iv 0)) (res_T rfl (slot rfl)) X14 ?_
    try simp only [hβ1, hβ2] at c15
    have x17 : (byteF (cf .f32 x_) : Int) = 0 := by first | exact byteF_0 (geq_not' (by assumption)) | exact byteF_255 (geq_yes' (by assumption)) (by assumption) | (simp only [hβ1, hβ2, c15]; exact byteF_in (geq_yes' (by assumption)) (by assumption)) | exact byteF_0 (by assumption) | exact byteF_255 (by assumption) (by assumption) | exact byteF_0 (geq_not (by assumption)) | exact byteF_255 (geq_yes (by assumption)) (by assumption) | (simp only [hβ1, hβ2, c15]; exact byteF_in (by assumption) (by assumption)) | (simp only [hβ1, hβ2, c15]; exact byteF_in (geq_yes (by assumption)) (by assumption))
    exact (by first | rfl | rw [x17])
  have c15' := c15
  (try simp only [hβ1, hβ2] at c15')
  (try simp only [icmp, Bool.and_eq_true, Bool.or_eq_true, Bool.and_eq_false_iff, Bool.or_eq_false_iff, Bool.not_eq_true', Bool.not_eq_false', decide_eq_true_eq, decide_eq_false_iff_not, beq_iff_eq, bne_iff_ne, beq_eq_false_iff_ne, bne_eq_false_iff_eq] at c15')
  refine wp_seq_k fun K18 hK18 => ?_
  refine wp_region_lit ?_
  refine q_is (l' := [(Fl x_), Ud, (Iv 0), (Bo (β1 || β2)), v4, v5, v6, v7, v8, (Bo (β1 || β2)), Ud, (Fl x_), Ud, Ud, Ud, Ud, Ud, Ud, Ud]) rfl rfl (does_move (u := (Fl x_)) (ev rfl)) rfl ?_
  refine q_is (l' := [(Fl x_), Ud, (Iv 0), (Bo (β1 || β2)), v4, v5, v6, v7, v8, (Bo (β1 || β2)), Ud, (Fl x_), (Bo (fcmp .gtr (ford .f32 (cf .f32 x_) (cf .f32 1065353216)))), Ud, Ud, Ud, Ud, Ud, Ud]) rfl rfl (does_fcmp (.inr (.inr (.inr (.inr (.inl rfl))))) (ev rfl) (ev rfl)) rfl ?_
  refine q_is (l' := [(Fl x_), Ud, (Iv 0), (Bo (β1 || β2)), v4, v5, v6, v7, v8, (Bo (β1 || β2)), (Bo (fcmp .gtr (ford .f32 (cf .f32 x_) (cf .f32 1065353216)))), (Fl x_), (Bo (fcmp .gtr (ford .f32 (cf .f32 x_) (cf .f32 1065353216)))), Ud, Ud, Ud, Ud, Ud, Ud]) rfl rfl (does_assign (u := (Bo (fcmp .gtr (ford .f32 (cf .f32 x_) (cf .f32 1065353216))))) (ev rfl)) rfl ?_
  refine wpList_nil (hK18 _ _ ?_)
  refine wp_cond_split (t := fcmp .gtr (ford .f32 (cf .f32 x_) (cf .f32 1065353216))) (ev rfl) (fun c19 => ?_) (fun c19 => ?_)
  · have c19' := c19
    (try simp only [hβ1, hβ2] at c19')
    (try simp only [icmp, Bool.and_eq_true, Bool.or_eq_true, Bool.and_eq_false_iff, Bool.or_eq_false_iff, Bool.not_eq_true', Bool.not_eq_false', decide_eq_true_eq, decide_eq_false_iff_not, beq_iff_eq, bne_iff_ne, beq_eq_false_iff_ne, bne_eq_false_iff_eq] at c19')
    refine wp_seq_k fun K20 hK20 => ?_
    refine wp_region_lit ?_
    refine q_is (l' := [(Fl x_), Ud, (Iv 255), (Bo (β1 || β2)), v4, v5, v6, v7, v8, (Bo (β1 || β2)), (Bo (fcmp .gtr (ford .f32 (cf .f32 x_) (cf .f32 1065353216)))), (Fl x_), (Bo (fcmp .gtr (ford .f32 (cf .f32 x_) (cf .f32 1065353216)))), Ud, Ud, Ud, Ud, Ud, Ud]) rfl rfl (does_assign (u := (Iv 255)) (ev rfl)) rfl ?_
    refine wpList_nil (hK20 _ _ ?_)
    refine wp_ret ?_
    dsimp only [Exit.then, Exit.inBlock]
    refine ret_val (v := (Iv 255)) (res_T rfl (slot rfl)) X14 ?_
    try simp only [hβ1, hβ2] at c15 c19
    have x21 : (byteF (cf .f32 x_) : Int) = 255 := by first | exact byteF_0 (geq_not' (by assumption)) | exact byteF_255 (geq_yes' (by assumption)) (by assumption) | (simp only [hβ1, hβ2, c15, c19]; exact byteF_in (geq_yes' (by assumption)) (by assumption)) | exact byteF_0 (by assumption) | exact byteF_255 (by assumption) (by assumption) | exact byteF_0 (geq_not (by assumption)) | exact byteF_255 (geq_yes (by assumption)) (by assumption) | (simp only [hβ1, hβ2, c15, c19]; exact byteF_in (by assumption) (by assumption)) | (simp only [hβ1, hβ2, c15, c19]; exact byteF_in (geq_yes (by assumption)) (by assumption))
    exact (by first | rfl | rw [x21])
  have c19' := c19
  (try simp only [hβ1, hβ2] at c19')
  (try simp only [icmp, Bool.and_eq_true, Bool.or_eq_true, Bool.and_eq_false_iff, Bool.or_eq_false_iff, Bool.not_eq_true', Bool.not_eq_false', decide_eq_true_eq, decide_eq_false_iff_not, beq_iff_eq, bne_iff_ne, beq_eq_false_iff_ne, bne_eq_false_iff_eq] at c19')
  refine wp_skip (hK2 _ _ ?_)
  refine wp_seq_k fun K22 hK22 => ?_
  refine wp_region_lit ?_
  refine q_is (l' := [(Fl x_), Ud, (Iv 0), (Bo (β1 || β2)), v4, v5, v6, v7, v8, (Bo (β1 || β2)), (Bo (fcmp .gtr (ford .f32 (cf .f32 x_) (cf .f32 1065353216)))), (Fl x_), (Bo (fcmp .gtr (ford .f32 (cf .f32 x_) (cf .f32 1065353216)))), (Fl x_), Ud, Ud, Ud, Ud, Ud]) rfl rfl (does_move (u := (Fl x_)) (ev rfl)) rfl ?_
  refine seqd rfl rfl (does_widen Try.underlying22 Try.underlying37 (ev rfl)) ?_; rintro _ w26 ⟨r23, rfl, h24, E25⟩
  have X27 := Ext.gr X14 E25
  show wpList _ _ _ _ (fr [(Fl x_), Ud, (Iv 0), (Bo (β1 || β2)), v4, v5, v6, v7, v8, (Bo (β1 || β2)), (Bo (fcmp .gtr (ford .f32 (cf .f32 x_) (cf .f32 1065353216)))), (Fl x_), (Bo (fcmp .gtr (ford .f32 (cf .f32 x_) (cf .f32 1065353216)))), (Fl x_), (Fd r23), Ud, Ud, Ud, Ud]) _
  refine seqd rfl rfl (does_float (.inr (.inr (.inl rfl))) (ev rfl) (ev rfl)) ?_; rintro _ w31 ⟨r28, rfl, h29, E30⟩
  have X32 := Ext.gr X27 E30
  show wpList _ _ _ _ (fr [(Fl x_), Ud, (Iv 0), (Bo (β1 || β2)), v4, v5, v6, v7, v8, (Bo (β1 || β2)), (Bo (fcmp .gtr (ford .f32 (cf .f32 x_) (cf .f32 1065353216)))), (Fl x_), (Bo (fcmp .gtr (ford .f32 (cf .f32 x_) (cf .f32 1065353216)))), (Fl x_), (Fd r23), (Fd r28), Ud, Ud, Ud]) _
  refine seqd rfl rfl (does_float (.inl rfl) (ev rfl) (ev rfl)) ?_; rintro _ w36 ⟨r33, rfl, h34, E35⟩
  have X37 := Ext.gr X32 E35
  show wpList _ _ _ _ (fr [(Fl x_), Ud, (Iv 0), (Bo (β1 || β2)), v4, v5, v6, v7, v8, (Bo (β1 || β2)), (Bo (fcmp .gtr (ford .f32 (cf .f32 x_) (cf .f32 1065353216)))), (Fl x_), (Bo (fcmp .gtr (ford .f32 (cf .f32 x_) (cf .f32 1065353216)))), (Fl x_), (Fd r23), (Fd r28), (Fd r33), Ud, Ud]) _
  refine seqd rfl rfl (does_call (args := #[(Fd r33)]) cal13 (evs rfl) (c_math_Floor r33 _)) ?_; rintro _ w39 ⟨E38, ⟨r40, rfl, h41⟩⟩
  have X42 := Ext.gr X37 E38
  show wpList _ _ _ _ (fr [(Fl x_), Ud, (Iv 0), (Bo (β1 || β2)), v4, v5, v6, v7, v8, (Bo (β1 || β2)), (Bo (fcmp .gtr (ford .f32 (cf .f32 x_) (cf .f32 1065353216)))), (Fl x_), (Bo (fcmp .gtr (ford .f32 (cf .f32 x_) (cf .f32 1065353216)))), (Fl x_), (Fd r23), (Fd r28), (Fd r33), (Fd r40), Ud]) _
  refine q_is (l' := [(Fl x_), Ud, (Iv 0), (Bo (β1 || β2)), v4, v5, v6, v7, v8, (Bo (β1 || β2)), (Bo (fcmp .gtr (ford .f32 (cf .f32 x_) (cf .f32 1065353216)))), (Fl x_), (Bo (fcmp .gtr (ford .f32 (cf .f32 x_) (cf .f32 1065353216)))), (Fl x_), (Fd r23), (Fd r28), (Fd r33), (Fd r40), (Iv (intOf (cf .f64 r40)))]) rfl rfl (does_conv_fi (p := r40) Try.underlying37 Try.underlying2 (ev rfl) (by first | assumption | (simp only [hβ1, hβ2, h24, h29, h34, h41]; first | assumption | exact byte_in (geq_yes' (by assumption)) (by assumption)))) rfl ?_
  refine q_is (l' := [(Fl x_), Ud, (Iv (intOf (cf .f64 r40))), (Bo (β1 || β2)), v4, v5, v6, v7, v8, (Bo (β1 || β2)), (Bo (fcmp .gtr (ford .f32 (cf .f32 x_) (cf .f32 1065353216)))), (Fl x_), (Bo (fcmp .gtr (ford .f32 (cf .f32 x_) (cf .f32 1065353216)))), (Fl x_), (Fd r23), (Fd r28), (Fd r33), (Fd r40), (Iv (intOf (cf .f64 r40)))]) rfl rfl (does_assign (u := (Iv (intOf (cf .f64 r40)))) (ev rfl)) rfl ?_
  refine wpList_nil (hK22 _ _ ?_)
  refine wp_ret ?_
  refine ret_val (v := (Iv (intOf (cf .f64 r40)))) (res_T rfl (slot rfl)) X42 ?_
  try simp only [hβ1, hβ2, h24, h29, h34, h41] at c15 c19
  have x43 : (byteF (cf .f32 x_) : Int) = (intOf (cf .f64 r40)) := by first | exact byteF_0 (geq_not' (by assumption)) | exact byteF_255 (geq_yes' (by assumption)) (by assumption) | (simp only [hβ1, hβ2, h24, h29, h34, h41, c15, c19]; exact byteF_in (geq_yes' (by assumption)) (by assumption)) | exact byteF_0 (by assumption) | exact byteF_255 (by assumption) (by assumption) | exact byteF_0 (geq_not (by assumption)) | exact byteF_255 (geq_yes (by assumption)) (by assumption) | (simp only [hβ1, hβ2, h24, h29, h34, h41, c15, c19]; exact byteF_in (by assumption) (by assumption)) | (simp only [hβ1, hβ2, h24, h29, h34, h41, c15, c19]; exact byteF_in (geq_yes (by assumption)) (by assumption))
  exact (by first | rfl | rw [x43])

/- laws.FnExactByteOf -/
theorem c_laws_FnExactByteOf (x_ : Nat) (w : World) : Gives Try.prog 3 #[(Fl x_)] w (fun v w' => v = (Bo true)) := by
  refine enter [(Fl x_), Ud, Ud, Ud, Ud, Ud, Ud, Ud, Ud, Ud, Ud, Ud] Try.func3 rfl Try.ntmps3 rfl ?_
  refine wp_seq_k fun K1 hK1 => ?_
  refine wp_region_lit ?_
  refine q_is (l' := [(Fl x_), Ud, (Bo false), Ud, Ud, Ud, Ud, Ud, Ud, Ud, Ud, Ud]) rfl rfl (does_assign (u := (Bo false)) (ev rfl)) rfl ?_
  refine wpList_nil (hK1 _ _ ?_)
  refine wp_seq_k fun K2 hK2 => ?_
  refine wp_region_lit ?_
  refine q_is (l' := [(Fl x_), Ud, (Bo false), Ud, Ud, (Fl x_), Ud, Ud, Ud, Ud, Ud, Ud]) rfl rfl (does_move (u := (Fl x_)) (ev rfl)) rfl ?_
  refine seqd rfl rfl (does_call (args := #[(Fl x_)]) cal5 (evs rfl) (c_spec_ByteOf x_ _)) ?_; rintro _ w4 ⟨E3, rfl⟩
  have X5 := Ext.gr (Ext.refl w) E3
  show wpList _ _ _ _ (fr [(Fl x_), Ud, (Bo false), Ud, Ud, (Fl x_), (Iv (byteF (cf .f32 x_))), Ud, Ud, Ud, Ud, Ud]) _
  refine q_is (l' := [(Fl x_), Ud, (Bo false), (Iv (byteF (cf .f32 x_))), Ud, (Fl x_), (Iv (byteF (cf .f32 x_))), Ud, Ud, Ud, Ud, Ud]) rfl rfl (does_assign (u := (Iv (byteF (cf .f32 x_)))) (ev rfl)) rfl ?_
  refine wpList_nil (hK2 _ _ ?_)
  refine wp_seq_k fun K6 hK6 => ?_
  refine wp_region_lit ?_
  refine q_is (l' := [(Fl x_), Ud, (Bo false), (Iv (byteF (cf .f32 x_))), Ud, (Fl x_), (Iv (byteF (cf .f32 x_))), (Fl x_), Ud, Ud, Ud, Ud]) rfl rfl (does_move (u := (Fl x_)) (ev rfl)) rfl ?_
  refine seqd rfl rfl (does_call (args := #[(Fl x_)]) cal6 (evs rfl) (c_impl_ByteOf x_ _)) ?_; rintro _ w8 ⟨E7, rfl⟩
  have X9 := Ext.gr X5 E7
  show wpList _ _ _ _ (fr [(Fl x_), Ud, (Bo false), (Iv (byteF (cf .f32 x_))), Ud, (Fl x_), (Iv (byteF (cf .f32 x_))), (Fl x_), (Iv (byteF (cf .f32 x_))), Ud, Ud, Ud]) _
  refine q_is (l' := [(Fl x_), Ud, (Bo false), (Iv (byteF (cf .f32 x_))), (Iv (byteF (cf .f32 x_))), (Fl x_), (Iv (byteF (cf .f32 x_))), (Fl x_), (Iv (byteF (cf .f32 x_))), Ud, Ud, Ud]) rfl rfl (does_assign (u := (Iv (byteF (cf .f32 x_)))) (ev rfl)) rfl ?_
  refine wpList_nil (hK6 _ _ ?_)
  refine wp_seq_k fun K10 hK10 => ?_
  refine wp_seq_k fun K11 hK11 => ?_
  refine wp_region_lit ?_
  refine q_is (l' := [(Fl x_), Ud, (Bo false), (Iv (byteF (cf .f32 x_))), (Iv (byteF (cf .f32 x_))), (Fl x_), (Iv (byteF (cf .f32 x_))), (Fl x_), (Iv (byteF (cf .f32 x_))), (Iv (byteF (cf .f32 x_))), Ud, Ud]) rfl rfl (does_move (u := (Iv (byteF (cf .f32 x_)))) (ev rfl)) rfl ?_
  refine q_is (l' := [(Fl x_), Ud, (Bo false), (Iv (byteF (cf .f32 x_))), (Iv (byteF (cf .f32 x_))), (Fl x_), (Iv (byteF (cf .f32 x_))), (Fl x_), (Iv (byteF (cf .f32 x_))), (Iv (byteF (cf .f32 x_))), (Iv (byteF (cf .f32 x_))), Ud]) rfl rfl (does_move (u := (Iv (byteF (cf .f32 x_)))) (ev rfl)) rfl ?_
  refine q_is (l' := [(Fl x_), Ud, (Bo false), (Iv (byteF (cf .f32 x_))), (Iv (byteF (cf .f32 x_))), (Fl x_), (Iv (byteF (cf .f32 x_))), (Fl x_), (Iv (byteF (cf .f32 x_))), (Iv (byteF (cf .f32 x_))), (Iv (byteF (cf .f32 x_))), (Bo (icmp .neq (byteF (cf .f32 x_)) (byteF (cf .f32 x_))))]) rfl rfl (does_icmp (p := byteF (cf .f32 x_)) (q := byteF (cf .f32 x_)) (.inr (.inl rfl)) (ev rfl) (ev rfl)) rfl ?_
  refine wpList_nil (hK11 _ _ ?_)
  refine wp_cond_split (t := icmp .neq (byteF (cf .f32 x_)) (byteF (cf .f32 x_))) (ev rfl) (fun c12 => ?_) (fun c12 => ?_)
  · have c12' := c12
    (try simp only [icmp, Bool.and_eq_true, Bool.or_eq_true, Bool.and_eq_false_iff, Bool.or_eq_false_iff, Bool.not_eq_true', Bool.not_eq_false', decide_eq_true_eq, decide_eq_false_iff_not, beq_iff_eq, bne_iff_ne, beq_eq_false_iff_ne, bne_eq_false_iff_eq] at c12')
    refine wp_seq_k fun K13 hK13 => ?_
    refine wp_region_lit ?_
    refine q_is (l' := [(Fl x_), Ud, (Bo false), (Iv (byteF (cf .f32 x_))), (Iv (byteF (cf .f32 x_))), (Fl x_), (Iv (byteF (cf .f32 x_))), (Fl x_), (Iv (byteF (cf .f32 x_))), (Iv (byteF (cf .f32 x_))), (Iv (byteF (cf .f32 x_))), (Bo (icmp .neq (byteF (cf .f32 x_)) (byteF (cf .f32 x_))))]) rfl rfl (does_assign (u := (Bo false)) (ev rfl)) rfl ?_
    refine wpList_nil (hK13 _ _ ?_)
    refine wp_ret ?_
    dsimp only [Exit.then, Exit.inBlock]
    refine ret_val (v := (Bo false)) (res_T rfl (slot rfl)) X9 ?_
    have x14 : true = false := by first | with_reducible rfl | (simp only [bne_self_eq_false, icmp, c12]; done) | (simp [bne_self_eq_false, icmp, c12]; done) | (revert c12; simp +contextual [bne_self_eq_false, icmp]; done) | (rcases c12' with hh | hh <;> simp only [hh, bne_self_eq_false, icmp, c12]; done) | (rcases c12' with hh | hh <;> simp_all [bne_self_eq_false, icmp]; done) | (rcases c12' with hh | hh | hh <;> simp_all [bne_self_eq_false, icmp]; done) | (rcases c12' with hh | hh | hh | hh <;> simp_all [bne_self_eq_false, icmp]; done) | (simp_all [bne_self_eq_false, icmp]; done) | rfl
    exact (by first | rfl | rw [x14])
  have c12' := c12
  (try simp only [icmp, Bool.and_eq_true, Bool.or_eq_true, Bool.and_eq_false_iff, Bool.or_eq_false_iff, Bool.not_eq_true', Bool.not_eq_false', decide_eq_true_eq, decide_eq_false_iff_not, beq_iff_eq, bne_iff_ne, beq_eq_false_iff_ne, bne_eq_false_iff_eq] at c12')
  refine wp_skip (hK10 _ _ ?_)
  refine wp_seq_k fun K15 hK15 => ?_
  refine wp_region_lit ?_
  refine q_is (l' := [(Fl x_), Ud, (Bo true), (Iv (byteF (cf .f32 x_))), (Iv (byteF (cf .f32 x_))), (Fl x_), (Iv (byteF (cf .f32 x_))), (Fl x_), (Iv (byteF (cf .f32 x_))), (Iv (byteF (cf .f32 x_))), (Iv (byteF (cf .f32 x_))), (Bo (icmp .neq (byteF (cf .f32 x_)) (byteF (cf .f32 x_))))]) rfl rfl (does_assign (u := (Bo true)) (ev rfl)) rfl ?_
  refine wpList_nil (hK15 _ _ ?_)
  refine wp_ret ?_
  refine ret_val (v := (Bo true)) (res_T rfl (slot rfl)) X9 ?_
  exact rfl

end Go.Proofs.Ythoigfibpnnmkaa
