/- contracts of functions, each walked once -/
import Derived.Test.YtffmjlalacnfiaaA3
namespace Go.Proofs.Ytffmjlalacnfiaa
open Go Go.RowKit
set_option maxRecDepth 100000
set_option maxHeartbeats 3200000
set_option linter.unusedVariables false
set_option linter.unusedSimpArgs false

set_option maxHeartbeats 20000000 in
/- impl.CropGrid -/
theorem c_impl_CropGrid (g : List Value) (A_g : GridT) (fr : Value) (L_fr : List Int) (ct : Value) (L_ct : List Int) (w : World) (hv_g : RGridT w A_g g) (hv_fr : Sl RI 1 w fr L_fr) (hv_ct : Sl RI 1 w ct L_ct) : Gives Try.prog 16 #[(.agg g.toArray), fr, ct] w (fun v w' => ∃ cs_1 : List Value, ∃ Lw_2 : List Nat, v = (.tuple #[(.agg cs_1.toArray), (Bo (crpOk A_g L_fr L_ct))]) ∧ Hang w.heap.size w' (fun u => RGridT u (crpR A_g L_fr L_ct) cs_1) ∧ WL 1 w.heap.size w' Lw_2 (cellN cs_1 7) ((crpR A_g L_fr L_ct).vals).length) := by
  obtain ⟨r1, r3, r5, r7, y9, rfl, h2, h4, h6, h8, h10⟩ := hv_g
  have hlen_fr := Sl.len hv_fr; obtain ⟨p_fr, q_fr, rfl⟩ := Sl.shape hv_fr
  have hlen_ct := Sl.len hv_ct; obtain ⟨p_ct, q_ct, rfl⟩ := Sl.shape hv_ct
  have hs13 := h10; have hs13l := Sl.len h10; obtain ⟨p11, q12, rfl⟩ := Sl.shape h10
  refine enter [(.agg #[(Fl r1), (Fl r3), (Fl r5), (Fl r7), (Iv A_g.x), (Iv A_g.y), (Iv A_g.z), (.slice p11 A_g.vals.length q12)]), (.slice p_fr L_fr.length q_fr), (.slice p_ct L_ct.length q_ct), Ud, Ud, Ud, Ud, Ud, Ud, Ud, Ud, Ud, Ud, Ud, Ud, Ud, Ud, Ud, Ud, Ud, Ud, Ud, Ud, Ud, Ud, Ud, Ud, Ud, Ud, Ud, Ud, Ud, Ud, Ud, Ud, Ud, Ud, Ud, Ud, Ud, Ud, Ud, Ud, Ud, Ud, Ud, Ud, Ud, Ud, Ud, Ud, Ud, Ud, Ud, Ud, Ud, Ud, Ud, Ud, Ud, Ud, Ud, Ud, Ud, Ud, Ud, Ud, Ud] Try.func16 rfl Try.ntmps16 rfl ?_
  refine wp_seq_k fun K14 hK14 => ?_
  refine wp_region_lit ?_
  refine seqd rfl rfl (does_box (u := (.agg #[(Fl r1), (Fl r3), (Fl r5), (Fl r7), (Iv A_g.x), (Iv A_g.y), (Iv A_g.z), (.slice p11 A_g.vals.length q12)])) (ev rfl)) ?_; rintro _ w19 ⟨b15, rfl, hb16, hB17, E18⟩
  have g20 : w.heap.size ≤ b15 := Nat.le_trans (Below.size (Ext.refl w)) hb16
  change Blk _ _ [(Fl r1), (Fl r3), (Fl r5), (Fl r7), (Iv A_g.x), (Iv A_g.y), (Iv A_g.z), (.slice p11 A_g.vals.length q12)] at hB17
  have X21 := Ext.gr (Ext.refl w) E18
  show wpList _ _ _ _ (fr [(.agg #[(Fl r1), (Fl r3), (Fl r5), (Fl r7), (Iv A_g.x), (Iv A_g.y), (Iv A_g.z), (.slice p11 A_g.vals.length q12)]), (.slice p_fr L_fr.length q_fr), (.slice p_ct L_ct.length q_ct), (Pt b15 0), Ud, Ud, Ud, Ud, Ud, Ud, Ud, Ud, Ud, Ud, Ud, Ud, Ud, Ud, Ud, Ud, Ud, Ud, Ud, Ud, Ud, Ud, Ud, Ud, Ud, Ud, Ud, Ud, Ud, Ud, Ud, Ud, Ud, Ud, Ud, Ud, Ud, Ud, Ud, Ud, Ud, Ud, Ud, Ud, Ud, Ud, Ud, Ud, Ud, Ud, Ud, Ud, Ud, Ud, Ud, Ud, Ud, Ud, Ud, Ud, Ud, Ud, Ud, Ud]) _
  refine seqd rfl rfl (does_alloc z31) ?_; rintro _ w26 ⟨b22, rfl, hb23, hB24, E25⟩
  have n27 : b15 < b22 := Nat.lt_of_lt_of_le (Blk.lt hB17) hb23
  have g28 : w.heap.size ≤ b22 := Nat.le_trans (Below.size X21) hb23
  change Blk _ _ [(Fl 0), (Fl 0), (Fl 0), (Fl 0), (Iv 0), (Iv 0), (Iv 0), (.slice none 0 0)] at hB24
  have X29 := Ext.gr X21 E25
  show wpList _ _ _ _ (fr [(.agg #[(Fl r1), (Fl r3), (Fl r5), (Fl r7), (Iv A_g.x), (Iv A_g.y), (Iv A_g.z), (.slice p11 A_g.vals.length q12)]), (.slice p_fr L_fr.length q_fr), (.slice p_ct L_ct.length q_ct), (Pt b15 0), Ud, Ud, (Pt b22 0), Ud, Ud, Ud, Ud, Ud, Ud, Ud, Ud, Ud, Ud, Ud, Ud, Ud, Ud, Ud, Ud, Ud, Ud, Ud, Ud, Ud, Ud, Ud, Ud, Ud, Ud, Ud, Ud, Ud, Ud, Ud, Ud, Ud, Ud, Ud, Ud, Ud, Ud, Ud, Ud, Ud, Ud, Ud, Ud, Ud, Ud, Ud, Ud, Ud, Ud, Ud, Ud, Ud, Ud, Ud, Ud, Ud, Ud, Ud, Ud, Ud]) _
  refine q_is rfl rfl (does_assign (u := (Bo false)) (ev rfl)) (by dsimp only [List.set]; try rfl) ?_
  refine wpList_nil (hK14 _ _ ?_)
  refine wp_seq_k fun K30 hK30 => ?_
  refine wp_seq_k fun K31 hK31 => ?_
  obtain ⟨β1, hβ1⟩ : ∃ b : Bool, b = (icmp .neq (L_fr.length : Int) 3) := ⟨_, rfl⟩
  obtain ⟨β2, hβ2⟩ : ∃ b : Bool, b = (icmp .neq (L_ct.length : Int) 3) := ⟨_, rfl⟩
  obtain ⟨β3, hβ3⟩ : ∃ b : Bool, b = (((!(isGrid A_g)) || β1) || β2) := ⟨_, rfl⟩
  refine region_text (
    [Fact.pure [] (fun v => v = (.agg #[(Fl r1), (Fl r3), (Fl r5), (Fl r7), (Iv A_g.x), (Iv A_g.y), (Iv A_g.z), (.slice p11 A_g.vals.length q12)])),
    Fact.pure [11] (fun v => v = (Bo (isGrid A_g))),
    Fact.pure [12] (fun v => v = (Bo (!(isGrid A_g)))),
    Fact.pure [13] (fun v => v = (Bo (!(isGrid A_g)))),
    Fact.pure [14] (fun v => (!(isGrid A_g)) = false → v = (.slice p_fr L_fr.length q_fr)),
    Fact.pure [15, 14] (fun v => (!(isGrid A_g)) = false → v = (Iv (L_fr.length : Int))),
    Fact.pure [16, 14] (fun v => (!(isGrid A_g)) = false → v = (Bo β1)),
    Fact.pure [14, 17] (fun v => v = (Bo ((!(isGrid A_g)) || β1))),
    Fact.pure [18] (fun v => v = (Bo ((!(isGrid A_g)) || β1))),
    Fact.pure [19] (fun v => ((!(isGrid A_g)) || β1) = false → v = (.slice p_ct L_ct.length q_ct)),
    Fact.pure [20, 19] (fun v => ((!(isGrid A_g)) || β1) = false → v = (Iv (L_ct.length : Int))),
    Fact.pure [21, 19] (fun v => ((!(isGrid A_g)) || β1) = false → v = (Bo β2)),
    Fact.pure [19, 22] (fun v => v = (Bo β3))]) (by simp [Fact.pure, Fact.mem]) ?_
  refine RW_d _ rfl (fun v => by dsimp only [List.set]; try rfl) (fun u hu hF => ?_) (fun v32 => ?_)
  · clear hF
    refine doesG_un rfl ?_
    refine (does_loadAgg (cs := [(Fl r1), (Fl r3), (Fl r5), (Fl r7), (Iv A_g.x), (Iv A_g.y), (Iv A_g.z), (.slice p11 A_g.vals.length q12)]) (ev rfl) Try.isAgg31 Try.sizeOf31 (Blk.cells ((hB17.ext E25).ext hu)) rfl).mono ?_; rintro _ _ ⟨rfl, rfl⟩
    exact ⟨rfl, Ext.refl _⟩
  refine RW_d _ rfl (fun v => by dsimp only [List.set]; try rfl) (fun u hu hF => ?_) (fun v33 => ?_)
  · have h11_ : v32 = (.agg #[(Fl r1), (Fl r3), (Fl r5), (Fl r7), (Iv A_g.x), (Iv A_g.y), (Iv A_g.z), (.slice p11 A_g.vals.length q12)]) := hF.1
    clear hF
    refine doesG_un rfl ?_
    obtain rfl := h11_
    refine (does_call (args := #[(.agg #[(Fl r1), (Fl r3), (Fl r5), (Fl r7), (Iv A_g.x), (Iv A_g.y), (Iv A_g.z), (.slice p11 A_g.vals.length q12)])]) cal28 (evs rfl) (c_impl_ValidGrid [(Fl r1), (Fl r3), (Fl r5), (Fl r7), (Iv A_g.x), (Iv A_g.y), (Iv A_g.z), (.slice p11 A_g.vals.length q12)] A_g _ ⟨r1, r3, r5, r7, (.slice p11 A_g.vals.length q12), rfl, h2, h4, h6, h8, (Sl.ext (Sl.ext hs13 RF.mono X29) RF.mono hu)⟩)).mono ?_; rintro v u' ⟨hx, hv⟩
    exact ⟨hv, hx⟩
  refine RW_d _ rfl (fun v => by dsimp only [List.set]; try rfl) (fun u hu hF => ?_) (fun v34 => ?_)
  · have h12_ : v33 = (Bo (isGrid A_g)) := hF.1
    clear hF
    refine doesG_un rfl ?_
    obtain rfl := h12_
    refine (does_not (ev rfl)).mono ?_; rintro _ _ ⟨rfl, rfl⟩
    exact ⟨rfl, Ext.refl _⟩
  refine RW_d _ rfl (fun v => by dsimp only [List.set]; try rfl) (fun u hu hF => ?_) (fun v35 => ?_)
  · have h13_ : v34 = (Bo (!(isGrid A_g))) := hF.1
    clear hF
    refine doesG_un rfl ?_
    obtain rfl := h13_
    refine (does_move (u := (Bo (!(isGrid A_g)))) (ev rfl)).mono ?_; rintro _ _ ⟨rfl, rfl⟩
    exact ⟨rfl, Ext.refl _⟩
  refine RW_d _ rfl (fun v => by dsimp only [List.set]; try rfl) (fun u hu hF => ?_) (fun v36 => ?_)
  · have h14_ : v35 = (Bo (!(isGrid A_g))) := hF.1
    clear hF
    obtain rfl := h14_
    refine doesG_g (b := (!(isGrid A_g))) rfl (yld rfl rfl) (fun hg1 => ?_) (fun hc => ⟨fun hg1 => absurd hg1 hc, Ext.refl _⟩)
    refine (does_move (u := (.slice p_fr L_fr.length q_fr)) (ev rfl)).mono ?_; rintro _ _ ⟨rfl, rfl⟩
    exact ⟨fun _ => rfl, Ext.refl _⟩
  refine RW_d _ rfl (fun v => by dsimp only [List.set]; try rfl) (fun u hu hF => ?_) (fun v37 => ?_)
  · have h15_ : (!(isGrid A_g)) = false → v36 = (.slice p_fr L_fr.length q_fr) := hF.1
    have h14_ : v35 = (Bo (!(isGrid A_g))) := hF.2.1
    clear hF
    obtain rfl := h14_
    refine doesG_g (b := (!(isGrid A_g))) rfl (yld rfl rfl) (fun hg1 => ?_) (fun hc => ⟨fun hg1 => absurd hg1 hc, Ext.refl _⟩)
    obtain rfl := h15_ hg1
    refine (does_len_slice Try.underlying38 (ev rfl)).mono ?_; rintro _ _ ⟨rfl, rfl⟩
    exact ⟨fun _ => rfl, Ext.refl _⟩
  refine RW_d _ rfl (fun v => by dsimp only [List.set]; try rfl) (fun u hu hF => ?_) (fun v38 => ?_)
  · have h16_ : (!(isGrid A_g)) = false → v37 = (Iv (L_fr.length : Int)) := hF.1
    have h14_ : v35 = (Bo (!(isGrid A_g))) := hF.2.1
    clear hF
    obtain rfl := h14_
    refine doesG_g (b := (!(isGrid A_g))) rfl (yld rfl rfl) (fun hg1 => ?_) (fun hc => ⟨fun hg1 => absurd hg1 hc, Ext.refl _⟩)
    obtain rfl := h16_ hg1
    refine (does_icmp (p := (L_fr.length : Int)) (q := 3) (.inr (.inl rfl)) (ev rfl) (ev rfl)).mono ?_; rintro _ _ ⟨rfl, rfl⟩
    exact ⟨fun _ => (by first | rfl | (show _ = _; simp only [hβ1])), Ext.refl _⟩
  refine RW_d _ rfl (fun v => by dsimp only [List.set]; try rfl) (fun u hu hF => ?_) (fun v39 => ?_)
  · have h14_ : v35 = (Bo (!(isGrid A_g))) := hF.1
    have h17_ : (!(isGrid A_g)) = false → v38 = (Bo β1) := hF.2.1
    clear hF
    refine doesG_un rfl ?_
    skip
    obtain rfl := h14_
    refine (does_pick (b := (!(isGrid A_g))) (ev rfl) (ev rfl) (ev rfl)).mono ?_; rintro _ _ ⟨rfl, rfl⟩; refine ⟨?_, Ext.refl _⟩; skip
    cases hbb : (!(isGrid A_g)) <;> simp [hbb] at h17_ ⊢
    all_goals (first | rfl | (subst h17_; rfl) | simp_all)
  refine RW_d _ rfl (fun v => by dsimp only [List.set]; try rfl) (fun u hu hF => ?_) (fun v40 => ?_)
  · have h18_ : v39 = (Bo ((!(isGrid A_g)) || β1)) := hF.1
    clear hF
    refine doesG_un rfl ?_
    obtain rfl := h18_
    refine (does_move (u := (Bo ((!(isGrid A_g)) || β1))) (ev rfl)).mono ?_; rintro _ _ ⟨rfl, rfl⟩
    exact ⟨rfl, Ext.refl _⟩
  refine RW_d _ rfl (fun v => by dsimp only [List.set]; try rfl) (fun u hu hF => ?_) (fun v41 => ?_)
  · have h19_ : v40 = (Bo ((!(isGrid A_g)) || β1)) := hF.1
    clear hF
    obtain rfl := h19_
    refine doesG_g (b := ((!(isGrid A_g)) || β1)) rfl (yld rfl rfl) (fun hg1 => ?_) (fun hc => ⟨fun hg1 => absurd hg1 hc, Ext.refl _⟩)
    refine (does_move (u := (.slice p_ct L_ct.length q_ct)) (ev rfl)).mono ?_; rintro _ _ ⟨rfl, rfl⟩
    exact ⟨fun _ => rfl, Ext.refl _⟩
  refine RW_d _ rfl (fun v => by dsimp only [List.set]; try rfl) (fun u hu hF => ?_) (fun v42 => ?_)
  · have h20_ : ((!(isGrid A_g)) || β1) = false → v41 = (.slice p_ct L_ct.length q_ct) := hF.1
    have h19_ : v40 = (Bo ((!(isGrid A_g)) || β1)) := hF.2.1
    clear hF
    obtain rfl := h19_
    refine doesG_g (b := ((!(isGrid A_g)) || β1)) rfl (yld rfl rfl) (fun hg1 => ?_) (fun hc => ⟨fun hg1 => absurd hg1 hc, Ext.refl _⟩)
    obtain rfl := h20_ hg1
    refine (does_len_slice Try.underlying38 (ev rfl)).mono ?_; rintro _ _ ⟨rfl, rfl⟩
    exact ⟨fun _ => rfl, Ext.refl _⟩
  refine RW_d _ rfl (fun v => by dsimp only [List.set]; try rfl) (fun u hu hF => ?_) (fun v43 => ?_)
  · have h21_ : ((!(isGrid A_g)) || β1) = false → v42 = (Iv (L_ct.length : Int)) := hF.1
    have h19_ : v40 = (Bo ((!(isGrid A_g)) || β1)) := hF.2.1
    clear hF
    obtain rfl := h19_
    refine doesG_g (b := ((!(isGrid A_g)) || β1)) rfl (yld rfl rfl) (fun hg1 => ?_) (fun hc => ⟨fun hg1 => absurd hg1 hc, Ext.refl _⟩)
    obtain rfl := h21_ hg1
    refine (does_icmp (p := (L_ct.length : Int)) (q := 3) (.inr (.inl rfl)) (ev rfl) (ev rfl)).mono ?_; rintro _ _ ⟨rfl, rfl⟩
    exact ⟨fun _ => (by first | rfl | (show _ = _; simp only [hβ2])), Ext.refl _⟩
  refine RW_d _ rfl (fun v => by dsimp only [List.set]; try rfl) (fun u hu hF => ?_) (fun v44 => ?_)
  · have h19_ : v40 = (Bo ((!(isGrid A_g)) || β1)) := hF.1
    have h22_ : ((!(isGrid A_g)) || β1) = false → v43 = (Bo β2) := hF.2.1
    clear hF
    refine doesG_un rfl ?_
    skip
    obtain rfl := h19_
    refine (does_pick (b := ((!(isGrid A_g)) || β1)) (ev rfl) (ev rfl) (ev rfl)).mono ?_; rintro _ _ ⟨rfl, rfl⟩; refine ⟨?_, Ext.refl _⟩; rw [hβ3]; skip
    cases hbb : ((!(isGrid A_g)) || β1) <;> simp [hbb] at h22_ ⊢
    all_goals (first | rfl | (subst h22_; rfl) | simp_all)
  refine RW_fin ?_; intro w45 E46 hP47
  obtain ⟨⟨⟨⟨⟨⟨⟨⟨⟨⟨⟨⟨⟨-, -⟩, -⟩, -⟩, -⟩, -⟩, -⟩, -⟩, -⟩, -⟩, -⟩, -⟩, -⟩, q48⟩ := hP47
  have X49 := Ext.gr X29 E46
  have q48 : v44 = (Bo β3) := q48
  obtain rfl := q48
  show wpList _ _ _ _ (fr [(.agg #[(Fl r1), (Fl r3), (Fl r5), (Fl r7), (Iv A_g.x), (Iv A_g.y), (Iv A_g.z), (.slice p11 A_g.vals.length q12)]), (.slice p_fr L_fr.length q_fr), (.slice p_ct L_ct.length q_ct), (Pt b15 0), Ud, Ud, (Pt b22 0), (Bo false), Ud, Ud, Ud, v32, v33, v34, v35, v36, v37, v38, v39, v40, v41, v42, v43, (Bo β3), Ud, Ud, Ud, Ud, Ud, Ud, Ud, Ud, Ud, Ud, Ud, Ud, Ud, Ud, Ud, Ud, Ud, Ud, Ud, Ud, Ud, Ud, Ud, Ud, Ud, Ud, Ud, Ud, Ud, Ud, Ud, Ud, Ud, Ud, Ud, Ud, Ud, Ud, Ud, Ud, Ud, Ud, Ud, Ud]) _
  refine wpList_nil (hK31 _ _ ?_)
  refine wp_cond_split (t := β3) (ev rfl) (fun c50 => ?_) (fun c50 => ?_)
  · have c50' := c50
    (try simp only [hβ1, hβ2, hβ3] at c50')
    (try simp only [icmp, Bool.and_eq_true, Bool.or_eq_true, Bool.and_eq_false_iff, Bool.or_eq_false_iff, Bool.not_eq_true', Bool.not_eq_false', decide_eq_true_eq, decide_eq_false_iff_not, beq_iff_eq, bne_iff_ne, beq_eq_false_iff_ne, bne_eq_false_iff_eq] at c50')
    have hcf := crpA_i1 (g := A_g) (fr := L_fr) (ct := L_ct) (by assumption)
    refine wp_seq_k fun K51 hK51 => ?_
    refine wp_region_lit ?_
    refine q_is rfl rfl (does_build (parts' := []) (cells := #[(Fl 0), (Fl 0), (Fl 0), (Fl 0), (Iv 0), (Iv 0), (Iv 0), (.slice none 0 0)]) (evp rfl) (by kernel_rfl)) (by dsimp only [List.set]; try rfl) ?_
    refine seqn rfl rfl (does_store (n := 8) (cs := [(Fl 0), (Fl 0), (Fl 0), (Fl 0), (Iv 0), (Iv 0), (Iv 0), (.slice none 0 0)]) (u := (.agg #[(Fl 0), (Fl 0), (Fl 0), (Fl 0), (Iv 0), (Iv 0), (Iv 0), (.slice none 0 0)])) (ev rfl) (ev rfl) Try.sizeOf31 rfl (hB24.ext E46) (Nat.le_of_ble_eq_true rfl) rfl) ?_; rintro _ w54 ⟨rfl, W52, hB53⟩
    change Blk _ _ [(Fl 0), (Fl 0), (Fl 0), (Fl 0), (Iv 0), (Iv 0), (Iv 0), (.slice none 0 0)] at hB53
    have X55 := Below.wr X49 W52 g28
    refine q_is rfl rfl (does_assign (u := (Bo false)) (ev rfl)) (by dsimp only [List.set]; try rfl) ?_
    refine wpList_nil (hK51 _ _ ?_)
    refine wp_ret ?_
    dsimp only [Exit.then, Exit.inBlock]
    refine ret_val (v := (.tuple #[(.agg #[(Fl 0), (Fl 0), (Fl 0), (Fl 0), (Iv 0), (Iv 0), (Iv 0), (.slice none 0 0)]), (Bo false)])) (res_CT rfl (slot rfl) (run_loadAgg (cs := [(Fl 0), (Fl 0), (Fl 0), (Fl 0), (Iv 0), (Iv 0), (Iv 0), (.slice none 0 0)]) Try.isAgg31 Try.sizeOf31 (Blk.cells hB53) rfl) (slot rfl)) X55 ?_
    try simp only [h2, h4, h6, h8, hβ1, hβ2, hβ3] at c50
    have x56 : (crpOk A_g L_fr L_ct) = false := by first | exact crpOk_f hcf | (rw [crpR_f hcf] <;> (show _ = _; dsimp only [zG, zV])) | (rw [crpOk_t hca, crpG_end hca (by assumption) (by omega)] <;> assumption) | (rw [crpR_t hca, crpG_end hca (z := z) (by assumption) (by omega), ‹isGrid (GridT.mk _ _ _ _ _ _) = false›] <;> rfl) | (rw [crpR_t hca, crpG_end hca (z := z) (by assumption) (by omega), ‹isGrid (GridT.mk _ _ _ _ _ _) = true›, gvA_t] <;> first | rfl | assumption | (simp only [h2, h4, h6, h8, hβ1, hβ2, hβ3, c50]; done)) | (rw [crpOk_t hca] <;> first | assumption | rfl) | (rw [crpR_t hca] <;> first | rfl | assumption) | (rw [crpOk_t hca]; simp only [h2, h4, h6, h8, hβ1, hβ2, hβ3, c50]; rfl) | (rw [crpR_t hca]; simp only [h2, h4, h6, h8, hβ1, hβ2, hβ3, c50]; rfl)
    have x57 : cf .f32 0 = (crpR A_g L_fr L_ct).low.x := by first | exact crpOk_f hcf | (rw [crpR_f hcf] <;> (show _ = _; dsimp only [zG, zV])) | (rw [crpOk_t hca, crpG_end hca (by assumption) (by omega)] <;> assumption) | (rw [crpR_t hca, crpG_end hca (z := z) (by assumption) (by omega), ‹isGrid (GridT.mk _ _ _ _ _ _) = false›] <;> rfl) | (rw [crpR_t hca, crpG_end hca (z := z) (by assumption) (by omega), ‹isGrid (GridT.mk _ _ _ _ _ _) = true›, gvA_t] <;> first | rfl | assumption | (simp only [h2, h4, h6, h8, hβ1, hβ2, hβ3, c50]; done)) | (rw [crpOk_t hca] <;> first | assumption | rfl) | (rw [crpR_t hca] <;> first | rfl | assumption) | (rw [crpOk_t hca]; simp only [h2, h4, h6, h8, hβ1, hβ2, hβ3, c50]; rfl) | (rw [crpR_t hca]; simp only [h2, h4, h6, h8, hβ1, hβ2, hβ3, c50]; rfl)
    have x58 : cf .f32 0 = (crpR A_g L_fr L_ct).low.y := by first | exact crpOk_f hcf | (rw [crpR_f hcf] <;> (show _ = _; dsimp only [zG, zV])) | (rw [crpOk_t hca, crpG_end hca (by assumption) (by omega)] <;> assumption) | (rw [crpR_t hca, crpG_end hca (z := z) (by assumption) (by omega), ‹isGrid (GridT.mk _ _ _ _ _ _) = false›] <;> rfl) | (rw [crpR_t hca, crpG_end hca (z := z) (by assumption) (by omega), ‹isGrid (GridT.mk _ _ _ _ _ _) = true›, gvA_t] <;> first | rfl | assumption | (simp only [h2, h4, h6, h8, hβ1, hβ2, hβ3, c50]; done)) | (rw [crpOk_t hca] <;> first | assumption | rfl) | (rw [crpR_t hca] <;> first | rfl | assumption) | (rw [crpOk_t hca]; simp only [h2, h4, h6, h8, hβ1, hβ2, hβ3, c50]; rfl) | (rw [crpR_t hca]; simp only [h2, h4, h6, h8, hβ1, hβ2, hβ3, c50]; rfl)
    have x59 : cf .f32 0 = (crpR A_g L_fr L_ct).low.z := by first | exact crpOk_f hcf | (rw [crpR_f hcf] <;> (show _ = _; dsimp only [zG, zV])) | (rw [crpOk_t hca, crpG_end hca (by assumption) (by omega)] <;> assumption) | (rw [crpR_t hca, crpG_end hca (z := z) (by assumption) (by omega), ‹isGrid (GridT.mk _ _ _ _ _ _) = false›] <;> rfl) | (rw [crpR_t hca, crpG_end hca (z := z) (by assumption) (by omega), ‹isGrid (GridT.mk _ _ _ _ _ _) = true›, gvA_t] <;> first | rfl | assumption | (simp only [h2, h4, h6, h8, hβ1, hβ2, hβ3, c50]; done)) | (rw [crpOk_t hca] <;> first | assumption | rfl) | (rw [crpR_t hca] <;> first | rfl | assumption) | (rw [crpOk_t hca]; simp only [h2, h4, h6, h8, hβ1, hβ2, hβ3, c50]; rfl) | (rw [crpR_t hca]; simp only [h2, h4, h6, h8, hβ1, hβ2, hβ3, c50]; rfl)
    have x60 : cf .f32 0 = (crpR A_g L_fr L_ct).step := by first | exact crpOk_f hcf | (rw [crpR_f hcf] <;> (show _ = _; dsimp only [zG, zV])) | (rw [crpOk_t hca, crpG_end hca (by assumption) (by omega)] <;> assumption) | (rw [crpR_t hca, crpG_end hca (z := z) (by assumption) (by omega), ‹isGrid (GridT.mk _ _ _ _ _ _) = false›] <;> rfl) | (rw [crpR_t hca, crpG_end hca (z := z) (by assumption) (by omega), ‹isGrid (GridT.mk _ _ _ _ _ _) = true›, gvA_t] <;> first | rfl | assumption | (simp only [h2, h4, h6, h8, hβ1, hβ2, hβ3, c50]; done)) | (rw [crpOk_t hca] <;> first | assumption | rfl) | (rw [crpR_t hca] <;> first | rfl | assumption) | (rw [crpOk_t hca]; simp only [h2, h4, h6, h8, hβ1, hβ2, hβ3, c50]; rfl) | (rw [crpR_t hca]; simp only [h2, h4, h6, h8, hβ1, hβ2, hβ3, c50]; rfl)
    have x61 : (crpR A_g L_fr L_ct).x = 0 := by first | exact crpOk_f hcf | (rw [crpR_f hcf] <;> (show _ = _; dsimp only [zG, zV])) | (rw [crpOk_t hca, crpG_end hca (by assumption) (by omega)] <;> assumption) | (rw [crpR_t hca, crpG_end hca (z := z) (by assumption) (by omega), ‹isGrid (GridT.mk _ _ _ _ _ _) = false›] <;> rfl) | (rw [crpR_t hca, crpG_end hca (z := z) (by assumption) (by omega), ‹isGrid (GridT.mk _ _ _ _ _ _) = true›, gvA_t] <;> first | rfl | assumption | (simp only [h2, h4, h6, h8, hβ1, hβ2, hβ3, c50]; done)) | (rw [crpOk_t hca] <;> first | assumption | rfl) | (rw [crpR_t hca] <;> first | rfl | assumption) | (rw [crpOk_t hca]; simp only [h2, h4, h6, h8, hβ1, hβ2, hβ3, c50]; rfl) | (rw [crpR_t hca]; simp only [h2, h4, h6, h8, hβ1, hβ2, hβ3, c50]; rfl)
    have x62 : (crpR A_g L_fr L_ct).y = 0 := by first | exact crpOk_f hcf | (rw [crpR_f hcf] <;> (show _ = _; dsimp only [zG, zV])) | (rw [crpOk_t hca, crpG_end hca (by assumption) (by omega)] <;> assumption) | (rw [crpR_t hca, crpG_end hca (z := z) (by assumption) (by omega), ‹isGrid (GridT.mk _ _ _ _ _ _) = false›] <;> rfl) | (rw [crpR_t hca, crpG_end hca (z := z) (by assumption) (by omega), ‹isGrid (GridT.mk _ _ _ _ _ _) = true›, gvA_t] <;> first | rfl | assumption | (simp only [h2, h4, h6, h8, hβ1, hβ2, hβ3, c50]; done)) | (rw [crpOk_t hca] <;> first | assumption | rfl) | (rw [crpR_t hca] <;> first | rfl | assumption) | (rw [crpOk_t hca]; simp only [h2, h4, h6, h8, hβ1, hβ2, hβ3, c50]; rfl) | (rw [crpR_t hca]; simp only [h2, h4, h6, h8, hβ1, hβ2, hβ3, c50]; rfl)
    have x63 : (crpR A_g L_fr L_ct).z = 0 := by first | exact crpOk_f hcf | (rw [crpR_f hcf] <;> (show _ = _; dsimp only [zG, zV])) | (rw [crpOk_t hca, crpG_end hca (by assumption) (by omega)] <;> assumption) | (rw [crpR_t hca, crpG_end hca (z := z) (by assumption) (by omega), ‹isGrid (GridT.mk _ _ _ _ _ _) = false›] <;> rfl) | (rw [crpR_t hca, crpG_end hca (z := z) (by assumption) (by omega), ‹isGrid (GridT.mk _ _ _ _ _ _) = true›, gvA_t] <;> first | rfl | assumption | (simp only [h2, h4, h6, h8, hβ1, hβ2, hβ3, c50]; done)) | (rw [crpOk_t hca] <;> first | assumption | rfl) | (rw [crpR_t hca] <;> first | rfl | assumption) | (rw [crpOk_t hca]; simp only [h2, h4, h6, h8, hβ1, hβ2, hβ3, c50]; rfl) | (rw [crpR_t hca]; simp only [h2, h4, h6, h8, hβ1, hβ2, hβ3, c50]; rfl)
    have x64 : ([]) = ((crpR A_g L_fr L_ct).vals) := by first | exact crpOk_f hcf | (rw [crpR_f hcf] <;> (show _ = _; dsimp only [zG, zV])) | (rw [crpOk_t hca, crpG_end hca (by assumption) (by omega)] <;> assumption) | (rw [crpR_t hca, crpG_end hca (z := z) (by assumption) (by omega), ‹isGrid (GridT.mk _ _ _ _ _ _) = false›] <;> rfl) | (rw [crpR_t hca, crpG_end hca (z := z) (by assumption) (by omega), ‹isGrid (GridT.mk _ _ _ _ _ _) = true›, gvA_t] <;> first | rfl | assumption | (simp only [h2, h4, h6, h8, hβ1, hβ2, hβ3, c50]; done)) | (rw [crpOk_t hca] <;> first | assumption | rfl) | (rw [crpR_t hca] <;> first | rfl | assumption) | (rw [crpOk_t hca]; simp only [h2, h4, h6, h8, hβ1, hβ2, hβ3, c50]; rfl) | (rw [crpR_t hca]; simp only [h2, h4, h6, h8, hβ1, hβ2, hβ3, c50]; rfl)
    have x65 : ([]) = ((crpR A_g L_fr L_ct).vals) := by first | exact crpOk_f hcf | (rw [crpR_f hcf] <;> (show _ = _; dsimp only [zG, zV])) | (rw [crpOk_t hca, crpG_end hca (by assumption) (by omega)] <;> assumption) | (rw [crpR_t hca, crpG_end hca (z := z) (by assumption) (by omega), ‹isGrid (GridT.mk _ _ _ _ _ _) = false›] <;> rfl) | (rw [crpR_t hca, crpG_end hca (z := z) (by assumption) (by omega), ‹isGrid (GridT.mk _ _ _ _ _ _) = true›, gvA_t] <;> first | rfl | assumption | (simp only [h2, h4, h6, h8, hβ1, hβ2, hβ3, c50]; done)) | (rw [crpOk_t hca] <;> first | assumption | rfl) | (rw [crpR_t hca] <;> first | rfl | assumption) | (rw [crpOk_t hca]; simp only [h2, h4, h6, h8, hβ1, hβ2, hβ3, c50]; rfl) | (rw [crpR_t hca]; simp only [h2, h4, h6, h8, hβ1, hβ2, hβ3, c50]; rfl)
    exact ⟨[(Fl 0), (Fl 0), (Fl 0), (Fl 0), (Iv 0), (Iv 0), (Iv 0), (.slice none 0 0)], [], (by first | rfl | rw [x56]), fun u hu => ⟨0, 0, 0, 0, (.slice none 0 0), (by first | with_reducible rfl | (show _ = _; simp only [x61, x62, x63]) | rfl), x57, x58, x59, x60, (Hang.castL (Sl.hang_nil _ _ _ _) x64) u hu⟩, (WL.cast (WL.nil _ _ _) (congrArg List.length x65))⟩
  have c50' := c50
  (try simp only [hβ1, hβ2, hβ3] at c50')
  (try simp only [icmp, Bool.and_eq_true, Bool.or_eq_true, Bool.and_eq_false_iff, Bool.or_eq_false_iff, Bool.not_eq_true', Bool.not_eq_false', decide_eq_true_eq, decide_eq_false_iff_not, beq_iff_eq, bne_iff_ne, beq_eq_false_iff_ne, bne_eq_false_iff_eq] at c50')
  refine wp_skip (hK30 _ _ ?_)
  refine wp_seq_k fun K66 hK66 => ?_
  refine wp_seq_k fun K67 hK67 => ?_
  refine wp_region_lit ?_
  refine seqd rfl rfl (does_call (args := #[(Pt b15 0)]) cal39 (evs rfl) (c_impl_Grid_counts b15 0 [(Fl r1), (Fl r3), (Fl r5), (Fl r7), (Iv A_g.x), (Iv A_g.y), (Iv A_g.z), (.slice p11 A_g.vals.length q12)] A_g _ (Blk.cells ((hB17.ext E25).ext E46)) ⟨r1, r3, r5, r7, (.slice p11 A_g.vals.length q12), rfl, h2, h4, h6, h8, (Sl.ext hs13 RF.mono X49)⟩)) ?_; rintro _ w69 ⟨E68, rfl⟩
  have X70 := Ext.gr X49 E68
  show wpList _ _ _ _ (fr [(.agg #[(Fl r1), (Fl r3), (Fl r5), (Fl r7), (Iv A_g.x), (Iv A_g.y), (Iv A_g.z), (.slice p11 A_g.vals.length q12)]), (.slice p_fr L_fr.length q_fr), (.slice p_ct L_ct.length q_ct), (Pt b15 0), Ud, Ud, (Pt b22 0), (Bo false), Ud, Ud, Ud, v32, v33, v34, v35, v36, v37, v38, v39, v40, v41, v42, v43, (Bo β3), Ud, (.agg #[(Iv A_g.x), (Iv A_g.y), (Iv A_g.z)]), Ud, Ud, Ud, Ud, Ud, Ud, Ud, Ud, Ud, Ud, Ud, Ud, Ud, Ud, Ud, Ud, Ud, Ud, Ud, Ud, Ud, Ud, Ud, Ud, Ud, Ud, Ud, Ud, Ud, Ud, Ud, Ud, Ud, Ud, Ud, Ud, Ud, Ud, Ud, Ud, Ud, Ud]) _
  refine q_is rfl rfl (does_move (u := (Iv 0)) (ev rfl)) (by dsimp only [List.set]; try rfl) ?_
  refine wpList_nil (hK67 _ _ ?_)
  refine wp_block ?_
  refine loop_unroll 4 ?_
  refine un_step ?_
  refine wp_seq_k fun K71 hK71 => ?_
  refine wp_region_lit ?_
  refine q_is rfl rfl (does_icmp (p := 0) (q := 3) (.inr (.inr (.inl rfl))) (ev rfl) (ev rfl)) (by dsimp only [List.set]; try rfl) ?_
  refine wpList_nil (hK71 _ _ ?_)
  refine wp_seq_k fun K72 hK72 => ?_
  refine wp_cond_true (ev rfl) ?_
  refine wp_skip (hK72 _ _ ?_)
  refine wp_seq_k fun K73 hK73 => ?_
  refine wp_block ?_
  refine wp_seq_k fun K74 hK74 => ?_
  refine wp_region_lit ?_
  refine q_is rfl rfl (does_move (u := (Iv 0)) (ev rfl)) (by dsimp only [List.set]; try rfl) ?_
  refine q_is rfl rfl (does_index_run (r := (Iv A_g.x)) (ev rfl) (ev rfl) (fun w => ix55_0 _ _ _ w)) (by dsimp only [List.set]; try rfl) ?_
  refine q_is rfl rfl (does_assign (u := (Iv 0)) (ev rfl)) (by dsimp only [List.set]; try rfl) ?_
  refine q_is rfl rfl (does_assign (u := (Iv A_g.x)) (ev rfl)) (by dsimp only [List.set]; try rfl) ?_
  refine wpList_nil (hK74 _ _ ?_)
  refine wp_seq_k fun K75 hK75 => ?_
  obtain ⟨β4, hβ4⟩ : ∃ b : Bool, b = (inI (nth L_fr 0) 0 (IntKind.i64.wrap (A_g.x - 1))) := ⟨_, rfl⟩
  obtain ⟨β5, hβ5⟩ : ∃ b : Bool, b = (inI (nth L_ct 0) 1 (IntKind.i64.wrap (A_g.x - (nth L_fr 0)))) := ⟨_, rfl⟩
  refine region_draw (
    [Fact.pure [] (fun v => v = (.slice p_fr L_fr.length q_fr)),
    Fact.pure [] (fun v => v = (Iv 0)),
    Fact.mem [30, 31] (fun v w' => PtrR RI w' v (nth L_fr 0)) (by intro v w1 w2 hx h; exact h.ext RI.mono hx),
    Fact.pure [32] (fun v => v = (Iv (nth L_fr 0))),
    Fact.pure [] (fun v => v = (Iv A_g.x)),
    Fact.pure [34] (fun v => v = (Iv (IntKind.i64.wrap (A_g.x - 1)))),
    Fact.pure [33, 35] (fun v => v = (Bo β4)),
    Fact.pure [36] (fun v => v = (Bo (!β4))),
    Fact.pure [37] (fun v => v = (Bo (!β4))),
    Fact.pure [38] (fun v => (!β4) = false → v = (.slice p_ct L_ct.length q_ct)),
    Fact.pure [38] (fun v => (!β4) = false → v = (Iv 0)),
    Fact.mem [39, 40, 38] (fun v w' => (!β4) = false → PtrR RI w' v (nth L_ct 0)) (by intro v w1 w2 hx h; exact fun hg1 => (h hg1).ext RI.mono hx),
    Fact.pure [41, 38] (fun v => (!β4) = false → v = (Iv (nth L_ct 0))),
    Fact.pure [38] (fun v => (!β4) = false → v = (Iv A_g.x)),
    Fact.pure [38] (fun v => (!β4) = false → v = (.slice p_fr L_fr.length q_fr)),
    Fact.pure [38] (fun v => (!β4) = false → v = (Iv 0)),
    Fact.mem [44, 45, 38] (fun v w' => (!β4) = false → PtrR RI w' v (nth L_fr 0)) (by intro v w1 w2 hx h; exact fun hg1 => (h hg1).ext RI.mono hx),
    Fact.pure [46, 38] (fun v => (!β4) = false → v = (Iv (nth L_fr 0))),
    Fact.pure [43, 47, 38] (fun v => (!β4) = false → v = (Iv (IntKind.i64.wrap (A_g.x - (nth L_fr 0))))),
    Fact.pure [42, 48, 38] (fun v => (!β4) = false → v = (Bo β5)),
    Fact.pure [49, 38] (fun v => (!β4) = false → v = (Bo (!β5))),
    Fact.pure [38, 50] (fun v => v = (Bo ((!β4) || (!β5))))]) mixed (by kernel_rfl) (by intro _ _ d _ _ h; cases d <;> exact h) ?_
  obtain ⟨w76, hw78⟩ : ∃ w', w' = World.drew w69 := ⟨_, rfl⟩; rw [← hw78]; have E77 : Ext w69 w76 := by rw [hw78]; exact Ext.draw _
  clear hw78
  have X79 := Ext.gr X70 E77
  refine RW_d _ rfl (fun v => by dsimp only [List.set]; try rfl) (fun u hu hF => ?_) (fun v80 => ?_)
  · clear hF
    refine doesG_un rfl ?_
    refine (does_move (u := (.slice p_fr L_fr.length q_fr)) (ev rfl)).mono ?_; rintro _ _ ⟨rfl, rfl⟩
    exact ⟨rfl, Ext.refl _⟩
  refine RW_d _ rfl (fun v => by dsimp only [List.set]; try rfl) (fun u hu hF => ?_) (fun v81 => ?_)
  · clear hF
    refine doesG_un rfl ?_
    refine (does_move (u := (Iv 0)) (ev rfl)).mono ?_; rintro _ _ ⟨rfl, rfl⟩
    exact ⟨rfl, Ext.refl _⟩
  refine RW_d _ rfl (fun v => by dsimp only [List.set]; try rfl) (fun u hu hF => ?_) (fun v82 => ?_)
  · have h30_ : v80 = (.slice p_fr L_fr.length q_fr) := hF.1
    have h31_ : v81 = (Iv 0) := hF.2.1
    clear hF
    refine doesG_un rfl ?_
    obtain rfl := h30_
    obtain rfl := h31_
    refine (does_indexSl (R := RI) (i := 0) (xs := L_fr) (e := (nth L_fr 0)) Try.underlying38 Try.sizeOf2 (ev rfl) (ev rfl) (Sl.ext (Sl.ext hv_fr RI.mono (Ext.gr X70 E77)) RI.mono hu) (by omega) (nth_some (by first | omega | (simp only [icmp, Bool.or_eq_false_iff, Bool.not_eq_false', Bool.not_eq_true', bne_eq_false_iff_eq] at hg1; omega)))).mono ?_; rintro v u' ⟨b, of, cs, hv, hc, hR, hu'⟩; subst hu'
    exact ⟨⟨b, of, cs, hv, hc, hR⟩, Ext.refl _⟩
  refine RW_d _ rfl (fun v => by dsimp only [List.set]; try rfl) (fun u hu hF => ?_) (fun v83 => ?_)
  · have h32_ : PtrR RI u v82 (nth L_fr 0) := hF.1
    clear hF
    refine doesG_un rfl ?_
    obtain ⟨b32_, o32_, _, rfl, hc32_, rfl⟩ := h32_
    refine (does_load (u := (Iv (nth L_fr 0))) (ev rfl) Try.isAgg2 (Cells.at hc32_ 0 rfl)).mono ?_; rintro _ _ ⟨rfl, rfl⟩
    exact ⟨rfl, Ext.refl _⟩
  refine RW_d _ rfl (fun v => by dsimp only [List.set]; try rfl) (fun u hu hF => ?_) (fun v84 => ?_)
  · clear hF
    refine doesG_un rfl ?_
    refine (does_move (u := (Iv A_g.x)) (ev rfl)).mono ?_; rintro _ _ ⟨rfl, rfl⟩
    exact ⟨rfl, Ext.refl _⟩
  refine RW_d _ rfl (fun v => by dsimp only [List.set]; try rfl) (fun u hu hF => ?_) (fun v85 => ?_)
  · have h34_ : v84 = (Iv A_g.x) := hF.1
    clear hF
    refine doesG_un rfl ?_
    obtain rfl := h34_
    refine (does_iarith (p := A_g.x) (q := 1) (r := IntKind.i64.wrap (A_g.x - 1)) (ev rfl) (ev rfl) (.inr (.inl ⟨rfl, rfl⟩))).mono ?_; rintro _ _ ⟨rfl, rfl⟩
    exact ⟨rfl, Ext.refl _⟩
  refine RW_d _ rfl (fun v => by dsimp only [List.set]; try rfl) (fun u hu hF => ?_) (fun v86 => ?_)
  · have h33_ : v83 = (Iv (nth L_fr 0)) := hF.1
    have h35_ : v85 = (Iv (IntKind.i64.wrap (A_g.x - 1))) := hF.2.1
    clear hF
    refine doesG_un rfl ?_
    obtain rfl := h33_
    obtain rfl := h35_
    refine (does_call (args := #[(Iv (nth L_fr 0)), (Iv 0), (Iv (IntKind.i64.wrap (A_g.x - 1)))]) cal40 (evs rfl) (c_impl_in (nth L_fr 0) 0 (IntKind.i64.wrap (A_g.x - 1)) _)).mono ?_; rintro v u' ⟨hx, hv⟩
    exact ⟨hv.trans (by simp only [hβ4]), hx⟩
  refine RW_d _ rfl (fun v => by dsimp only [List.set]; try rfl) (fun u hu hF => ?_) (fun v87 => ?_)
  · have h36_ : v86 = (Bo β4) := hF.1
    clear hF
    refine doesG_un rfl ?_
    obtain rfl := h36_
    refine (does_not (ev rfl)).mono ?_; rintro _ _ ⟨rfl, rfl⟩
    exact ⟨rfl, Ext.refl _⟩
  refine RW_d _ rfl (fun v => by dsimp only [List.set]; try rfl) (fun u hu hF => ?_) (fun v88 => ?_)
  · have h37_ : v87 = (Bo (!β4)) := hF.1
    clear hF
    refine doesG_un rfl ?_
    obtain rfl := h37_
    refine (does_move (u := (Bo (!β4))) (ev rfl)).mono ?_; rintro _ _ ⟨rfl, rfl⟩
    exact ⟨rfl, Ext.refl _⟩
  refine RW_d _ rfl (fun v => by dsimp only [List.set]; try rfl) (fun u hu hF => ?_) (fun v89 => ?_)
  · have h38_ : v88 = (Bo (!β4)) := hF.1
    clear hF
    obtain rfl := h38_
    refine doesG_g (b := (!β4)) rfl (yld rfl rfl) (fun hg1 => ?_) (fun hc => ⟨fun hg1 => absurd hg1 hc, Ext.refl _⟩)
    refine (does_move (u := (.slice p_ct L_ct.length q_ct)) (ev rfl)).mono ?_; rintro _ _ ⟨rfl, rfl⟩
    exact ⟨fun _ => rfl, Ext.refl _⟩
  refine RW_d _ rfl (fun v => by dsimp only [List.set]; try rfl) (fun u hu hF => ?_) (fun v90 => ?_)
  · have h38_ : v88 = (Bo (!β4)) := hF.1
    clear hF
    obtain rfl := h38_
    refine doesG_g (b := (!β4)) rfl (yld rfl rfl) (fun hg1 => ?_) (fun hc => ⟨fun hg1 => absurd hg1 hc, Ext.refl _⟩)
    refine (does_move (u := (Iv 0)) (ev rfl)).mono ?_; rintro _ _ ⟨rfl, rfl⟩
    exact ⟨fun _ => rfl, Ext.refl _⟩
  refine RW_d _ rfl (fun v => by dsimp only [List.set]; try rfl) (fun u hu hF => ?_) (fun v91 => ?_)
  · have h39_ : (!β4) = false → v89 = (.slice p_ct L_ct.length q_ct) := hF.1
    have h40_ : (!β4) = false → v90 = (Iv 0) := hF.2.1
    have h38_ : v88 = (Bo (!β4)) := hF.2.2.1
    clear hF
    obtain rfl := h38_
    refine doesG_g (b := (!β4)) rfl (yld rfl rfl) (fun hg1 => ?_) (fun hc => ⟨fun hg1 => absurd hg1 hc, Ext.refl _⟩)
    obtain rfl := h39_ hg1
    obtain rfl := h40_ hg1
    refine (does_indexSl (R := RI) (i := 0) (xs := L_ct) (e := (nth L_ct 0)) Try.underlying38 Try.sizeOf2 (ev rfl) (ev rfl) (Sl.ext (Sl.ext hv_ct RI.mono (Ext.gr X70 E77)) RI.mono hu) (by omega) (nth_some (by first | omega | (simp only [hβ4, icmp, Bool.or_eq_false_iff, Bool.not_eq_false', Bool.not_eq_true', bne_eq_false_iff_eq] at hg1; omega)))).mono ?_; rintro v u' ⟨b, of, cs, hv, hc, hR, hu'⟩; subst hu'
    exact ⟨fun _ => ⟨b, of, cs, hv, hc, hR⟩, Ext.refl _⟩
  refine RW_d _ rfl (fun v => by dsimp only [List.set]; try rfl) (fun u hu hF => ?_) (fun v92 => ?_)
  · have h41_ : (!β4) = false → PtrR RI u v91 (nth L_ct 0) := hF.1
    have h38_ : v88 = (Bo (!β4)) := hF.2.1
    clear hF
    obtain rfl := h38_
    refine doesG_g (b := (!β4)) rfl (yld rfl rfl) (fun hg1 => ?_) (fun hc => ⟨fun hg1 => absurd hg1 hc, Ext.refl _⟩)
    obtain ⟨b41_, o41_, _, rfl, hc41_, rfl⟩ := h41_ hg1
    refine (does_load (u := (Iv (nth L_ct 0))) (ev rfl) Try.isAgg2 (Cells.at hc41_ 0 rfl)).mono ?_; rintro _ _ ⟨rfl, rfl⟩
    exact ⟨fun _ => rfl, Ext.refl _⟩
  refine RW_d _ rfl (fun v => by dsimp only [List.set]; try rfl) (fun u hu hF => ?_) (fun v93 => ?_)
  · have h38_ : v88 = (Bo (!β4)) := hF.1
    clear hF
    obtain rfl := h38_
    refine doesG_g (b := (!β4)) rfl (yld rfl rfl) (fun hg1 => ?_) (fun hc => ⟨fun hg1 => absurd hg1 hc, Ext.refl _⟩)
    refine (does_move (u := (Iv A_g.x)) (ev rfl)).mono ?_; rintro _ _ ⟨rfl, rfl⟩
    exact ⟨fun _ => rfl, Ext.refl _⟩
  refine RW_d _ rfl (fun v => by dsimp only [List.set]; try rfl) (fun u hu hF => ?_) (fun v94 => ?_)
  · have h38_ : v88 = (Bo (!β4)) := hF.1
    clear hF
    obtain rfl := h38_
    refine doesG_g (b := (!β4)) rfl (yld rfl rfl) (fun hg1 => ?_) (fun hc => ⟨fun hg1 => absurd hg1 hc, Ext.refl _⟩)
    refine (does_move (u := (.slice p_fr L_fr.length q_fr)) (ev rfl)).mono ?_; rintro _ _ ⟨rfl, rfl⟩
    exact ⟨fun _ => rfl, Ext.refl _⟩
  refine RW_d _ rfl (fun v => by dsimp only [List.set]; try rfl) (fun u hu hF => ?_) (fun v95 => ?_)
  · have h38_ : v88 = (Bo (!β4)) := hF.1
    clear hF
    obtain rfl := h38_
    refine doesG_g (b := (!β4)) rfl (yld rfl rfl) (fun hg1 => ?_) (fun hc => ⟨fun hg1 => absurd hg1 hc, Ext.refl _⟩)
    refine (does_move (u := (Iv 0)) (ev rfl)).mono ?_; rintro _ _ ⟨rfl, rfl⟩
    exact ⟨fun _ => rfl, Ext.refl _⟩
  refine RW_d _ rfl (fun v => by dsimp only [List.set]; try rfl) (fun u hu hF => ?_) (fun v96 => ?_)
  · have h44_ : (!β4) = false → v94 = (.slice p_fr L_fr.length q_fr) := hF.1
    have h45_ : (!β4) = false → v95 = (Iv 0) := hF.2.1
    have h38_ : v88 = (Bo (!β4)) := hF.2.2.1
    clear hF
    obtain rfl := h38_
    refine doesG_g (b := (!β4)) rfl (yld rfl rfl) (fun hg1 => ?_) (fun hc => ⟨fun hg1 => absurd hg1 hc, Ext.refl _⟩)
    obtain rfl := h44_ hg1
    obtain rfl := h45_ hg1
    refine (does_indexSl (R := RI) (i := 0) (xs := L_fr) (e := (nth L_fr 0)) Try.underlying38 Try.sizeOf2 (ev rfl) (ev rfl) (Sl.ext (Sl.ext hv_fr RI.mono (Ext.gr X70 E77)) RI.mono hu) (by omega) (nth_some (by first | omega | (simp only [hβ4, icmp, Bool.or_eq_false_iff, Bool.not_eq_false', Bool.not_eq_true', bne_eq_false_iff_eq] at hg1; omega)))).mono ?_; rintro v u' ⟨b, of, cs, hv, hc, hR, hu'⟩; subst hu'
    exact ⟨fun _ => ⟨b, of, cs, hv, hc, hR⟩, Ext.refl _⟩
  refine RW_d _ rfl (fun v => by dsimp only [List.set]; try rfl) (fun u hu hF => ?_) (fun v97 => ?_)
  · have h46_ : (!β4) = false → PtrR RI u v96 (nth L_fr 0) := hF.1
    have h38_ : v88 = (Bo (!β4)) := hF.2.1
    clear hF
    obtain rfl := h38_
    refine doesG_g (b := (!β4)) rfl (yld rfl rfl) (fun hg1 => ?_) (fun hc => ⟨fun hg1 => absurd hg1 hc, Ext.refl _⟩)
    obtain ⟨b46_, o46_, _, rfl, hc46_, rfl⟩ := h46_ hg1
    refine (does_load (u := (Iv (nth L_fr 0))) (ev rfl) Try.isAgg2 (Cells.at hc46_ 0 rfl)).mono ?_; rintro _ _ ⟨rfl, rfl⟩
    exact ⟨fun _ => rfl, Ext.refl _⟩
  refine RW_d _ rfl (fun v => by dsimp only [List.set]; try rfl) (fun u hu hF => ?_) (fun v98 => ?_)
  · have h43_ : (!β4) = false → v93 = (Iv A_g.x) := hF.1
    have h47_ : (!β4) = false → v97 = (Iv (nth L_fr 0)) := hF.2.1
    have h38_ : v88 = (Bo (!β4)) := hF.2.2.1
    clear hF
    obtain rfl := h38_
    refine doesG_g (b := (!β4)) rfl (yld rfl rfl) (fun hg1 => ?_) (fun hc => ⟨fun hg1 => absurd hg1 hc, Ext.refl _⟩)
    obtain rfl := h43_ hg1
    obtain rfl := h47_ hg1
    refine (does_iarith (p := A_g.x) (q := (nth L_fr 0)) (r := IntKind.i64.wrap (A_g.x - (nth L_fr 0))) (ev rfl) (ev rfl) (.inr (.inl ⟨rfl, rfl⟩))).mono ?_; rintro _ _ ⟨rfl, rfl⟩
    exact ⟨fun _ => rfl, Ext.refl _⟩
  refine RW_d _ rfl (fun v => by dsimp only [List.set]; try rfl) (fun u hu hF => ?_) (fun v99 => ?_)
  · have h42_ : (!β4) = false → v92 = (Iv (nth L_ct 0)) := hF.1
    have h48_ : (!β4) = false → v98 = (Iv (IntKind.i64.wrap (A_g.x - (nth L_fr 0)))) := hF.2.1
    have h38_ : v88 = (Bo (!β4)) := hF.2.2.1
    clear hF
    obtain rfl := h38_
    refine doesG_g (b := (!β4)) rfl (yld rfl rfl) (fun hg1 => ?_) (fun hc => ⟨fun hg1 => absurd hg1 hc, Ext.refl _⟩)
    obtain rfl := h42_ hg1
    obtain rfl := h48_ hg1
    refine (does_call (args := #[(Iv (nth L_ct 0)), (Iv 1), (Iv (IntKind.i64.wrap (A_g.x - (nth L_fr 0))))]) cal40 (evs rfl) (c_impl_in (nth L_ct 0) 1 (IntKind.i64.wrap (A_g.x - (nth L_fr 0))) _)).mono ?_; rintro v u' ⟨hx, hv⟩
    exact ⟨fun _ => hv.trans (by simp only [hβ5]), hx⟩
  refine RW_d _ rfl (fun v => by dsimp only [List.set]; try rfl) (fun u hu hF => ?_) (fun v100 => ?_)
  · have h49_ : (!β4) = false → v99 = (Bo β5) := hF.1
    have h38_ : v88 = (Bo (!β4)) := hF.2.1
    clear hF
    obtain rfl := h38_
    refine doesG_g (b := (!β4)) rfl (yld rfl rfl) (fun hg1 => ?_) (fun hc => ⟨fun hg1 => absurd hg1 hc, Ext.refl _⟩)
    obtain rfl := h49_ hg1
    refine (does_not (ev rfl)).mono ?_; rintro _ _ ⟨rfl, rfl⟩
    exact ⟨fun _ => rfl, Ext.refl _⟩
  refine RW_d _ rfl (fun v => by dsimp only [List.set]; try rfl) (fun u hu hF => ?_) (fun v101 => ?_)
  · have h38_ : v88 = (Bo (!β4)) := hF.1
    have h50_ : (!β4) = false → v100 = (Bo (!β5)) := hF.2.1
    clear hF
    refine doesG_un rfl ?_
    skip
    obtain rfl := h38_
    refine (does_pick (b := (!β4)) (ev rfl) (ev rfl) (ev rfl)).mono ?_; rintro _ _ ⟨rfl, rfl⟩; refine ⟨?_, Ext.refl _⟩; skip
    cases hbb : (!β4) <;> simp [hbb] at h50_ ⊢
    all_goals (first | rfl | (subst h50_; rfl) | simp_all)
  refine RW_fin ?_; intro w102 E103 hP104
  obtain ⟨⟨⟨⟨⟨⟨⟨⟨⟨⟨⟨⟨⟨⟨⟨⟨⟨⟨⟨⟨⟨⟨-, -⟩, -⟩, -⟩, -⟩, -⟩, -⟩, -⟩, -⟩, -⟩, -⟩, -⟩, -⟩, -⟩, -⟩, -⟩, -⟩, -⟩, -⟩, -⟩, -⟩, -⟩, q105⟩ := hP104
  have X106 := Ext.gr X79 E103
  have q105 : v101 = (Bo ((!β4) || (!β5))) := q105
  obtain rfl := q105
  show wpList _ _ _ _ (fr [(.agg #[(Fl r1), (Fl r3), (Fl r5), (Fl r7), (Iv A_g.x), (Iv A_g.y), (Iv A_g.z), (.slice p11 A_g.vals.length q12)]), (.slice p_fr L_fr.length q_fr), (.slice p_ct L_ct.length q_ct), (Pt b15 0), Ud, Ud, (Pt b22 0), (Bo false), (Iv 0), (Iv A_g.x), Ud, v32, v33, v34, v35, v36, v37, v38, v39, v40, v41, v42, v43, (Bo β3), Ud, (.agg #[(Iv A_g.x), (Iv A_g.y), (Iv A_g.z)]), (Iv 0), (Bo true), (Iv 0), (Iv A_g.x), v80, v81, v82, v83, v84, v85, v86, v87, v88, v89, v90, v91, v92, v93, v94, v95, v96, v97, v98, v99, v100, (Bo ((!β4) || (!β5))), Ud, Ud, Ud, Ud, Ud, Ud, Ud, Ud, Ud, Ud, Ud, Ud, Ud, Ud, Ud, Ud]) _
  refine wpList_nil (hK75 _ _ ?_)
  refine wp_cond_split (t := (!β4) || (!β5)) (ev rfl) (fun c107 => ?_) (fun c107 => ?_)
  · have c107' := c107
    (try simp only [hβ1, hβ2, hβ3, hβ4, hβ5] at c107')
    (try simp only [icmp, Bool.and_eq_true, Bool.or_eq_true, Bool.and_eq_false_iff, Bool.or_eq_false_iff, Bool.not_eq_true', Bool.not_eq_false', decide_eq_true_eq, decide_eq_false_iff_not, beq_iff_eq, bne_iff_ne, beq_eq_false_iff_ne, bne_eq_false_iff_eq] at c107')
    have hcf : crpA A_g L_fr L_ct = false := by first | exact crpA_k0 (by assumption) | exact crpA_k1 (by assumption) | exact crpA_k2 (by assumption)
    refine wp_seq_k fun K108 hK108 => ?_
    refine wp_region_lit ?_
    refine q_is rfl rfl (does_build (parts' := []) (cells := #[(Fl 0), (Fl 0), (Fl 0), (Fl 0), (Iv 0), (Iv 0), (Iv 0), (.slice none 0 0)]) (evp rfl) (by kernel_rfl)) (by dsimp only [List.set]; try rfl) ?_
    refine seqn rfl rfl (does_store (n := 8) (cs := [(Fl 0), (Fl 0), (Fl 0), (Fl 0), (Iv 0), (Iv 0), (Iv 0), (.slice none 0 0)]) (u := (.agg #[(Fl 0), (Fl 0), (Fl 0), (Fl 0), (Iv 0), (Iv 0), (Iv 0), (.slice none 0 0)])) (ev rfl) (ev rfl) Try.sizeOf31 rfl ((((hB24.ext E46).ext E68).ext E77).ext E103) (Nat.le_of_ble_eq_true rfl) rfl) ?_; rintro _ w111 ⟨rfl, W109, hB110⟩
    change Blk _ _ [(Fl 0), (Fl 0), (Fl 0), (Fl 0), (Iv 0), (Iv 0), (Iv 0), (.slice none 0 0)] at hB110
    have X112 := Below.wr X106 W109 g28
    refine q_is rfl rfl (does_assign (u := (Bo false)) (ev rfl)) (by dsimp only [List.set]; try rfl) ?_
    refine wpList_nil (hK108 _ _ ?_)
    refine wp_ret ?_
    dsimp only [Exit.then, Exit.inBlock]
    refine ret_val (v := (.tuple #[(.agg #[(Fl 0), (Fl 0), (Fl 0), (Fl 0), (Iv 0), (Iv 0), (Iv 0), (.slice none 0 0)]), (Bo false)])) (res_CT rfl (slot rfl) (run_loadAgg (cs := [(Fl 0), (Fl 0), (Fl 0), (Fl 0), (Iv 0), (Iv 0), (Iv 0), (.slice none 0 0)]) Try.isAgg31 Try.sizeOf31 (Blk.cells hB110) rfl) (slot rfl)) X112 ?_
    try simp only [h2, h4, h6, h8, hβ1, hβ2, hβ3, hβ4, hβ5] at c50 c107
    have x113 : (crpOk A_g L_fr L_ct) = false := by first | exact crpOk_f hcf | (rw [crpR_f hcf] <;> (show _ = _; dsimp only [zG, zV])) | (rw [crpOk_t hca, crpG_end hca (by assumption) (by omega)] <;> assumption) | (rw [crpR_t hca, crpG_end hca (z := z) (by assumption) (by omega), ‹isGrid (GridT.mk _ _ _ _ _ _) = false›] <;> rfl) | (rw [crpR_t hca, crpG_end hca (z := z) (by assumption) (by omega), ‹isGrid (GridT.mk _ _ _ _ _ _) = true›, gvA_t] <;> first | rfl | assumption | (simp only [h2, h4, h6, h8, hβ1, hβ2, hβ3, hβ4, hβ5, c50, c107]; done)) | (rw [crpOk_t hca] <;> first | assumption | rfl) | (rw [crpR_t hca] <;> first | rfl | assumption) | (rw [crpOk_t hca]; simp only [h2, h4, h6, h8, hβ1, hβ2, hβ3, hβ4, hβ5, c50, c107]; rfl) | (rw [crpR_t hca]; simp only [h2, h4, h6, h8, hβ1, hβ2, hβ3, hβ4, hβ5, c50, c107]; rfl)
    have x114 : cf .f32 0 = (crpR A_g L_fr L_ct).low.x := by first | exact crpOk_f hcf | (rw [crpR_f hcf] <;> (show _ = _; dsimp only [zG, zV])) | (rw [crpOk_t hca, crpG_end hca (by assumption) (by omega)] <;> assumption) | (rw [crpR_t hca, crpG_end hca (z := z) (by assumption) (by omega), ‹isGrid (GridT.mk _ _ _ _ _ _) = false›] <;> rfl) | (rw [crpR_t hca, crpG_end hca (z := z) (by assumption) (by omega), ‹isGrid (GridT.mk _ _ _ _ _ _) = true›, gvA_t] <;> first | rfl | assumption | (simp only [h2, h4, h6, h8, hβ1, hβ2, hβ3, hβ4, hβ5, c50, c107]; done)) | (rw [crpOk_t hca] <;> first | assumption | rfl) | (rw [crpR_t hca] <;> first | rfl | assumption) | (rw [crpOk_t hca]; simp only [h2, h4, h6, h8, hβ1, hβ2, hβ3, hβ4, hβ5, c50, c107]; rfl) | (rw [crpR_t hca]; simp only [h2, h4, h6, h8, hβ1, hβ2, hβ3, hβ4, hβ5, c50, c107]; rfl)
    have x115 : cf .f32 0 = (crpR A_g L_fr L_ct).low.y := by first | exact crpOk_f hcf | (rw [crpR_f hcf] <;> (show _ = _; dsimp only [zG, zV])) | (rw [crpOk_t hca, crpG_end hca (by assumption) (by omega)] <;> assumption) | (rw [crpR_t hca, crpG_end hca (z := z) (by assumption) (by omega), ‹isGrid (GridT.mk _ _ _ _ _ _) = false›] <;> rfl) | (rw [crpR_t hca, crpG_end hca (z := z) (by assumption) (by omega), ‹isGrid (GridT.mk _ _ _ _ _ _) = true›, gvA_t] <;> first | rfl | assumption | (simp only [h2, h4, h6, h8, hβ1, hβ2, hβ3, hβ4, hβ5, c50, c107]; done)) | (rw [crpOk_t hca] <;> first | assumption | rfl) | (rw [crpR_t hca] <;> first | rfl | assumption) | (rw [crpOk_t hca]; simp only [h2, h4, h6, h8, hβ1, hβ2, hβ3, hβ4, hβ5, c50, c107]; rfl) | (rw [crpR_t hca]; simp only [h2, h4, h6, h8, hβ1, hβ2, hβ3, hβ4, hβ5, c50, c107]; rfl)
    have x116 : cf .f32 0 = (crpR A_g L_fr L_ct).low.z := by first | exact crpOk_f hcf | (rw [crpR_f hcf] <;> (show _ = _; dsimp only [zG, zV])) | (rw [crpOk_t hca, crpG_end hca (by assumption) (by omega)] <;> assumption) | (rw [crpR_t hca, crpG_end hca (z := z) (by assumption) (by omega), ‹isGrid (GridT.mk _ _ _ _ _ _) = false›] <;> rfl) | (rw [crpR_t hca, crpG_end hca (z := z) (by assumption) (by omega), ‹isGrid (GridT.mk _ _ _ _ _ _) = true›, gvA_t] <;> first | rfl | assumption | (simp only [h2, h4, h6, h8, hβ1, hβ2, hβ3, hβ4, hβ5, c50, c107]; done)) | (rw [crpOk_t hca] <;> first | assumption | rfl) | (rw [crpR_t hca] <;> first | rfl | assumption) | (rw [crpOk_t hca]; simp only [h2, h4, h6, h8, hβ1, hβ2, hβ3, hβ4, hβ5, c50, c107]; rfl) | (rw [crpR_t hca]; simp only [h2, h4, h6, h8, hβ1, hβ2, hβ3, hβ4, hβ5, c50, c107]; rfl)
    have x117 : cf .f32 0 = (crpR A_g L_fr L_ct).step := by first | exact crpOk_f hcf | (rw [crpR_f hcf] <;> (show _ = _; dsimp only [zG, zV])) | (rw [crpOk_t hca, crpG_end hca (by assumption) (by omega)] <;> assumption) | (rw [crpR_t hca, crpG_end hca (z := z) (by assumption) (by omega), ‹isGrid (GridT.mk _ _ _ _ _ _) = false›] <;> rfl) | (rw [crpR_t hca, crpG_end hca (z := z) (by assumption) (by omega), ‹isGrid (GridT.mk _ _ _ _ _ _) = true›, gvA_t] <;> first | rfl | assumption | (simp only [h2, h4, h6, h8, hβ1, hβ2, hβ3, hβ4, hβ5, c50, c107]; done)) | (rw [crpOk_t hca] <;> first | assumption | rfl) | (rw [crpR_t hca] <;> first | rfl | assumption) | (rw [crpOk_t hca]; simp only [h2, h4, h6, h8, hβ1, hβ2, hβ3, hβ4, hβ5, c50, c107]; rfl) | (rw [crpR_t hca]; simp only [h2, h4, h6, h8, hβ1, hβ2, hβ3, hβ4, hβ5, c50, c107]; rfl)
    have x118 : (crpR A_g L_fr L_ct).x = 0 := by first | exact crpOk_f hcf | (rw [crpR_f hcf] <;> (show _ = _; dsimp only [zG, zV])) | (rw [crpOk_t hca, crpG_end hca (by assumption) (by omega)] <;> assumption) | (rw [crpR_t hca, crpG_end hca (z := z) (by assumption) (by omega), ‹isGrid (GridT.mk _ _ _ _ _ _) = false›] <;> rfl) | (rw [crpR_t hca, crpG_end hca (z := z) (by assumption) (by omega), ‹isGrid (GridT.mk _ _ _ _ _ _) = true›, gvA_t] <;> first | rfl | assumption | (simp only [h2, h4, h6, h8, hβ1, hβ2, hβ3, hβ4, hβ5, c50, c107]; done)) | (rw [crpOk_t hca] <;> first | assumption | rfl) | (rw [crpR_t hca] <;> first | rfl | assumption) | (rw [crpOk_t hca]; simp only [h2, h4, h6, h8, hβ1, hβ2, hβ3, hβ4, hβ5, c50, c107]; rfl) | (rw [crpR_t hca]; simp only [h2, h4, h6, h8, hβ1, hβ2, hβ3, hβ4, hβ5, c50, c107]; rfl)
    have x119 : (crpR A_g L_fr L_ct).y = 0 := by first | exact crpOk_f hcf | (rw [crpR_f hcf] <;> (show _ = _; dsimp only [zG, zV])) | (rw [crpOk_t hca, crpG_end hca (by assumption) (by omega)] <;> assumption) | (rw [crpR_t hca, crpG_end hca (z := z) (by assumption) (by omega), ‹isGrid (GridT.mk _ _ _ _ _ _) = false›] <;> rfl) | (rw [crpR_t hca, crpG_end hca (z := z) (by assumption) (by omega), ‹isGrid (GridT.mk _ _ _ _ _ _) = true›, gvA_t] <;> first | rfl | assumption | (simp only [h2, h4, h6, h8, hβ1, hβ2, hβ3, hβ4, hβ5, c50, c107]; done)) | (rw [crpOk_t hca] <;> first | assumption | rfl) | (rw [crpR_t hca] <;> first | rfl | assumption) | (rw [crpOk_t hca]; simp only [h2, h4, h6, h8, hβ1, hβ2, hβ3, hβ4, hβ5, c50, c107]; rfl) | (rw [crpR_t hca]; simp only [h2, h4, h6, h8, hβ1, hβ2, hβ3, hβ4, hβ5, c50, c107]; rfl)
    have x120 : (crpR A_g L_fr L_ct).z = 0 := by first | exact crpOk_f hcf | (rw [crpR_f hcf] <;> (show _ = _; dsimp only [zG, zV])) | (rw [crpOk_t hca, crpG_end hca (by assumption) (by omega)] <;> assumption) | (rw [crpR_t hca, crpG_end hca (z := z) (by assumption) (by omega), ‹isGrid (GridT.mk _ _ _ _ _ _) = false›] <;> rfl) | (rw [crpR_t hca, crpG_end hca (z := z) (by assumption) (by omega), ‹isGrid (GridT.mk _ _ _ _ _ _) = true›, gvA_t] <;> first | rfl | assumption | (simp only [h2, h4, h6, h8, hβ1, hβ2, hβ3, hβ4, hβ5, c50, c107]; done)) | (rw [crpOk_t hca] <;> first | assumption | rfl) | (rw [crpR_t hca] <;> first | rfl | assumption) | (rw [crpOk_t hca]; simp only [h2, h4, h6, h8, hβ1, hβ2, hβ3, hβ4, hβ5, c50, c107]; rfl) | (rw [crpR_t hca]; simp only [h2, h4, h6, h8, hβ1, hβ2, hβ3, hβ4, hβ5, c50, c107]; rfl)
    have x121 : ([]) = ((crpR A_g L_fr L_ct).vals) := by first | exact crpOk_f hcf | (rw [crpR_f hcf] <;> (show _ = _; dsimp only [zG, zV])) | (rw [crpOk_t hca, crpG_end hca (by assumption) (by omega)] <;> assumption) | (rw [crpR_t hca, crpG_end hca (z := z) (by assumption) (by omega), ‹isGrid (GridT.mk _ _ _ _ _ _) = false›] <;> rfl) | (rw [crpR_t hca, crpG_end hca (z := z) (by assumption) (by omega), ‹isGrid (GridT.mk _ _ _ _ _ _) = true›, gvA_t] <;> first | rfl | assumption | (simp only [h2, h4, h6, h8, hβ1, hβ2, hβ3, hβ4, hβ5, c50, c107]; done)) | (rw [crpOk_t hca] <;> first | assumption | rfl) | (rw [crpR_t hca] <;> first | rfl | assumption) | (rw [crpOk_t hca]; simp only [h2, h4, h6, h8, hβ1, hβ2, hβ3, hβ4, hβ5, c50, c107]; rfl) | (rw [crpR_t hca]; simp only [h2, h4, h6, h8, hβ1, hβ2, hβ3, hβ4, hβ5, c50, c107]; rfl)
    have x122 : ([]) = ((crpR A_g L_fr L_ct).vals) := by first | exact crpOk_f hcf | (rw [crpR_f hcf] <;> (show _ = _; dsimp only [zG, zV])) | (rw [crpOk_t hca, crpG_end hca (by assumption) (by omega)] <;> assumption) | (rw [crpR_t hca, crpG_end hca (z := z) (by assumption) (by omega), ‹isGrid (GridT.mk _ _ _ _ _ _) = false›] <;> rfl) | (rw [crpR_t hca, crpG_end hca (z := z) (by assumption) (by omega), ‹isGrid (GridT.mk _ _ _ _ _ _) = true›, gvA_t] <;> first | rfl | assumption | (simp only [h2, h4, h6, h8, hβ1, hβ2, hβ3, hβ4, hβ5, c50, c107]; done)) | (rw [crpOk_t hca] <;> first | assumption | rfl) | (rw [crpR_t hca] <;> first | rfl | assumption) | (rw [crpOk_t hca]; simp only [h2, h4, h6, h8, hβ1, hβ2, hβ3, hβ4, hβ5, c50, c107]; rfl) | (rw [crpR_t hca]; simp only [h2, h4, h6, h8, hβ1, hβ2, hβ3, hβ4, hβ5, c50, c107]; rfl)
    exact ⟨[(Fl 0), (Fl 0), (Fl 0), (Fl 0), (Iv 0), (Iv 0), (Iv 0), (.slice none 0 0)], [], (by first | rfl | rw [x113]), fun u hu => ⟨0, 0, 0, 0, (.slice none 0 0), (by first | with_reducible rfl | (show _ = _; simp only [x118, x119, x120]) | rfl), x114, x115, x116, x117, (Hang.castL (Sl.hang_nil _ _ _ _) x121) u hu⟩, (WL.cast (WL.nil _ _ _) (congrArg List.length x122))⟩
  have c107' := c107
  (try simp only [hβ1, hβ2, hβ3, hβ4, hβ5] at c107')
  (try simp only [icmp, Bool.and_eq_true, Bool.or_eq_true, Bool.and_eq_false_iff, Bool.or_eq_false_iff, Bool.not_eq_true', Bool.not_eq_false', decide_eq_true_eq, decide_eq_false_iff_not, beq_iff_eq, bne_iff_ne, beq_eq_false_iff_ne, bne_eq_false_iff_eq] at c107')
  try (have hca := crpA_ti (g := A_g) (fr := L_fr) (ct := L_ct) (by assumption) (by assumption) (by assumption) (by assumption); have hcb := crp_bd hca)
  refine wp_skip (hK73 _ _ ?_)
  refine wp_region_lit ?_
  refine q_is rfl rfl (does_iarith (p := 0) (q := 1) (r := (1)) (ev rfl) (ev rfl) (.inl ⟨rfl, rfl⟩)) (by dsimp only [List.set]; try rfl) ?_
  refine q_is rfl rfl (does_move (u := (Iv 1)) (ev rfl)) (by dsimp only [List.set]; try rfl) ?_
  refine wpList_nil ?_
  refine un_step ?_
  refine wp_seq_k fun K123 hK123 => ?_
  refine wp_region_lit ?_
  refine q_is rfl rfl (does_icmp (p := 1) (q := 3) (.inr (.inr (.inl rfl))) (ev rfl) (ev rfl)) (by dsimp only [List.set]; try rfl) ?_
  refine wpList_nil (hK123 _ _ ?_)
  refine wp_seq_k fun K124 hK124 => ?_
  refine wp_cond_true (ev rfl) ?_
  refine wp_skip (hK124 _ _ ?_)
  refine wp_seq_k fun K125 hK125 => ?_
  refine wp_block ?_
  refine wp_seq_k fun K126 hK126 => ?_
  refine wp_region_lit ?_
  refine q_is rfl rfl (does_move (u := (Iv 1)) (ev rfl)) (by dsimp only [List.set]; try rfl) ?_
  refine q_is rfl rfl (does_index_run (r := (Iv A_g.y)) (ev rfl) (ev rfl) (fun w => ix55_1 _ _ _ w)) (by dsimp only [List.set]; try rfl) ?_
  refine q_is rfl rfl (does_assign (u := (Iv 1)) (ev rfl)) (by dsimp only [List.set]; try rfl) ?_
  refine q_is rfl rfl (does_assign (u := (Iv A_g.y)) (ev rfl)) (by dsimp only [List.set]; try rfl) ?_
  refine wpList_nil (hK126 _ _ ?_)
  refine wp_seq_k fun K127 hK127 => ?_
  obtain ⟨β6, hβ6⟩ : ∃ b : Bool, b = (inI (nth L_fr 1) 0 (IntKind.i64.wrap (A_g.y - 1))) := ⟨_, rfl⟩
  obtain ⟨β7, hβ7⟩ : ∃ b : Bool, b = (inI (nth L_ct 1) 1 (IntKind.i64.wrap (A_g.y - (nth L_fr 1)))) := ⟨_, rfl⟩
  refine region_draw (
    [Fact.pure [] (fun v => v = (.slice p_fr L_fr.length q_fr)),
    Fact.pure [] (fun v => v = (Iv 1)),
    Fact.mem [30, 31] (fun v w' => PtrR RI w' v (nth L_fr 1)) (by intro v w1 w2 hx h; exact h.ext RI.mono hx),
    Fact.pure [32] (fun v => v = (Iv (nth L_fr 1))),
    Fact.pure [] (fun v => v = (Iv A_g.y)),
    Fact.pure [34] (fun v => v = (Iv (IntKind.i64.wrap (A_g.y - 1)))),
    Fact.pure [33, 35] (fun v => v = (Bo β6)),
    Fact.pure [36] (fun v => v = (Bo (!β6))),
    Fact.pure [37] (fun v => v = (Bo (!β6))),
    Fact.pure [38] (fun v => (!β6) = false → v = (.slice p_ct L_ct.length q_ct)),
    Fact.pure [38] (fun v => (!β6) = false → v = (Iv 1)),
    Fact.mem [39, 40, 38] (fun v w' => (!β6) = false → PtrR RI w' v (nth L_ct 1)) (by intro v w1 w2 hx h; exact fun hg1 => (h hg1).ext RI.mono hx),
    Fact.pure [41, 38] (fun v => (!β6) = false → v = (Iv (nth L_ct 1))),
    Fact.pure [38] (fun v => (!β6) = false → v = (Iv A_g.y)),
    Fact.pure [38] (fun v => (!β6) = false → v = (.slice p_fr L_fr.length q_fr)),
    Fact.pure [38] (fun v => (!β6) = false → v = (Iv 1)),
    Fact.mem [44, 45, 38] (fun v w' => (!β6) = false → PtrR RI w' v (nth L_fr 1)) (by intro v w1 w2 hx h; exact fun hg1 => (h hg1).ext RI.mono hx),
    Fact.pure [46, 38] (fun v => (!β6) = false → v = (Iv (nth L_fr 1))),
    Fact.pure [43, 47, 38] (fun v => (!β6) = false → v = (Iv (IntKind.i64.wrap (A_g.y - (nth L_fr 1))))),
    Fact.pure [42, 48, 38] (fun v => (!β6) = false → v = (Bo β7)),
    Fact.pure [49, 38] (fun v => (!β6) = false → v = (Bo (!β7))),
    Fact.pure [38, 50] (fun v => v = (Bo ((!β6) || (!β7))))]) mixed (by kernel_rfl) (by intro _ _ d _ _ h; cases d <;> exact h) ?_
  obtain ⟨w128, hw130⟩ : ∃ w', w' = World.drew w102 := ⟨_, rfl⟩; rw [← hw130]; have E129 : Ext w102 w128 := by rw [hw130]; exact Ext.draw _
  clear hw130
  have X131 := Ext.gr X106 E129
  refine RW_d _ rfl (fun v => by dsimp only [List.set]; try rfl) (fun u hu hF => ?_) (fun v132 => ?_)
  · clear hF
    refine doesG_un rfl ?_
    refine (does_move (u := (.slice p_fr L_fr.length q_fr)) (ev rfl)).mono ?_; rintro _ _ ⟨rfl, rfl⟩
    exact ⟨rfl, Ext.refl _⟩
  refine RW_d _ rfl (fun v => by dsimp only [List.set]; try rfl) (fun u hu hF => ?_) (fun v133 => ?_)
  · clear hF
    refine doesG_un rfl ?_
    refine (does_move (u := (Iv 1)) (ev rfl)).mono ?_; rintro _ _ ⟨rfl, rfl⟩
    exact ⟨rfl, Ext.refl _⟩
  refine RW_d _ rfl (fun v => by dsimp only [List.set]; try rfl) (fun u hu hF => ?_) (fun v134 => ?_)
  · have h30_ : v132 = (.slice p_fr L_fr.length q_fr) := hF.1
    have h31_ : v133 = (Iv 1) := hF.2.1
    clear hF
    refine doesG_un rfl ?_
    obtain rfl := h30_
    obtain rfl := h31_
    refine (does_indexSl (R := RI) (i := 1) (xs := L_fr) (e := (nth L_fr 1)) Try.underlying38 Try.sizeOf2 (ev rfl) (ev rfl) (Sl.ext (Sl.ext hv_fr RI.mono (Ext.gr X106 E129)) RI.mono hu) (by omega) (nth_some (by first | omega | (simp only [icmp, Bool.or_eq_false_iff, Bool.not_eq_false', Bool.not_eq_true', bne_eq_false_iff_eq] at hg1; omega)))).mono ?_; rintro v u' ⟨b, of, cs, hv, hc, hR, hu'⟩; subst hu'
    exact ⟨⟨b, of, cs, hv, hc, hR⟩, Ext.refl _⟩
  refine RW_d _ rfl (fun v => by dsimp only [List.set]; try rfl) (fun u hu hF => ?_) (fun v135 => ?_)
  · have h32_ : PtrR RI u v134 (nth L_fr 1) := hF.1
    clear hF
    refine doesG_un rfl ?_
    obtain ⟨b32_, o32_, _, rfl, hc32_, rfl⟩ := h32_
    refine (does_load (u := (Iv (nth L_fr 1))) (ev rfl) Try.isAgg2 (Cells.at hc32_ 0 rfl)).mono ?_; rintro _ _ ⟨rfl, rfl⟩
    exact ⟨rfl, Ext.refl _⟩
  refine RW_d _ rfl (fun v => by dsimp only [List.set]; try rfl) (fun u hu hF => ?_) (fun v136 => ?_)
  · clear hF
    refine doesG_un rfl ?_
    refine (does_move (u := (Iv A_g.y)) (ev rfl)).mono ?_; rintro _ _ ⟨rfl, rfl⟩
    exact ⟨rfl, Ext.refl _⟩
  refine RW_d _ rfl (fun v => by dsimp only [List.set]; try rfl) (fun u hu hF => ?_) (fun v137 => ?_)
  · have h34_ : v136 = (Iv A_g.y) := hF.1
    clear hF
    refine doesG_un rfl ?_
    obtain rfl := h34_
    refine (does_iarith (p := A_g.y) (q := 1) (r := IntKind.i64.wrap (A_g.y - 1)) (ev rfl) (ev rfl) (.inr (.inl ⟨rfl, rfl⟩))).mono ?_; rintro _ _ ⟨rfl, rfl⟩
    exact ⟨rfl, Ext.refl _⟩
  refine RW_d _ rfl (fun v => by dsimp only [List.set]; try rfl) (fun u hu hF => ?_) (fun v138 => ?_)
  · have h33_ : v135 = (Iv (nth L_fr 1)) := hF.1
    have h35_ : v137 = (Iv (IntKind.i64.wrap (A_g.y - 1))) := hF.2.1
    clear hF
    refine doesG_un rfl ?_
    obtain rfl := h33_
    obtain rfl := h35_
    refine (does_call (args := #[(Iv (nth L_fr 1)), (Iv 0), (Iv (IntKind.i64.wrap (A_g.y - 1)))]) cal40 (evs rfl) (c_impl_in (nth L_fr 1) 0 (IntKind.i64.wrap (A_g.y - 1)) _)).mono ?_; rintro v u' ⟨hx, hv⟩
    exact ⟨hv.trans (by simp only [hβ6]), hx⟩
  refine RW_d _ rfl (fun v => by dsimp only [List.set]; try rfl) (fun u hu hF => ?_) (fun v139 => ?_)
  · have h36_ : v138 = (Bo β6) := hF.1
    clear hF
    refine doesG_un rfl ?_
    obtain rfl := h36_
    refine (does_not (ev rfl)).mono ?_; rintro _ _ ⟨rfl, rfl⟩
    exact ⟨rfl, Ext.refl _⟩
  refine RW_d _ rfl (fun v => by dsimp only [List.set]; try rfl) (fun u hu hF => ?_) (fun v140 => ?_)
  · have h37_ : v139 = (Bo (!β6)) := hF.1
    clear hF
    refine doesG_un rfl ?_
    obtain rfl := h37_
    refine (does_move (u := (Bo (!β6))) (ev rfl)).mono ?_; rintro _ _ ⟨rfl, rfl⟩
    exact ⟨rfl, Ext.refl _⟩
  refine RW_d _ rfl (fun v => by dsimp only [List.set]; try rfl) (fun u hu hF => ?_) (fun v141 => ?_)
  · have h38_ : v140 = (Bo (!β6)) := hF.1
    clear hF
    obtain rfl := h38_
    refine doesG_g (b := (!β6)) rfl (yld rfl rfl) (fun hg1 => ?_) (fun hc => ⟨fun hg1 => absurd hg1 hc, Ext.refl _⟩)
    refine (does_move (u := (.slice p_ct L_ct.length q_ct)) (ev rfl)).mono ?_; rintro _ _ ⟨rfl, rfl⟩
    exact ⟨fun _ => rfl, Ext.refl _⟩
  refine RW_d _ rfl (fun v => by dsimp only [List.set]; try rfl) (fun u hu hF => ?_) (fun v142 => ?_)
  · have h38_ : v140 = (Bo (!β6)) := hF.1
    clear hF
    obtain rfl := h38_
    refine doesG_g (b := (!β6)) rfl (yld rfl rfl) (fun hg1 => ?_) (fun hc => ⟨fun hg1 => absurd hg1 hc, Ext.refl _⟩)
    refine (does_move (u := (Iv 1)) (ev rfl)).mono ?_; rintro _ _ ⟨rfl, rfl⟩
    exact ⟨fun _ => rfl, Ext.refl _⟩
  refine RW_d _ rfl (fun v => by dsimp only [List.set]; try rfl) (fun u hu hF => ?_) (fun v143 => ?_)
  · have h39_ : (!β6) = false → v141 = (.slice p_ct L_ct.length q_ct) := hF.1
    have h40_ : (!β6) = false → v142 = (Iv 1) := hF.2.1
    have h38_ : v140 = (Bo (!β6)) := hF.2.2.1
    clear hF
    obtain rfl := h38_
    refine doesG_g (b := (!β6)) rfl (yld rfl rfl) (fun hg1 => ?_) (fun hc => ⟨fun hg1 => absurd hg1 hc, Ext.refl _⟩)
    obtain rfl := h39_ hg1
    obtain rfl := h40_ hg1
    refine (does_indexSl (R := RI) (i := 1) (xs := L_ct) (e := (nth L_ct 1)) Try.underlying38 Try.sizeOf2 (ev rfl) (ev rfl) (Sl.ext (Sl.ext hv_ct RI.mono (Ext.gr X106 E129)) RI.mono hu) (by omega) (nth_some (by first | omega | (simp only [hβ6, icmp, Bool.or_eq_false_iff, Bool.not_eq_false', Bool.not_eq_true', bne_eq_false_iff_eq] at hg1; omega)))).mono ?_; rintro v u' ⟨b, of, cs, hv, hc, hR, hu'⟩; subst hu'
    exact ⟨fun _ => ⟨b, of, cs, hv, hc, hR⟩, Ext.refl _⟩
  refine RW_d _ rfl (fun v => by dsimp only [List.set]; try rfl) (fun u hu hF => ?_) (fun v144 => ?_)
  · have h41_ : (!β6) = false → PtrR RI u v143 (nth L_ct 1) := hF.1
    have h38_ : v140 = (Bo (!β6)) := hF.2.1
    clear hF
    obtain rfl := h38_
    refine doesG_g (b := (!β6)) rfl (yld rfl rfl) (fun hg1 => ?_) (fun hc => ⟨fun hg1 => absurd hg1 hc, Ext.refl _⟩)
    obtain ⟨b41_, o41_, _, rfl, hc41_, rfl⟩ := h41_ hg1
    refine (does_load (u := (Iv (nth L_ct 1))) (ev rfl) Try.isAgg2 (Cells.at hc41_ 0 rfl)).mono ?_; rintro _ _ ⟨rfl, rfl⟩
    exact ⟨fun _ => rfl, Ext.refl _⟩
  refine RW_d _ rfl (fun v => by dsimp only [List.set]; try rfl) (fun u hu hF => ?_) (fun v145 => ?_)
  · have h38_ : v140 = (Bo (!β6)) := hF.1
    clear hF
    obtain rfl := h38_
    refine doesG_g (b := (!β6)) rfl (yld rfl rfl) (fun hg1 => ?_) (fun hc => ⟨fun hg1 => absurd hg1 hc, Ext.refl _⟩)
    refine (does_move (u := (Iv A_g.y)) (ev rfl)).mono ?_; rintro _ _ ⟨rfl, rfl⟩
    exact ⟨fun _ => rfl, Ext.refl _⟩
  refine RW_d _ rfl (fun v => by dsimp only [List.set]; try rfl) (fun u hu hF => ?_) (fun v146 => ?_)
  · have h38_ : v140 = (Bo (!β6)) := hF.1
    clear hF
    obtain rfl := h38_
    refine doesG_g (b := (!β6)) rfl (yld rfl rfl) (fun hg1 => ?_) (fun hc => ⟨fun hg1 => absurd hg1 hc, Ext.refl _⟩)
    refine (does_move (u := (.slice p_fr L_fr.length q_fr)) (ev rfl)).mono ?_; rintro _ _ ⟨rfl, rfl⟩
    exact ⟨fun _ => rfl, Ext.refl _⟩
  refine RW_d _ rfl (fun v => by dsimp only [List.set]; try rfl) (fun u hu hF => ?_) (fun v147 => ?_)
  · have h38_ : v140 = (Bo (!β6)) := hF.1
    clear hF
    obtain rfl := h38_
    refine doesG_g (b := (!β6)) rfl (yld rfl rfl) (fun hg1 => ?_) (fun hc => ⟨fun hg1 => absurd hg1 hc, Ext.refl _⟩)
    refine (does_move (u := (Iv 1)) (ev rfl)).mono ?_; rintro _ _ ⟨rfl, rfl⟩
    exact ⟨fun _ => rfl, Ext.refl _⟩
  refine RW_d _ rfl (fun v => by dsimp only [List.set]; try rfl) (fun u hu hF => ?_) (fun v148 => ?_)
  · have h44_ : (!β6) = false → v146 = (.slice p_fr L_fr.length q_fr) := hF.1
    have h45_ : (!β6) = false → v147 = (Iv 1) := hF.2.1
    have h38_ : v140 = (Bo (!β6)) := hF.2.2.1
    clear hF
    obtain rfl := h38_
    refine doesG_g (b := (!β6)) rfl (yld rfl rfl) (fun hg1 => ?_) (fun hc => ⟨fun hg1 => absurd hg1 hc, Ext.refl _⟩)
    obtain rfl := h44_ hg1
    obtain rfl := h45_ hg1
    refine (does_indexSl (R := RI) (i := 1) (xs := L_fr) (e := (nth L_fr 1)) Try.underlying38 Try.sizeOf2 (ev rfl) (ev rfl) (Sl.ext (Sl.ext hv_fr RI.mono (Ext.gr X106 E129)) RI.mono hu) (by omega) (nth_some (by first | omega | (simp only [hβ6, icmp, Bool.or_eq_false_iff, Bool.not_eq_false', Bool.not_eq_true', bne_eq_false_iff_eq] at hg1; omega)))).mono ?_; rintro v u' ⟨b, of, cs, hv, hc, hR, hu'⟩; subst hu'
    exact ⟨fun _ => ⟨b, of, cs, hv, hc, hR⟩, Ext.refl _⟩
  refine RW_d _ rfl (fun v => by dsimp only [List.set]; try rfl) (fun u hu hF => ?_) (fun v149 => ?_)
  · have h46_ : (!β6) = false → PtrR RI u v148 (nth L_fr 1) := hF.1
    have h38_ : v140 = (Bo (!β6)) := hF.2.1
    clear hF
    obtain rfl := h38_
    refine doesG_g (b := (!β6)) rfl (yld rfl rfl) (fun hg1 => ?_) (fun hc => ⟨fun hg1 => absurd hg1 hc, Ext.refl _⟩)
    obtain ⟨b46_, o46_, _, rfl, hc46_, rfl⟩ := h46_ hg1
    refine (does_load (u := (Iv (nth L_fr 1))) (ev rfl) Try.isAgg2 (Cells.at hc46_ 0 rfl)).mono ?_; rintro _ _ ⟨rfl, rfl⟩
    exact ⟨fun _ => rfl, Ext.refl _⟩
  refine RW_d _ rfl (fun v => by dsimp only [List.set]; try rfl) (fun u hu hF => ?_) (fun v150 => ?_)
  · have h43_ : (!β6) = false → v145 = (Iv A_g.y) := hF.1
    have h47_ : (!β6) = false → v149 = (Iv (nth L_fr 1)) := hF.2.1
    have h38_ : v140 = (Bo (!β6)) := hF.2.2.1
    clear hF
    obtain rfl := h38_
    refine doesG_g (b := (!β6)) rfl (yld rfl rfl) (fun hg1 => ?_) (fun hc => ⟨fun hg1 => absurd hg1 hc, Ext.refl _⟩)
    obtain rfl := h43_ hg1
    obtain rfl := h47_ hg1
    refine (does_iarith (p := A_g.y) (q := (nth L_fr 1)) (r := IntKind.i64.wrap (A_g.y - (nth L_fr 1))) (ev rfl) (ev rfl) (.inr (.inl ⟨rfl, rfl⟩))).mono ?_; rintro _ _ ⟨rfl, rfl⟩
    exact ⟨fun _ => rfl, Ext.refl _⟩
  refine RW_d _ rfl (fun v => by dsimp only [List.set]; try rfl) (fun u hu hF => ?_) (fun v151 => ?_)
  · have h42_ : (!β6) = false → v144 = (Iv (nth L_ct 1)) := hF.1
    have h48_ : (!β6) = false → v150 = (Iv (IntKind.i64.wrap (A_g.y - (nth L_fr 1)))) := hF.2.1
    have h38_ : v140 = (Bo (!β6)) := hF.2.2.1
    clear hF
    obtain rfl := h38_
    refine doesG_g (b := (!β6)) rfl (yld rfl rfl) (fun hg1 => ?_) (fun hc => ⟨fun hg1 => absurd hg1 hc, Ext.refl _⟩)
    obtain rfl := h42_ hg1
    obtain rfl := h48_ hg1
    refine (does_call (args := #[(Iv (nth L_ct 1)), (Iv 1), (Iv (IntKind.i64.wrap (A_g.y - (nth L_fr 1))))]) cal40 (evs rfl) (c_impl_in (nth L_ct 1) 1 (IntKind.i64.wrap (A_g.y - (nth L_fr 1))) _)).mono ?_; rintro v u' ⟨hx, hv⟩
    exact ⟨fun _ => hv.trans (by simp only [hβ7]), hx⟩
  refine RW_d _ rfl (fun v => by dsimp only [List.set]; try rfl) (fun u hu hF => ?_) (fun v152 => ?_)
  · have h49_ : (!β6) = false → v151 = (Bo β7) := hF.1
    have h38_ : v140 = (Bo (!β6)) := hF.2.1
    clear hF
    obtain rfl := h38_
    refine doesG_g (b := (!β6)) rfl (yld rfl rfl) (fun hg1 => ?_) (fun hc => ⟨fun hg1 => absurd hg1 hc, Ext.refl _⟩)
    obtain rfl := h49_ hg1
    refine (does_not (ev rfl)).mono ?_; rintro _ _ ⟨rfl, rfl⟩
    exact ⟨fun _ => rfl, Ext.refl _⟩
  refine RW_d _ rfl (fun v => by dsimp only [List.set]; try rfl) (fun u hu hF => ?_) (fun v153 => ?_)
  · have h38_ : v140 = (Bo (!β6)) := hF.1
    have h50_ : (!β6) = false → v152 = (Bo (!β7)) := hF.2.1
    clear hF
    refine doesG_un rfl ?_
    skip
    obtain rfl := h38_
    refine (does_pick (b := (!β6)) (ev rfl) (ev rfl) (ev rfl)).mono ?_; rintro _ _ ⟨rfl, rfl⟩; refine ⟨?_, Ext.refl _⟩; skip
    cases hbb : (!β6) <;> simp [hbb] at h50_ ⊢
    all_goals (first | rfl | (subst h50_; rfl) | simp_all)
  refine RW_fin ?_; intro w154 E155 hP156
  obtain ⟨⟨⟨⟨⟨⟨⟨⟨⟨⟨⟨⟨⟨⟨⟨⟨⟨⟨⟨⟨⟨⟨-, -⟩, -⟩, -⟩, -⟩, -⟩, -⟩, -⟩, -⟩, -⟩, -⟩, -⟩, -⟩, -⟩, -⟩, -⟩, -⟩, -⟩, -⟩, -⟩, -⟩, -⟩, q157⟩ := hP156
  have X158 := Ext.gr X131 E155
  have q157 : v153 = (Bo ((!β6) || (!β7))) := q157
  obtain rfl := q157
  show wpList _ _ _ _ (fr [(.agg #[(Fl r1), (Fl r3), (Fl r5), (Fl r7), (Iv A_g.x), (Iv A_g.y), (Iv A_g.z), (.slice p11 A_g.vals.length q12)]), (.slice p_fr L_fr.length q_fr), (.slice p_ct L_ct.length q_ct), (Pt b15 0), Ud, Ud, (Pt b22 0), (Bo false), (Iv 1), (Iv A_g.y), Ud, v32, v33, v34, v35, v36, v37, v38, v39, v40, v41, v42, v43, (Bo β3), Ud, (.agg #[(Iv A_g.x), (Iv A_g.y), (Iv A_g.z)]), (Iv 1), (Bo true), (Iv 1), (Iv A_g.y), v132, v133, v134, v135, v136, v137, v138, v139, v140, v141, v142, v143, v144, v145, v146, v147, v148, v149, v150, v151, v152, (Bo ((!β6) || (!β7))), Ud, (Iv 1), Ud, Ud, Ud, Ud, Ud, Ud, Ud, Ud, Ud, Ud, Ud, Ud, Ud, Ud]) _
  refine wpList_nil (hK127 _ _ ?_)
  refine wp_cond_split (t := (!β6) || (!β7)) (ev rfl) (fun c159 => ?_) (fun c159 => ?_)
  · have c159' := c159
    (try simp only [hβ1, hβ2, hβ3, hβ4, hβ5, hβ6, hβ7] at c159')
    (try simp only [icmp, Bool.and_eq_true, Bool.or_eq_true, Bool.and_eq_false_iff, Bool.or_eq_false_iff, Bool.not_eq_true', Bool.not_eq_false', decide_eq_true_eq, decide_eq_false_iff_not, beq_iff_eq, bne_iff_ne, beq_eq_false_iff_ne, bne_eq_false_iff_eq] at c159')
    have hcf : crpA A_g L_fr L_ct = false := by first | exact crpA_k0 (by assumption) | exact crpA_k1 (by assumption) | exact crpA_k2 (by assumption)
    refine wp_seq_k fun K160 hK160 => ?_
    refine wp_region_lit ?_
    refine q_is rfl rfl (does_build (parts' := []) (cells := #[(Fl 0), (Fl 0), (Fl 0), (Fl 0), (Iv 0), (Iv 0), (Iv 0), (.slice none 0 0)]) (evp rfl) (by kernel_rfl)) (by dsimp only [List.set]; try rfl) ?_
    refine seqn rfl rfl (does_store (n := 8) (cs := [(Fl 0), (Fl 0), (Fl 0), (Fl 0), (Iv 0), (Iv 0), (Iv 0), (.slice none 0 0)]) (u := (.agg #[(Fl 0), (Fl 0), (Fl 0), (Fl 0), (Iv 0), (Iv 0), (Iv 0), (.slice none 0 0)])) (ev rfl) (ev rfl) Try.sizeOf31 rfl ((((((hB24.ext E46).ext E68).ext E77).ext E103).ext E129).ext E155) (Nat.le_of_ble_eq_true rfl) rfl) ?_; rintro _ w163 ⟨rfl, W161, hB162⟩
    change Blk _ _ [(Fl 0), (Fl 0), (Fl 0), (Fl 0), (Iv 0), (Iv 0), (Iv 0), (.slice none 0 0)] at hB162
    have X164 := Below.wr X158 W161 g28
    refine q_is rfl rfl (does_assign (u := (Bo false)) (ev rfl)) (by dsimp only [List.set]; try rfl) ?_
    refine wpList_nil (hK160 _ _ ?_)
    refine wp_ret ?_
    dsimp only [Exit.then, Exit.inBlock]
    refine ret_val (v := (.tuple #[(.agg #[(Fl 0), (Fl 0), (Fl 0), (Fl 0), (Iv 0), (Iv 0), (Iv 0), (.slice none 0 0)]), (Bo false)])) (res_CT rfl (slot rfl) (run_loadAgg (cs := [(Fl 0), (Fl 0), (Fl 0), (Fl 0), (Iv 0), (Iv 0), (Iv 0), (.slice none 0 0)]) Try.isAgg31 Try.sizeOf31 (Blk.cells hB162) rfl) (slot rfl)) X164 ?_
    try simp only [h2, h4, h6, h8, hβ1, hβ2, hβ3, hβ4, hβ5, hβ6, hβ7] at c50 c107 c159
    have x165 : (crpOk A_g L_fr L_ct) = false := by first | exact crpOk_f hcf | (rw [crpR_f hcf] <;> (show _ = _; dsimp only [zG, zV])) | (rw [crpOk_t hca, crpG_end hca (by assumption) (by omega)] <;> assumption) | (rw [crpR_t hca, crpG_end hca (z := z) (by assumption) (by omega), ‹isGrid (GridT.mk _ _ _ _ _ _) = false›] <;> rfl) | (rw [crpR_t hca, crpG_end hca (z := z) (by assumption) (by omega), ‹isGrid (GridT.mk _ _ _ _ _ _) = true›, gvA_t] <;> first | rfl | assumption | (simp only [h2, h4, h6, h8, hβ1, hβ2, hβ3, hβ4, hβ5, hβ6, hβ7, c50, c107, c159]; done)) | (rw [crpOk_t hca] <;> first | assumption | rfl) | (rw [crpR_t hca] <;> first | rfl | assumption) | (rw [crpOk_t hca]; simp only [h2, h4, h6, h8, hβ1, hβ2, hβ3, hβ4, hβ5, hβ6, hβ7, c50, c107, c159]; rfl) | (rw [crpR_t hca]; simp only [h2, h4, h6, h8, hβ1, hβ2, hβ3, hβ4, hβ5, hβ6, hβ7, c50, c107, c159]; rfl)
    have x166 : cf .f32 0 = (crpR A_g L_fr L_ct).low.x := by first | exact crpOk_f hcf | (rw [crpR_f hcf] <;> (show _ = _; dsimp only [zG, zV])) | (rw [crpOk_t hca, crpG_end hca (by assumption) (by omega)] <;> assumption) | (rw [crpR_t hca, crpG_end hca (z := z) (by assumption) (by omega), ‹isGrid (GridT.mk _ _ _ _ _ _) = false›] <;> rfl) | (rw [crpR_t hca, crpG_end hca (z := z) (by assumption) (by omega), ‹isGrid (GridT.mk _ _ _ _ _ _) = true›, gvA_t] <;> first | rfl | assumption | (simp only [h2, h4, h6, h8, hβ1, hβ2, hβ3, hβ4, hβ5, hβ6, hβ7, c50, c107, c159]; done)) | (rw [crpOk_t hca] <;> first | assumption | rfl) | (rw [crpR_t hca] <;> first | rfl | assumption) | (rw [crpOk_t hca]; simp only [h2, h4, h6, h8, hβ1, hβ2, hβ3, hβ4, hβ5, hβ6, hβ7, c50, c107, c159]; rfl) | (rw [crpR_t hca]; simp only [h2, h4, h6, h8, hβ1, hβ2, hβ3, hβ4, hβ5, hβ6, hβ7, c50, c107, c159]; rfl)
    have x167 : cf .f32 0 = (crpR A_g L_fr L_ct).low.y := by first | exact crpOk_f hcf | (rw [crpR_f hcf] <;> (show _ = _; dsimp only [zG, zV])) | (rw [crpOk_t hca, crpG_end hca (by assumption) (by omega)] <;> assumption) | (rw [crpR_t hca, crpG_end hca (z := z) (by assumption) (by omega), ‹isGrid (GridT.mk _ _ _ _ _ _) = false›] <;> rfl) | (rw [crpR_t hca, crpG_end hca (z := z) (by assumption) (by omega), ‹isGrid (GridT.mk _ _ _ _ _ _) = true›, gvA_t] <;> first | rfl | assumption | (simp only [h2, h4, h6, h8, hβ1, hβ2, hβ3, hβ4, hβ5, hβ6, hβ7, c50, c107, c159]; done)) | (rw [crpOk_t hca] <;> first | assumption | rfl) | (rw [crpR_t hca] <;> first | rfl | assumption) | (rw [crpOk_t hca]; simp only [h2, h4, h6, h8, hβ1, hβ2, hβ3, hβ4, hβ5, hβ6, hβ7, c50, c107, c159]; rfl) | (rw [crpR_t hca]; simp only [h2, h4, h6, h8, hβ1, hβ2, hβ3, hβ4, hβ5, hβ6, hβ7, c50, c107, c159]; rfl)
    have x168 : cf .f32 0 = (crpR A_g L_fr L_ct).low.z := by first | exact crpOk_f hcf | (rw [crpR_f hcf] <;> (show _ = _; dsimp only [zG, zV])) | (rw [crpOk_t hca, crpG_end hca (by assumption) (by omega)] <;> assumption) | (rw [crpR_t hca, crpG_end hca (z := z) (by assumption) (by omega), ‹isGrid (GridT.mk _ _ _ _ _ _) = false›] <;> rfl) | (rw [crpR_t hca, crpG_end hca (z := z) (by assumption) (by omega), ‹isGrid (GridT.mk _ _ _ _ _ _) = true›, gvA_t] <;> first | rfl | assumption | (simp only [h2, h4, h6, h8, hβ1, hβ2, hβ3, hβ4, hβ5, hβ6, hβ7, c50, c107, c159]; done)) | (rw [crpOk_t hca] <;> first | assumption | rfl) | (rw [crpR_t hca] <;> first | rfl | assumption) | (rw [crpOk_t hca]; simp only [h2, h4, h6, h8, hβ1, hβ2, hβ3, hβ4, hβ5, hβ6, hβ7, c50, c107, c159]; rfl) | (rw [crpR_t hca]; simp only [h2, h4, h6, h8, hβ1, hβ2, hβ3, hβ4, hβ5, hβ6, hβ7, c50, c107, c159]; rfl)
    have x169 : cf .f32 0 = (crpR A_g L_fr L_ct).step := by first | exact crpOk_f hcf | (rw [crpR_f hcf] <;> (show _ = _; dsimp only [zG, zV])) | (rw [crpOk_t hca, crpG_end hca (by assumption) (by omega)] <;> assumption) | (rw [crpR_t hca, crpG_end hca (z := z) (by assumption) (by omega), ‹isGrid (GridT.mk _ _ _ _ _ _) = false›] <;> rfl) | (rw [crpR_t hca, crpG_end hca (z := z) (by assumption) (by omega), ‹isGrid (GridT.mk _ _ _ _ _ _) = true›, gvA_t] <;> first | rfl | assumption | (simp only [h2, h4, h6, h8, hβ1, hβ2, hβ3, hβ4, hβ5, hβ6, hβ7, c50, c107, c159]; done)) | (rw [crpOk_t hca] <;> first | assumption | rfl) | (rw [crpR_t hca] <;> first | rfl | assumption) | (rw [crpOk_t hca]; simp only [h2, h4, h6, h8, hβ1, hβ2, hβ3, hβ4, hβ5, hβ6, hβ7, c50, c107, c159]; rfl) | (rw [crpR_t hca]; simp only [h2, h4, h6, h8, hβ1, hβ2, hβ3, hβ4, hβ5, hβ6, hβ7, c50, c107, c159]; rfl)
    have x170 : (crpR A_g L_fr L_ct).x = 0 := by first | exact crpOk_f hcf | (rw [crpR_f hcf] <;> (show _ = _; dsimp only [zG, zV])) | (rw [crpOk_t hca, crpG_end hca (by assumption) (by omega)] <;> assumption) | (rw [crpR_t hca, crpG_end hca (z := z) (by assumption) (by omega), ‹isGrid (GridT.mk _ _ _ _ _ _) = false›] <;> rfl) | (rw [crpR_t hca, crpG_end hca (z := z) (by assumption) (by omega), ‹isGrid (GridT.mk _ _ _ _ _ _) = true›, gvA_t] <;> first | rfl | assumption | (simp only [h2, h4, h6, h8, hβ1, hβ2, hβ3, hβ4, hβ5, hβ6, hβ7, c50, c107, c159]; done)) | (rw [crpOk_t hca] <;> first | assumption | rfl) | (rw [crpR_t hca] <;> first | rfl | assumption) | (rw [crpOk_t hca]; simp only [h2, h4, h6, h8, hβ1, hβ2, hβ3, hβ4, hβ5, hβ6, hβ7, c50, c107, c159]; rfl) | (rw [crpR_t hca]; simp only [h2, h4, h6, h8, hβ1, hβ2, hβ3, hβ4, hβ5, hβ6, hβ7, c50, c107, c159]; rfl)
    have x171 : (crpR A_g L_fr L_ct).y = 0 := by first | exact crpOk_f hcf | (rw [crpR_f hcf] <;> (show _ = _; dsimp only [zG, zV])) | (rw [crpOk_t hca, crpG_end hca (by assumption) (by omega)] <;> assumption) | (rw [crpR_t hca, crpG_end hca (z := z) (by assumption) (by omega), ‹isGrid (GridT.mk _ _ _ _ _ _) = false›] <;> rfl) | (rw [crpR_t hca, crpG_end hca (z := z) (by assumption) (by omega), ‹isGrid (GridT.mk _ _ _ _ _ _) = true›, gvA_t] <;> first | rfl | assumption | (simp only [h2, h4, h6, h8, hβ1, hβ2, hβ3, hβ4, hβ5, hβ6, hβ7, c50, c107, c159]; done)) | (rw [crpOk_t hca] <;> first | assumption | rfl) | (rw [crpR_t hca] <;> first | rfl | assumption) | (rw [crpOk_t hca]; simp only [h2, h4, h6, h8, hβ1, hβ2, hβ3, hβ4, hβ5, hβ6, hβ7, c50, c107, c159]; rfl) | (rw [crpR_t hca]; simp only [h2, h4, h6, h8, hβ1, hβ2, hβ3, hβ4, hβ5, hβ6, hβ7, c50, c107, c159]; rfl)
    have x172 : (crpR A_g L_fr L_ct).z = 0 := by first | exact crpOk_f hcf | (rw [crpR_f hcf] <;> (show _ = _; dsimp only [zG, zV])) | (rw [crpOk_t hca, crpG_end hca (by assumption) (by omega)] <;> assumption) | (rw [crpR_t hca, crpG_end hca (z := z) (by assumption) (by omega), ‹isGrid (GridT.mk _ _ _ _ _ _) = false›] <;> rfl) | (rw [crpR_t hca, crpG_end hca (z := z) (by assumption) (by omega), ‹isGrid (GridT.mk _ _ _ _ _ _) = true›, gvA_t] <;> first | rfl | assumption | (simp only [h2, h4, h6, h8, hβ1, hβ2, hβ3, hβ4, hβ5, hβ6, hβ7, c50, c107, c159]; done)) | (rw [crpOk_t hca] <;> first | assumption | rfl) | (rw [crpR_t hca] <;> first | rfl | assumption) | (rw [crpOk_t hca]; simp only [h2, h4, h6, h8, hβ1, hβ2, hβ3, hβ4, hβ5, hβ6, hβ7, c50, c107, c159]; rfl) | (rw [crpR_t hca]; simp only [h2, h4, h6, h8, hβ1, hβ2, hβ3, hβ4, hβ5, hβ6, hβ7, c50, c107, c159]; rfl)
    have x173 : ([]) = ((crpR A_g L_fr L_ct).vals) := by first | exact crpOk_f hcf | (rw [crpR_f hcf] <;> (show _ = _; dsimp only [zG, zV])) | (rw [crpOk_t hca, crpG_end hca (by assumption) (by omega)] <;> assumption) | (rw [crpR_t hca, crpG_end hca (z := z) (by assumption) (by omega), ‹isGrid (GridT.mk _ _ _ _ _ _) = false›] <;> rfl) | (rw [crpR_t hca, crpG_end hca (z := z) (by assumption) (by omega), ‹isGrid (GridT.mk _ _ _ _ _ _) = true›, gvA_t] <;> first | rfl | assumption | (simp only [h2, h4, h6, h8, hβ1, hβ2, hβ3, hβ4, hβ5, hβ6, hβ7, c50, c107, c159]; done)) | (rw [crpOk_t hca] <;> first | assumption | rfl) | (rw [crpR_t hca] <;> first | rfl | assumption) | (rw [crpOk_t hca]; simp only [h2, h4, h6, h8, hβ1, hβ2, hβ3, hβ4, hβ5, hβ6, hβ7, c50, c107, c159]; rfl) | (rw [crpR_t hca]; simp only [h2, h4, h6, h8, hβ1, hβ2, hβ3, hβ4, hβ5, hβ6, hβ7, c50, c107, c159]; rfl)
    have x174 : ([]) = ((crpR A_g L_fr L_ct).vals) := by first | exact crpOk_f hcf | (rw [crpR_f hcf] <;> (show _ = _; dsimp only [zG, zV])) | (rw [crpOk_t hca, crpG_end hca (by assumption) (by omega)] <;> assumption) | (rw [crpR_t hca, crpG_end hca (z := z) (by assumption) (by omega), ‹isGrid (GridT.mk _ _ _ _ _ _) = false›] <;> rfl) | (rw [crpR_t hca, crpG_end hca (z := z) (by assumption) (by omega), ‹isGrid (GridT.mk _ _ _ _ _ _) = true›, gvA_t] <;> first | rfl | assumption | (simp only [h2, h4, h6, h8, hβ1, hβ2, hβ3, hβ4, hβ5, hβ6, hβ7, c50, c107, c159]; done)) | (rw [crpOk_t hca] <;> first | assumption | rfl) | (rw [crpR_t hca] <;> first | rfl | assumption) | (rw [crpOk_t hca]; simp only [h2, h4, h6, h8, hβ1, hβ2, hβ3, hβ4, hβ5, hβ6, hβ7, c50, c107, c159]; rfl) | (rw [crpR_t hca]; simp only [h2, h4, h6, h8, hβ1, hβ2, hβ3, hβ4, hβ5, hβ6, hβ7, c50, c107, c159]; rfl)
    exact ⟨[(Fl 0), (Fl 0), (Fl 0), (Fl 0), (Iv 0), (Iv 0), (Iv 0), (.slice none 0 0)], [], (by first | rfl | rw [x165]), fun u hu => ⟨0, 0, 0, 0, (.slice none 0 0), (by first | with_reducible rfl | (show _ = _; simp only [x170, x171, x172]) | rfl), x166, x167, x168, x169, (Hang.castL (Sl.hang_nil _ _ _ _) x173) u hu⟩, (WL.cast (WL.nil _ _ _) (congrArg List.length x174))⟩
  have c159' := c159
  (try simp only [hβ1, hβ2, hβ3, hβ4, hβ5, hβ6, hβ7] at c159')
  (try simp only [icmp, Bool.and_eq_true, Bool.or_eq_true, Bool.and_eq_false_iff, Bool.or_eq_false_iff, Bool.not_eq_true', Bool.not_eq_false', decide_eq_true_eq, decide_eq_false_iff_not, beq_iff_eq, bne_iff_ne, beq_eq_false_iff_ne, bne_eq_false_iff_eq] at c159')
  try (have hca := crpA_ti (g := A_g) (fr := L_fr) (ct := L_ct) (by assumption) (by assumption) (by assumption) (by assumption); have hcb := crp_bd hca)
  refine wp_skip (hK125 _ _ ?_)
  refine wp_region_lit ?_
  refine q_is rfl rfl (does_iarith (p := 1) (q := 1) (r := (2)) (ev rfl) (ev rfl) (.inl ⟨rfl, rfl⟩)) (by dsimp only [List.set]; try rfl) ?_
  refine q_is rfl rfl (does_move (u := (Iv 2)) (ev rfl)) (by dsimp only [List.set]; try rfl) ?_
  refine wpList_nil ?_
  refine un_step ?_
  refine wp_seq_k fun K175 hK175 => ?_
  refine wp_region_lit ?_
  refine q_is rfl rfl (does_icmp (p := 2) (q := 3) (.inr (.inr (.inl rfl))) (ev rfl) (ev rfl)) (by dsimp only [List.set]; try rfl) ?_
  refine wpList_nil (hK175 _ _ ?_)
  refine wp_seq_k fun K176 hK176 => ?_
  refine wp_cond_true (ev rfl) ?_
  refine wp_skip (hK176 _ _ ?_)
  refine wp_seq_k fun K177 hK177 => ?_
  refine wp_block ?_
  refine wp_seq_k fun K178 hK178 => ?_
  refine wp_region_lit ?_
  refine q_is rfl rfl (does_move (u := (Iv 2)) (ev rfl)) (by dsimp only [List.set]; try rfl) ?_
  refine q_is rfl rfl (does_index_run (r := (Iv A_g.z)) (ev rfl) (ev rfl) (fun w => ix55_2 _ _ _ w)) (by dsimp only [List.set]; try rfl) ?_
  refine q_is rfl rfl (does_assign (u := (Iv 2)) (ev rfl)) (by dsimp only [List.set]; try rfl) ?_
  refine q_is rfl rfl (does_assign (u := (Iv A_g.z)) (ev rfl)) (by dsimp only [List.set]; try rfl) ?_
  refine wpList_nil (hK178 _ _ ?_)
  refine wp_seq_k fun K179 hK179 => ?_
  obtain ⟨β8, hβ8⟩ : ∃ b : Bool, b = (inI (nth L_fr 2) 0 (IntKind.i64.wrap (A_g.z - 1))) := ⟨_, rfl⟩
  obtain ⟨β9, hβ9⟩ : ∃ b : Bool, b = (inI (nth L_ct 2) 1 (IntKind.i64.wrap (A_g.z - (nth L_fr 2)))) := ⟨_, rfl⟩
  refine region_draw (
    [Fact.pure [] (fun v => v = (.slice p_fr L_fr.length q_fr)),
    Fact.pure [] (fun v => v = (Iv 2)),
    Fact.mem [30, 31] (fun v w' => PtrR RI w' v (nth L_fr 2)) (by intro v w1 w2 hx h; exact h.ext RI.mono hx),
    Fact.pure [32] (fun v => v = (Iv (nth L_fr 2))),
    Fact.pure [] (fun v => v = (Iv A_g.z)),
    Fact.pure [34] (fun v => v = (Iv (IntKind.i64.wrap (A_g.z - 1)))),
    Fact.pure [33, 35] (fun v => v = (Bo β8)),
    Fact.pure [36] (fun v => v = (Bo (!β8))),
    Fact.pure [37] (fun v => v = (Bo (!β8))),
    Fact.pure [38] (fun v => (!β8) = false → v = (.slice p_ct L_ct.length q_ct)),
    Fact.pure [38] (fun v => (!β8) = false → v = (Iv 2)),
    Fact.mem [39, 40, 38] (fun v w' => (!β8) = false → PtrR RI w' v (nth L_ct 2)) (by intro v w1 w2 hx h; exact fun hg1 => (h hg1).ext RI.mono hx),
    Fact.pure [41, 38] (fun v => (!β8) = false → v = (Iv (nth L_ct 2))),
    Fact.pure [38] (fun v => (!β8) = false → v = (Iv A_g.z)),
    Fact.pure [38] (fun v => (!β8) = false → v = (.slice p_fr L_fr.length q_fr)),
    Fact.pure [38] (fun v => (!β8) = false → v = (Iv 2)),
    Fact.mem [44, 45, 38] (fun v w' => (!β8) = false → PtrR RI w' v (nth L_fr 2)) (by intro v w1 w2 hx h; exact fun hg1 => (h hg1).ext RI.mono hx),
    Fact.pure [46, 38] (fun v => (!β8) = false → v = (Iv (nth L_fr 2))),
    Fact.pure [43, 47, 38] (fun v => (!β8) = false → v = (Iv (IntKind.i64.wrap (A_g.z - (nth L_fr 2))))),
    Fact.pure [42, 48, 38] (fun v => (!β8) = false → v = (Bo β9)),
    Fact.pure [49, 38] (fun v => (!β8) = false → v = (Bo (!β9))),
    Fact.pure [38, 50] (fun v => v = (Bo ((!β8) || (!β9))))]) mixed (by kernel_rfl) (by intro _ _ d _ _ h; cases d <;> exact h) ?_
  obtain ⟨w180, hw182⟩ : ∃ w', w' = World.drew w154 := ⟨_, rfl⟩; rw [← hw182]; have E181 : Ext w154 w180 := by rw [hw182]; exact Ext.draw _
  clear hw182
  have X183 := Ext.gr X158 E181
  refine RW_d _ rfl (fun v => by dsimp only [List.set]; try rfl) (fun u hu hF => ?_) (fun v184 => ?_)
  · clear hF
    refine doesG_un rfl ?_
    refine (does_move (u := (.slice p_fr L_fr.length q_fr)) (ev rfl)).mono ?_; rintro _ _ ⟨rfl, rfl⟩
    exact ⟨rfl, Ext.refl _⟩
  refine RW_d _ rfl (fun v => by dsimp only [List.set]; try rfl) (fun u hu hF => ?_) (fun v185 => ?_)
  · clear hF
    refine doesG_un rfl ?_
    refine (does_move (u := (Iv 2)) (ev rfl)).mono ?_; rintro _ _ ⟨rfl, rfl⟩
    exact ⟨rfl, Ext.refl _⟩
  refine RW_d _ rfl (fun v => by dsimp only [List.set]; try rfl) (fun u hu hF => ?_) (fun v186 => ?_)
  · have h30_ : v184 = (.slice p_fr L_fr.length q_fr) := hF.1
    have h31_ : v185 = (Iv 2) := hF.2.1
    clear hF
    refine doesG_un rfl ?_
    obtain rfl := h30_
    obtain rfl := h31_
    refine (does_indexSl (R := RI) (i := 2) (xs := L_fr) (e := (nth L_fr 2)) Try.underlying38 Try.sizeOf2 (ev rfl) (ev rfl) (Sl.ext (Sl.ext hv_fr RI.mono (Ext.gr X158 E181)) RI.mono hu) (by omega) (nth_some (by first | omega | (simp only [icmp, Bool.or_eq_false_iff, Bool.not_eq_false', Bool.not_eq_true', bne_eq_false_iff_eq] at hg1; omega)))).mono ?_; rintro v u' ⟨b, of, cs, hv, hc, hR, hu'⟩; subst hu'
    exact ⟨⟨b, of, cs, hv, hc, hR⟩, Ext.refl _⟩
  refine RW_d _ rfl (fun v => by dsimp only [List.set]; try rfl) (fun u hu hF => ?_) (fun v187 => ?_)
  · have h32_ : PtrR RI u v186 (nth L_fr 2) := hF.1
    clear hF
    refine doesG_un rfl ?_
    obtain ⟨b32_, o32_, _, rfl, hc32_, rfl⟩ := h32_
    refine (does_load (u := (Iv (nth L_fr 2))) (ev rfl) Try.isAgg2 (Cells.at hc32_ 0 rfl)).mono ?_; rintro _ _ ⟨rfl, rfl⟩
    exact ⟨rfl, Ext.refl _⟩
  refine RW_d _ rfl (fun v => by dsimp only [List.set]; try rfl) (fun u hu hF => ?_) (fun v188 => ?_)
  · clear hF
    refine doesG_un rfl ?_
    refine (does_move (u := (Iv A_g.z)) (ev rfl)).mono ?_; rintro _ _ ⟨rfl, rfl⟩
    exact ⟨rfl, Ext.refl _⟩
  refine RW_d _ rfl (fun v => by dsimp only [List.set]; try rfl) (fun u hu hF => ?_) (fun v189 => ?_)
  · have h34_ : v188 = (Iv A_g.z) := hF.1
    clear hF
    refine doesG_un rfl ?_
    obtain rfl := h34_
    refine (does_iarith (p := A_g.z) (q := 1) (r := IntKind.i64.wrap (A_g.z - 1)) (ev rfl) (ev rfl) (.inr (.inl ⟨rfl, rfl⟩))).mono ?_; rintro _ _ ⟨rfl, rfl⟩
    exact ⟨rfl, Ext.refl _⟩
  refine RW_d _ rfl (fun v => by dsimp only [List.set]; try rfl) (fun u hu hF => ?_) (fun v190 => ?_)
  · have h33_ : v187 = (Iv (nth L_fr 2)) := hF.1
    have h35_ : v189 = (Iv (IntKind.i64.wrap (A_g.z - 1))) := hF.2.1
    clear hF
    refine doesG_un rfl ?_
    obtain rfl := h33_
    obtain rfl := h35_
    refine (does_call (args := #[(Iv (nth L_fr 2)), (Iv 0), (Iv (IntKind.i64.wrap (A_g.z - 1)))]) cal40 (evs rfl) (c_impl_in (nth L_fr 2) 0 (IntKind.i64.wrap (A_g.z - 1)) _)).mono ?_; rintro v u' ⟨hx, hv⟩
    exact ⟨hv.trans (by simp only [hβ8]), hx⟩
  refine RW_d _ rfl (fun v => by dsimp only [List.set]; try rfl) (fun u hu hF => ?_) (fun v191 => ?_)
  · have h36_ : v190 = (Bo β8) := hF.1
    clear hF
    refine doesG_un rfl ?_
    obtain rfl := h36_
    refine (does_not (ev rfl)).mono ?_; rintro _ _ ⟨rfl, rfl⟩
    exact ⟨rfl, Ext.refl _⟩
  refine RW_d _ rfl (fun v => by dsimp only [List.set]; try rfl) (fun u hu hF => ?_) (fun v192 => ?_)
  · have h37_ : v191 = (Bo (!β8)) := hF.1
    clear hF
    refine doesG_un rfl ?_
    obtain rfl := h37_
    refine (does_move (u := (Bo (!β8))) (ev rfl)).mono ?_; rintro _ _ ⟨rfl, rfl⟩
    exact ⟨rfl, Ext.refl _⟩
  refine RW_d _ rfl (fun v => by dsimp only [List.set]; try rfl) (fun u hu hF => ?_) (fun v193 => ?_)
  · have h38_ : v192 = (Bo (!β8)) := hF.1
    clear hF
    obtain rfl := h38_
    refine doesG_g (b := (!β8)) rfl (yld rfl rfl) (fun hg1 => ?_) (fun hc => ⟨fun hg1 => absurd hg1 hc, Ext.refl _⟩)
    refine (does_move (u := (.slice p_ct L_ct.length q_ct)) (ev rfl)).mono ?_; rintro _ _ ⟨rfl, rfl⟩
    exact ⟨fun _ => rfl, Ext.refl _⟩
  refine RW_d _ rfl (fun v => by dsimp only [List.set]; try rfl) (fun u hu hF => ?_) (fun v194 => ?_)
  · have h38_ : v192 = (Bo (!β8)) := hF.1
    clear hF
    obtain rfl := h38_
    refine doesG_g (b := (!β8)) rfl (yld rfl rfl) (fun hg1 => ?_) (fun hc => ⟨fun hg1 => absurd hg1 hc, Ext.refl _⟩)
    refine (does_move (u := (Iv 2)) (ev rfl)).mono ?_; rintro _ _ ⟨rfl, rfl⟩
    exact ⟨fun _ => rfl, Ext.refl _⟩
  refine RW_d _ rfl (fun v => by dsimp only [List.set]; try rfl) (fun u hu hF => ?_) (fun v195 => ?_)
  · have h39_ : (!β8) = false → v193 = (.slice p_ct L_ct.length q_ct) := hF.1
    have h40_ : (!β8) = false → v194 = (Iv 2) := hF.2.1
    have h38_ : v192 = (Bo (!β8)) := hF.2.2.1
    clear hF
    obtain rfl := h38_
    refine doesG_g (b := (!β8)) rfl (yld rfl rfl) (fun hg1 => ?_) (fun hc => ⟨fun hg1 => absurd hg1 hc, Ext.refl _⟩)
    obtain rfl := h39_ hg1
    obtain rfl := h40_ hg1
    refine (does_indexSl (R := RI) (i := 2) (xs := L_ct) (e := (nth L_ct 2)) Try.underlying38 Try.sizeOf2 (ev rfl) (ev rfl) (Sl.ext (Sl.ext hv_ct RI.mono (Ext.gr X158 E181)) RI.mono hu) (by omega) (nth_some (by first | omega | (simp only [hβ8, icmp, Bool.or_eq_false_iff, Bool.not_eq_false', Bool.not_eq_true', bne_eq_false_iff_eq] at hg1; omega)))).mono ?_; rintro v u' ⟨b, of, cs, hv, hc, hR, hu'⟩; subst hu'
    exact ⟨fun _ => ⟨b, of, cs, hv, hc, hR⟩, Ext.refl _⟩
  refine RW_d _ rfl (fun v => by dsimp only [List.set]; try rfl) (fun u hu hF => ?_) (fun v196 => ?_)
  · have h41_ : (!β8) = false → PtrR RI u v195 (nth L_ct 2) := hF.1
    have h38_ : v192 = (Bo (!β8)) := hF.2.1
    clear hF
    obtain rfl := h38_
    refine doesG_g (b := (!β8)) rfl (yld rfl rfl) (fun hg1 => ?_) (fun hc => ⟨fun hg1 => absurd hg1 hc, Ext.refl _⟩)
    obtain ⟨b41_, o41_, _, rfl, hc41_, rfl⟩ := h41_ hg1
    refine (does_load (u := (Iv (nth L_ct 2))) (ev rfl) Try.isAgg2 (Cells.at hc41_ 0 rfl)).mono ?_; rintro _ _ ⟨rfl, rfl⟩
    exact ⟨fun _ => rfl, Ext.refl _⟩
  refine RW_d _ rfl (fun v => by dsimp only [List.set]; try rfl) (fun u hu hF => ?_) (fun v197 => ?_)
  · have h38_ : v192 = (Bo (!β8)) := hF.1
    clear hF
    obtain rfl := h38_
    refine doesG_g (b := (!β8)) rfl (yld rfl rfl) (fun hg1 => ?_) (fun hc => ⟨fun hg1 => absurd hg1 hc, Ext.refl _⟩)
    refine (does_move (u := (Iv A_g.z)) (ev rfl)).mono ?_; rintro _ _ ⟨rfl, rfl⟩
    exact ⟨fun _ => rfl, Ext.refl _⟩
  refine RW_d _ rfl (fun v => by dsimp only [List.set]; try rfl) (fun u hu hF => ?_) (fun v198 => ?_)
  · have h38_ : v192 = (Bo (!β8)) := hF.1
    clear hF
    obtain rfl := h38_
    refine doesG_g (b := (!β8)) rfl (yld rfl rfl) (fun hg1 => ?_) (fun hc => ⟨fun hg1 => absurd hg1 hc, Ext.refl _⟩)
    refine (does_move (u := (.slice p_fr L_fr.length q_fr)) (ev rfl)).mono ?_; rintro _ _ ⟨rfl, rfl⟩
    exact ⟨fun _ => rfl, Ext.refl _⟩
  refine RW_d _ rfl (fun v => by dsimp only [List.set]; try rfl) (fun u hu hF => ?_) (fun v199 => ?_)
  · have h38_ : v192 = (Bo (!β8)) := hF.1
    clear hF
    obtain rfl := h38_
    refine doesG_g (b := (!β8)) rfl (yld rfl rfl) (fun hg1 => ?_) (fun hc => ⟨fun hg1 => absurd hg1 hc, Ext.refl _⟩)
    refine (does_move (u := (Iv 2)) (ev rfl)).mono ?_; rintro _ _ ⟨rfl, rfl⟩
    exact ⟨fun _ => rfl, Ext.refl _⟩
  refine RW_d _ rfl (fun v => by dsimp only [List.set]; try rfl) (fun u hu hF => ?_) (fun v200 => ?_)
  · have h44_ : (!β8) = false → v198 = (.slice p_fr L_fr.length q_fr) := hF.1
    have h45_ : (!β8) = false → v199 = (Iv 2) := hF.2.1
    have h38_ : v192 = (Bo (!β8)) := hF.2.2.1
    clear hF
    obtain rfl := h38_
    refine doesG_g (b := (!β8)) rfl (yld rfl rfl) (fun hg1 => ?_) (fun hc => ⟨fun hg1 => absurd hg1 hc, Ext.refl _⟩)
    obtain rfl := h44_ hg1
    obtain rfl := h45_ hg1
    refine (does_indexSl (R := RI) (i := 2) (xs := L_fr) (e := (nth L_fr 2)) Try.underlying38 Try.sizeOf2 (ev rfl) (ev rfl) (Sl.ext (Sl.ext hv_fr RI.mono (Ext.gr X158 E181)) RI.mono hu) (by omega) (nth_some (by first | omega | (simp only [hβ8, icmp, Bool.or_eq_false_iff, Bool.not_eq_false', Bool.not_eq_true', bne_eq_false_iff_eq] at hg1; omega)))).mono ?_; rintro v u' ⟨b, of, cs, hv, hc, hR, hu'⟩; subst hu'
    exact ⟨fun _ => ⟨b, of, cs, hv, hc, hR⟩, Ext.refl _⟩
  refine RW_d _ rfl (fun v => by dsimp only [List.set]; try rfl) (fun u hu hF => ?_) (fun v201 => ?_)
  · have h46_ : (!β8) = false → PtrR RI u v200 (nth L_fr 2) := hF.1
    have h38_ : v192 = (Bo (!β8)) := hF.2.1
    clear hF
    obtain rfl := h38_
    refine doesG_g (b := (!β8)) rfl (yld rfl rfl) (fun hg1 => ?_) (fun hc => ⟨fun hg1 => absurd hg1 hc, Ext.refl _⟩)
    obtain ⟨b46_, o46_, _, rfl, hc46_, rfl⟩ := h46_ hg1
    refine (does_load (u := (Iv (nth L_fr 2))) (ev rfl) Try.isAgg2 (Cells.at hc46_ 0 rfl)).mono ?_; rintro _ _ ⟨rfl, rfl⟩
    exact ⟨fun _ => rfl, Ext.refl _⟩
  refine RW_d _ rfl (fun v => by dsimp only [List.set]; try rfl) (fun u hu hF => ?_) (fun v202 => ?_)
  · have h43_ : (!β8) = false → v197 = (Iv A_g.z) := hF.1
    have h47_ : (!β8) = false → v201 = (Iv (nth L_fr 2)) := hF.2.1
    have h38_ : v192 = (Bo (!β8)) := hF.2.2.1
    clear hF
    obtain rfl := h38_
    refine doesG_g (b := (!β8)) rfl (yld rfl rfl) (fun hg1 => ?_) (fun hc => ⟨fun hg1 => absurd hg1 hc, Ext.refl _⟩)
    obtain rfl := h43_ hg1
    obtain rfl := h47_ hg1
    refine (does_iarith (p := A_g.z) (q := (nth L_fr 2)) (r := IntKind.i64.wrap (A_g.z - (nth L_fr 2))) (ev rfl) (ev rfl) (.inr (.inl ⟨rfl, rfl⟩))).mono ?_; rintro _ _ ⟨rfl, rfl⟩
    exact ⟨fun _ => rfl, Ext.refl _⟩
  refine RW_d _ rfl (fun v => by dsimp only [List.set]; try rfl) (fun u hu hF => ?_) (fun v203 => ?_)
  · have h42_ : (!β8) = false → v196 = (Iv (nth L_ct 2)) := hF.1
    have h48_ : (!β8) = false → v202 = (Iv (IntKind.i64.wrap (A_g.z - (nth L_fr 2)))) := hF.2.1
    have h38_ : v192 = (Bo (!β8)) := hF.2.2.1
    clear hF
    obtain rfl := h38_
    refine doesG_g (b := (!β8)) rfl (yld rfl rfl) (fun hg1 => ?_) (fun hc => ⟨fun hg1 => absurd hg1 hc, Ext.refl _⟩)
    obtain rfl := h42_ hg1
    obtain rfl := h48_ hg1
    refine (does_call (args := #[(Iv (nth L_ct 2)), (Iv 1), (Iv (IntKind.i64.wrap (A_g.z - (nth L_fr 2))))]) cal40 (evs rfl) (c_impl_in (nth L_ct 2) 1 (IntKind.i64.wrap (A_g.z - (nth L_fr 2))) _)).mono ?_; rintro v u' ⟨hx, hv⟩
    exact ⟨fun _ => hv.trans (by simp only [hβ9]), hx⟩
  refine RW_d _ rfl (fun v => by dsimp only [List.set]; try rfl) (fun u hu hF => ?_) (fun v204 => ?_)
  · have h49_ : (!β8) = false → v203 = (Bo β9) := hF.1
    have h38_ : v192 = (Bo (!β8)) := hF.2.1
    clear hF
    obtain rfl := h38_
    refine doesG_g (b := (!β8)) rfl (yld rfl rfl) (fun hg1 => ?_) (fun hc => ⟨fun hg1 => absurd hg1 hc, Ext.refl _⟩)
    obtain rfl := h49_ hg1
    refine (does_not (ev rfl)).mono ?_; rintro _ _ ⟨rfl, rfl⟩
    exact ⟨fun _ => rfl, Ext.refl _⟩
  refine RW_d _ rfl (fun v => by dsimp only [List.set]; try rfl) (fun u hu hF => ?_) (fun v205 => ?_)
  · have h38_ : v192 = (Bo (!β8)) := hF.1
    have h50_ : (!β8) = false → v204 = (Bo (!β9)) := hF.2.1
    clear hF
    refine doesG_un rfl ?_
    skip
    obtain rfl := h38_
    refine (does_pick (b := (!β8)) (ev rfl) (ev rfl) (ev rfl)).mono ?_; rintro _ _ ⟨rfl, rfl⟩; refine ⟨?_, Ext.refl _⟩; skip
    cases hbb : (!β8) <;> simp [hbb] at h50_ ⊢
    all_goals (first | rfl | (subst h50_; rfl) | simp_all)
  refine RW_fin ?_; intro w206 E207 hP208
  obtain ⟨⟨⟨⟨⟨⟨⟨⟨⟨⟨⟨⟨⟨⟨⟨⟨⟨⟨⟨⟨⟨⟨-, -⟩, -⟩, -⟩, -⟩, -⟩, -⟩, -⟩, -⟩, -⟩, -⟩, -⟩, -⟩, -⟩, -⟩, -⟩, -⟩, -⟩, -⟩, -⟩, -⟩, -⟩, q209⟩ := hP208
  have X210 := Ext.gr X183 E207
  have q209 : v205 = (Bo ((!β8) || (!β9))) := q209
  obtain rfl := q209
  show wpList _ _ _ _ (fr [(.agg #[(Fl r1), (Fl r3), (Fl r5), (Fl r7), (Iv A_g.x), (Iv A_g.y), (Iv A_g.z), (.slice p11 A_g.vals.length q12)]), (.slice p_fr L_fr.length q_fr), (.slice p_ct L_ct.length q_ct), (Pt b15 0), Ud, Ud, (Pt b22 0), (Bo false), (Iv 2), (Iv A_g.z), Ud, v32, v33, v34, v35, v36, v37, v38, v39, v40, v41, v42, v43, (Bo β3), Ud, (.agg #[(Iv A_g.x), (Iv A_g.y), (Iv A_g.z)]), (Iv 2), (Bo true), (Iv 2), (Iv A_g.z), v184, v185, v186, v187, v188, v189, v190, v191, v192, v193, v194, v195, v196, v197, v198, v199, v200, v201, v202, v203, v204, (Bo ((!β8) || (!β9))), Ud, (Iv 2), Ud, Ud, Ud, Ud, Ud, Ud, Ud, Ud, Ud, Ud, Ud, Ud, Ud, Ud]) _
  refine wpList_nil (hK179 _ _ ?_)
  refine wp_cond_split (t := (!β8) || (!β9)) (ev rfl) (fun c211 => ?_) (fun c211 => ?_)
  · have c211' := c211
    (try simp only [hβ1, hβ2, hβ3, hβ4, hβ5, hβ6, hβ7, hβ8, hβ9] at c211')
    (try simp only [icmp, Bool.and_eq_true, Bool.or_eq_true, Bool.and_eq_false_iff, Bool.or_eq_false_iff, Bool.not_eq_true', Bool.not_eq_false', decide_eq_true_eq, decide_eq_false_iff_not, beq_iff_eq, bne_iff_ne, beq_eq_false_iff_ne, bne_eq_false_iff_eq] at c211')
    have hcf : crpA A_g L_fr L_ct = false := by first | exact crpA_k0 (by assumption) | exact crpA_k1 (by assumption) | exact crpA_k2 (by assumption)
    refine wp_seq_k fun K212 hK212 => ?_
    refine wp_region_lit ?_
    refine q_is rfl rfl (does_build (parts' := []) (cells := #[(Fl 0), (Fl 0), (Fl 0), (Fl 0), (Iv 0), (Iv 0), (Iv 0), (.slice none 0 0)]) (evp rfl) (by kernel_rfl)) (by dsimp only [List.set]; try rfl) ?_
    refine seqn rfl rfl (does_store (n := 8) (cs := [(Fl 0), (Fl 0), (Fl 0), (Fl 0), (Iv 0), (Iv 0), (Iv 0), (.slice none 0 0)]) (u := (.agg #[(Fl 0), (Fl 0), (Fl 0), (Fl 0), (Iv 0), (Iv 0), (Iv 0), (.slice none 0 0)])) (ev rfl) (ev rfl) Try.sizeOf31 rfl ((((((((hB24.ext E46).ext E68).ext E77).ext E103).ext E129).ext E155).ext E181).ext E207) (Nat.le_of_ble_eq_true rfl) rfl) ?_; rintro _ w215 ⟨rfl, W213, hB214⟩
    change Blk _ _ [(Fl 0), (Fl 0), (Fl 0), (Fl 0), (Iv 0), (Iv 0), (Iv 0), (.slice none 0 0)] at hB214
    have X216 := Below.wr X210 W213 g28
    refine q_is rfl rfl (does_assign (u := (Bo false)) (ev rfl)) (by dsimp only [List.set]; try rfl) ?_
    refine wpList_nil (hK212 _ _ ?_)
    refine wp_ret ?_
    dsimp only [Exit.then, Exit.inBlock]
    refine ret_val (v := (.tuple #[(.agg #[(Fl 0), (Fl 0), (Fl 0), (Fl 0), (Iv 0), (Iv 0), (Iv 0), (.slice none 0 0)]), (Bo false)])) (res_CT rfl (slot rfl) (run_loadAgg (cs := [(Fl 0), (Fl 0), (Fl 0), (Fl 0), (Iv 0), (Iv 0), (Iv 0), (.slice none 0 0)]) Try.isAgg31 Try.sizeOf31 (Blk.cells hB214) rfl) (slot rfl)) X216 ?_
    try simp only [h2, h4, h6, h8, hβ1, hβ2, hβ3, hβ4, hβ5, hβ6, hβ7, hβ8, hβ9] at c50 c107 c159 c211
    have x217 : (crpOk A_g L_fr L_ct) = false := by first | exact crpOk_f hcf | (rw [crpR_f hcf] <;> (show _ = _; dsimp only [zG, zV])) | (rw [crpOk_t hca, crpG_end hca (by assumption) (by omega)] <;> assumption) | (rw [crpR_t hca, crpG_end hca (z := z) (by assumption) (by omega), ‹isGrid (GridT.mk _ _ _ _ _ _) = false›] <;> rfl) | (rw [crpR_t hca, crpG_end hca (z := z) (by assumption) (by omega), ‹isGrid (GridT.mk _ _ _ _ _ _) = true›, gvA_t] <;> first | rfl | assumption | (simp only [h2, h4, h6, h8, hβ1, hβ2, hβ3, hβ4, hβ5, hβ6, hβ7, hβ8, hβ9, c50, c107, c159, c211]; done)) | (rw [crpOk_t hca] <;> first | assumption | rfl) | (rw [crpR_t hca] <;> first | rfl | assumption) | (rw [crpOk_t hca]; simp only [h2, h4, h6, h8, hβ1, hβ2, hβ3, hβ4, hβ5, hβ6, hβ7, hβ8, hβ9, c50, c107, c159, c211]; rfl) | (rw [crpR_t hca]; simp only [h2, h4, h6, h8, hβ1, hβ2, hβ3, hβ4, hβ5, hβ6, hβ7, hβ8, hβ9, c50, c107, c159, c211]; rfl)
    have x218 : cf .f32 0 = (crpR A_g L_fr L_ct).low.x := by first | exact crpOk_f hcf | (rw [crpR_f hcf] <;> (show _ = _; dsimp only [zG, zV])) | (rw [crpOk_t hca, crpG_end hca (by assumption) (by omega)] <;> assumption) | (rw [crpR_t hca, crpG_end hca (z := z) (by assumption) (by omega), ‹isGrid (GridT.mk _ _ _ _ _ _) = false›] <;> rfl) | (rw [crpR_t hca, crpG_end hca (z := z) (by assumption) (by omega), ‹isGrid (GridT.mk _ _ _ _ _ _) = true›, gvA_t] <;> first | rfl | assumption | (simp only [h2, h4, h6, h8, hβ1, hβ2, hβ3, hβ4, hβ5, hβ6, hβ7, hβ8, hβ9, c50, c107, c159, c211]; done)) | (rw [crpOk_t hca] <;> first | assumption | rfl) | (rw [crpR_t hca] <;> first | rfl | assumption) | (rw [crpOk_t hca]; simp only [h2, h4, h6, h8, hβ1, hβ2, hβ3, hβ4, hβ5, hβ6, hβ7, hβ8, hβ9, c50, c107, c159, c211]; rfl) | (rw [crpR_t hca]; simp only [h2, h4, h6, h8, hβ1, hβ2, hβ3, hβ4, hβ5, hβ6, hβ7, hβ8, hβ9, c50, c107, c159, c211]; rfl)
    have x219 : cf .f32 0 = (crpR A_g L_fr L_ct).low.y := by first | exact crpOk_f hcf | (rw [crpR_f hcf] <;> (show _ = _; dsimp only [zG, zV])) | (rw [crpOk_t hca, crpG_end hca (by assumption) (by omega)] <;> assumption) | (rw [crpR_t hca, crpG_end hca (z := z) (by assumption) (by omega), ‹isGrid (GridT.mk _ _ _ _ _ _) = false›] <;> rfl) | (rw [crpR_t hca, crpG_end hca (z := z) (by assumption) (by omega), ‹isGrid (GridT.mk _ _ _ _ _ _) = true›, gvA_t] <;> first | rfl | assumption | (simp only [h2, h4, h6, h8, hβ1, hβ2, hβ3, hβ4, hβ5, hβ6, hβ7, hβ8, hβ9, c50, c107, c159, c211]; done)) | (rw [crpOk_t hca] <;> first | assumption | rfl) | (rw [crpR_t hca] <;> first | rfl | assumption) | (rw [crpOk_t hca]; simp only [h2, h4, h6, h8, hβ1, hβ2, hβ3, hβ4, hβ5, hβ6, hβ7, hβ8, hβ9, c50, c107, c159, c211]; rfl) | (rw [crpR_t hca]; simp only [h2, h4, h6, h8, hβ1, hβ2, hβ3, hβ4, hβ5, hβ6, hβ7, hβ8, hβ9, c50, c107, c159, c211]; rfl)
    have x220 : cf .f32 0 = (crpR A_g L_fr L_ct).low.z := by first | exact crpOk_f hcf | (rw [crpR_f hcf] <;> (show _ = _; dsimp only [zG, zV])) | (rw [crpOk_t hca, crpG_end hca (by assumption) (by omega)] <;> assumption) | (rw [crpR_t hca, crpG_end hca (z := z) (by assumption) (by omega), ‹isGrid (GridT.mk _ _ _ _ _ _) = false›] <;> rfl) | (rw [crpR_t hca, crpG_end hca (z := z) (by assumption) (by omega), ‹isGrid (GridT.mk _ _ _ _ _ _) = true›, gvA_t] <;> first | rfl | assumption | (simp only [h2, h4, h6, h8, hβ1, hβ2, hβ3, hβ4, hβ5, hβ6, hβ7, hβ8, hβ9, c50, c107, c159, c211]; done)) | (rw [crpOk_t hca] <;> first | assumption | rfl) | (rw [crpR_t hca] <;> first | rfl | assumption) | (rw [crpOk_t hca]; simp only [h2, h4, h6, h8, hβ1, hβ2, hβ3, hβ4, hβ5, hβ6, hβ7, hβ8, hβ9, c50, c107, c159, c211]; rfl) | (rw [crpR_t hca]; simp only [h2, h4, h6, h8, hβ1, hβ2, hβ3, hβ4, hβ5, hβ6, hβ7, hβ8, hβ9, c50, c107, c159, c211]; rfl)
    have x221 : cf .f32 0 = (crpR A_g L_fr L_ct).step := by first | exact crpOk_f hcf | (rw [crpR_f hcf] <;> (show _ = _; dsimp only [zG, zV])) | (rw [crpOk_t hca, crpG_end hca (by assumption) (by omega)] <;> assumption) | (rw [crpR_t hca, crpG_end hca (z := z) (by assumption) (by omega), ‹isGrid (GridT.mk _ _ _ _ _ _) = false›] <;> rfl) | (rw [crpR_t hca, crpG_end hca (z := z) (by assumption) (by omega), ‹isGrid (GridT.mk _ _ _ _ _ _) = true›, gvA_t] <;> first | rfl | assumption | (simp only [h2, h4, h6, h8, hβ1, hβ2, hβ3, hβ4, hβ5, hβ6, hβ7, hβ8, hβ9, c50, c107, c159, c211]; done)) | (rw [crpOk_t hca] <;> first | assumption | rfl) | (rw [crpR_t hca] <;> first | rfl | assumption) | (rw [crpOk_t hca]; simp only [h2, h4, h6, h8, hβ1, hβ2, hβ3, hβ4, hβ5, hβ6, hβ7, hβ8, hβ9, c50, c107, c159, c211]; rfl) | (rw [crpR_t hca]; simp only [h2, h4, h6, h8, hβ1, hβ2, hβ3, hβ4, hβ5, hβ6, hβ7, hβ8, hβ9, c50, c107, c159, c211]; rfl)
    have x222 : (crpR A_g L_fr L_ct).x = 0 := by first | exact crpOk_f hcf | (rw [crpR_f hcf] <;> (show _ = _; dsimp only [zG, zV])) | (rw [crpOk_t hca, crpG_end hca (by assumption) (by omega)] <;> assumption) | (rw [crpR_t hca, crpG_end hca (z := z) (by assumption) (by omega), ‹isGrid (GridT.mk _ _ _ _ _ _) = false›] <;> rfl) | (rw [crpR_t hca, crpG_end hca (z := z) (by assumption) (by omega), ‹isGrid (GridT.mk _ _ _ _ _ _) = true›, gvA_t] <;> first | rfl | assumption | (simp only [h2, h4, h6, h8, hβ1, hβ2, hβ3, hβ4, hβ5, hβ6, hβ7, hβ8, hβ9, c50, c107, c159, c211]; done)) | (rw [crpOk_t hca] <;> first | assumption | rfl) | (rw [crpR_t hca] <;> first | rfl | assumption) | (rw [crpOk_t hca]; simp only [h2, h4, h6, h8, hβ1, hβ2, hβ3, hβ4, hβ5, hβ6, hβ7, hβ8, hβ9, c50, c107, c159, c211]; rfl) | (rw [crpR_t hca]; simp only [h2, h4, h6, h8, hβ1, hβ2, hβ3, hβ4, hβ5, hβ6, hβ7, hβ8, hβ9, c50, c107, c159, c211]; rfl)
    have x223 : (crpR A_g L_fr L_ct).y = 0 := by first | exact crpOk_f hcf | (rw [crpR_f hcf] <;> (show _ = _; dsimp only [zG, zV])) | (rw [crpOk_t hca, crpG_end hca (by assumption) (by omega)] <;> assumption) | (rw [crpR_t hca, crpG_end hca (z := z) (by assumption) (by omega), ‹isGrid (GridT.mk _ _ _ _ _ _) = false›] <;> rfl) | (rw [crpR_t hca, crpG_end hca (z := z) (by assumption) (by omega), ‹isGrid (GridT.mk _ _ _ _ _ _) = true›, gvA_t] <;> first | rfl | assumption | (simp only [h2, h4, h6, h8, hβ1, hβ2, hβ3, hβ4, hβ5, hβ6, hβ7, hβ8, hβ9, c50, c107, c159, c211]; done)) | (rw [crpOk_t hca] <;> first | assumption | rfl) | (rw [crpR_t hca] <;> first | rfl | assumption) | (rw [crpOk_t hca]; simp only [h2, h4, h6, h8, hβ1, hβ2, hβ3, hβ4, hβ5, hβ6, hβ7, hβ8, hβ9, c50, c107, c159, c211]; rfl) | (rw [crpR_t hca]; simp only [h2, h4, h6, h8, hβ1, hβ2, hβ3, hβ4, hβ5, hβ6, hβ7, hβ8, hβ9, c50, c107, c159, c211]; rfl)
    have x224 : (crpR A_g L_fr L_ct).z = 0 := by first | exact crpOk_f hcf | (rw [crpR_f hcf] <;> (show _ = _; dsimp only [zG, zV])) | (rw [crpOk_t hca, crpG_end hca (by assumption) (by omega)] <;> assumption) | (rw [crpR_t hca, crpG_end hca (z := z) (by assumption) (by omega), ‹isGrid (GridT.mk _ _ _ _ _ _) = false›] <;> rfl) | (rw [crpR_t hca, crpG_end hca (z := z) (by assumption) (by omega), ‹isGrid (GridT.mk _ _ _ _ _ _) = true›, gvA_t] <;> first | rfl | assumption | (simp only [h2, h4, h6, h8, hβ1, hβ2, hβ3, hβ4, hβ5, hβ6, hβ7, hβ8, hβ9, c50, c107, c159, c211]; done)) | (rw [crpOk_t hca] <;> first | assumption | rfl) | (rw [crpR_t hca] <;> first | rfl | assumption) | (rw [crpOk_t hca]; simp only [h2, h4, h6, h8, hβ1, hβ2, hβ3, hβ4, hβ5, hβ6, hβ7, hβ8, hβ9, c50, c107, c159, c211]; rfl) | (rw [crpR_t hca]; simp only [h2, h4, h6, h8, hβ1, hβ2, hβ3, hβ4, hβ5, hβ6, hβ7, hβ8, hβ9, c50, c107, c159, c211]; rfl)
    have x225 : ([]) = ((crpR A_g L_fr L_ct).vals) := by first | exact crpOk_f hcf | (rw [crpR_f hcf] <;> (show _ = _; dsimp only [zG, zV])) | (rw [crpOk_t hca, crpG_end hca (by assumption) (by omega)] <;> assumption) | (rw [crpR_t hca, crpG_end hca (z := z) (by assumption) (by omega), ‹isGrid (GridT.mk _ _ _ _ _ _) = false›] <;> rfl) | (rw [crpR_t hca, crpG_end hca (z := z) (by assumption) (by omega), ‹isGrid (GridT.mk _ _ _ _ _ _) = true›, gvA_t] <;> first | rfl | assumption | (simp only [h2, h4, h6, h8, hβ1, hβ2, hβ3, hβ4, hβ5, hβ6, hβ7, hβ8, hβ9, c50, c107, c159, c211]; done)) | (rw [crpOk_t hca] <;> first | assumption | rfl) | (rw [crpR_t hca] <;> first | rfl | assumption) | (rw [crpOk_t hca]; simp only [h2, h4, h6, h8, hβ1, hβ2, hβ3, hβ4, hβ5, hβ6, hβ7, hβ8, hβ9, c50, c107, c159, c211]; rfl) | (rw [crpR_t hca]; simp only [h2, h4, h6, h8, hβ1, hβ2, hβ3, hβ4, hβ5, hβ6, hβ7, hβ8, hβ9, c50, c107, c159, c211]; rfl)
    have x226 : ([]) = ((crpR A_g L_fr L_ct).vals) := by first | exact crpOk_f hcf | (rw [crpR_f hcf] <;> (show _ = _; dsimp only [zG, zV])) | (rw [crpOk_t hca, crpG_end hca (by assumption) (by omega)] <;> assumption) | (rw [crpR_t hca, crpG_end hca (z := z) (by assumption) (by omega), ‹isGrid (GridT.mk _ _ _ _ _ _) = false›] <;> rfl) | (rw [crpR_t hca, crpG_end hca (z := z) (by assumption) (by omega), ‹isGrid (GridT.mk _ _ _ _ _ _) = true›, gvA_t] <;> first | rfl | assumption | (simp only [h2, h4, h6, h8, hβ1, hβ2, hβ3, hβ4, hβ5, hβ6, hβ7, hβ8, hβ9, c50, c107, c159, c211]; done)) | (rw [crpOk_t hca] <;> first | assumption | rfl) | (rw [crpR_t hca] <;> first | rfl | assumption) | (rw [crpOk_t hca]; simp only [h2, h4, h6, h8, hβ1, hβ2, hβ3, hβ4, hβ5, hβ6, hβ7, hβ8, hβ9, c50, c107, c159, c211]; rfl) | (rw [crpR_t hca]; simp only [h2, h4, h6, h8, hβ1, hβ2, hβ3, hβ4, hβ5, hβ6, hβ7, hβ8, hβ9, c50, c107, c159, c211]; rfl)
    exact ⟨[(Fl 0), (Fl 0), (Fl 0), (Fl 0), (Iv 0), (Iv 0), (Iv 0), (.slice none 0 0)], [], (by first | rfl | rw [x217]), fun u hu => ⟨0, 0, 0, 0, (.slice none 0 0), (by first | with_reducible rfl | (show _ = _; simp only [x222, x223, x224]) | rfl), x218, x219, x220, x221, (Hang.castL (Sl.hang_nil _ _ _ _) x225) u hu⟩, (WL.cast (WL.nil _ _ _) (congrArg List.length x226))⟩
  have c211' := c211
  (try simp only [hβ1, hβ2, hβ3, hβ4, hβ5, hβ6, hβ7, hβ8, hβ9] at c211')
  (try simp only [icmp, Bool.and_eq_true, Bool.or_eq_true, Bool.and_eq_false_iff, Bool.or_eq_false_iff, Bool.not_eq_true', Bool.not_eq_false', decide_eq_true_eq, decide_eq_false_iff_not, beq_iff_eq, bne_iff_ne, beq_eq_false_iff_ne, bne_eq_false_iff_eq] at c211')
  try (have hca := crpA_ti (g := A_g) (fr := L_fr) (ct := L_ct) (by assumption) (by assumption) (by assumption) (by assumption); have hcb := crp_bd hca)
  refine wp_skip (hK177 _ _ ?_)
  refine wp_region_lit ?_
  refine q_is rfl rfl (does_iarith (p := 2) (q := 1) (r := (3)) (ev rfl) (ev rfl) (.inl ⟨rfl, rfl⟩)) (by dsimp only [List.set]; try rfl) ?_
  refine q_is rfl rfl (does_move (u := (Iv 3)) (ev rfl)) (by dsimp only [List.set]; try rfl) ?_
  refine wpList_nil ?_
  refine un_step ?_
  refine wp_seq_k fun K227 hK227 => ?_
  refine wp_region_lit ?_
  refine q_is rfl rfl (does_icmp (p := 3) (q := 3) (.inr (.inr (.inl rfl))) (ev rfl) (ev rfl)) (by dsimp only [List.set]; try rfl) ?_
  refine wpList_nil (hK227 _ _ ?_)
  refine wp_seq_k fun K228 hK228 => ?_
  refine wp_cond_false (ev rfl) ?_
  refine wp_exit ?_
  refine hK66 _ _ ?_
  refine wp_seq_k fun K229 hK229 => ?_
  refine wp_region_lit ?_
  refine q_is rfl rfl (does_move (u := (.slice p_fr L_fr.length q_fr)) (ev rfl)) (by dsimp only [List.set]; try rfl) ?_
  refine seqd rfl rfl (does_s2ap (xs := L_fr) Try.underlying55 (ev rfl) (Sl.ext hv_fr RI.mono X210) (by omega)) ?_; rintro _ w206 ⟨b230, o231, _, rfl, hc233, rfl, rfl⟩
  show wpList _ _ _ _ (fr [(.agg #[(Fl r1), (Fl r3), (Fl r5), (Fl r7), (Iv A_g.x), (Iv A_g.y), (Iv A_g.z), (.slice p11 A_g.vals.length q12)]), (.slice p_fr L_fr.length q_fr), (.slice p_ct L_ct.length q_ct), (Pt b15 0), Ud, Ud, (Pt b22 0), (Bo false), (Iv 2), (Iv A_g.z), Ud, v32, v33, v34, v35, v36, v37, v38, v39, v40, v41, v42, v43, (Bo β3), Ud, (.agg #[(Iv A_g.x), (Iv A_g.y), (Iv A_g.z)]), (Iv 3), (Bo false), (Iv 2), (Iv A_g.z), v184, v185, v186, v187, v188, v189, v190, v191, v192, v193, v194, v195, v196, v197, v198, v199, v200, v201, v202, v203, v204, (Bo ((!β8) || (!β9))), Ud, (Iv 3), (.slice p_fr L_fr.length q_fr), (Pt b230 o231), Ud, Ud, Ud, Ud, Ud, Ud, Ud, Ud, Ud, Ud, Ud, Ud]) _
  refine q_is rfl rfl (does_loadAgg (cs := [(Iv (nth L_fr 0)), (Iv (nth L_fr 1)), (Iv (nth L_fr 2))]) (ev rfl) Try.isAgg55 Try.sizeOf55 hc233 rfl) (by dsimp only [List.set]; try rfl) ?_
  refine seqd rfl rfl (does_alloc z55) ?_; rintro _ w238 ⟨b234, rfl, hb235, hB236, E237⟩
  have n239 : b15 < b234 := Nat.lt_of_lt_of_le (Blk.lt (((((((((hB17.ext E25).ext E46).ext E68).ext E77).ext E103).ext E129).ext E155).ext E181).ext E207)) hb235
  have n240 : b22 < b234 := Nat.lt_of_lt_of_le (Blk.lt ((((((((hB24.ext E46).ext E68).ext E77).ext E103).ext E129).ext E155).ext E181).ext E207)) hb235
  have n241 : b230 < b234 := Nat.lt_of_lt_of_le (cell_lt (Cells.at hc233 0 rfl)) hb235
  have g242 : w.heap.size ≤ b234 := Nat.le_trans (Below.size X210) hb235
  change Blk _ _ [(Iv 0), (Iv 0), (Iv 0)] at hB236
  have X243 := Ext.gr X210 E237
  show wpList _ _ _ _ (fr [(.agg #[(Fl r1), (Fl r3), (Fl r5), (Fl r7), (Iv A_g.x), (Iv A_g.y), (Iv A_g.z), (.slice p11 A_g.vals.length q12)]), (.slice p_fr L_fr.length q_fr), (.slice p_ct L_ct.length q_ct), (Pt b15 0), Ud, Ud, (Pt b22 0), (Bo false), (Iv 2), (Iv A_g.z), (Pt b234 0), v32, v33, v34, v35, v36, v37, v38, v39, v40, v41, v42, v43, (Bo β3), Ud, (.agg #[(Iv A_g.x), (Iv A_g.y), (Iv A_g.z)]), (Iv 3), (Bo false), (Iv 2), (Iv A_g.z), v184, v185, v186, v187, v188, v189, v190, v191, v192, v193, v194, v195, v196, v197, v198, v199, v200, v201, v202, v203, v204, (Bo ((!β8) || (!β9))), Ud, (Iv 3), (.slice p_fr L_fr.length q_fr), (Pt b230 o231), (.agg #[(Iv (nth L_fr 0)), (Iv (nth L_fr 1)), (Iv (nth L_fr 2))]), Ud, Ud, Ud, Ud, Ud, Ud, Ud, Ud, Ud, Ud, Ud]) _
  refine seqn rfl rfl (does_store (n := 3) (cs := [(Iv 0), (Iv 0), (Iv 0)]) (u := (.agg #[(Iv (nth L_fr 0)), (Iv (nth L_fr 1)), (Iv (nth L_fr 2))])) (ev rfl) (ev rfl) Try.sizeOf55 rfl hB236 (Nat.le_of_ble_eq_true rfl) rfl) ?_; rintro _ w246 ⟨rfl, W244, hB245⟩
  change Blk _ _ [(Iv (nth L_fr 0)), (Iv (nth L_fr 1)), (Iv (nth L_fr 2))] at hB245
  have X247 := Below.wr X243 W244 g242
  refine wpList_nil (hK229 _ _ ?_)
  refine wp_seq_k fun K248 hK248 => ?_
  obtain ⟨β10, hβ10⟩ : ∃ b : Bool, b = (isGrid (GridT.mk (ptG A_g.low A_g.step (nth L_fr 0) (nth L_fr 1) (nth L_fr 2)) (cf .f32 r7) (nth L_ct 0) (nth L_ct 1) (nth L_ct 2) (takG A_g (fun x y z => idxG A_g ((fun x y z => IntKind.i64.wrap ((nth L_fr 0) + x)) x y z) ((fun x y z => IntKind.i64.wrap ((nth L_fr 1) + y)) x y z) ((fun x y z => IntKind.i64.wrap ((nth L_fr 2) + z)) x y z)) (nth L_ct 0) (nth L_ct 1) ((nth L_ct 0) * (nth L_ct 1) * (nth L_ct 2)).toNat))) := ⟨_, rfl⟩
  refine region_draw (
    [Fact.pure [] (fun v => v = (.agg #[(Iv (nth L_fr 0)), (Iv (nth L_fr 1)), (Iv (nth L_fr 2))])),
    Fact.pure [57] (fun v => ∃ cs_1 : List Value, v = (.agg cs_1.toArray) ∧ RV3 w (ptG A_g.low A_g.step (nth L_fr 0) (nth L_fr 1) (nth L_fr 2)) cs_1),
    Fact.pure [] (fun v => v = (Pt b15 3)),
    Fact.pure [59] (fun v => v = (Fl r7)),
    Fact.pure [] (fun v => v = (.slice p_ct L_ct.length q_ct)),
    Fact.mem [61] (fun v w' => PtrR RI3T w' v (I3T.mk (nth L_ct 0) (nth L_ct 1) (nth L_ct 2))) (by intro v w1 w2 hx h; exact h.ext RI3T.mono hx),
    Fact.pure [62] (fun v => v = (.agg #[(Iv (nth L_ct 0)), (Iv (nth L_ct 1)), (Iv (nth L_ct 2))])),
    Fact.pure [] (fun v => v = (.func (.func 42) #[] #[(Pt b234 0)])),
    Fact.mem [58, 60, 63, 64] (fun v w' => ∃ cs_1 : List Value, ∃ Lw_2 : List Nat, v = (.tuple #[(.agg cs_1.toArray), (Bo (isGrid (GridT.mk (ptG A_g.low A_g.step (nth L_fr 0) (nth L_fr 1) (nth L_fr 2)) (cf .f32 r7) (nth L_ct 0) (nth L_ct 1) (nth L_ct 2) (takG A_g (fun x y z => idxG A_g ((fun x y z => IntKind.i64.wrap ((nth L_fr 0) + x)) x y z) ((fun x y z => IntKind.i64.wrap ((nth L_fr 1) + y)) x y z) ((fun x y z => IntKind.i64.wrap ((nth L_fr 2) + z)) x y z)) (nth L_ct 0) (nth L_ct 1) ((nth L_ct 0) * (nth L_ct 1) * (nth L_ct 2)).toNat))))]) ∧ Hang w246.heap.size w' (fun u => RGridT u (gvA zG (isGrid (GridT.mk (ptG A_g.low A_g.step (nth L_fr 0) (nth L_fr 1) (nth L_fr 2)) (cf .f32 r7) (nth L_ct 0) (nth L_ct 1) (nth L_ct 2) (takG A_g (fun x y z => idxG A_g ((fun x y z => IntKind.i64.wrap ((nth L_fr 0) + x)) x y z) ((fun x y z => IntKind.i64.wrap ((nth L_fr 1) + y)) x y z) ((fun x y z => IntKind.i64.wrap ((nth L_fr 2) + z)) x y z)) (nth L_ct 0) (nth L_ct 1) ((nth L_ct 0) * (nth L_ct 1) * (nth L_ct 2)).toNat))) (GridT.mk (ptG A_g.low A_g.step (nth L_fr 0) (nth L_fr 1) (nth L_fr 2)) (cf .f32 r7) (nth L_ct 0) (nth L_ct 1) (nth L_ct 2) (takG A_g (fun x y z => idxG A_g ((fun x y z => IntKind.i64.wrap ((nth L_fr 0) + x)) x y z) ((fun x y z => IntKind.i64.wrap ((nth L_fr 1) + y)) x y z) ((fun x y z => IntKind.i64.wrap ((nth L_fr 2) + z)) x y z)) (nth L_ct 0) (nth L_ct 1) ((nth L_ct 0) * (nth L_ct 1) * (nth L_ct 2)).toNat))) cs_1) ∧ WL 1 w246.heap.size w' Lw_2 (cellN cs_1 7) ((gvA zG (isGrid (GridT.mk (ptG A_g.low A_g.step (nth L_fr 0) (nth L_fr 1) (nth L_fr 2)) (cf .f32 r7) (nth L_ct 0) (nth L_ct 1) (nth L_ct 2) (takG A_g (fun x y z => idxG A_g ((fun x y z => IntKind.i64.wrap ((nth L_fr 0) + x)) x y z) ((fun x y z => IntKind.i64.wrap ((nth L_fr 1) + y)) x y z) ((fun x y z => IntKind.i64.wrap ((nth L_fr 2) + z)) x y z)) (nth L_ct 0) (nth L_ct 1) ((nth L_ct 0) * (nth L_ct 1) * (nth L_ct 2)).toNat))) (GridT.mk (ptG A_g.low A_g.step (nth L_fr 0) (nth L_fr 1) (nth L_fr 2)) (cf .f32 r7) (nth L_ct 0) (nth L_ct 1) (nth L_ct 2) (takG A_g (fun x y z => idxG A_g ((fun x y z => IntKind.i64.wrap ((nth L_fr 0) + x)) x y z) ((fun x y z => IntKind.i64.wrap ((nth L_fr 1) + y)) x y z) ((fun x y z => IntKind.i64.wrap ((nth L_fr 2) + z)) x y z)) (nth L_ct 0) (nth L_ct 1) ((nth L_ct 0) * (nth L_ct 1) * (nth L_ct 2)).toNat))).vals).length) (by rintro v w1 w2 hx ⟨z1, z2, rfl, k0, k1⟩; exact ⟨_, _, rfl, (k0.ext hx), (k1.same (Same.of_ext hx))⟩),
    Fact.mem [65] (fun v w' => ∃ cs_1 : List Value, ∃ Lw_2 : List Nat, v = (.agg cs_1.toArray) ∧ Hang w246.heap.size w' (fun u => RGridT u (gvA zG (isGrid (GridT.mk (ptG A_g.low A_g.step (nth L_fr 0) (nth L_fr 1) (nth L_fr 2)) (cf .f32 r7) (nth L_ct 0) (nth L_ct 1) (nth L_ct 2) (takG A_g (fun x y z => idxG A_g ((fun x y z => IntKind.i64.wrap ((nth L_fr 0) + x)) x y z) ((fun x y z => IntKind.i64.wrap ((nth L_fr 1) + y)) x y z) ((fun x y z => IntKind.i64.wrap ((nth L_fr 2) + z)) x y z)) (nth L_ct 0) (nth L_ct 1) ((nth L_ct 0) * (nth L_ct 1) * (nth L_ct 2)).toNat))) (GridT.mk (ptG A_g.low A_g.step (nth L_fr 0) (nth L_fr 1) (nth L_fr 2)) (cf .f32 r7) (nth L_ct 0) (nth L_ct 1) (nth L_ct 2) (takG A_g (fun x y z => idxG A_g ((fun x y z => IntKind.i64.wrap ((nth L_fr 0) + x)) x y z) ((fun x y z => IntKind.i64.wrap ((nth L_fr 1) + y)) x y z) ((fun x y z => IntKind.i64.wrap ((nth L_fr 2) + z)) x y z)) (nth L_ct 0) (nth L_ct 1) ((nth L_ct 0) * (nth L_ct 1) * (nth L_ct 2)).toNat))) cs_1) ∧ WL 1 w246.heap.size w' Lw_2 (cellN cs_1 7) ((gvA zG (isGrid (GridT.mk (ptG A_g.low A_g.step (nth L_fr 0) (nth L_fr 1) (nth L_fr 2)) (cf .f32 r7) (nth L_ct 0) (nth L_ct 1) (nth L_ct 2) (takG A_g (fun x y z => idxG A_g ((fun x y z => IntKind.i64.wrap ((nth L_fr 0) + x)) x y z) ((fun x y z => IntKind.i64.wrap ((nth L_fr 1) + y)) x y z) ((fun x y z => IntKind.i64.wrap ((nth L_fr 2) + z)) x y z)) (nth L_ct 0) (nth L_ct 1) ((nth L_ct 0) * (nth L_ct 1) * (nth L_ct 2)).toNat))) (GridT.mk (ptG A_g.low A_g.step (nth L_fr 0) (nth L_fr 1) (nth L_fr 2)) (cf .f32 r7) (nth L_ct 0) (nth L_ct 1) (nth L_ct 2) (takG A_g (fun x y z => idxG A_g ((fun x y z => IntKind.i64.wrap ((nth L_fr 0) + x)) x y z) ((fun x y z => IntKind.i64.wrap ((nth L_fr 1) + y)) x y z) ((fun x y z => IntKind.i64.wrap ((nth L_fr 2) + z)) x y z)) (nth L_ct 0) (nth L_ct 1) ((nth L_ct 0) * (nth L_ct 1) * (nth L_ct 2)).toNat))).vals).length) (by rintro v w1 w2 hx ⟨z1, z2, rfl, k0, k1⟩; exact ⟨_, _, rfl, (k0.ext hx), (k1.same (Same.of_ext hx))⟩),
    Fact.pure [65] (fun v => v = (Bo β10))]) mixed (by kernel_rfl) (by intro _ _ d _ _ h; cases d <;> exact h) ?_
  obtain ⟨w249, hw251⟩ : ∃ w', w' = World.drew w246 := ⟨_, rfl⟩; rw [← hw251]; have E250 : Ext w246 w249 := by rw [hw251]; exact Ext.draw _
  clear hw251
  have X252 := Ext.gr X247 E250
  refine RW_d _ rfl (fun v => by dsimp only [List.set]; try rfl) (fun u hu hF => ?_) (fun v253 => ?_)
  · clear hF
    refine doesG_un rfl ?_
    refine (does_loadAgg (cs := [(Iv (nth L_fr 0)), (Iv (nth L_fr 1)), (Iv (nth L_fr 2))]) (ev rfl) Try.isAgg55 Try.sizeOf55 (Blk.cells ((hB245.ext E250).ext hu)) rfl).mono ?_; rintro _ _ ⟨rfl, rfl⟩
    exact ⟨rfl, Ext.refl _⟩
  refine RW_d _ rfl (fun v => by dsimp only [List.set]; try rfl) (fun u hu hF => ?_) (fun v254 => ?_)
  · have h57_ : v253 = (.agg #[(Iv (nth L_fr 0)), (Iv (nth L_fr 1)), (Iv (nth L_fr 2))]) := hF.1
    clear hF
    refine doesG_un rfl ?_
    obtain rfl := h57_
    refine (does_call (args := #[(Pt b15 0), (.agg #[(Iv (nth L_fr 0)), (Iv (nth L_fr 1)), (Iv (nth L_fr 2))])]) cal41 (evs rfl) (c_impl_Grid_point b15 0 [(Fl r1), (Fl r3), (Fl r5), (Fl r7), (Iv A_g.x), (Iv A_g.y), (Iv A_g.z), (.slice p11 A_g.vals.length q12)] A_g (nth L_fr 0) (nth L_fr 1) (nth L_fr 2) _ (Blk.cells (((((((((((((hB17.ext E25).ext E46).ext E68).ext E77).ext E103).ext E129).ext E155).ext E181).ext E207).ext E237).wr W244 (Nat.ne_of_lt n239)).ext E250).ext hu)) ⟨r1, r3, r5, r7, (.slice p11 A_g.vals.length q12), rfl, h2, h4, h6, h8, (Sl.ext (Sl.ext hs13 RF.mono (Ext.gr X247 E250)) RF.mono hu)⟩)).mono ?_; rintro v u' ⟨hx, ⟨csn1, hv, k0⟩⟩
    exact ⟨⟨csn1, hv, k0⟩, hx⟩
  refine RW_d _ rfl (fun v => by dsimp only [List.set]; try rfl) (fun u hu hF => ?_) (fun v255 => ?_)
  · clear hF
    refine doesG_un rfl ?_
    refine (does_fieldAddr (ev rfl) fa31_1).mono ?_; rintro _ _ ⟨rfl, rfl⟩
    exact ⟨rfl, Ext.refl _⟩
  refine RW_d _ rfl (fun v => by dsimp only [List.set]; try rfl) (fun u hu hF => ?_) (fun v256 => ?_)
  · have h59_ : v255 = (Pt b15 3) := hF.1
    clear hF
    refine doesG_un rfl ?_
    obtain rfl := h59_
    refine (does_load (u := (Fl r7)) (ev rfl) Try.isAgg22 (Cells.at (Blk.cells (((((((((((((hB17.ext E25).ext E46).ext E68).ext E77).ext E103).ext E129).ext E155).ext E181).ext E207).ext E237).wr W244 (Nat.ne_of_lt n239)).ext E250).ext hu)) 3 rfl)).mono ?_; rintro _ _ ⟨rfl, rfl⟩
    exact ⟨rfl, Ext.refl _⟩
  refine RW_d _ rfl (fun v => by dsimp only [List.set]; try rfl) (fun u hu hF => ?_) (fun v257 => ?_)
  · clear hF
    refine doesG_un rfl ?_
    refine (does_move (u := (.slice p_ct L_ct.length q_ct)) (ev rfl)).mono ?_; rintro _ _ ⟨rfl, rfl⟩
    exact ⟨rfl, Ext.refl _⟩
  refine RW_d _ rfl (fun v => by dsimp only [List.set]; try rfl) (fun u hu hF => ?_) (fun v258 => ?_)
  · have h61_ : v257 = (.slice p_ct L_ct.length q_ct) := hF.1
    clear hF
    refine doesG_un rfl ?_
    obtain rfl := h61_
    refine (does_s2ap (xs := L_ct) Try.underlying55 (ev rfl) (Sl.ext (Sl.ext hv_ct RI.mono (Ext.gr X247 E250)) RI.mono hu) (by omega)).mono ?_; rintro v u' ⟨b, of, cs, hv, hc, hR, hu'⟩; subst hu'
    exact ⟨⟨b, of, cs, hv, hc, hR⟩, Ext.refl _⟩
  refine RW_d _ rfl (fun v => by dsimp only [List.set]; try rfl) (fun u hu hF => ?_) (fun v259 => ?_)
  · have h62_ : PtrR RI3T u v258 (I3T.mk (nth L_ct 0) (nth L_ct 1) (nth L_ct 2)) := hF.1
    clear hF
    refine doesG_un rfl ?_
    obtain ⟨b62_, o62_, _, rfl, hc62_, rfl⟩ := h62_
    refine (does_loadAgg (cs := [(Iv (nth L_ct 0)), (Iv (nth L_ct 1)), (Iv (nth L_ct 2))]) (ev rfl) Try.isAgg55 Try.sizeOf55 hc62_ rfl).mono ?_; rintro _ _ ⟨rfl, rfl⟩
    exact ⟨rfl, Ext.refl _⟩
  refine RW_d _ rfl (fun v => by dsimp only [List.set]; try rfl) (fun u hu hF => ?_) (fun v260 => ?_)
  · clear hF
    refine doesG_un rfl ?_
    refine (does_makeFunc (u := (.func (.func 42) #[] #[(Pt b234 0)])) (evs rfl) (evs rfl) rfl).mono ?_; rintro _ _ ⟨rfl, rfl⟩
    exact ⟨rfl, Ext.refl _⟩
  refine RW_d _ rfl (fun v => by dsimp only [List.set]; try rfl) (fun u hu hF => ?_) (fun v261 => ?_)
  · have h58_ : ∃ cs_1 : List Value, v254 = (.agg cs_1.toArray) ∧ RV3 w (ptG A_g.low A_g.step (nth L_fr 0) (nth L_fr 1) (nth L_fr 2)) cs_1 := hF.1
    have h60_ : v256 = (Fl r7) := hF.2.1
    have h63_ : v259 = (.agg #[(Iv (nth L_ct 0)), (Iv (nth L_ct 1)), (Iv (nth L_ct 2))]) := hF.2.2.1
    have h64_ : v260 = (.func (.func 42) #[] #[(Pt b234 0)]) := hF.2.2.2.1
    clear hF
    refine doesG_un rfl ?_
    obtain ⟨_, rfl, ⟨r58_1, r58_3, r58_5, rfl, h58_2, h58_4, h58_6⟩⟩ := h58_
    obtain rfl := h60_
    obtain rfl := h63_
    obtain rfl := h64_
    refine (does_call (args := #[(Pt b15 0), (.agg #[(Fl r58_1), (Fl r58_3), (Fl r58_5)]), (Fl r7), (.agg #[(Iv (nth L_ct 0)), (Iv (nth L_ct 1)), (Iv (nth L_ct 2))]), (.func (.func 42) #[] #[(Pt b234 0)])]) cal29 (evs rfl) (c_impl_Grid_taken b15 0 [(Fl r1), (Fl r3), (Fl r5), (Fl r7), (Iv A_g.x), (Iv A_g.y), (Iv A_g.z), (.slice p11 A_g.vals.length q12)] A_g [(Fl r58_1), (Fl r58_3), (Fl r58_5)] (ptG A_g.low A_g.step (nth L_fr 0) (nth L_fr 1) (nth L_fr 2)) r7 (nth L_ct 0) (nth L_ct 1) (nth L_ct 2) (.func (.func 42) #[] #[(Pt b234 0)]) (fun x y z => IntKind.i64.wrap ((nth L_fr 0) + x)) (fun x y z => IntKind.i64.wrap ((nth L_fr 1) + y)) (fun x y z => IntKind.i64.wrap ((nth L_fr 2) + z)) _ (Blk.cells (((((((((((((hB17.ext E25).ext E46).ext E68).ext E77).ext E103).ext E129).ext E155).ext E181).ext E207).ext E237).wr W244 (Nat.ne_of_lt n239)).ext E250).ext hu)) ⟨r1, r3, r5, r7, (.slice p11 A_g.vals.length q12), rfl, h2, h4, h6, h8, (Sl.ext (Sl.ext hs13 RF.mono (Ext.gr X247 E250)) RF.mono hu)⟩ ⟨r58_1, r58_3, r58_5, rfl, (by assumption), (by assumption), (by assumption)⟩ ⟨42, #[], #[(Pt b234 0)], rfl, cal42, fun x y z u hu' => by simpa using (c_impl_CropGrid_1 x y z b234 0 (nth L_fr 0) (nth L_fr 1) (nth L_fr 2) u (Blk.cells ((hB245.ext E250).ext (Ext.gr hu hu'))))⟩ (by omega) (by omega) (by omega) (by exact fun x y z hx hy hz => fC_ok hca hx hy hz))).mono ?_; rintro v u' ⟨hx, ⟨csn1, Lwn2, hv, k0, k1⟩⟩
    exact ⟨⟨csn1, Lwn2, hv.trans (by simp only [h58_2, h58_4, h58_6]), (Hang.le k0 (Nat.le_trans (Below.size E250) (Below.size hu))), (WL.le k1 (Nat.le_trans (Below.size E250) (Below.size hu)))⟩, hx⟩
  refine RW_d _ rfl (fun v => by dsimp only [List.set]; try rfl) (fun u hu hF => ?_) (fun v262 => ?_)
  · have h65_ : ∃ cs_1 : List Value, ∃ Lw_2 : List Nat, v261 = (.tuple #[(.agg cs_1.toArray), (Bo (isGrid (GridT.mk (ptG A_g.low A_g.step (nth L_fr 0) (nth L_fr 1) (nth L_fr 2)) (cf .f32 r7) (nth L_ct 0) (nth L_ct 1) (nth L_ct 2) (takG A_g (fun x y z => idxG A_g ((fun x y z => IntKind.i64.wrap ((nth L_fr 0) + x)) x y z) ((fun x y z => IntKind.i64.wrap ((nth L_fr 1) + y)) x y z) ((fun x y z => IntKind.i64.wrap ((nth L_fr 2) + z)) x y z)) (nth L_ct 0) (nth L_ct 1) ((nth L_ct 0) * (nth L_ct 1) * (nth L_ct 2)).toNat))))]) ∧ Hang w246.heap.size u (fun u => RGridT u (gvA zG (isGrid (GridT.mk (ptG A_g.low A_g.step (nth L_fr 0) (nth L_fr 1) (nth L_fr 2)) (cf .f32 r7) (nth L_ct 0) (nth L_ct 1) (nth L_ct 2) (takG A_g (fun x y z => idxG A_g ((fun x y z => IntKind.i64.wrap ((nth L_fr 0) + x)) x y z) ((fun x y z => IntKind.i64.wrap ((nth L_fr 1) + y)) x y z) ((fun x y z => IntKind.i64.wrap ((nth L_fr 2) + z)) x y z)) (nth L_ct 0) (nth L_ct 1) ((nth L_ct 0) * (nth L_ct 1) * (nth L_ct 2)).toNat))) (GridT.mk (ptG A_g.low A_g.step (nth L_fr 0) (nth L_fr 1) (nth L_fr 2)) (cf .f32 r7) (nth L_ct 0) (nth L_ct 1) (nth L_ct 2) (takG A_g (fun x y z => idxG A_g ((fun x y z => IntKind.i64.wrap ((nth L_fr 0) + x)) x y z) ((fun x y z => IntKind.i64.wrap ((nth L_fr 1) + y)) x y z) ((fun x y z => IntKind.i64.wrap ((nth L_fr 2) + z)) x y z)) (nth L_ct 0) (nth L_ct 1) ((nth L_ct 0) * (nth L_ct 1) * (nth L_ct 2)).toNat))) cs_1) ∧ WL 1 w246.heap.size u Lw_2 (cellN cs_1 7) ((gvA zG (isGrid (GridT.mk (ptG A_g.low A_g.step (nth L_fr 0) (nth L_fr 1) (nth L_fr 2)) (cf .f32 r7) (nth L_ct 0) (nth L_ct 1) (nth L_ct 2) (takG A_g (fun x y z => idxG A_g ((fun x y z => IntKind.i64.wrap ((nth L_fr 0) + x)) x y z) ((fun x y z => IntKind.i64.wrap ((nth L_fr 1) + y)) x y z) ((fun x y z => IntKind.i64.wrap ((nth L_fr 2) + z)) x y z)) (nth L_ct 0) (nth L_ct 1) ((nth L_ct 0) * (nth L_ct 1) * (nth L_ct 2)).toNat))) (GridT.mk (ptG A_g.low A_g.step (nth L_fr 0) (nth L_fr 1) (nth L_fr 2)) (cf .f32 r7) (nth L_ct 0) (nth L_ct 1) (nth L_ct 2) (takG A_g (fun x y z => idxG A_g ((fun x y z => IntKind.i64.wrap ((nth L_fr 0) + x)) x y z) ((fun x y z => IntKind.i64.wrap ((nth L_fr 1) + y)) x y z) ((fun x y z => IntKind.i64.wrap ((nth L_fr 2) + z)) x y z)) (nth L_ct 0) (nth L_ct 1) ((nth L_ct 0) * (nth L_ct 1) * (nth L_ct 2)).toNat))).vals).length := hF.1
    clear hF
    refine doesG_un rfl ?_
    obtain ⟨cs65_2, Lw65_3, rfl, hh65_1, hw65_4⟩ := h65_
    obtain ⟨r65_5, r65_7, r65_9, r65_11, y65_13, rfl, h65_6, h65_8, h65_10, h65_12, h65_14⟩ := hh65_1.get
    have hh65_14 := h65_14; obtain ⟨p65_15, q65_16, rfl⟩ := Sl.shape h65_14
    refine (does_extract (vs := #[(.agg #[(Fl r65_5), (Fl r65_7), (Fl r65_9), (Fl r65_11), (Iv ((gvA zG (isGrid (GridT.mk (ptG A_g.low A_g.step (nth L_fr 0) (nth L_fr 1) (nth L_fr 2)) (cf .f32 r7) (nth L_ct 0) (nth L_ct 1) (nth L_ct 2) (takG A_g (fun x y z => idxG A_g ((fun x y z => IntKind.i64.wrap ((nth L_fr 0) + x)) x y z) ((fun x y z => IntKind.i64.wrap ((nth L_fr 1) + y)) x y z) ((fun x y z => IntKind.i64.wrap ((nth L_fr 2) + z)) x y z)) (nth L_ct 0) (nth L_ct 1) ((nth L_ct 0) * (nth L_ct 1) * (nth L_ct 2)).toNat))) (GridT.mk (ptG A_g.low A_g.step (nth L_fr 0) (nth L_fr 1) (nth L_fr 2)) (cf .f32 r7) (nth L_ct 0) (nth L_ct 1) (nth L_ct 2) (takG A_g (fun x y z => idxG A_g ((fun x y z => IntKind.i64.wrap ((nth L_fr 0) + x)) x y z) ((fun x y z => IntKind.i64.wrap ((nth L_fr 1) + y)) x y z) ((fun x y z => IntKind.i64.wrap ((nth L_fr 2) + z)) x y z)) (nth L_ct 0) (nth L_ct 1) ((nth L_ct 0) * (nth L_ct 1) * (nth L_ct 2)).toNat))).x)), (Iv ((gvA zG (isGrid (GridT.mk (ptG A_g.low A_g.step (nth L_fr 0) (nth L_fr 1) (nth L_fr 2)) (cf .f32 r7) (nth L_ct 0) (nth L_ct 1) (nth L_ct 2) (takG A_g (fun x y z => idxG A_g ((fun x y z => IntKind.i64.wrap ((nth L_fr 0) + x)) x y z) ((fun x y z => IntKind.i64.wrap ((nth L_fr 1) + y)) x y z) ((fun x y z => IntKind.i64.wrap ((nth L_fr 2) + z)) x y z)) (nth L_ct 0) (nth L_ct 1) ((nth L_ct 0) * (nth L_ct 1) * (nth L_ct 2)).toNat))) (GridT.mk (ptG A_g.low A_g.step (nth L_fr 0) (nth L_fr 1) (nth L_fr 2)) (cf .f32 r7) (nth L_ct 0) (nth L_ct 1) (nth L_ct 2) (takG A_g (fun x y z => idxG A_g ((fun x y z => IntKind.i64.wrap ((nth L_fr 0) + x)) x y z) ((fun x y z => IntKind.i64.wrap ((nth L_fr 1) + y)) x y z) ((fun x y z => IntKind.i64.wrap ((nth L_fr 2) + z)) x y z)) (nth L_ct 0) (nth L_ct 1) ((nth L_ct 0) * (nth L_ct 1) * (nth L_ct 2)).toNat))).y)), (Iv ((gvA zG (isGrid (GridT.mk (ptG A_g.low A_g.step (nth L_fr 0) (nth L_fr 1) (nth L_fr 2)) (cf .f32 r7) (nth L_ct 0) (nth L_ct 1) (nth L_ct 2) (takG A_g (fun x y z => idxG A_g ((fun x y z => IntKind.i64.wrap ((nth L_fr 0) + x)) x y z) ((fun x y z => IntKind.i64.wrap ((nth L_fr 1) + y)) x y z) ((fun x y z => IntKind.i64.wrap ((nth L_fr 2) + z)) x y z)) (nth L_ct 0) (nth L_ct 1) ((nth L_ct 0) * (nth L_ct 1) * (nth L_ct 2)).toNat))) (GridT.mk (ptG A_g.low A_g.step (nth L_fr 0) (nth L_fr 1) (nth L_fr 2)) (cf .f32 r7) (nth L_ct 0) (nth L_ct 1) (nth L_ct 2) (takG A_g (fun x y z => idxG A_g ((fun x y z => IntKind.i64.wrap ((nth L_fr 0) + x)) x y z) ((fun x y z => IntKind.i64.wrap ((nth L_fr 1) + y)) x y z) ((fun x y z => IntKind.i64.wrap ((nth L_fr 2) + z)) x y z)) (nth L_ct 0) (nth L_ct 1) ((nth L_ct 0) * (nth L_ct 1) * (nth L_ct 2)).toNat))).z)), (.slice p65_15 (((gvA zG (isGrid (GridT.mk (ptG A_g.low A_g.step (nth L_fr 0) (nth L_fr 1) (nth L_fr 2)) (cf .f32 r7) (nth L_ct 0) (nth L_ct 1) (nth L_ct 2) (takG A_g (fun x y z => idxG A_g ((fun x y z => IntKind.i64.wrap ((nth L_fr 0) + x)) x y z) ((fun x y z => IntKind.i64.wrap ((nth L_fr 1) + y)) x y z) ((fun x y z => IntKind.i64.wrap ((nth L_fr 2) + z)) x y z)) (nth L_ct 0) (nth L_ct 1) ((nth L_ct 0) * (nth L_ct 1) * (nth L_ct 2)).toNat))) (GridT.mk (ptG A_g.low A_g.step (nth L_fr 0) (nth L_fr 1) (nth L_fr 2)) (cf .f32 r7) (nth L_ct 0) (nth L_ct 1) (nth L_ct 2) (takG A_g (fun x y z => idxG A_g ((fun x y z => IntKind.i64.wrap ((nth L_fr 0) + x)) x y z) ((fun x y z => IntKind.i64.wrap ((nth L_fr 1) + y)) x y z) ((fun x y z => IntKind.i64.wrap ((nth L_fr 2) + z)) x y z)) (nth L_ct 0) (nth L_ct 1) ((nth L_ct 0) * (nth L_ct 1) * (nth L_ct 2)).toNat))).vals).length) q65_16)]), (Bo (isGrid (GridT.mk (ptG A_g.low A_g.step (nth L_fr 0) (nth L_fr 1) (nth L_fr 2)) (cf .f32 r7) (nth L_ct 0) (nth L_ct 1) (nth L_ct 2) (takG A_g (fun x y z => idxG A_g ((fun x y z => IntKind.i64.wrap ((nth L_fr 0) + x)) x y z) ((fun x y z => IntKind.i64.wrap ((nth L_fr 1) + y)) x y z) ((fun x y z => IntKind.i64.wrap ((nth L_fr 2) + z)) x y z)) (nth L_ct 0) (nth L_ct 1) ((nth L_ct 0) * (nth L_ct 1) * (nth L_ct 2)).toNat))))]) (u := (.agg #[(Fl r65_5), (Fl r65_7), (Fl r65_9), (Fl r65_11), (Iv ((gvA zG (isGrid (GridT.mk (ptG A_g.low A_g.step (nth L_fr 0) (nth L_fr 1) (nth L_fr 2)) (cf .f32 r7) (nth L_ct 0) (nth L_ct 1) (nth L_ct 2) (takG A_g (fun x y z => idxG A_g ((fun x y z => IntKind.i64.wrap ((nth L_fr 0) + x)) x y z) ((fun x y z => IntKind.i64.wrap ((nth L_fr 1) + y)) x y z) ((fun x y z => IntKind.i64.wrap ((nth L_fr 2) + z)) x y z)) (nth L_ct 0) (nth L_ct 1) ((nth L_ct 0) * (nth L_ct 1) * (nth L_ct 2)).toNat))) (GridT.mk (ptG A_g.low A_g.step (nth L_fr 0) (nth L_fr 1) (nth L_fr 2)) (cf .f32 r7) (nth L_ct 0) (nth L_ct 1) (nth L_ct 2) (takG A_g (fun x y z => idxG A_g ((fun x y z => IntKind.i64.wrap ((nth L_fr 0) + x)) x y z) ((fun x y z => IntKind.i64.wrap ((nth L_fr 1) + y)) x y z) ((fun x y z => IntKind.i64.wrap ((nth L_fr 2) + z)) x y z)) (nth L_ct 0) (nth L_ct 1) ((nth L_ct 0) * (nth L_ct 1) * (nth L_ct 2)).toNat))).x)), (Iv ((gvA zG (isGrid (GridT.mk (ptG A_g.low A_g.step (nth L_fr 0) (nth L_fr 1) (nth L_fr 2)) (cf .f32 r7) (nth L_ct 0) (nth L_ct 1) (nth L_ct 2) (takG A_g (fun x y z => idxG A_g ((fun x y z => IntKind.i64.wrap ((nth L_fr 0) + x)) x y z) ((fun x y z => IntKind.i64.wrap ((nth L_fr 1) + y)) x y z) ((fun x y z => IntKind.i64.wrap ((nth L_fr 2) + z)) x y z)) (nth L_ct 0) (nth L_ct 1) ((nth L_ct 0) * (nth L_ct 1) * (nth L_ct 2)).toNat))) (GridT.mk (ptG A_g.low A_g.step (nth L_fr 0) (nth L_fr 1) (nth L_fr 2)) (cf .f32 r7) (nth L_ct 0) (nth L_ct 1) (nth L_ct 2) (takG A_g (fun x y z => idxG A_g ((fun x y z => IntKind.i64.wrap ((nth L_fr 0) + x)) x y z) ((fun x y z => IntKind.i64.wrap ((nth L_fr 1) + y)) x y z) ((fun x y z => IntKind.i64.wrap ((nth L_fr 2) + z)) x y z)) (nth L_ct 0) (nth L_ct 1) ((nth L_ct 0) * (nth L_ct 1) * (nth L_ct 2)).toNat))).y)), (Iv ((gvA zG (isGrid (GridT.mk (ptG A_g.low A_g.step (nth L_fr 0) (nth L_fr 1) (nth L_fr 2)) (cf .f32 r7) (nth L_ct 0) (nth L_ct 1) (nth L_ct 2) (takG A_g (fun x y z => idxG A_g ((fun x y z => IntKind.i64.wrap ((nth L_fr 0) + x)) x y z) ((fun x y z => IntKind.i64.wrap ((nth L_fr 1) + y)) x y z) ((fun x y z => IntKind.i64.wrap ((nth L_fr 2) + z)) x y z)) (nth L_ct 0) (nth L_ct 1) ((nth L_ct 0) * (nth L_ct 1) * (nth L_ct 2)).toNat))) (GridT.mk (ptG A_g.low A_g.step (nth L_fr 0) (nth L_fr 1) (nth L_fr 2)) (cf .f32 r7) (nth L_ct 0) (nth L_ct 1) (nth L_ct 2) (takG A_g (fun x y z => idxG A_g ((fun x y z => IntKind.i64.wrap ((nth L_fr 0) + x)) x y z) ((fun x y z => IntKind.i64.wrap ((nth L_fr 1) + y)) x y z) ((fun x y z => IntKind.i64.wrap ((nth L_fr 2) + z)) x y z)) (nth L_ct 0) (nth L_ct 1) ((nth L_ct 0) * (nth L_ct 1) * (nth L_ct 2)).toNat))).z)), (.slice p65_15 (((gvA zG (isGrid (GridT.mk (ptG A_g.low A_g.step (nth L_fr 0) (nth L_fr 1) (nth L_fr 2)) (cf .f32 r7) (nth L_ct 0) (nth L_ct 1) (nth L_ct 2) (takG A_g (fun x y z => idxG A_g ((fun x y z => IntKind.i64.wrap ((nth L_fr 0) + x)) x y z) ((fun x y z => IntKind.i64.wrap ((nth L_fr 1) + y)) x y z) ((fun x y z => IntKind.i64.wrap ((nth L_fr 2) + z)) x y z)) (nth L_ct 0) (nth L_ct 1) ((nth L_ct 0) * (nth L_ct 1) * (nth L_ct 2)).toNat))) (GridT.mk (ptG A_g.low A_g.step (nth L_fr 0) (nth L_fr 1) (nth L_fr 2)) (cf .f32 r7) (nth L_ct 0) (nth L_ct 1) (nth L_ct 2) (takG A_g (fun x y z => idxG A_g ((fun x y z => IntKind.i64.wrap ((nth L_fr 0) + x)) x y z) ((fun x y z => IntKind.i64.wrap ((nth L_fr 1) + y)) x y z) ((fun x y z => IntKind.i64.wrap ((nth L_fr 2) + z)) x y z)) (nth L_ct 0) (nth L_ct 1) ((nth L_ct 0) * (nth L_ct 1) * (nth L_ct 2)).toNat))).vals).length) q65_16)])) (ev rfl) rfl).mono ?_; rintro _ _ ⟨rfl, rfl⟩
    exact ⟨⟨[(Fl r65_5), (Fl r65_7), (Fl r65_9), (Fl r65_11), (Iv ((gvA zG (isGrid (GridT.mk (ptG A_g.low A_g.step (nth L_fr 0) (nth L_fr 1) (nth L_fr 2)) (cf .f32 r7) (nth L_ct 0) (nth L_ct 1) (nth L_ct 2) (takG A_g (fun x y z => idxG A_g ((fun x y z => IntKind.i64.wrap ((nth L_fr 0) + x)) x y z) ((fun x y z => IntKind.i64.wrap ((nth L_fr 1) + y)) x y z) ((fun x y z => IntKind.i64.wrap ((nth L_fr 2) + z)) x y z)) (nth L_ct 0) (nth L_ct 1) ((nth L_ct 0) * (nth L_ct 1) * (nth L_ct 2)).toNat))) (GridT.mk (ptG A_g.low A_g.step (nth L_fr 0) (nth L_fr 1) (nth L_fr 2)) (cf .f32 r7) (nth L_ct 0) (nth L_ct 1) (nth L_ct 2) (takG A_g (fun x y z => idxG A_g ((fun x y z => IntKind.i64.wrap ((nth L_fr 0) + x)) x y z) ((fun x y z => IntKind.i64.wrap ((nth L_fr 1) + y)) x y z) ((fun x y z => IntKind.i64.wrap ((nth L_fr 2) + z)) x y z)) (nth L_ct 0) (nth L_ct 1) ((nth L_ct 0) * (nth L_ct 1) * (nth L_ct 2)).toNat))).x)), (Iv ((gvA zG (isGrid (GridT.mk (ptG A_g.low A_g.step (nth L_fr 0) (nth L_fr 1) (nth L_fr 2)) (cf .f32 r7) (nth L_ct 0) (nth L_ct 1) (nth L_ct 2) (takG A_g (fun x y z => idxG A_g ((fun x y z => IntKind.i64.wrap ((nth L_fr 0) + x)) x y z) ((fun x y z => IntKind.i64.wrap ((nth L_fr 1) + y)) x y z) ((fun x y z => IntKind.i64.wrap ((nth L_fr 2) + z)) x y z)) (nth L_ct 0) (nth L_ct 1) ((nth L_ct 0) * (nth L_ct 1) * (nth L_ct 2)).toNat))) (GridT.mk (ptG A_g.low A_g.step (nth L_fr 0) (nth L_fr 1) (nth L_fr 2)) (cf .f32 r7) (nth L_ct 0) (nth L_ct 1) (nth L_ct 2) (takG A_g (fun x y z => idxG A_g ((fun x y z => IntKind.i64.wrap ((nth L_fr 0) + x)) x y z) ((fun x y z => IntKind.i64.wrap ((nth L_fr 1) + y)) x y z) ((fun x y z => IntKind.i64.wrap ((nth L_fr 2) + z)) x y z)) (nth L_ct 0) (nth L_ct 1) ((nth L_ct 0) * (nth L_ct 1) * (nth L_ct 2)).toNat))).y)), (Iv ((gvA zG (isGrid (GridT.mk (ptG A_g.low A_g.step (nth L_fr 0) (nth L_fr 1) (nth L_fr 2)) (cf .f32 r7) (nth L_ct 0) (nth L_ct 1) (nth L_ct 2) (takG A_g (fun x y z => idxG A_g ((fun x y z => IntKind.i64.wrap ((nth L_fr 0) + x)) x y z) ((fun x y z => IntKind.i64.wrap ((nth L_fr 1) + y)) x y z) ((fun x y z => IntKind.i64.wrap ((nth L_fr 2) + z)) x y z)) (nth L_ct 0) (nth L_ct 1) ((nth L_ct 0) * (nth L_ct 1) * (nth L_ct 2)).toNat))) (GridT.mk (ptG A_g.low A_g.step (nth L_fr 0) (nth L_fr 1) (nth L_fr 2)) (cf .f32 r7) (nth L_ct 0) (nth L_ct 1) (nth L_ct 2) (takG A_g (fun x y z => idxG A_g ((fun x y z => IntKind.i64.wrap ((nth L_fr 0) + x)) x y z) ((fun x y z => IntKind.i64.wrap ((nth L_fr 1) + y)) x y z) ((fun x y z => IntKind.i64.wrap ((nth L_fr 2) + z)) x y z)) (nth L_ct 0) (nth L_ct 1) ((nth L_ct 0) * (nth L_ct 1) * (nth L_ct 2)).toNat))).z)), (.slice p65_15 (((gvA zG (isGrid (GridT.mk (ptG A_g.low A_g.step (nth L_fr 0) (nth L_fr 1) (nth L_fr 2)) (cf .f32 r7) (nth L_ct 0) (nth L_ct 1) (nth L_ct 2) (takG A_g (fun x y z => idxG A_g ((fun x y z => IntKind.i64.wrap ((nth L_fr 0) + x)) x y z) ((fun x y z => IntKind.i64.wrap ((nth L_fr 1) + y)) x y z) ((fun x y z => IntKind.i64.wrap ((nth L_fr 2) + z)) x y z)) (nth L_ct 0) (nth L_ct 1) ((nth L_ct 0) * (nth L_ct 1) * (nth L_ct 2)).toNat))) (GridT.mk (ptG A_g.low A_g.step (nth L_fr 0) (nth L_fr 1) (nth L_fr 2)) (cf .f32 r7) (nth L_ct 0) (nth L_ct 1) (nth L_ct 2) (takG A_g (fun x y z => idxG A_g ((fun x y z => IntKind.i64.wrap ((nth L_fr 0) + x)) x y z) ((fun x y z => IntKind.i64.wrap ((nth L_fr 1) + y)) x y z) ((fun x y z => IntKind.i64.wrap ((nth L_fr 2) + z)) x y z)) (nth L_ct 0) (nth L_ct 1) ((nth L_ct 0) * (nth L_ct 1) * (nth L_ct 2)).toNat))).vals).length) q65_16)], _, rfl, (by assumption), (by assumption)⟩, Ext.refl _⟩
  refine RW_d _ rfl (fun v => by dsimp only [List.set]; try rfl) (fun u hu hF => ?_) (fun v263 => ?_)
  · have h65_ : ∃ cs_1 : List Value, ∃ Lw_2 : List Nat, v261 = (.tuple #[(.agg cs_1.toArray), (Bo (isGrid (GridT.mk (ptG A_g.low A_g.step (nth L_fr 0) (nth L_fr 1) (nth L_fr 2)) (cf .f32 r7) (nth L_ct 0) (nth L_ct 1) (nth L_ct 2) (takG A_g (fun x y z => idxG A_g ((fun x y z => IntKind.i64.wrap ((nth L_fr 0) + x)) x y z) ((fun x y z => IntKind.i64.wrap ((nth L_fr 1) + y)) x y z) ((fun x y z => IntKind.i64.wrap ((nth L_fr 2) + z)) x y z)) (nth L_ct 0) (nth L_ct 1) ((nth L_ct 0) * (nth L_ct 1) * (nth L_ct 2)).toNat))))]) ∧ Hang w246.heap.size u (fun u => RGridT u (gvA zG (isGrid (GridT.mk (ptG A_g.low A_g.step (nth L_fr 0) (nth L_fr 1) (nth L_fr 2)) (cf .f32 r7) (nth L_ct 0) (nth L_ct 1) (nth L_ct 2) (takG A_g (fun x y z => idxG A_g ((fun x y z => IntKind.i64.wrap ((nth L_fr 0) + x)) x y z) ((fun x y z => IntKind.i64.wrap ((nth L_fr 1) + y)) x y z) ((fun x y z => IntKind.i64.wrap ((nth L_fr 2) + z)) x y z)) (nth L_ct 0) (nth L_ct 1) ((nth L_ct 0) * (nth L_ct 1) * (nth L_ct 2)).toNat))) (GridT.mk (ptG A_g.low A_g.step (nth L_fr 0) (nth L_fr 1) (nth L_fr 2)) (cf .f32 r7) (nth L_ct 0) (nth L_ct 1) (nth L_ct 2) (takG A_g (fun x y z => idxG A_g ((fun x y z => IntKind.i64.wrap ((nth L_fr 0) + x)) x y z) ((fun x y z => IntKind.i64.wrap ((nth L_fr 1) + y)) x y z) ((fun x y z => IntKind.i64.wrap ((nth L_fr 2) + z)) x y z)) (nth L_ct 0) (nth L_ct 1) ((nth L_ct 0) * (nth L_ct 1) * (nth L_ct 2)).toNat))) cs_1) ∧ WL 1 w246.heap.size u Lw_2 (cellN cs_1 7) ((gvA zG (isGrid (GridT.mk (ptG A_g.low A_g.step (nth L_fr 0) (nth L_fr 1) (nth L_fr 2)) (cf .f32 r7) (nth L_ct 0) (nth L_ct 1) (nth L_ct 2) (takG A_g (fun x y z => idxG A_g ((fun x y z => IntKind.i64.wrap ((nth L_fr 0) + x)) x y z) ((fun x y z => IntKind.i64.wrap ((nth L_fr 1) + y)) x y z) ((fun x y z => IntKind.i64.wrap ((nth L_fr 2) + z)) x y z)) (nth L_ct 0) (nth L_ct 1) ((nth L_ct 0) * (nth L_ct 1) * (nth L_ct 2)).toNat))) (GridT.mk (ptG A_g.low A_g.step (nth L_fr 0) (nth L_fr 1) (nth L_fr 2)) (cf .f32 r7) (nth L_ct 0) (nth L_ct 1) (nth L_ct 2) (takG A_g (fun x y z => idxG A_g ((fun x y z => IntKind.i64.wrap ((nth L_fr 0) + x)) x y z) ((fun x y z => IntKind.i64.wrap ((nth L_fr 1) + y)) x y z) ((fun x y z => IntKind.i64.wrap ((nth L_fr 2) + z)) x y z)) (nth L_ct 0) (nth L_ct 1) ((nth L_ct 0) * (nth L_ct 1) * (nth L_ct 2)).toNat))).vals).length := hF.1
    clear hF
    refine doesG_un rfl ?_
    obtain ⟨cs65_2, Lw65_3, rfl, hh65_1, hw65_4⟩ := h65_
    obtain ⟨r65_5, r65_7, r65_9, r65_11, y65_13, rfl, h65_6, h65_8, h65_10, h65_12, h65_14⟩ := hh65_1.get
    have hh65_14 := h65_14; obtain ⟨p65_15, q65_16, rfl⟩ := Sl.shape h65_14
    refine (does_extract (vs := #[(.agg #[(Fl r65_5), (Fl r65_7), (Fl r65_9), (Fl r65_11), (Iv ((gvA zG (isGrid (GridT.mk (ptG A_g.low A_g.step (nth L_fr 0) (nth L_fr 1) (nth L_fr 2)) (cf .f32 r7) (nth L_ct 0) (nth L_ct 1) (nth L_ct 2) (takG A_g (fun x y z => idxG A_g ((fun x y z => IntKind.i64.wrap ((nth L_fr 0) + x)) x y z) ((fun x y z => IntKind.i64.wrap ((nth L_fr 1) + y)) x y z) ((fun x y z => IntKind.i64.wrap ((nth L_fr 2) + z)) x y z)) (nth L_ct 0) (nth L_ct 1) ((nth L_ct 0) * (nth L_ct 1) * (nth L_ct 2)).toNat))) (GridT.mk (ptG A_g.low A_g.step (nth L_fr 0) (nth L_fr 1) (nth L_fr 2)) (cf .f32 r7) (nth L_ct 0) (nth L_ct 1) (nth L_ct 2) (takG A_g (fun x y z => idxG A_g ((fun x y z => IntKind.i64.wrap ((nth L_fr 0) + x)) x y z) ((fun x y z => IntKind.i64.wrap ((nth L_fr 1) + y)) x y z) ((fun x y z => IntKind.i64.wrap ((nth L_fr 2) + z)) x y z)) (nth L_ct 0) (nth L_ct 1) ((nth L_ct 0) * (nth L_ct 1) * (nth L_ct 2)).toNat))).x)), (Iv ((gvA zG (isGrid (GridT.mk (ptG A_g.low A_g.step (nth L_fr 0) (nth L_fr 1) (nth L_fr 2)) (cf .f32 r7) (nth L_ct 0) (nth L_ct 1) (nth L_ct 2) (takG A_g (fun x y z => idxG A_g ((fun x y z => IntKind.i64.wrap ((nth L_fr 0) + x)) x y z) ((fun x y z => IntKind.i64.wrap ((nth L_fr 1) + y)) x y z) ((fun x y z => IntKind.i64.wrap ((nth L_fr 2) + z)) x y z)) (nth L_ct 0) (nth L_ct 1) ((nth L_ct 0) * (nth L_ct 1) * (nth L_ct 2)).toNat))) (GridT.mk (ptG A_g.low A_g.step (nth L_fr 0) (nth L_fr 1) (nth L_fr 2)) (cf .f32 r7) (nth L_ct 0) (nth L_ct 1) (nth L_ct 2) (takG A_g (fun x y z => idxG A_g ((fun x y z => IntKind.i64.wrap ((nth L_fr 0) + x)) x y z) ((fun x y z => IntKind.i64.wrap ((nth L_fr 1) + y)) x y z) ((fun x y z => IntKind.i64.wrap ((nth L_fr 2) + z)) x y z)) (nth L_ct 0) (nth L_ct 1) ((nth L_ct 0) * (nth L_ct 1) * (nth L_ct 2)).toNat))).y)), (Iv ((gvA zG (isGrid (GridT.mk (ptG A_g.low A_g.step (nth L_fr 0) (nth L_fr 1) (nth L_fr 2)) (cf .f32 r7) (nth L_ct 0) (nth L_ct 1) (nth L_ct 2) (takG A_g (fun x y z => idxG A_g ((fun x y z => IntKind.i64.wrap ((nth L_fr 0) + x)) x y z) ((fun x y z => IntKind.i64.wrap ((nth L_fr 1) + y)) x y z) ((fun x y z => IntKind.i64.wrap ((nth L_fr 2) + z)) x y z)) (nth L_ct 0) (nth L_ct 1) ((nth L_ct 0) * (nth L_ct 1) * (nth L_ct 2)).toNat))) (GridT.mk (ptG A_g.low A_g.step (nth L_fr 0) (nth L_fr 1) (nth L_fr 2)) (cf .f32 r7) (nth L_ct 0) (nth L_ct 1) (nth L_ct 2) (takG A_g (fun x y z => idxG A_g ((fun x y z => IntKind.i64.wrap ((nth L_fr 0) + x)) x y z) ((fun x y z => IntKind.i64.wrap ((nth L_fr 1) + y)) x y z) ((fun x y z => IntKind.i64.wrap ((nth L_fr 2) + z)) x y z)) (nth L_ct 0) (nth L_ct 1) ((nth L_ct 0) * (nth L_ct 1) * (nth L_ct 2)).toNat))).z)), (.slice p65_15 (((gvA zG (isGrid (GridT.mk (ptG A_g.low A_g.step (nth L_fr 0) (nth L_fr 1) (nth L_fr 2)) (cf .f32 r7) (nth L_ct 0) (nth L_ct 1) (nth L_ct 2) (takG A_g (fun x y z => idxG A_g ((fun x y z => IntKind.i64.wrap ((nth L_fr 0) + x)) x y z) ((fun x y z => IntKind.i64.wrap ((nth L_fr 1) + y)) x y z) ((fun x y z => IntKind.i64.wrap ((nth L_fr 2) + z)) x y z)) (nth L_ct 0) (nth L_ct 1) ((nth L_ct 0) * (nth L_ct 1) * (nth L_ct 2)).toNat))) (GridT.mk (ptG A_g.low A_g.step (nth L_fr 0) (nth L_fr 1) (nth L_fr 2)) (cf .f32 r7) (nth L_ct 0) (nth L_ct 1) (nth L_ct 2) (takG A_g (fun x y z => idxG A_g ((fun x y z => IntKind.i64.wrap ((nth L_fr 0) + x)) x y z) ((fun x y z => IntKind.i64.wrap ((nth L_fr 1) + y)) x y z) ((fun x y z => IntKind.i64.wrap ((nth L_fr 2) + z)) x y z)) (nth L_ct 0) (nth L_ct 1) ((nth L_ct 0) * (nth L_ct 1) * (nth L_ct 2)).toNat))).vals).length) q65_16)]), (Bo (isGrid (GridT.mk (ptG A_g.low A_g.step (nth L_fr 0) (nth L_fr 1) (nth L_fr 2)) (cf .f32 r7) (nth L_ct 0) (nth L_ct 1) (nth L_ct 2) (takG A_g (fun x y z => idxG A_g ((fun x y z => IntKind.i64.wrap ((nth L_fr 0) + x)) x y z) ((fun x y z => IntKind.i64.wrap ((nth L_fr 1) + y)) x y z) ((fun x y z => IntKind.i64.wrap ((nth L_fr 2) + z)) x y z)) (nth L_ct 0) (nth L_ct 1) ((nth L_ct 0) * (nth L_ct 1) * (nth L_ct 2)).toNat))))]) (u := (Bo (isGrid (GridT.mk (ptG A_g.low A_g.step (nth L_fr 0) (nth L_fr 1) (nth L_fr 2)) (cf .f32 r7) (nth L_ct 0) (nth L_ct 1) (nth L_ct 2) (takG A_g (fun x y z => idxG A_g ((fun x y z => IntKind.i64.wrap ((nth L_fr 0) + x)) x y z) ((fun x y z => IntKind.i64.wrap ((nth L_fr 1) + y)) x y z) ((fun x y z => IntKind.i64.wrap ((nth L_fr 2) + z)) x y z)) (nth L_ct 0) (nth L_ct 1) ((nth L_ct 0) * (nth L_ct 1) * (nth L_ct 2)).toNat))))) (ev rfl) rfl).mono ?_; rintro _ _ ⟨rfl, rfl⟩
    exact ⟨(by first | rfl | (show _ = _; simp only [hβ10, h65_6, h65_8, h65_10, h65_12])), Ext.refl _⟩
  refine RW_fin ?_; intro w264 E265 hP266
  obtain ⟨⟨⟨⟨⟨⟨⟨⟨⟨⟨⟨-, -⟩, -⟩, -⟩, -⟩, -⟩, -⟩, -⟩, -⟩, -⟩, q267⟩, q268⟩ := hP266
  have X269 := Ext.gr X252 E265
  have q267 : ∃ cs_1 : List Value, ∃ Lw_2 : List Nat, v262 = (.agg cs_1.toArray) ∧ Hang w246.heap.size w264 (fun u => RGridT u (gvA zG (isGrid (GridT.mk (ptG A_g.low A_g.step (nth L_fr 0) (nth L_fr 1) (nth L_fr 2)) (cf .f32 r7) (nth L_ct 0) (nth L_ct 1) (nth L_ct 2) (takG A_g (fun x y z => idxG A_g ((fun x y z => IntKind.i64.wrap ((nth L_fr 0) + x)) x y z) ((fun x y z => IntKind.i64.wrap ((nth L_fr 1) + y)) x y z) ((fun x y z => IntKind.i64.wrap ((nth L_fr 2) + z)) x y z)) (nth L_ct 0) (nth L_ct 1) ((nth L_ct 0) * (nth L_ct 1) * (nth L_ct 2)).toNat))) (GridT.mk (ptG A_g.low A_g.step (nth L_fr 0) (nth L_fr 1) (nth L_fr 2)) (cf .f32 r7) (nth L_ct 0) (nth L_ct 1) (nth L_ct 2) (takG A_g (fun x y z => idxG A_g ((fun x y z => IntKind.i64.wrap ((nth L_fr 0) + x)) x y z) ((fun x y z => IntKind.i64.wrap ((nth L_fr 1) + y)) x y z) ((fun x y z => IntKind.i64.wrap ((nth L_fr 2) + z)) x y z)) (nth L_ct 0) (nth L_ct 1) ((nth L_ct 0) * (nth L_ct 1) * (nth L_ct 2)).toNat))) cs_1) ∧ WL 1 w246.heap.size w264 Lw_2 (cellN cs_1 7) ((gvA zG (isGrid (GridT.mk (ptG A_g.low A_g.step (nth L_fr 0) (nth L_fr 1) (nth L_fr 2)) (cf .f32 r7) (nth L_ct 0) (nth L_ct 1) (nth L_ct 2) (takG A_g (fun x y z => idxG A_g ((fun x y z => IntKind.i64.wrap ((nth L_fr 0) + x)) x y z) ((fun x y z => IntKind.i64.wrap ((nth L_fr 1) + y)) x y z) ((fun x y z => IntKind.i64.wrap ((nth L_fr 2) + z)) x y z)) (nth L_ct 0) (nth L_ct 1) ((nth L_ct 0) * (nth L_ct 1) * (nth L_ct 2)).toNat))) (GridT.mk (ptG A_g.low A_g.step (nth L_fr 0) (nth L_fr 1) (nth L_fr 2)) (cf .f32 r7) (nth L_ct 0) (nth L_ct 1) (nth L_ct 2) (takG A_g (fun x y z => idxG A_g ((fun x y z => IntKind.i64.wrap ((nth L_fr 0) + x)) x y z) ((fun x y z => IntKind.i64.wrap ((nth L_fr 1) + y)) x y z) ((fun x y z => IntKind.i64.wrap ((nth L_fr 2) + z)) x y z)) (nth L_ct 0) (nth L_ct 1) ((nth L_ct 0) * (nth L_ct 1) * (nth L_ct 2)).toNat))).vals).length := q267
  obtain ⟨cs271, Lw272, rfl, hh270, hw273⟩ := q267
  have n274 : b15 < w246.heap.size := Blk.lt (((((((((((hB17.ext E25).ext E46).ext E68).ext E77).ext E103).ext E129).ext E155).ext E181).ext E207).ext E237).wr W244 (Nat.ne_of_lt n239))
  have n275 : b22 < w246.heap.size := Blk.lt ((((((((((hB24.ext E46).ext E68).ext E77).ext E103).ext E129).ext E155).ext E181).ext E207).ext E237).wr W244 (Nat.ne_of_lt n240))
  have n276 : b234 < w246.heap.size := Blk.lt hB245
  obtain ⟨r277, r279, r281, r283, y285, rfl, h278, h280, h282, h284, h286⟩ := hh270.get
  have h286l := Sl.len h286; obtain ⟨p287, q288, rfl⟩ := Sl.shape h286
  have hh289 : Hang w246.heap.size w264 (fun u => Sl RF 1 u (.slice p287 (((gvA zG (isGrid (GridT.mk (ptG A_g.low A_g.step (nth L_fr 0) (nth L_fr 1) (nth L_fr 2)) (cf .f32 r7) (nth L_ct 0) (nth L_ct 1) (nth L_ct 2) (takG A_g (fun x y z => idxG A_g ((fun x y z => IntKind.i64.wrap ((nth L_fr 0) + x)) x y z) ((fun x y z => IntKind.i64.wrap ((nth L_fr 1) + y)) x y z) ((fun x y z => IntKind.i64.wrap ((nth L_fr 2) + z)) x y z)) (nth L_ct 0) (nth L_ct 1) ((nth L_ct 0) * (nth L_ct 1) * (nth L_ct 2)).toNat))) (GridT.mk (ptG A_g.low A_g.step (nth L_fr 0) (nth L_fr 1) (nth L_fr 2)) (cf .f32 r7) (nth L_ct 0) (nth L_ct 1) (nth L_ct 2) (takG A_g (fun x y z => idxG A_g ((fun x y z => IntKind.i64.wrap ((nth L_fr 0) + x)) x y z) ((fun x y z => IntKind.i64.wrap ((nth L_fr 1) + y)) x y z) ((fun x y z => IntKind.i64.wrap ((nth L_fr 2) + z)) x y z)) (nth L_ct 0) (nth L_ct 1) ((nth L_ct 0) * (nth L_ct 1) * (nth L_ct 2)).toNat))).vals).length) q288) ((gvA zG (isGrid (GridT.mk (ptG A_g.low A_g.step (nth L_fr 0) (nth L_fr 1) (nth L_fr 2)) (cf .f32 r7) (nth L_ct 0) (nth L_ct 1) (nth L_ct 2) (takG A_g (fun x y z => idxG A_g ((fun x y z => IntKind.i64.wrap ((nth L_fr 0) + x)) x y z) ((fun x y z => IntKind.i64.wrap ((nth L_fr 1) + y)) x y z) ((fun x y z => IntKind.i64.wrap ((nth L_fr 2) + z)) x y z)) (nth L_ct 0) (nth L_ct 1) ((nth L_ct 0) * (nth L_ct 1) * (nth L_ct 2)).toNat))) (GridT.mk (ptG A_g.low A_g.step (nth L_fr 0) (nth L_fr 1) (nth L_fr 2)) (cf .f32 r7) (nth L_ct 0) (nth L_ct 1) (nth L_ct 2) (takG A_g (fun x y z => idxG A_g ((fun x y z => IntKind.i64.wrap ((nth L_fr 0) + x)) x y z) ((fun x y z => IntKind.i64.wrap ((nth L_fr 1) + y)) x y z) ((fun x y z => IntKind.i64.wrap ((nth L_fr 2) + z)) x y z)) (nth L_ct 0) (nth L_ct 1) ((nth L_ct 0) * (nth L_ct 1) * (nth L_ct 2)).toNat))).vals)) := fun u hu => by obtain ⟨_, _, _, _, _, hq, _, _, _, _, _⟩ := hh270 u hu; cases hq; assumption
  have hw290 : WL 1 w246.heap.size w264 Lw272 (.slice p287 (((gvA zG (isGrid (GridT.mk (ptG A_g.low A_g.step (nth L_fr 0) (nth L_fr 1) (nth L_fr 2)) (cf .f32 r7) (nth L_ct 0) (nth L_ct 1) (nth L_ct 2) (takG A_g (fun x y z => idxG A_g ((fun x y z => IntKind.i64.wrap ((nth L_fr 0) + x)) x y z) ((fun x y z => IntKind.i64.wrap ((nth L_fr 1) + y)) x y z) ((fun x y z => IntKind.i64.wrap ((nth L_fr 2) + z)) x y z)) (nth L_ct 0) (nth L_ct 1) ((nth L_ct 0) * (nth L_ct 1) * (nth L_ct 2)).toNat))) (GridT.mk (ptG A_g.low A_g.step (nth L_fr 0) (nth L_fr 1) (nth L_fr 2)) (cf .f32 r7) (nth L_ct 0) (nth L_ct 1) (nth L_ct 2) (takG A_g (fun x y z => idxG A_g ((fun x y z => IntKind.i64.wrap ((nth L_fr 0) + x)) x y z) ((fun x y z => IntKind.i64.wrap ((nth L_fr 1) + y)) x y z) ((fun x y z => IntKind.i64.wrap ((nth L_fr 2) + z)) x y z)) (nth L_ct 0) (nth L_ct 1) ((nth L_ct 0) * (nth L_ct 1) * (nth L_ct 2)).toNat))).vals).length) q288) ((gvA zG (isGrid (GridT.mk (ptG A_g.low A_g.step (nth L_fr 0) (nth L_fr 1) (nth L_fr 2)) (cf .f32 r7) (nth L_ct 0) (nth L_ct 1) (nth L_ct 2) (takG A_g (fun x y z => idxG A_g ((fun x y z => IntKind.i64.wrap ((nth L_fr 0) + x)) x y z) ((fun x y z => IntKind.i64.wrap ((nth L_fr 1) + y)) x y z) ((fun x y z => IntKind.i64.wrap ((nth L_fr 2) + z)) x y z)) (nth L_ct 0) (nth L_ct 1) ((nth L_ct 0) * (nth L_ct 1) * (nth L_ct 2)).toNat))) (GridT.mk (ptG A_g.low A_g.step (nth L_fr 0) (nth L_fr 1) (nth L_fr 2)) (cf .f32 r7) (nth L_ct 0) (nth L_ct 1) (nth L_ct 2) (takG A_g (fun x y z => idxG A_g ((fun x y z => IntKind.i64.wrap ((nth L_fr 0) + x)) x y z) ((fun x y z => IntKind.i64.wrap ((nth L_fr 1) + y)) x y z) ((fun x y z => IntKind.i64.wrap ((nth L_fr 2) + z)) x y z)) (nth L_ct 0) (nth L_ct 1) ((nth L_ct 0) * (nth L_ct 1) * (nth L_ct 2)).toNat))).vals).length := hw273
  have q268 : v263 = (Bo β10) := q268
  obtain rfl := q268
  show wpList _ _ _ _ (fr [(.agg #[(Fl r1), (Fl r3), (Fl r5), (Fl r7), (Iv A_g.x), (Iv A_g.y), (Iv A_g.z), (.slice p11 A_g.vals.length q12)]), (.slice p_fr L_fr.length q_fr), (.slice p_ct L_ct.length q_ct), (Pt b15 0), Ud, Ud, (Pt b22 0), (Bo false), (Iv 2), (Iv A_g.z), (Pt b234 0), v32, v33, v34, v35, v36, v37, v38, v39, v40, v41, v42, v43, (Bo β3), Ud, (.agg #[(Iv A_g.x), (Iv A_g.y), (Iv A_g.z)]), (Iv 3), (Bo false), (Iv 2), (Iv A_g.z), v184, v185, v186, v187, v188, v189, v190, v191, v192, v193, v194, v195, v196, v197, v198, v199, v200, v201, v202, v203, v204, (Bo ((!β8) || (!β9))), Ud, (Iv 3), (.slice p_fr L_fr.length q_fr), (Pt b230 o231), (.agg #[(Iv (nth L_fr 0)), (Iv (nth L_fr 1)), (Iv (nth L_fr 2))]), v253, v254, v255, v256, v257, v258, v259, v260, v261, (.agg #[(Fl r277), (Fl r279), (Fl r281), (Fl r283), (Iv ((gvA zG (isGrid (GridT.mk (ptG A_g.low A_g.step (nth L_fr 0) (nth L_fr 1) (nth L_fr 2)) (cf .f32 r7) (nth L_ct 0) (nth L_ct 1) (nth L_ct 2) (takG A_g (fun x y z => idxG A_g ((fun x y z => IntKind.i64.wrap ((nth L_fr 0) + x)) x y z) ((fun x y z => IntKind.i64.wrap ((nth L_fr 1) + y)) x y z) ((fun x y z => IntKind.i64.wrap ((nth L_fr 2) + z)) x y z)) (nth L_ct 0) (nth L_ct 1) ((nth L_ct 0) * (nth L_ct 1) * (nth L_ct 2)).toNat))) (GridT.mk (ptG A_g.low A_g.step (nth L_fr 0) (nth L_fr 1) (nth L_fr 2)) (cf .f32 r7) (nth L_ct 0) (nth L_ct 1) (nth L_ct 2) (takG A_g (fun x y z => idxG A_g ((fun x y z => IntKind.i64.wrap ((nth L_fr 0) + x)) x y z) ((fun x y z => IntKind.i64.wrap ((nth L_fr 1) + y)) x y z) ((fun x y z => IntKind.i64.wrap ((nth L_fr 2) + z)) x y z)) (nth L_ct 0) (nth L_ct 1) ((nth L_ct 0) * (nth L_ct 1) * (nth L_ct 2)).toNat))).x)), (Iv ((gvA zG (isGrid (GridT.mk (ptG A_g.low A_g.step (nth L_fr 0) (nth L_fr 1) (nth L_fr 2)) (cf .f32 r7) (nth L_ct 0) (nth L_ct 1) (nth L_ct 2) (takG A_g (fun x y z => idxG A_g ((fun x y z => IntKind.i64.wrap ((nth L_fr 0) + x)) x y z) ((fun x y z => IntKind.i64.wrap ((nth L_fr 1) + y)) x y z) ((fun x y z => IntKind.i64.wrap ((nth L_fr 2) + z)) x y z)) (nth L_ct 0) (nth L_ct 1) ((nth L_ct 0) * (nth L_ct 1) * (nth L_ct 2)).toNat))) (GridT.mk (ptG A_g.low A_g.step (nth L_fr 0) (nth L_fr 1) (nth L_fr 2)) (cf .f32 r7) (nth L_ct 0) (nth L_ct 1) (nth L_ct 2) (takG A_g (fun x y z => idxG A_g ((fun x y z => IntKind.i64.wrap ((nth L_fr 0) + x)) x y z) ((fun x y z => IntKind.i64.wrap ((nth L_fr 1) + y)) x y z) ((fun x y z => IntKind.i64.wrap ((nth L_fr 2) + z)) x y z)) (nth L_ct 0) (nth L_ct 1) ((nth L_ct 0) * (nth L_ct 1) * (nth L_ct 2)).toNat))).y)), (Iv ((gvA zG (isGrid (GridT.mk (ptG A_g.low A_g.step (nth L_fr 0) (nth L_fr 1) (nth L_fr 2)) (cf .f32 r7) (nth L_ct 0) (nth L_ct 1) (nth L_ct 2) (takG A_g (fun x y z => idxG A_g ((fun x y z => IntKind.i64.wrap ((nth L_fr 0) + x)) x y z) ((fun x y z => IntKind.i64.wrap ((nth L_fr 1) + y)) x y z) ((fun x y z => IntKind.i64.wrap ((nth L_fr 2) + z)) x y z)) (nth L_ct 0) (nth L_ct 1) ((nth L_ct 0) * (nth L_ct 1) * (nth L_ct 2)).toNat))) (GridT.mk (ptG A_g.low A_g.step (nth L_fr 0) (nth L_fr 1) (nth L_fr 2)) (cf .f32 r7) (nth L_ct 0) (nth L_ct 1) (nth L_ct 2) (takG A_g (fun x y z => idxG A_g ((fun x y z => IntKind.i64.wrap ((nth L_fr 0) + x)) x y z) ((fun x y z => IntKind.i64.wrap ((nth L_fr 1) + y)) x y z) ((fun x y z => IntKind.i64.wrap ((nth L_fr 2) + z)) x y z)) (nth L_ct 0) (nth L_ct 1) ((nth L_ct 0) * (nth L_ct 1) * (nth L_ct 2)).toNat))).z)), (.slice p287 (((gvA zG (isGrid (GridT.mk (ptG A_g.low A_g.step (nth L_fr 0) (nth L_fr 1) (nth L_fr 2)) (cf .f32 r7) (nth L_ct 0) (nth L_ct 1) (nth L_ct 2) (takG A_g (fun x y z => idxG A_g ((fun x y z => IntKind.i64.wrap ((nth L_fr 0) + x)) x y z) ((fun x y z => IntKind.i64.wrap ((nth L_fr 1) + y)) x y z) ((fun x y z => IntKind.i64.wrap ((nth L_fr 2) + z)) x y z)) (nth L_ct 0) (nth L_ct 1) ((nth L_ct 0) * (nth L_ct 1) * (nth L_ct 2)).toNat))) (GridT.mk (ptG A_g.low A_g.step (nth L_fr 0) (nth L_fr 1) (nth L_fr 2)) (cf .f32 r7) (nth L_ct 0) (nth L_ct 1) (nth L_ct 2) (takG A_g (fun x y z => idxG A_g ((fun x y z => IntKind.i64.wrap ((nth L_fr 0) + x)) x y z) ((fun x y z => IntKind.i64.wrap ((nth L_fr 1) + y)) x y z) ((fun x y z => IntKind.i64.wrap ((nth L_fr 2) + z)) x y z)) (nth L_ct 0) (nth L_ct 1) ((nth L_ct 0) * (nth L_ct 1) * (nth L_ct 2)).toNat))).vals).length) q288)]), (Bo β10)]) _
  refine seqn rfl rfl (does_store (n := 8) (cs := [(Fl 0), (Fl 0), (Fl 0), (Fl 0), (Iv 0), (Iv 0), (Iv 0), (.slice none 0 0)]) (u := (.agg #[(Fl r277), (Fl r279), (Fl r281), (Fl r283), (Iv ((gvA zG (isGrid (GridT.mk (ptG A_g.low A_g.step (nth L_fr 0) (nth L_fr 1) (nth L_fr 2)) (cf .f32 r7) (nth L_ct 0) (nth L_ct 1) (nth L_ct 2) (takG A_g (fun x y z => idxG A_g ((fun x y z => IntKind.i64.wrap ((nth L_fr 0) + x)) x y z) ((fun x y z => IntKind.i64.wrap ((nth L_fr 1) + y)) x y z) ((fun x y z => IntKind.i64.wrap ((nth L_fr 2) + z)) x y z)) (nth L_ct 0) (nth L_ct 1) ((nth L_ct 0) * (nth L_ct 1) * (nth L_ct 2)).toNat))) (GridT.mk (ptG A_g.low A_g.step (nth L_fr 0) (nth L_fr 1) (nth L_fr 2)) (cf .f32 r7) (nth L_ct 0) (nth L_ct 1) (nth L_ct 2) (takG A_g (fun x y z => idxG A_g ((fun x y z => IntKind.i64.wrap ((nth L_fr 0) + x)) x y z) ((fun x y z => IntKind.i64.wrap ((nth L_fr 1) + y)) x y z) ((fun x y z => IntKind.i64.wrap ((nth L_fr 2) + z)) x y z)) (nth L_ct 0) (nth L_ct 1) ((nth L_ct 0) * (nth L_ct 1) * (nth L_ct 2)).toNat))).x)), (Iv ((gvA zG (isGrid (GridT.mk (ptG A_g.low A_g.step (nth L_fr 0) (nth L_fr 1) (nth L_fr 2)) (cf .f32 r7) (nth L_ct 0) (nth L_ct 1) (nth L_ct 2) (takG A_g (fun x y z => idxG A_g ((fun x y z => IntKind.i64.wrap ((nth L_fr 0) + x)) x y z) ((fun x y z => IntKind.i64.wrap ((nth L_fr 1) + y)) x y z) ((fun x y z => IntKind.i64.wrap ((nth L_fr 2) + z)) x y z)) (nth L_ct 0) (nth L_ct 1) ((nth L_ct 0) * (nth L_ct 1) * (nth L_ct 2)).toNat))) (GridT.mk (ptG A_g.low A_g.step (nth L_fr 0) (nth L_fr 1) (nth L_fr 2)) (cf .f32 r7) (nth L_ct 0) (nth L_ct 1) (nth L_ct 2) (takG A_g (fun x y z => idxG A_g ((fun x y z => IntKind.i64.wrap ((nth L_fr 0) + x)) x y z) ((fun x y z => IntKind.i64.wrap ((nth L_fr 1) + y)) x y z) ((fun x y z => IntKind.i64.wrap ((nth L_fr 2) + z)) x y z)) (nth L_ct 0) (nth L_ct 1) ((nth L_ct 0) * (nth L_ct 1) * (nth L_ct 2)).toNat))).y)), (Iv ((gvA zG (isGrid (GridT.mk (ptG A_g.low A_g.step (nth L_fr 0) (nth L_fr 1) (nth L_fr 2)) (cf .f32 r7) (nth L_ct 0) (nth L_ct 1) (nth L_ct 2) (takG A_g (fun x y z => idxG A_g ((fun x y z => IntKind.i64.wrap ((nth L_fr 0) + x)) x y z) ((fun x y z => IntKind.i64.wrap ((nth L_fr 1) + y)) x y z) ((fun x y z => IntKind.i64.wrap ((nth L_fr 2) + z)) x y z)) (nth L_ct 0) (nth L_ct 1) ((nth L_ct 0) * (nth L_ct 1) * (nth L_ct 2)).toNat))) (GridT.mk (ptG A_g.low A_g.step (nth L_fr 0) (nth L_fr 1) (nth L_fr 2)) (cf .f32 r7) (nth L_ct 0) (nth L_ct 1) (nth L_ct 2) (takG A_g (fun x y z => idxG A_g ((fun x y z => IntKind.i64.wrap ((nth L_fr 0) + x)) x y z) ((fun x y z => IntKind.i64.wrap ((nth L_fr 1) + y)) x y z) ((fun x y z => IntKind.i64.wrap ((nth L_fr 2) + z)) x y z)) (nth L_ct 0) (nth L_ct 1) ((nth L_ct 0) * (nth L_ct 1) * (nth L_ct 2)).toNat))).z)), (.slice p287 (((gvA zG (isGrid (GridT.mk (ptG A_g.low A_g.step (nth L_fr 0) (nth L_fr 1) (nth L_fr 2)) (cf .f32 r7) (nth L_ct 0) (nth L_ct 1) (nth L_ct 2) (takG A_g (fun x y z => idxG A_g ((fun x y z => IntKind.i64.wrap ((nth L_fr 0) + x)) x y z) ((fun x y z => IntKind.i64.wrap ((nth L_fr 1) + y)) x y z) ((fun x y z => IntKind.i64.wrap ((nth L_fr 2) + z)) x y z)) (nth L_ct 0) (nth L_ct 1) ((nth L_ct 0) * (nth L_ct 1) * (nth L_ct 2)).toNat))) (GridT.mk (ptG A_g.low A_g.step (nth L_fr 0) (nth L_fr 1) (nth L_fr 2)) (cf .f32 r7) (nth L_ct 0) (nth L_ct 1) (nth L_ct 2) (takG A_g (fun x y z => idxG A_g ((fun x y z => IntKind.i64.wrap ((nth L_fr 0) + x)) x y z) ((fun x y z => IntKind.i64.wrap ((nth L_fr 1) + y)) x y z) ((fun x y z => IntKind.i64.wrap ((nth L_fr 2) + z)) x y z)) (nth L_ct 0) (nth L_ct 1) ((nth L_ct 0) * (nth L_ct 1) * (nth L_ct 2)).toNat))).vals).length) q288)])) (ev rfl) (ev rfl) Try.sizeOf31 rfl ((((((((((((hB24.ext E46).ext E68).ext E77).ext E103).ext E129).ext E155).ext E181).ext E207).ext E237).wr W244 (Nat.ne_of_lt n240)).ext E250).ext E265) (Nat.le_of_ble_eq_true rfl) rfl) ?_; rintro _ w293 ⟨rfl, W291, hB292⟩
  change Blk _ _ [(Fl r277), (Fl r279), (Fl r281), (Fl r283), (Iv ((gvA zG (isGrid (GridT.mk (ptG A_g.low A_g.step (nth L_fr 0) (nth L_fr 1) (nth L_fr 2)) (cf .f32 r7) (nth L_ct 0) (nth L_ct 1) (nth L_ct 2) (takG A_g (fun x y z => idxG A_g ((fun x y z => IntKind.i64.wrap ((nth L_fr 0) + x)) x y z) ((fun x y z => IntKind.i64.wrap ((nth L_fr 1) + y)) x y z) ((fun x y z => IntKind.i64.wrap ((nth L_fr 2) + z)) x y z)) (nth L_ct 0) (nth L_ct 1) ((nth L_ct 0) * (nth L_ct 1) * (nth L_ct 2)).toNat))) (GridT.mk (ptG A_g.low A_g.step (nth L_fr 0) (nth L_fr 1) (nth L_fr 2)) (cf .f32 r7) (nth L_ct 0) (nth L_ct 1) (nth L_ct 2) (takG A_g (fun x y z => idxG A_g ((fun x y z => IntKind.i64.wrap ((nth L_fr 0) + x)) x y z) ((fun x y z => IntKind.i64.wrap ((nth L_fr 1) + y)) x y z) ((fun x y z => IntKind.i64.wrap ((nth L_fr 2) + z)) x y z)) (nth L_ct 0) (nth L_ct 1) ((nth L_ct 0) * (nth L_ct 1) * (nth L_ct 2)).toNat))).x)), (Iv ((gvA zG (isGrid (GridT.mk (ptG A_g.low A_g.step (nth L_fr 0) (nth L_fr 1) (nth L_fr 2)) (cf .f32 r7) (nth L_ct 0) (nth L_ct 1) (nth L_ct 2) (takG A_g (fun x y z => idxG A_g ((fun x y z => IntKind.i64.wrap ((nth L_fr 0) + x)) x y z) ((fun x y z => IntKind.i64.wrap ((nth L_fr 1) + y)) x y z) ((fun x y z => IntKind.i64.wrap ((nth L_fr 2) + z)) x y z)) (nth L_ct 0) (nth L_ct 1) ((nth L_ct 0) * (nth L_ct 1) * (nth L_ct 2)).toNat))) (GridT.mk (ptG A_g.low A_g.step (nth L_fr 0) (nth L_fr 1) (nth L_fr 2)) (cf .f32 r7) (nth L_ct 0) (nth L_ct 1) (nth L_ct 2) (takG A_g (fun x y z => idxG A_g ((fun x y z => IntKind.i64.wrap ((nth L_fr 0) + x)) x y z) ((fun x y z => IntKind.i64.wrap ((nth L_fr 1) + y)) x y z) ((fun x y z => IntKind.i64.wrap ((nth L_fr 2) + z)) x y z)) (nth L_ct 0) (nth L_ct 1) ((nth L_ct 0) * (nth L_ct 1) * (nth L_ct 2)).toNat))).y)), (Iv ((gvA zG (isGrid (GridT.mk (ptG A_g.low A_g.step (nth L_fr 0) (nth L_fr 1) (nth L_fr 2)) (cf .f32 r7) (nth L_ct 0) (nth L_ct 1) (nth L_ct 2) (takG A_g (fun x y z => idxG A_g ((fun x y z => IntKind.i64.wrap ((nth L_fr 0) + x)) x y z) ((fun x y z => IntKind.i64.wrap ((nth L_fr 1) + y)) x y z) ((fun x y z => IntKind.i64.wrap ((nth L_fr 2) + z)) x y z)) (nth L_ct 0) (nth L_ct 1) ((nth L_ct 0) * (nth L_ct 1) * (nth L_ct 2)).toNat))) (GridT.mk (ptG A_g.low A_g.step (nth L_fr 0) (nth L_fr 1) (nth L_fr 2)) (cf .f32 r7) (nth L_ct 0) (nth L_ct 1) (nth L_ct 2) (takG A_g (fun x y z => idxG A_g ((fun x y z => IntKind.i64.wrap ((nth L_fr 0) + x)) x y z) ((fun x y z => IntKind.i64.wrap ((nth L_fr 1) + y)) x y z) ((fun x y z => IntKind.i64.wrap ((nth L_fr 2) + z)) x y z)) (nth L_ct 0) (nth L_ct 1) ((nth L_ct 0) * (nth L_ct 1) * (nth L_ct 2)).toNat))).z)), (.slice p287 (((gvA zG (isGrid (GridT.mk (ptG A_g.low A_g.step (nth L_fr 0) (nth L_fr 1) (nth L_fr 2)) (cf .f32 r7) (nth L_ct 0) (nth L_ct 1) (nth L_ct 2) (takG A_g (fun x y z => idxG A_g ((fun x y z => IntKind.i64.wrap ((nth L_fr 0) + x)) x y z) ((fun x y z => IntKind.i64.wrap ((nth L_fr 1) + y)) x y z) ((fun x y z => IntKind.i64.wrap ((nth L_fr 2) + z)) x y z)) (nth L_ct 0) (nth L_ct 1) ((nth L_ct 0) * (nth L_ct 1) * (nth L_ct 2)).toNat))) (GridT.mk (ptG A_g.low A_g.step (nth L_fr 0) (nth L_fr 1) (nth L_fr 2)) (cf .f32 r7) (nth L_ct 0) (nth L_ct 1) (nth L_ct 2) (takG A_g (fun x y z => idxG A_g ((fun x y z => IntKind.i64.wrap ((nth L_fr 0) + x)) x y z) ((fun x y z => IntKind.i64.wrap ((nth L_fr 1) + y)) x y z) ((fun x y z => IntKind.i64.wrap ((nth L_fr 2) + z)) x y z)) (nth L_ct 0) (nth L_ct 1) ((nth L_ct 0) * (nth L_ct 1) * (nth L_ct 2)).toNat))).vals).length) q288)] at hB292
  have X294 := Below.wr X269 W291 g28
  refine q_is rfl rfl (does_assign (u := (Bo β10)) (ev rfl)) (by dsimp only [List.set]; try rfl) ?_
  refine wpList_nil (hK248 _ _ ?_)
  refine wp_ret ?_
  refine ret_val (v := (.tuple #[(.agg #[(Fl r277), (Fl r279), (Fl r281), (Fl r283), (Iv ((gvA zG (isGrid (GridT.mk (ptG A_g.low A_g.step (nth L_fr 0) (nth L_fr 1) (nth L_fr 2)) (cf .f32 r7) (nth L_ct 0) (nth L_ct 1) (nth L_ct 2) (takG A_g (fun x y z => idxG A_g ((fun x y z => IntKind.i64.wrap ((nth L_fr 0) + x)) x y z) ((fun x y z => IntKind.i64.wrap ((nth L_fr 1) + y)) x y z) ((fun x y z => IntKind.i64.wrap ((nth L_fr 2) + z)) x y z)) (nth L_ct 0) (nth L_ct 1) ((nth L_ct 0) * (nth L_ct 1) * (nth L_ct 2)).toNat))) (GridT.mk (ptG A_g.low A_g.step (nth L_fr 0) (nth L_fr 1) (nth L_fr 2)) (cf .f32 r7) (nth L_ct 0) (nth L_ct 1) (nth L_ct 2) (takG A_g (fun x y z => idxG A_g ((fun x y z => IntKind.i64.wrap ((nth L_fr 0) + x)) x y z) ((fun x y z => IntKind.i64.wrap ((nth L_fr 1) + y)) x y z) ((fun x y z => IntKind.i64.wrap ((nth L_fr 2) + z)) x y z)) (nth L_ct 0) (nth L_ct 1) ((nth L_ct 0) * (nth L_ct 1) * (nth L_ct 2)).toNat))).x)), (Iv ((gvA zG (isGrid (GridT.mk (ptG A_g.low A_g.step (nth L_fr 0) (nth L_fr 1) (nth L_fr 2)) (cf .f32 r7) (nth L_ct 0) (nth L_ct 1) (nth L_ct 2) (takG A_g (fun x y z => idxG A_g ((fun x y z => IntKind.i64.wrap ((nth L_fr 0) + x)) x y z) ((fun x y z => IntKind.i64.wrap ((nth L_fr 1) + y)) x y z) ((fun x y z => IntKind.i64.wrap ((nth L_fr 2) + z)) x y z)) (nth L_ct 0) (nth L_ct 1) ((nth L_ct 0) * (nth L_ct 1) * (nth L_ct 2)).toNat))) (GridT.mk (ptG A_g.low A_g.step (nth L_fr 0) (nth L_fr 1) (nth L_fr 2)) (cf .f32 r7) (nth L_ct 0) (nth L_ct 1) (nth L_ct 2) (takG A_g (fun x y z => idxG A_g ((fun x y z => IntKind.i64.wrap ((nth L_fr 0) + x)) x y z) ((fun x y z => IntKind.i64.wrap ((nth L_fr 1) + y)) x y z) ((fun x y z => IntKind.i64.wrap ((nth L_fr 2) + z)) x y z)) (nth L_ct 0) (nth L_ct 1) ((nth L_ct 0) * (nth L_ct 1) * (nth L_ct 2)).toNat))).y)), (Iv ((gvA zG (isGrid (GridT.mk (ptG A_g.low A_g.step (nth L_fr 0) (nth L_fr 1) (nth L_fr 2)) (cf .f32 r7) (nth L_ct 0) (nth L_ct 1) (nth L_ct 2) (takG A_g (fun x y z => idxG A_g ((fun x y z => IntKind.i64.wrap ((nth L_fr 0) + x)) x y z) ((fun x y z => IntKind.i64.wrap ((nth L_fr 1) + y)) x y z) ((fun x y z => IntKind.i64.wrap ((nth L_fr 2) + z)) x y z)) (nth L_ct 0) (nth L_ct 1) ((nth L_ct 0) * (nth L_ct 1) * (nth L_ct 2)).toNat))) (GridT.mk (ptG A_g.low A_g.step (nth L_fr 0) (nth L_fr 1) (nth L_fr 2)) (cf .f32 r7) (nth L_ct 0) (nth L_ct 1) (nth L_ct 2) (takG A_g (fun x y z => idxG A_g ((fun x y z => IntKind.i64.wrap ((nth L_fr 0) + x)) x y z) ((fun x y z => IntKind.i64.wrap ((nth L_fr 1) + y)) x y z) ((fun x y z => IntKind.i64.wrap ((nth L_fr 2) + z)) x y z)) (nth L_ct 0) (nth L_ct 1) ((nth L_ct 0) * (nth L_ct 1) * (nth L_ct 2)).toNat))).z)), (.slice p287 (((gvA zG (isGrid (GridT.mk (ptG A_g.low A_g.step (nth L_fr 0) (nth L_fr 1) (nth L_fr 2)) (cf .f32 r7) (nth L_ct 0) (nth L_ct 1) (nth L_ct 2) (takG A_g (fun x y z => idxG A_g ((fun x y z => IntKind.i64.wrap ((nth L_fr 0) + x)) x y z) ((fun x y z => IntKind.i64.wrap ((nth L_fr 1) + y)) x y z) ((fun x y z => IntKind.i64.wrap ((nth L_fr 2) + z)) x y z)) (nth L_ct 0) (nth L_ct 1) ((nth L_ct 0) * (nth L_ct 1) * (nth L_ct 2)).toNat))) (GridT.mk (ptG A_g.low A_g.step (nth L_fr 0) (nth L_fr 1) (nth L_fr 2)) (cf .f32 r7) (nth L_ct 0) (nth L_ct 1) (nth L_ct 2) (takG A_g (fun x y z => idxG A_g ((fun x y z => IntKind.i64.wrap ((nth L_fr 0) + x)) x y z) ((fun x y z => IntKind.i64.wrap ((nth L_fr 1) + y)) x y z) ((fun x y z => IntKind.i64.wrap ((nth L_fr 2) + z)) x y z)) (nth L_ct 0) (nth L_ct 1) ((nth L_ct 0) * (nth L_ct 1) * (nth L_ct 2)).toNat))).vals).length) q288)]), (Bo β10)])) (res_CT rfl (slot rfl) (run_loadAgg (cs := [(Fl r277), (Fl r279), (Fl r281), (Fl r283), (Iv ((gvA zG (isGrid (GridT.mk (ptG A_g.low A_g.step (nth L_fr 0) (nth L_fr 1) (nth L_fr 2)) (cf .f32 r7) (nth L_ct 0) (nth L_ct 1) (nth L_ct 2) (takG A_g (fun x y z => idxG A_g ((fun x y z => IntKind.i64.wrap ((nth L_fr 0) + x)) x y z) ((fun x y z => IntKind.i64.wrap ((nth L_fr 1) + y)) x y z) ((fun x y z => IntKind.i64.wrap ((nth L_fr 2) + z)) x y z)) (nth L_ct 0) (nth L_ct 1) ((nth L_ct 0) * (nth L_ct 1) * (nth L_ct 2)).toNat))) (GridT.mk (ptG A_g.low A_g.step (nth L_fr 0) (nth L_fr 1) (nth L_fr 2)) (cf .f32 r7) (nth L_ct 0) (nth L_ct 1) (nth L_ct 2) (takG A_g (fun x y z => idxG A_g ((fun x y z => IntKind.i64.wrap ((nth L_fr 0) + x)) x y z) ((fun x y z => IntKind.i64.wrap ((nth L_fr 1) + y)) x y z) ((fun x y z => IntKind.i64.wrap ((nth L_fr 2) + z)) x y z)) (nth L_ct 0) (nth L_ct 1) ((nth L_ct 0) * (nth L_ct 1) * (nth L_ct 2)).toNat))).x)), (Iv ((gvA zG (isGrid (GridT.mk (ptG A_g.low A_g.step (nth L_fr 0) (nth L_fr 1) (nth L_fr 2)) (cf .f32 r7) (nth L_ct 0) (nth L_ct 1) (nth L_ct 2) (takG A_g (fun x y z => idxG A_g ((fun x y z => IntKind.i64.wrap ((nth L_fr 0) + x)) x y z) ((fun x y z => IntKind.i64.wrap ((nth L_fr 1) + y)) x y z) ((fun x y z => IntKind.i64.wrap ((nth L_fr 2) + z)) x y z)) (nth L_ct 0) (nth L_ct 1) ((nth L_ct 0) * (nth L_ct 1) * (nth L_ct 2)).toNat))) (GridT.mk (ptG A_g.low A_g.step (nth L_fr 0) (nth L_fr 1) (nth L_fr 2)) (cf .f32 r7) (nth L_ct 0) (nth L_ct 1) (nth L_ct 2) (takG A_g (fun x y z => idxG A_g ((fun x y z => IntKind.i64.wrap ((nth L_fr 0) + x)) x y z) ((fun x y z => IntKind.i64.wrap ((nth L_fr 1) + y)) x y z) ((fun x y z => IntKind.i64.wrap ((nth L_fr 2) + z)) x y z)) (nth L_ct 0) (nth L_ct 1) ((nth L_ct 0) * (nth L_ct 1) * (nth L_ct 2)).toNat))).y)), (Iv ((gvA zG (isGrid (GridT.mk (ptG A_g.low A_g.step (nth L_fr 0) (nth L_fr 1) (nth L_fr 2)) (cf .f32 r7) (nth L_ct 0) (nth L_ct 1) (nth L_ct 2) (takG A_g (fun x y z => idxG A_g ((fun x y z => IntKind.i64.wrap ((nth L_fr 0) + x)) x y z) ((fun x y z => IntKind.i64.wrap ((nth L_fr 1) + y)) x y z) ((fun x y z => IntKind.i64.wrap ((nth L_fr 2) + z)) x y z)) (nth L_ct 0) (nth L_ct 1) ((nth L_ct 0) * (nth L_ct 1) * (nth L_ct 2)).toNat))) (GridT.mk (ptG A_g.low A_g.step (nth L_fr 0) (nth L_fr 1) (nth L_fr 2)) (cf .f32 r7) (nth L_ct 0) (nth L_ct 1) (nth L_ct 2) (takG A_g (fun x y z => idxG A_g ((fun x y z => IntKind.i64.wrap ((nth L_fr 0) + x)) x y z) ((fun x y z => IntKind.i64.wrap ((nth L_fr 1) + y)) x y z) ((fun x y z => IntKind.i64.wrap ((nth L_fr 2) + z)) x y z)) (nth L_ct 0) (nth L_ct 1) ((nth L_ct 0) * (nth L_ct 1) * (nth L_ct 2)).toNat))).z)), (.slice p287 (((gvA zG (isGrid (GridT.mk (ptG A_g.low A_g.step (nth L_fr 0) (nth L_fr 1) (nth L_fr 2)) (cf .f32 r7) (nth L_ct 0) (nth L_ct 1) (nth L_ct 2) (takG A_g (fun x y z => idxG A_g ((fun x y z => IntKind.i64.wrap ((nth L_fr 0) + x)) x y z) ((fun x y z => IntKind.i64.wrap ((nth L_fr 1) + y)) x y z) ((fun x y z => IntKind.i64.wrap ((nth L_fr 2) + z)) x y z)) (nth L_ct 0) (nth L_ct 1) ((nth L_ct 0) * (nth L_ct 1) * (nth L_ct 2)).toNat))) (GridT.mk (ptG A_g.low A_g.step (nth L_fr 0) (nth L_fr 1) (nth L_fr 2)) (cf .f32 r7) (nth L_ct 0) (nth L_ct 1) (nth L_ct 2) (takG A_g (fun x y z => idxG A_g ((fun x y z => IntKind.i64.wrap ((nth L_fr 0) + x)) x y z) ((fun x y z => IntKind.i64.wrap ((nth L_fr 1) + y)) x y z) ((fun x y z => IntKind.i64.wrap ((nth L_fr 2) + z)) x y z)) (nth L_ct 0) (nth L_ct 1) ((nth L_ct 0) * (nth L_ct 1) * (nth L_ct 2)).toNat))).vals).length) q288)]) Try.isAgg31 Try.sizeOf31 (Blk.cells hB292) rfl) (slot rfl)) X294 ?_
  try simp only [h2, h4, h6, h8, hβ1, hβ2, hβ3, hβ4, hβ5, hβ6, hβ7, hβ8, hβ9, hβ10, h278, h280, h282, h284] at c50 c107 c159 c211
  have x295 : (crpOk A_g L_fr L_ct) = β10 := by first | exact crpOk_f hcf | (rw [crpR_f hcf] <;> (show _ = _; dsimp only [zG, zV])) | (rw [crpOk_t hca, crpG_end hca (by assumption) (by omega)] <;> assumption) | (rw [crpR_t hca, crpG_end hca (z := z) (by assumption) (by omega), ‹isGrid (GridT.mk _ _ _ _ _ _) = false›] <;> rfl) | (rw [crpR_t hca, crpG_end hca (z := z) (by assumption) (by omega), ‹isGrid (GridT.mk _ _ _ _ _ _) = true›, gvA_t] <;> first | rfl | assumption | (simp only [h2, h4, h6, h8, hβ1, hβ2, hβ3, hβ4, hβ5, hβ6, hβ7, hβ8, hβ9, hβ10, h278, h280, h282, h284, c50, c107, c159, c211]; done)) | (rw [crpOk_t hca] <;> first | assumption | rfl) | (rw [crpR_t hca] <;> first | rfl | assumption) | (rw [crpOk_t hca]; simp only [h2, h4, h6, h8, hβ1, hβ2, hβ3, hβ4, hβ5, hβ6, hβ7, hβ8, hβ9, hβ10, h278, h280, h282, h284, c50, c107, c159, c211]; rfl) | (rw [crpR_t hca]; simp only [h2, h4, h6, h8, hβ1, hβ2, hβ3, hβ4, hβ5, hβ6, hβ7, hβ8, hβ9, hβ10, h278, h280, h282, h284, c50, c107, c159, c211]; rfl)
  have x296 : cf .f32 r277 = (crpR A_g L_fr L_ct).low.x := by first | exact crpOk_f hcf | (rw [crpR_f hcf] <;> (show _ = _; dsimp only [zG, zV])) | (rw [crpOk_t hca, crpG_end hca (by assumption) (by omega)] <;> assumption) | (rw [crpR_t hca, crpG_end hca (z := z) (by assumption) (by omega), ‹isGrid (GridT.mk _ _ _ _ _ _) = false›] <;> rfl) | (rw [crpR_t hca, crpG_end hca (z := z) (by assumption) (by omega), ‹isGrid (GridT.mk _ _ _ _ _ _) = true›, gvA_t] <;> first | rfl | assumption | (simp only [h2, h4, h6, h8, hβ1, hβ2, hβ3, hβ4, hβ5, hβ6, hβ7, hβ8, hβ9, hβ10, h278, h280, h282, h284, c50, c107, c159, c211]; done)) | (rw [crpOk_t hca] <;> first | assumption | rfl) | (rw [crpR_t hca] <;> first | rfl | assumption) | (rw [crpOk_t hca]; simp only [h2, h4, h6, h8, hβ1, hβ2, hβ3, hβ4, hβ5, hβ6, hβ7, hβ8, hβ9, hβ10, h278, h280, h282, h284, c50, c107, c159, c211]; rfl) | (rw [crpR_t hca]; simp only [h2, h4, h6, h8, hβ1, hβ2, hβ3, hβ4, hβ5, hβ6, hβ7, hβ8, hβ9, hβ10, h278, h280, h282, h284, c50, c107, c159, c211]; rfl)
  have x297 : cf .f32 r279 = (crpR A_g L_fr L_ct).low.y := by first | exact crpOk_f hcf | (rw [crpR_f hcf] <;> (show _ = _; dsimp only [zG, zV])) | (rw [crpOk_t hca, crpG_end hca (by assumption) (by omega)] <;> assumption) | (rw [crpR_t hca, crpG_end hca (z := z) (by assumption) (by omega), ‹isGrid (GridT.mk _ _ _ _ _ _) = false›] <;> rfl) | (rw [crpR_t hca, crpG_end hca (z := z) (by assumption) (by omega), ‹isGrid (GridT.mk _ _ _ _ _ _) = true›, gvA_t] <;> first | rfl | assumption | (simp only [h2, h4, h6, h8, hβ1, hβ2, hβ3, hβ4, hβ5, hβ6, hβ7, hβ8, hβ9, hβ10, h278, h280, h282, h284, c50, c107, c159, c211]; done)) | (rw [crpOk_t hca] <;> first | assumption | rfl) | (rw [crpR_t hca] <;> first | rfl | assumption) | (rw [crpOk_t hca]; simp only [h2, h4, h6, h8, hβ1, hβ2, hβ3, hβ4, hβ5, hβ6, hβ7, hβ8, hβ9, hβ10, h278, h280, h282, h284, c50, c107, c159, c211]; rfl) | (rw [crpR_t hca]; simp only [h2, h4, h6, h8, hβ1, hβ2, hβ3, hβ4, hβ5, hβ6, hβ7, hβ8, hβ9, hβ10, h278, h280, h282, h284, c50, c107, c159, c211]; rfl)
  have x298 : cf .f32 r281 = (crpR A_g L_fr L_ct).low.z := by first | exact crpOk_f hcf | (rw [crpR_f hcf] <;> (show _ = _; dsimp only [zG, zV])) | (rw [crpOk_t hca, crpG_end hca (by assumption) (by omega)] <;> assumption) | (rw [crpR_t hca, crpG_end hca (z := z) (by assumption) (by omega), ‹isGrid (GridT.mk _ _ _ _ _ _) = false›] <;> rfl) | (rw [crpR_t hca, crpG_end hca (z := z) (by assumption) (by omega), ‹isGrid (GridT.mk _ _ _ _ _ _) = true›, gvA_t] <;> first | rfl | assumption | (simp only [h2, h4, h6, h8, hβ1, hβ2, hβ3, hβ4, hβ5, hβ6, hβ7, hβ8, hβ9, hβ10, h278, h280, h282, h284, c50, c107, c159, c211]; done)) | (rw [crpOk_t hca] <;> first | assumption | rfl) | (rw [crpR_t hca] <;> first | rfl | assumption) | (rw [crpOk_t hca]; simp only [h2, h4, h6, h8, hβ1, hβ2, hβ3, hβ4, hβ5, hβ6, hβ7, hβ8, hβ9, hβ10, h278, h280, h282, h284, c50, c107, c159, c211]; rfl) | (rw [crpR_t hca]; simp only [h2, h4, h6, h8, hβ1, hβ2, hβ3, hβ4, hβ5, hβ6, hβ7, hβ8, hβ9, hβ10, h278, h280, h282, h284, c50, c107, c159, c211]; rfl)
  have x299 : cf .f32 r283 = (crpR A_g L_fr L_ct).step := by first | exact crpOk_f hcf | (rw [crpR_f hcf] <;> (show _ = _; dsimp only [zG, zV])) | (rw [crpOk_t hca, crpG_end hca (by assumption) (by omega)] <;> assumption) | (rw [crpR_t hca, crpG_end hca (z := z) (by assumption) (by omega), ‹isGrid (GridT.mk _ _ _ _ _ _) = false›] <;> rfl) | (rw [crpR_t hca, crpG_end hca (z := z) (by assumption) (by omega), ‹isGrid (GridT.mk _ _ _ _ _ _) = true›, gvA_t] <;> first | rfl | assumption | (simp only [h2, h4, h6, h8, hβ1, hβ2, hβ3, hβ4, hβ5, hβ6, hβ7, hβ8, hβ9, hβ10, h278, h280, h282, h284, c50, c107, c159, c211]; done)) | (rw [crpOk_t hca] <;> first | assumption | rfl) | (rw [crpR_t hca] <;> first | rfl | assumption) | (rw [crpOk_t hca]; simp only [h2, h4, h6, h8, hβ1, hβ2, hβ3, hβ4, hβ5, hβ6, hβ7, hβ8, hβ9, hβ10, h278, h280, h282, h284, c50, c107, c159, c211]; rfl) | (rw [crpR_t hca]; simp only [h2, h4, h6, h8, hβ1, hβ2, hβ3, hβ4, hβ5, hβ6, hβ7, hβ8, hβ9, hβ10, h278, h280, h282, h284, c50, c107, c159, c211]; rfl)
  have x300 : (crpR A_g L_fr L_ct).x = ((gvA zG (isGrid (GridT.mk (ptG A_g.low A_g.step (nth L_fr 0) (nth L_fr 1) (nth L_fr 2)) (cf .f32 r7) (nth L_ct 0) (nth L_ct 1) (nth L_ct 2) (takG A_g (fun x y z => idxG A_g ((fun x y z => IntKind.i64.wrap ((nth L_fr 0) + x)) x y z) ((fun x y z => IntKind.i64.wrap ((nth L_fr 1) + y)) x y z) ((fun x y z => IntKind.i64.wrap ((nth L_fr 2) + z)) x y z)) (nth L_ct 0) (nth L_ct 1) ((nth L_ct 0) * (nth L_ct 1) * (nth L_ct 2)).toNat))) (GridT.mk (ptG A_g.low A_g.step (nth L_fr 0) (nth L_fr 1) (nth L_fr 2)) (cf .f32 r7) (nth L_ct 0) (nth L_ct 1) (nth L_ct 2) (takG A_g (fun x y z => idxG A_g ((fun x y z => IntKind.i64.wrap ((nth L_fr 0) + x)) x y z) ((fun x y z => IntKind.i64.wrap ((nth L_fr 1) + y)) x y z) ((fun x y z => IntKind.i64.wrap ((nth L_fr 2) + z)) x y z)) (nth L_ct 0) (nth L_ct 1) ((nth L_ct 0) * (nth L_ct 1) * (nth L_ct 2)).toNat))).x) := by first | exact crpOk_f hcf | (rw [crpR_f hcf] <;> (show _ = _; dsimp only [zG, zV])) | (rw [crpOk_t hca, crpG_end hca (by assumption) (by omega)] <;> assumption) | (rw [crpR_t hca, crpG_end hca (z := z) (by assumption) (by omega), ‹isGrid (GridT.mk _ _ _ _ _ _) = false›] <;> rfl) | (rw [crpR_t hca, crpG_end hca (z := z) (by assumption) (by omega), ‹isGrid (GridT.mk _ _ _ _ _ _) = true›, gvA_t] <;> first | rfl | assumption | (simp only [h2, h4, h6, h8, hβ1, hβ2, hβ3, hβ4, hβ5, hβ6, hβ7, hβ8, hβ9, hβ10, h278, h280, h282, h284, c50, c107, c159, c211]; done)) | (rw [crpOk_t hca] <;> first | assumption | rfl) | (rw [crpR_t hca] <;> first | rfl | assumption) | (rw [crpOk_t hca]; simp only [h2, h4, h6, h8, hβ1, hβ2, hβ3, hβ4, hβ5, hβ6, hβ7, hβ8, hβ9, hβ10, h278, h280, h282, h284, c50, c107, c159, c211]; rfl) | (rw [crpR_t hca]; simp only [h2, h4, h6, h8, hβ1, hβ2, hβ3, hβ4, hβ5, hβ6, hβ7, hβ8, hβ9, hβ10, h278, h280, h282, h284, c50, c107, c159, c211]; rfl)
  have x301 : (crpR A_g L_fr L_ct).y = ((gvA zG (isGrid (GridT.mk (ptG A_g.low A_g.step (nth L_fr 0) (nth L_fr 1) (nth L_fr 2)) (cf .f32 r7) (nth L_ct 0) (nth L_ct 1) (nth L_ct 2) (takG A_g (fun x y z => idxG A_g ((fun x y z => IntKind.i64.wrap ((nth L_fr 0) + x)) x y z) ((fun x y z => IntKind.i64.wrap ((nth L_fr 1) + y)) x y z) ((fun x y z => IntKind.i64.wrap ((nth L_fr 2) + z)) x y z)) (nth L_ct 0) (nth L_ct 1) ((nth L_ct 0) * (nth L_ct 1) * (nth L_ct 2)).toNat))) (GridT.mk (ptG A_g.low A_g.step (nth L_fr 0) (nth L_fr 1) (nth L_fr 2)) (cf .f32 r7) (nth L_ct 0) (nth L_ct 1) (nth L_ct 2) (takG A_g (fun x y z => idxG A_g ((fun x y z => IntKind.i64.wrap ((nth L_fr 0) + x)) x y z) ((fun x y z => IntKind.i64.wrap ((nth L_fr 1) + y)) x y z) ((fun x y z => IntKind.i64.wrap ((nth L_fr 2) + z)) x y z)) (nth L_ct 0) (nth L_ct 1) ((nth L_ct 0) * (nth L_ct 1) * (nth L_ct 2)).toNat))).y) := by first | exact crpOk_f hcf | (rw [crpR_f hcf] <;> (show _ = _; dsimp only [zG, zV])) | (rw [crpOk_t hca, crpG_end hca (by assumption) (by omega)] <;> assumption) | (rw [crpR_t hca, crpG_end hca (z := z) (by assumption) (by omega), ‹isGrid (GridT.mk _ _ _ _ _ _) = false›] <;> rfl) | (rw [crpR_t hca, crpG_end hca (z := z) (by assumption) (by omega), ‹isGrid (GridT.mk _ _ _ _ _ _) = true›, gvA_t] <;> first | rfl | assumption | (simp only [h2, h4, h6, h8, hβ1, hβ2, hβ3, hβ4, hβ5, hβ6, hβ7, hβ8, hβ9, hβ10, h278, h280, h282, h284, c50, c107, c159, c211]; done)) | (rw [crpOk_t hca] <;> first | assumption | rfl) | (rw [crpR_t hca] <;> first | rfl | assumption) | (rw [crpOk_t hca]; simp only [h2, h4, h6, h8, hβ1, hβ2, hβ3, hβ4, hβ5, hβ6, hβ7, hβ8, hβ9, hβ10, h278, h280, h282, h284, c50, c107, c159, c211]; rfl) | (rw [crpR_t hca]; simp only [h2, h4, h6, h8, hβ1, hβ2, hβ3, hβ4, hβ5, hβ6, hβ7, hβ8, hβ9, hβ10, h278, h280, h282, h284, c50, c107, c159, c211]; rfl)
  have x302 : (crpR A_g L_fr L_ct).z = ((gvA zG (isGrid (GridT.mk (ptG A_g.low A_g.step (nth L_fr 0) (nth L_fr 1) (nth L_fr 2)) (cf .f32 r7) (nth L_ct 0) (nth L_ct 1) (nth L_ct 2) (takG A_g (fun x y z => idxG A_g ((fun x y z => IntKind.i64.wrap ((nth L_fr 0) + x)) x y z) ((fun x y z => IntKind.i64.wrap ((nth L_fr 1) + y)) x y z) ((fun x y z => IntKind.i64.wrap ((nth L_fr 2) + z)) x y z)) (nth L_ct 0) (nth L_ct 1) ((nth L_ct 0) * (nth L_ct 1) * (nth L_ct 2)).toNat))) (GridT.mk (ptG A_g.low A_g.step (nth L_fr 0) (nth L_fr 1) (nth L_fr 2)) (cf .f32 r7) (nth L_ct 0) (nth L_ct 1) (nth L_ct 2) (takG A_g (fun x y z => idxG A_g ((fun x y z => IntKind.i64.wrap ((nth L_fr 0) + x)) x y z) ((fun x y z => IntKind.i64.wrap ((nth L_fr 1) + y)) x y z) ((fun x y z => IntKind.i64.wrap ((nth L_fr 2) + z)) x y z)) (nth L_ct 0) (nth L_ct 1) ((nth L_ct 0) * (nth L_ct 1) * (nth L_ct 2)).toNat))).z) := by first | exact crpOk_f hcf | (rw [crpR_f hcf] <;> (show _ = _; dsimp only [zG, zV])) | (rw [crpOk_t hca, crpG_end hca (by assumption) (by omega)] <;> assumption) | (rw [crpR_t hca, crpG_end hca (z := z) (by assumption) (by omega), ‹isGrid (GridT.mk _ _ _ _ _ _) = false›] <;> rfl) | (rw [crpR_t hca, crpG_end hca (z := z) (by assumption) (by omega), ‹isGrid (GridT.mk _ _ _ _ _ _) = true›, gvA_t] <;> first | rfl | assumption | (simp only [h2, h4, h6, h8, hβ1, hβ2, hβ3, hβ4, hβ5, hβ6, hβ7, hβ8, hβ9, hβ10, h278, h280, h282, h284, c50, c107, c159, c211]; done)) | (rw [crpOk_t hca] <;> first | assumption | rfl) | (rw [crpR_t hca] <;> first | rfl | assumption) | (rw [crpOk_t hca]; simp only [h2, h4, h6, h8, hβ1, hβ2, hβ3, hβ4, hβ5, hβ6, hβ7, hβ8, hβ9, hβ10, h278, h280, h282, h284, c50, c107, c159, c211]; rfl) | (rw [crpR_t hca]; simp only [h2, h4, h6, h8, hβ1, hβ2, hβ3, hβ4, hβ5, hβ6, hβ7, hβ8, hβ9, hβ10, h278, h280, h282, h284, c50, c107, c159, c211]; rfl)
  have x303 : ((gvA zG (isGrid (GridT.mk (ptG A_g.low A_g.step (nth L_fr 0) (nth L_fr 1) (nth L_fr 2)) (cf .f32 r7) (nth L_ct 0) (nth L_ct 1) (nth L_ct 2) (takG A_g (fun x y z => idxG A_g ((fun x y z => IntKind.i64.wrap ((nth L_fr 0) + x)) x y z) ((fun x y z => IntKind.i64.wrap ((nth L_fr 1) + y)) x y z) ((fun x y z => IntKind.i64.wrap ((nth L_fr 2) + z)) x y z)) (nth L_ct 0) (nth L_ct 1) ((nth L_ct 0) * (nth L_ct 1) * (nth L_ct 2)).toNat))) (GridT.mk (ptG A_g.low A_g.step (nth L_fr 0) (nth L_fr 1) (nth L_fr 2)) (cf .f32 r7) (nth L_ct 0) (nth L_ct 1) (nth L_ct 2) (takG A_g (fun x y z => idxG A_g ((fun x y z => IntKind.i64.wrap ((nth L_fr 0) + x)) x y z) ((fun x y z => IntKind.i64.wrap ((nth L_fr 1) + y)) x y z) ((fun x y z => IntKind.i64.wrap ((nth L_fr 2) + z)) x y z)) (nth L_ct 0) (nth L_ct 1) ((nth L_ct 0) * (nth L_ct 1) * (nth L_ct 2)).toNat))).vals) = ((crpR A_g L_fr L_ct).vals) := by first | exact crpOk_f hcf | (rw [crpR_f hcf] <;> (show _ = _; dsimp only [zG, zV])) | (rw [crpOk_t hca, crpG_end hca (by assumption) (by omega)] <;> assumption) | (rw [crpR_t hca, crpG_end hca (z := z) (by assumption) (by omega), ‹isGrid (GridT.mk _ _ _ _ _ _) = false›] <;> rfl) | (rw [crpR_t hca, crpG_end hca (z := z) (by assumption) (by omega), ‹isGrid (GridT.mk _ _ _ _ _ _) = true›, gvA_t] <;> first | rfl | assumption | (simp only [h2, h4, h6, h8, hβ1, hβ2, hβ3, hβ4, hβ5, hβ6, hβ7, hβ8, hβ9, hβ10, h278, h280, h282, h284, c50, c107, c159, c211]; done)) | (rw [crpOk_t hca] <;> first | assumption | rfl) | (rw [crpR_t hca] <;> first | rfl | assumption) | (rw [crpOk_t hca]; simp only [h2, h4, h6, h8, hβ1, hβ2, hβ3, hβ4, hβ5, hβ6, hβ7, hβ8, hβ9, hβ10, h278, h280, h282, h284, c50, c107, c159, c211]; rfl) | (rw [crpR_t hca]; simp only [h2, h4, h6, h8, hβ1, hβ2, hβ3, hβ4, hβ5, hβ6, hβ7, hβ8, hβ9, hβ10, h278, h280, h282, h284, c50, c107, c159, c211]; rfl)
  have x304 : ((gvA zG (isGrid (GridT.mk (ptG A_g.low A_g.step (nth L_fr 0) (nth L_fr 1) (nth L_fr 2)) (cf .f32 r7) (nth L_ct 0) (nth L_ct 1) (nth L_ct 2) (takG A_g (fun x y z => idxG A_g ((fun x y z => IntKind.i64.wrap ((nth L_fr 0) + x)) x y z) ((fun x y z => IntKind.i64.wrap ((nth L_fr 1) + y)) x y z) ((fun x y z => IntKind.i64.wrap ((nth L_fr 2) + z)) x y z)) (nth L_ct 0) (nth L_ct 1) ((nth L_ct 0) * (nth L_ct 1) * (nth L_ct 2)).toNat))) (GridT.mk (ptG A_g.low A_g.step (nth L_fr 0) (nth L_fr 1) (nth L_fr 2)) (cf .f32 r7) (nth L_ct 0) (nth L_ct 1) (nth L_ct 2) (takG A_g (fun x y z => idxG A_g ((fun x y z => IntKind.i64.wrap ((nth L_fr 0) + x)) x y z) ((fun x y z => IntKind.i64.wrap ((nth L_fr 1) + y)) x y z) ((fun x y z => IntKind.i64.wrap ((nth L_fr 2) + z)) x y z)) (nth L_ct 0) (nth L_ct 1) ((nth L_ct 0) * (nth L_ct 1) * (nth L_ct 2)).toNat))).vals) = ((crpR A_g L_fr L_ct).vals) := by first | exact crpOk_f hcf | (rw [crpR_f hcf] <;> (show _ = _; dsimp only [zG, zV])) | (rw [crpOk_t hca, crpG_end hca (by assumption) (by omega)] <;> assumption) | (rw [crpR_t hca, crpG_end hca (z := z) (by assumption) (by omega), ‹isGrid (GridT.mk _ _ _ _ _ _) = false›] <;> rfl) | (rw [crpR_t hca, crpG_end hca (z := z) (by assumption) (by omega), ‹isGrid (GridT.mk _ _ _ _ _ _) = true›, gvA_t] <;> first | rfl | assumption | (simp only [h2, h4, h6, h8, hβ1, hβ2, hβ3, hβ4, hβ5, hβ6, hβ7, hβ8, hβ9, hβ10, h278, h280, h282, h284, c50, c107, c159, c211]; done)) | (rw [crpOk_t hca] <;> first | assumption | rfl) | (rw [crpR_t hca] <;> first | rfl | assumption) | (rw [crpOk_t hca]; simp only [h2, h4, h6, h8, hβ1, hβ2, hβ3, hβ4, hβ5, hβ6, hβ7, hβ8, hβ9, hβ10, h278, h280, h282, h284, c50, c107, c159, c211]; rfl) | (rw [crpR_t hca]; simp only [h2, h4, h6, h8, hβ1, hβ2, hβ3, hβ4, hβ5, hβ6, hβ7, hβ8, hβ9, hβ10, h278, h280, h282, h284, c50, c107, c159, c211]; rfl)
  exact ⟨[(Fl r277), (Fl r279), (Fl r281), (Fl r283), (Iv ((gvA zG (isGrid (GridT.mk (ptG A_g.low A_g.step (nth L_fr 0) (nth L_fr 1) (nth L_fr 2)) (cf .f32 r7) (nth L_ct 0) (nth L_ct 1) (nth L_ct 2) (takG A_g (fun x y z => idxG A_g ((fun x y z => IntKind.i64.wrap ((nth L_fr 0) + x)) x y z) ((fun x y z => IntKind.i64.wrap ((nth L_fr 1) + y)) x y z) ((fun x y z => IntKind.i64.wrap ((nth L_fr 2) + z)) x y z)) (nth L_ct 0) (nth L_ct 1) ((nth L_ct 0) * (nth L_ct 1) * (nth L_ct 2)).toNat))) (GridT.mk (ptG A_g.low A_g.step (nth L_fr 0) (nth L_fr 1) (nth L_fr 2)) (cf .f32 r7) (nth L_ct 0) (nth L_ct 1) (nth L_ct 2) (takG A_g (fun x y z => idxG A_g ((fun x y z => IntKind.i64.wrap ((nth L_fr 0) + x)) x y z) ((fun x y z => IntKind.i64.wrap ((nth L_fr 1) + y)) x y z) ((fun x y z => IntKind.i64.wrap ((nth L_fr 2) + z)) x y z)) (nth L_ct 0) (nth L_ct 1) ((nth L_ct 0) * (nth L_ct 1) * (nth L_ct 2)).toNat))).x)), (Iv ((gvA zG (isGrid (GridT.mk (ptG A_g.low A_g.step (nth L_fr 0) (nth L_fr 1) (nth L_fr 2)) (cf .f32 r7) (nth L_ct 0) (nth L_ct 1) (nth L_ct 2) (takG A_g (fun x y z => idxG A_g ((fun x y z => IntKind.i64.wrap ((nth L_fr 0) + x)) x y z) ((fun x y z => IntKind.i64.wrap ((nth L_fr 1) + y)) x y z) ((fun x y z => IntKind.i64.wrap ((nth L_fr 2) + z)) x y z)) (nth L_ct 0) (nth L_ct 1) ((nth L_ct 0) * (nth L_ct 1) * (nth L_ct 2)).toNat))) (GridT.mk (ptG A_g.low A_g.step (nth L_fr 0) (nth L_fr 1) (nth L_fr 2)) (cf .f32 r7) (nth L_ct 0) (nth L_ct 1) (nth L_ct 2) (takG A_g (fun x y z => idxG A_g ((fun x y z => IntKind.i64.wrap ((nth L_fr 0) + x)) x y z) ((fun x y z => IntKind.i64.wrap ((nth L_fr 1) + y)) x y z) ((fun x y z => IntKind.i64.wrap ((nth L_fr 2) + z)) x y z)) (nth L_ct 0) (nth L_ct 1) ((nth L_ct 0) * (nth L_ct 1) * (nth L_ct 2)).toNat))).y)), (Iv ((gvA zG (isGrid (GridT.mk (ptG A_g.low A_g.step (nth L_fr 0) (nth L_fr 1) (nth L_fr 2)) (cf .f32 r7) (nth L_ct 0) (nth L_ct 1) (nth L_ct 2) (takG A_g (fun x y z => idxG A_g ((fun x y z => IntKind.i64.wrap ((nth L_fr 0) + x)) x y z) ((fun x y z => IntKind.i64.wrap ((nth L_fr 1) + y)) x y z) ((fun x y z => IntKind.i64.wrap ((nth L_fr 2) + z)) x y z)) (nth L_ct 0) (nth L_ct 1) ((nth L_ct 0) * (nth L_ct 1) * (nth L_ct 2)).toNat))) (GridT.mk (ptG A_g.low A_g.step (nth L_fr 0) (nth L_fr 1) (nth L_fr 2)) (cf .f32 r7) (nth L_ct 0) (nth L_ct 1) (nth L_ct 2) (takG A_g (fun x y z => idxG A_g ((fun x y z => IntKind.i64.wrap ((nth L_fr 0) + x)) x y z) ((fun x y z => IntKind.i64.wrap ((nth L_fr 1) + y)) x y z) ((fun x y z => IntKind.i64.wrap ((nth L_fr 2) + z)) x y z)) (nth L_ct 0) (nth L_ct 1) ((nth L_ct 0) * (nth L_ct 1) * (nth L_ct 2)).toNat))).z)), (.slice p287 (((gvA zG (isGrid (GridT.mk (ptG A_g.low A_g.step (nth L_fr 0) (nth L_fr 1) (nth L_fr 2)) (cf .f32 r7) (nth L_ct 0) (nth L_ct 1) (nth L_ct 2) (takG A_g (fun x y z => idxG A_g ((fun x y z => IntKind.i64.wrap ((nth L_fr 0) + x)) x y z) ((fun x y z => IntKind.i64.wrap ((nth L_fr 1) + y)) x y z) ((fun x y z => IntKind.i64.wrap ((nth L_fr 2) + z)) x y z)) (nth L_ct 0) (nth L_ct 1) ((nth L_ct 0) * (nth L_ct 1) * (nth L_ct 2)).toNat))) (GridT.mk (ptG A_g.low A_g.step (nth L_fr 0) (nth L_fr 1) (nth L_fr 2)) (cf .f32 r7) (nth L_ct 0) (nth L_ct 1) (nth L_ct 2) (takG A_g (fun x y z => idxG A_g ((fun x y z => IntKind.i64.wrap ((nth L_fr 0) + x)) x y z) ((fun x y z => IntKind.i64.wrap ((nth L_fr 1) + y)) x y z) ((fun x y z => IntKind.i64.wrap ((nth L_fr 2) + z)) x y z)) (nth L_ct 0) (nth L_ct 1) ((nth L_ct 0) * (nth L_ct 1) * (nth L_ct 2)).toNat))).vals).length) q288)], Lw272, (by first | rfl | rw [x295]), fun u hu => ⟨r277, r279, r281, r283, (.slice p287 (((gvA zG (isGrid (GridT.mk (ptG A_g.low A_g.step (nth L_fr 0) (nth L_fr 1) (nth L_fr 2)) (cf .f32 r7) (nth L_ct 0) (nth L_ct 1) (nth L_ct 2) (takG A_g (fun x y z => idxG A_g ((fun x y z => IntKind.i64.wrap ((nth L_fr 0) + x)) x y z) ((fun x y z => IntKind.i64.wrap ((nth L_fr 1) + y)) x y z) ((fun x y z => IntKind.i64.wrap ((nth L_fr 2) + z)) x y z)) (nth L_ct 0) (nth L_ct 1) ((nth L_ct 0) * (nth L_ct 1) * (nth L_ct 2)).toNat))) (GridT.mk (ptG A_g.low A_g.step (nth L_fr 0) (nth L_fr 1) (nth L_fr 2)) (cf .f32 r7) (nth L_ct 0) (nth L_ct 1) (nth L_ct 2) (takG A_g (fun x y z => idxG A_g ((fun x y z => IntKind.i64.wrap ((nth L_fr 0) + x)) x y z) ((fun x y z => IntKind.i64.wrap ((nth L_fr 1) + y)) x y z) ((fun x y z => IntKind.i64.wrap ((nth L_fr 2) + z)) x y z)) (nth L_ct 0) (nth L_ct 1) ((nth L_ct 0) * (nth L_ct 1) * (nth L_ct 2)).toNat))).vals).length) q288), (by first | with_reducible rfl | (show _ = _; simp only [x300, x301, x302]) | rfl), x296, x297, x298, x299, (Hang.castL ((Hang.to hh289 ((Same.refl _ _).wr W291 (.inl n275))).le (Below.size (Below.wr (Ext.gr (Ext.gr (Ext.gr (Ext.gr (Ext.gr (Ext.gr (Ext.gr (Ext.gr (Ext.gr (Ext.gr (Ext.gr (Ext.refl _) E18) E25) E46) E68) E77) E103) E129) E155) E181) E207) E237) W244 g242))) x303) u hu⟩, (WL.cast ((hw290.same ((Same.refl _ _).wr W291 (.inl n275))).le (Below.size (Below.wr (Ext.gr (Ext.gr (Ext.gr (Ext.gr (Ext.gr (Ext.gr (Ext.gr (Ext.gr (Ext.gr (Ext.gr (Ext.gr (Ext.refl _) E18) E25) E46) E68) E77) E103) E129) E155) E181) E207) E237) W244 g242))) (congrArg List.length x304))⟩

/- laws.eqInt64S -/
theorem c_laws_eqInt64S (a : Value) (L_a : List Int) (b : Value) (L_b : List Int) (w : World) (hv_a : Sl RI 1 w a L_a) (hv_b : Sl RI 1 w b L_b) : Gives Try.prog 17 #[a, b] w (fun v w' => v = (Bo (sameX eqI L_a L_b))) := by
  have hlen_a := Sl.len hv_a; obtain ⟨p_a, q_a, rfl⟩ := Sl.shape hv_a
  have hlen_b := Sl.len hv_b; obtain ⟨p_b, q_b, rfl⟩ := Sl.shape hv_b
  refine enter [(.slice p_a L_a.length q_a), (.slice p_b L_b.length q_b), Ud, Ud, Ud, Ud, Ud, Ud, Ud, Ud, Ud, Ud, Ud, Ud, Ud, Ud, Ud, Ud, Ud, Ud, Ud, Ud, Ud, Ud, Ud, Ud] Try.func17 rfl Try.ntmps17 rfl ?_
  refine wp_seq_k fun K1 hK1 => ?_
  refine wp_region_lit ?_
  refine q_is rfl rfl (does_assign (u := (Bo false)) (ev rfl)) (by dsimp only [List.set]; try rfl) ?_
  refine wpList_nil (hK1 _ _ ?_)
  refine wp_seq_k fun K2 hK2 => ?_
  refine wp_seq_k fun K3 hK3 => ?_
  refine wp_region_lit ?_
  refine q_is rfl rfl (does_move (u := (.slice p_a L_a.length q_a)) (ev rfl)) (by dsimp only [List.set]; try rfl) ?_
  refine q_is rfl rfl (does_len_slice Try.underlying38 (ev rfl)) (by dsimp only [List.set]; try rfl) ?_
  refine q_is rfl rfl (does_move (u := (.slice p_b L_b.length q_b)) (ev rfl)) (by dsimp only [List.set]; try rfl) ?_
  refine q_is rfl rfl (does_len_slice Try.underlying38 (ev rfl)) (by dsimp only [List.set]; try rfl) ?_
  refine q_is rfl rfl (does_icmp (p := (L_a.length : Int)) (q := (L_b.length : Int)) (.inr (.inl rfl)) (ev rfl) (ev rfl)) (by dsimp only [List.set]; try rfl) ?_
  refine wpList_nil (hK3 _ _ ?_)
  refine wp_cond_split (t := icmp .neq (L_a.length : Int) (L_b.length : Int)) (ev rfl) (fun c4 => ?_) (fun c4 => ?_)
  · have c4' := c4
    (try simp only [icmp, Bool.and_eq_true, Bool.or_eq_true, Bool.and_eq_false_iff, Bool.or_eq_false_iff, Bool.not_eq_true', Bool.not_eq_false', decide_eq_true_eq, decide_eq_false_iff_not, beq_iff_eq, bne_iff_ne, beq_eq_false_iff_ne, bne_eq_false_iff_eq] at c4')
    refine wp_seq_k fun K5 hK5 => ?_
    refine wp_region_lit ?_
    refine q_is rfl rfl (does_assign (u := (Bo false)) (ev rfl)) (by dsimp only [List.set]; try rfl) ?_
    refine wpList_nil (hK5 _ _ ?_)
    refine wp_ret ?_
    dsimp only [Exit.then, Exit.inBlock]
    refine ret_val (v := (Bo false)) (res_T rfl (slot rfl)) (Ext.refl w) ?_
    have x6 : (sameX eqI L_a L_b) = false := by first | exact (sameX_len (by omega)) | exact (sameX_not (by omega) (by assumption) (by assumption) (by simp only [eqI, icmp] at *; simp_all)) | exact (sameX_all (by omega) (by omega) hs)
    exact (by first | rfl | rw [x6])
  have c4' := c4
  (try simp only [icmp, Bool.and_eq_true, Bool.or_eq_true, Bool.and_eq_false_iff, Bool.or_eq_false_iff, Bool.not_eq_true', Bool.not_eq_false', decide_eq_true_eq, decide_eq_false_iff_not, beq_iff_eq, bne_iff_ne, beq_eq_false_iff_ne, bne_eq_false_iff_eq] at c4')
  refine wp_skip (hK2 _ _ ?_)
  refine wp_seq_k fun K7 hK7 => ?_
  refine wp_seq_k fun K8 hK8 => ?_
  refine wp_region_lit ?_
  refine q_is rfl rfl (does_assign (u := (Iv 0)) (ev rfl)) (by dsimp only [List.set]; try rfl) ?_
  refine wpList_nil (hK8 _ _ ?_)
  refine wp_block ?_
  refine loop_ghost (σ := Nat) (fun k a w' => ∃ u9 : Nat → Value, a = fr [(.slice p_a L_a.length q_a), (.slice p_b L_b.length q_b), Ud, Ud, (u9 4), (Iv (k : Int)), (.slice p_a L_a.length q_a), (Iv (L_a.length : Int)), (.slice p_b L_b.length q_b), (Iv (L_b.length : Int)), (Bo (icmp .neq (L_a.length : Int) (L_b.length : Int))), (u9 11), (u9 12), (u9 13), (u9 14), (u9 15), (u9 16), (u9 17), (u9 18), (u9 19), (u9 20), (u9 21), (u9 22), (u9 23), (u9 24), (u9 25)] ∧ Ext w w' ∧ (k ≤ L_a.length ∧ SameXTo eqI L_a L_b k)) (fun k => L_a.length - k) 0 ?_ ?_
  · refine ⟨fun t => (([(.slice p_a L_a.length q_a), (.slice p_b L_b.length q_b), Ud, Ud, (Bo false), (Iv 0), (.slice p_a L_a.length q_a), (Iv (L_a.length : Int)), (.slice p_b L_b.length q_b), (Iv (L_b.length : Int)), (Bo (icmp .neq (L_a.length : Int) (L_b.length : Int))), Ud, Ud, Ud, Ud, Ud, Ud, Ud, Ud, Ud, Ud, Ud, Ud, Ud, Ud, Ud] : List Value)[t]?).getD undef, rfl, Ext.refl _, ?_⟩
    exact ⟨Nat.zero_le _, SameXTo.zero⟩
  · rintro k a w10 ⟨u9, rfl, E11, ⟨hk, hs⟩⟩
    have X13 := Ext.gr (Ext.refl w) E11
    refine wp_seq_k fun K14 hK14 => ?_
    refine wp_seq_k fun K15 hK15 => ?_
    refine wp_region_lit ?_
    refine q_is rfl rfl (does_move (u := (Iv (k : Int))) (ev rfl)) (by dsimp only [List.set]; try rfl) ?_
    refine q_is rfl rfl (does_move (u := (.slice p_a L_a.length q_a)) (ev rfl)) (by dsimp only [List.set]; try rfl) ?_
    refine q_is rfl rfl (does_len_slice Try.underlying38 (ev rfl)) (by dsimp only [List.set]; try rfl) ?_
    refine q_is rfl rfl (does_icmp (p := (k : Int)) (q := (L_a.length : Int)) (.inr (.inr (.inl rfl))) (ev rfl) (ev rfl)) (by dsimp only [List.set]; try rfl) ?_
    refine wpList_nil (hK15 _ _ ?_)
    refine wp_cond_split (t := icmp .lss (k : Int) (L_a.length : Int)) (ev rfl) (fun c16 => ?_) (fun c16 => ?_)
    · have c16' := c16
      (try simp only [icmp, Bool.and_eq_true, Bool.or_eq_true, Bool.and_eq_false_iff, Bool.or_eq_false_iff, Bool.not_eq_true', Bool.not_eq_false', decide_eq_true_eq, decide_eq_false_iff_not, beq_iff_eq, bne_iff_ne, beq_eq_false_iff_ne, bne_eq_false_iff_eq] at c16')
      refine wp_skip (hK14 _ _ ?_)
      refine wp_seq_k fun K17 hK17 => ?_
      refine wp_block ?_
      refine wp_seq_k fun K18 hK18 => ?_
      obtain ⟨el1, hel1⟩ : ∃ e, L_a[k]? = some e := ⟨_, List.getElem?_eq_getElem (by omega)⟩
      obtain ⟨el2, hel2⟩ : ∃ e, L_b[k]? = some e := ⟨_, List.getElem?_eq_getElem (by omega)⟩
      refine region_draw (
        [Fact.pure [] (fun v => v = (.slice p_a L_a.length q_a)),
    Fact.pure [] (fun v => v = (Iv (k : Int))),
    Fact.mem [17, 18] (fun v w' => PtrR RI w' v el1) (by intro v w1 w2 hx h; exact h.ext RI.mono hx),
    Fact.pure [19] (fun v => v = (Iv el1)),
    Fact.pure [] (fun v => v = (.slice p_b L_b.length q_b)),
    Fact.pure [] (fun v => v = (Iv (k : Int))),
    Fact.mem [21, 22] (fun v w' => PtrR RI w' v el2) (by intro v w1 w2 hx h; exact h.ext RI.mono hx),
    Fact.pure [23] (fun v => v = (Iv el2)),
    Fact.pure [20, 24] (fun v => v = (Bo (icmp .neq el1 el2)))]) mixed (by kernel_rfl) (by intro _ _ d _ _ h; cases d <;> exact h) ?_
      obtain ⟨w19, hw21⟩ : ∃ w', w' = World.drew w10 := ⟨_, rfl⟩; rw [← hw21]; have E20 : Ext w10 w19 := by rw [hw21]; exact Ext.draw _
      clear hw21
      have X22 := Ext.gr X13 E20
      refine RW_d _ rfl (fun v => by dsimp only [List.set]; try rfl) (fun u hu hF => ?_) (fun v23 => ?_)
      · clear hF
        refine doesG_un rfl ?_
        refine (does_move (u := (.slice p_a L_a.length q_a)) (ev rfl)).mono ?_; rintro _ _ ⟨rfl, rfl⟩
        exact ⟨rfl, Ext.refl _⟩
      refine RW_d _ rfl (fun v => by dsimp only [List.set]; try rfl) (fun u hu hF => ?_) (fun v24 => ?_)
      · clear hF
        refine doesG_un rfl ?_
        refine (does_move (u := (Iv (k : Int))) (ev rfl)).mono ?_; rintro _ _ ⟨rfl, rfl⟩
        exact ⟨rfl, Ext.refl _⟩
      refine RW_d _ rfl (fun v => by dsimp only [List.set]; try rfl) (fun u hu hF => ?_) (fun v25 => ?_)
      · have h17_ : v23 = (.slice p_a L_a.length q_a) := hF.1
        have h18_ : v24 = (Iv (k : Int)) := hF.2.1
        clear hF
        refine doesG_un rfl ?_
        obtain rfl := h17_
        obtain rfl := h18_
        refine (does_indexSl (R := RI) (i := (k : Int)) (xs := L_a) (e := el1) Try.underlying38 Try.sizeOf2 (ev rfl) (ev rfl) (Sl.ext (Sl.ext hv_a RI.mono (Ext.gr X13 E20)) RI.mono hu) (by omega) hel1).mono ?_; rintro v u' ⟨b, of, cs, hv, hc, hR, hu'⟩; subst hu'
        exact ⟨⟨b, of, cs, hv, hc, hR⟩, Ext.refl _⟩
      refine RW_d _ rfl (fun v => by dsimp only [List.set]; try rfl) (fun u hu hF => ?_) (fun v26 => ?_)
      · have h19_ : PtrR RI u v25 el1 := hF.1
        clear hF
        refine doesG_un rfl ?_
        obtain ⟨b19_, o19_, _, rfl, hc19_, rfl⟩ := h19_
        refine (does_load (u := (Iv el1)) (ev rfl) Try.isAgg2 (Cells.at hc19_ 0 rfl)).mono ?_; rintro _ _ ⟨rfl, rfl⟩
        exact ⟨rfl, Ext.refl _⟩
      refine RW_d _ rfl (fun v => by dsimp only [List.set]; try rfl) (fun u hu hF => ?_) (fun v27 => ?_)
      · clear hF
        refine doesG_un rfl ?_
        refine (does_move (u := (.slice p_b L_b.length q_b)) (ev rfl)).mono ?_; rintro _ _ ⟨rfl, rfl⟩
        exact ⟨rfl, Ext.refl _⟩
      refine RW_d _ rfl (fun v => by dsimp only [List.set]; try rfl) (fun u hu hF => ?_) (fun v28 => ?_)
      · clear hF
        refine doesG_un rfl ?_
        refine (does_move (u := (Iv (k : Int))) (ev rfl)).mono ?_; rintro _ _ ⟨rfl, rfl⟩
        exact ⟨rfl, Ext.refl _⟩
      refine RW_d _ rfl (fun v => by dsimp only [List.set]; try rfl) (fun u hu hF => ?_) (fun v29 => ?_)
      · have h21_ : v27 = (.slice p_b L_b.length q_b) := hF.1
        have h22_ : v28 = (Iv (k : Int)) := hF.2.1
        clear hF
        refine doesG_un rfl ?_
        obtain rfl := h21_
        obtain rfl := h22_
        refine (does_indexSl (R := RI) (i := (k : Int)) (xs := L_b) (e := el2) Try.underlying38 Try.sizeOf2 (ev rfl) (ev rfl) (Sl.ext (Sl.ext hv_b RI.mono (Ext.gr X13 E20)) RI.mono hu) (by omega) hel2).mono ?_; rintro v u' ⟨b, of, cs, hv, hc, hR, hu'⟩; subst hu'
        exact ⟨⟨b, of, cs, hv, hc, hR⟩, Ext.refl _⟩
      refine RW_d _ rfl (fun v => by dsimp only [List.set]; try rfl) (fun u hu hF => ?_) (fun v30 => ?_)
      · have h23_ : PtrR RI u v29 el2 := hF.1
        clear hF
        refine doesG_un rfl ?_
        obtain ⟨b23_, o23_, _, rfl, hc23_, rfl⟩ := h23_
        refine (does_load (u := (Iv el2)) (ev rfl) Try.isAgg2 (Cells.at hc23_ 0 rfl)).mono ?_; rintro _ _ ⟨rfl, rfl⟩
        exact ⟨rfl, Ext.refl _⟩
      refine RW_d _ rfl (fun v => by dsimp only [List.set]; try rfl) (fun u hu hF => ?_) (fun v31 => ?_)
      · have h20_ : v26 = (Iv el1) := hF.1
        have h24_ : v30 = (Iv el2) := hF.2.1
        clear hF
        refine doesG_un rfl ?_
        obtain rfl := h20_
        obtain rfl := h24_
        refine (does_icmp (p := el1) (q := el2) (.inr (.inl rfl)) (ev rfl) (ev rfl)).mono ?_; rintro _ _ ⟨rfl, rfl⟩
        exact ⟨rfl, Ext.refl _⟩
      refine RW_fin ?_; intro w32 E33 hP34
      obtain ⟨⟨⟨⟨⟨⟨⟨⟨⟨-, -⟩, -⟩, -⟩, -⟩, -⟩, -⟩, -⟩, -⟩, q35⟩ := hP34
      have X36 := Ext.gr X22 E33
      have q35 : v31 = (Bo (icmp .neq el1 el2)) := q35
      obtain rfl := q35
      show wpList _ _ _ _ (fr [(.slice p_a L_a.length q_a), (.slice p_b L_b.length q_b), Ud, Ud, (u9 4), (Iv (k : Int)), (.slice p_a L_a.length q_a), (Iv (L_a.length : Int)), (.slice p_b L_b.length q_b), (Iv (L_b.length : Int)), (Bo (icmp .neq (L_a.length : Int) (L_b.length : Int))), (Iv (k : Int)), (.slice p_a L_a.length q_a), (Iv (L_a.length : Int)), (Bo (icmp .lss (k : Int) (L_a.length : Int))), (u9 15), (u9 16), v23, v24, v25, v26, v27, v28, v29, v30, (Bo (icmp .neq el1 el2))]) _
      refine wpList_nil (hK18 _ _ ?_)
      refine wp_cond_split (t := icmp .neq el1 el2) (ev rfl) (fun c37 => ?_) (fun c37 => ?_)
      · have c37' := c37
        (try simp only [icmp, Bool.and_eq_true, Bool.or_eq_true, Bool.and_eq_false_iff, Bool.or_eq_false_iff, Bool.not_eq_true', Bool.not_eq_false', decide_eq_true_eq, decide_eq_false_iff_not, beq_iff_eq, bne_iff_ne, beq_eq_false_iff_ne, bne_eq_false_iff_eq] at c37')
        refine wp_seq_k fun K38 hK38 => ?_
        refine wp_region_lit ?_
        refine q_is rfl rfl (does_assign (u := (Bo false)) (ev rfl)) (by dsimp only [List.set]; try rfl) ?_
        refine wpList_nil (hK38 _ _ ?_)
        refine wp_ret ?_
        dsimp only [Exit.then, Exit.inBlock]
        refine ret_val (v := (Bo false)) (res_T rfl (slot rfl)) X36 ?_
        try simp only [hel1, hel2] at c4 c16 c37
        have x39 : (sameX eqI L_a L_b) = false := by first | exact (sameX_len (by omega)) | exact (sameX_not (by omega) (by assumption) (by assumption) (by simp only [eqI, icmp] at *; simp_all)) | exact (sameX_all (by omega) (by omega) hs)
        exact (by first | rfl | rw [x39])
      have c37' := c37
      (try simp only [icmp, Bool.and_eq_true, Bool.or_eq_true, Bool.and_eq_false_iff, Bool.or_eq_false_iff, Bool.not_eq_true', Bool.not_eq_false', decide_eq_true_eq, decide_eq_false_iff_not, beq_iff_eq, bne_iff_ne, beq_eq_false_iff_ne, bne_eq_false_iff_eq] at c37')
      refine wp_skip (hK17 _ _ ?_)
      refine wp_region_lit ?_
      refine q_is rfl rfl (does_move (u := (Iv (k : Int))) (ev rfl)) (by dsimp only [List.set]; try rfl) ?_
      refine q_is rfl rfl (does_iarith (p := (k : Int)) (q := 1) (r := (k : Int) + 1) (ev rfl) (ev rfl) (.inl ⟨rfl, (in_i64 (by omega) (by omega)).symm⟩)) (by dsimp only [List.set]; try rfl) ?_
      refine q_is rfl rfl (does_assign (u := (Iv ((k : Int) + 1))) (ev rfl)) (by dsimp only [List.set]; try rfl) ?_
      refine wpList_nil ?_
      refine ⟨k + 1, ⟨fun t => (([(.slice p_a L_a.length q_a), (.slice p_b L_b.length q_b), Ud, Ud, (u9 4), (Iv ((k : Int) + 1)), (.slice p_a L_a.length q_a), (Iv (L_a.length : Int)), (.slice p_b L_b.length q_b), (Iv (L_b.length : Int)), (Bo (icmp .neq (L_a.length : Int) (L_b.length : Int))), (Iv (k : Int)), (.slice p_a L_a.length q_a), (Iv (L_a.length : Int)), (Bo (icmp .lss (k : Int) (L_a.length : Int))), (Iv (k : Int)), (Iv ((k : Int) + 1)), v23, v24, v25, v26, v27, v28, v29, v30, (Bo (icmp .neq el1 el2))] : List Value)[t]?).getD undef, ?_, (Ext.gr (Ext.gr E11 E20) E33), ?_⟩, ?_⟩
      · first | rfl | (simp only [Nat.cast_add, Nat.cast_one, Int.natCast_add, Int.natCast_one]; rfl)
      · exact ⟨by omega, SameXTo.step hs (by assumption) (by assumption) (by simp only [eqI, icmp] at *; simp_all)⟩
      · omega
    have c16' := c16
    (try simp only [icmp, Bool.and_eq_true, Bool.or_eq_true, Bool.and_eq_false_iff, Bool.or_eq_false_iff, Bool.not_eq_true', Bool.not_eq_false', decide_eq_true_eq, decide_eq_false_iff_not, beq_iff_eq, bne_iff_ne, beq_eq_false_iff_ne, bne_eq_false_iff_eq] at c16')
    refine wp_exit ?_
    refine hK7 _ _ ?_
    refine wp_seq_k fun K40 hK40 => ?_
    refine wp_region_lit ?_
    refine q_is rfl rfl (does_assign (u := (Bo true)) (ev rfl)) (by dsimp only [List.set]; try rfl) ?_
    refine wpList_nil (hK40 _ _ ?_)
    refine wp_ret ?_
    refine ret_val (v := (Bo true)) (res_T rfl (slot rfl)) X13 ?_
    have x41 : (sameX eqI L_a L_b) = true := by first | exact (sameX_len (by omega)) | exact (sameX_not (by omega) (by assumption) (by assumption) (by simp only [eqI, icmp] at *; simp_all)) | exact (sameX_all (by omega) (by omega) hs)
    exact (by first | rfl | rw [x41])

theorem c_laws_markInt64S_nil (k : Int) (w : World) : Gives Try.prog 18 #[.slice none 0 0, Iv k] w (fun v _ => v = Iv k) := by
  refine enter [(.slice none 0 0), (Iv k), Ud, Ud, Ud, Ud, Ud, Ud, Ud, Ud, Ud, Ud, Ud, Ud, Ud, Ud, Ud, Ud, Ud] Try.func18 rfl Try.ntmps18 rfl ?_
  refine wp_seq_k fun K1 hK1 => ?_
  refine wp_region_lit ?_
  refine q_is (l' := [(.slice none 0 0), (Iv k), Ud, Ud, (Iv 0), Ud, Ud, Ud, Ud, Ud, Ud, Ud, Ud, Ud, Ud, Ud, Ud, Ud, Ud]) rfl rfl (does_assign (u := (Iv 0)) (ev rfl)) rfl ?_
  refine wpList_nil (hK1 _ _ ?_)
  refine wp_seq_k fun K2 hK2 => ?_
  refine wp_seq_k fun K3 hK3 => ?_
  refine wp_region_lit ?_
  refine q_is (l' := [(.slice none 0 0), (Iv k), Ud, Ud, (Iv 0), (Iv 0), Ud, Ud, Ud, Ud, Ud, Ud, Ud, Ud, Ud, Ud, Ud, Ud, Ud]) rfl rfl (does_assign (u := (Iv 0)) (ev rfl)) rfl ?_
  refine wpList_nil (hK3 _ _ ?_)
  refine wp_block ?_
  refine loop_unroll 1 ?_
  refine un_step ?_
  refine wp_seq_k fun K4 hK4 => ?_
  refine wp_seq_k fun K5 hK5 => ?_
  refine wp_region_lit ?_
  refine q_is (l' := [(.slice none 0 0), (Iv k), Ud, Ud, (Iv 0), (Iv 0), (Iv 0), Ud, Ud, Ud, Ud, Ud, Ud, Ud, Ud, Ud, Ud, Ud, Ud]) rfl rfl (does_move (u := (Iv 0)) (ev rfl)) rfl ?_
  refine q_is (l' := [(.slice none 0 0), (Iv k), Ud, Ud, (Iv 0), (Iv 0), (Iv 0), (.slice none 0 0), Ud, Ud, Ud, Ud, Ud, Ud, Ud, Ud, Ud, Ud, Ud]) rfl rfl (does_move (u := (.slice none 0 0)) (ev rfl)) rfl ?_
  refine q_is (l' := [(.slice none 0 0), (Iv k), Ud, Ud, (Iv 0), (Iv 0), (Iv 0), (.slice none 0 0), (Iv 0), Ud, Ud, Ud, Ud, Ud, Ud, Ud, Ud, Ud, Ud]) rfl rfl (does_len_slice Try.underlying38 (ev rfl)) rfl ?_
  refine q_is (l' := [(.slice none 0 0), (Iv k), Ud, Ud, (Iv 0), (Iv 0), (Iv 0), (.slice none 0 0), (Iv 0), (Bo false), Ud, Ud, Ud, Ud, Ud, Ud, Ud, Ud, Ud]) rfl rfl (does_icmp (p := 0) (q := 0) (.inr (.inr (.inl rfl))) (ev rfl) (ev rfl)) rfl ?_
  refine wpList_nil (hK5 _ _ ?_)
  refine wp_cond_false (ev rfl) ?_
  refine wp_exit ?_
  refine hK2 _ _ ?_
  refine wp_seq_k fun K6 hK6 => ?_
  refine wp_region_lit ?_
  refine q_is (l' := [(.slice none 0 0), (Iv k), Ud, Ud, (Iv 0), (Iv 0), (Iv 0), (.slice none 0 0), (Iv 0), (Bo false), Ud, Ud, Ud, Ud, Ud, Ud, Ud, Ud, (Iv k)]) rfl rfl (does_move (u := (Iv k)) (ev rfl)) rfl ?_
  refine q_is (l' := [(.slice none 0 0), (Iv k), Ud, Ud, (Iv k), (Iv 0), (Iv 0), (.slice none 0 0), (Iv 0), (Bo false), Ud, Ud, Ud, Ud, Ud, Ud, Ud, Ud, (Iv k)]) rfl rfl (does_assign (u := (Iv k)) (ev rfl)) rfl ?_
  refine wpList_nil (hK6 _ _ ?_)
  refine wp_ret ?_
  refine ret_val (v := (Iv k)) (res_T rfl (slot rfl)) (Ext.refl w) ?_
  have x7 : (k : Int) = k := by first | with_reducible rfl | (simp only []; done) | (simp []; done) | rfl
  exact (by first | rfl | rw [x7])

theorem c_laws_markInt64S_blk (g N n cap : Nat) (k : Int) (w : World) (hM : Mk false k w g N 0) (hn : n * 1 ≤ N) (h0 : 0 ≤ k) (h1 : k + (n : Int) * 1 ≤ 4611686018427387904) : GivesK [g] Try.prog 18 #[.slice (some ⟨g, 0, none⟩) n cap, Iv k] w (fun v w' => v = Iv (k + (n : Int) * 1) ∧ Mk false k w' g N (n * 1)) := by
  refine enterK [(.slice (some ⟨g, 0, none⟩) n cap), (Iv k), Ud, Ud, Ud, Ud, Ud, Ud, Ud, Ud, Ud, Ud, Ud, Ud, Ud, Ud, Ud, Ud, Ud] Try.func18 rfl Try.ntmps18 rfl ?_
  refine wp_seq_k fun K1 hK1 => ?_
  refine wp_region_lit ?_
  refine q_is (l' := [(.slice (some ⟨g, 0, none⟩) n cap), (Iv k), Ud, Ud, (Iv 0), Ud, Ud, Ud, Ud, Ud, Ud, Ud, Ud, Ud, Ud, Ud, Ud, Ud, Ud]) rfl rfl (does_assign (u := (Iv 0)) (ev rfl)) rfl ?_
  refine wpList_nil (hK1 _ _ ?_)
  refine wp_seq_k fun K2 hK2 => ?_
  refine wp_seq_k fun K3 hK3 => ?_
  refine wp_region_lit ?_
  refine q_is (l' := [(.slice (some ⟨g, 0, none⟩) n cap), (Iv k), Ud, Ud, (Iv 0), (Iv 0), Ud, Ud, Ud, Ud, Ud, Ud, Ud, Ud, Ud, Ud, Ud, Ud, Ud]) rfl rfl (does_assign (u := (Iv 0)) (ev rfl)) rfl ?_
  refine wpList_nil (hK3 _ _ ?_)
  refine wp_block ?_
  refine loop_ghost (σ := Nat × Int) (fun s a w' => ∃ u4 : Nat → Value, a = fr [(.slice (some ⟨g, 0, none⟩) n cap), (Iv s.2), Ud, Ud, (Iv 0), (Iv (s.1 : Int)), (u4 6), (u4 7), (u4 8), (u4 9), (u4 10), (u4 11), (u4 12), (u4 13), (u4 14), (u4 15), (u4 16), (u4 17), Ud] ∧ KpL [g] w w' ∧ Mk false k w' g N (s.1 * 1) ∧ (s.1 ≤ n ∧ s.2 = k + (s.1 : Int) * 1)) (fun s => n - s.1) (0, k) ?_ ?_
  · refine ⟨fun t => (([(.slice (some ⟨g, 0, none⟩) n cap), (Iv k), Ud, Ud, (Iv 0), (Iv 0), Ud, Ud, Ud, Ud, Ud, Ud, Ud, Ud, Ud, Ud, Ud, Ud, Ud] : List Value)[t]?).getD undef, rfl, KpL.refl _ _, (Mk.cast hM (by simp)), ?_⟩
    exact ⟨Nat.zero_le _, by simp⟩
  · rintro s a w5 ⟨u4, rfl, E6, hF7, ⟨hk, hn2⟩⟩
    have X8 := KpL.more (KpL.refl [g] w) E6 (allS (.inl (by simp)) all0)
    refine wp_seq_k fun K9 hK9 => ?_
    refine wp_seq_k fun K10 hK10 => ?_
    refine wp_region_lit ?_
    refine q_is (l' := [(.slice (some ⟨g, 0, none⟩) n cap), (Iv s.2), Ud, Ud, (Iv 0), (Iv (s.1 : Int)), (Iv (s.1 : Int)), (u4 7), (u4 8), (u4 9), (u4 10), (u4 11), (u4 12), (u4 13), (u4 14), (u4 15), (u4 16), (u4 17), Ud]) rfl rfl (does_move (u := (Iv (s.1 : Int))) (ev rfl)) rfl ?_
    refine q_is (l' := [(.slice (some ⟨g, 0, none⟩) n cap), (Iv s.2), Ud, Ud, (Iv 0), (Iv (s.1 : Int)), (Iv (s.1 : Int)), (.slice (some ⟨g, 0, none⟩) n cap), (u4 8), (u4 9), (u4 10), (u4 11), (u4 12), (u4 13), (u4 14), (u4 15), (u4 16), (u4 17), Ud]) rfl rfl (does_move (u := (.slice (some ⟨g, 0, none⟩) n cap)) (ev rfl)) rfl ?_
    refine q_is (l' := [(.slice (some ⟨g, 0, none⟩) n cap), (Iv s.2), Ud, Ud, (Iv 0), (Iv (s.1 : Int)), (Iv (s.1 : Int)), (.slice (some ⟨g, 0, none⟩) n cap), (Iv (n : Int)), (u4 9), (u4 10), (u4 11), (u4 12), (u4 13), (u4 14), (u4 15), (u4 16), (u4 17), Ud]) rfl rfl (does_len_slice Try.underlying38 (ev rfl)) rfl ?_
    refine q_is (l' := [(.slice (some ⟨g, 0, none⟩) n cap), (Iv s.2), Ud, Ud, (Iv 0), (Iv (s.1 : Int)), (Iv (s.1 : Int)), (.slice (some ⟨g, 0, none⟩) n cap), (Iv (n : Int)), (Bo (icmp .lss (s.1 : Int) (n : Int))), (u4 10), (u4 11), (u4 12), (u4 13), (u4 14), (u4 15), (u4 16), (u4 17), Ud]) rfl rfl (does_icmp (p := (s.1 : Int)) (q := (n : Int)) (.inr (.inr (.inl rfl))) (ev rfl) (ev rfl)) rfl ?_
    refine wpList_nil (hK10 _ _ ?_)
    refine wp_cond_split (t := icmp .lss (s.1 : Int) (n : Int)) (ev rfl) (fun c11 => ?_) (fun c11 => ?_)
    · have c11' := c11
      (try simp only [icmp, Bool.and_eq_true, Bool.or_eq_true, Bool.and_eq_false_iff, Bool.or_eq_false_iff, Bool.not_eq_true', Bool.not_eq_false', decide_eq_true_eq, decide_eq_false_iff_not, beq_iff_eq, bne_iff_ne, beq_eq_false_iff_ne, bne_eq_false_iff_eq] at c11')
      refine wp_skip (hK9 _ _ ?_)
      refine wp_seq_k fun K12 hK12 => ?_
      refine wp_block ?_
      refine wp_seq_k fun K13 hK13 => ?_
      refine wp_region_lit ?_
      refine q_is (l' := [(.slice (some ⟨g, 0, none⟩) n cap), (Iv s.2), Ud, Ud, (Iv 0), (Iv (s.1 : Int)), (Iv (s.1 : Int)), (.slice (some ⟨g, 0, none⟩) n cap), (Iv (n : Int)), (Bo (icmp .lss (s.1 : Int) (n : Int))), (u4 10), (u4 11), (.slice (some ⟨g, 0, none⟩) n cap), (u4 13), (u4 14), (u4 15), (u4 16), (u4 17), Ud]) rfl rfl (does_move (u := (.slice (some ⟨g, 0, none⟩) n cap)) (ev rfl)) rfl ?_
      refine q_is (l' := [(.slice (some ⟨g, 0, none⟩) n cap), (Iv s.2), Ud, Ud, (Iv 0), (Iv (s.1 : Int)), (Iv (s.1 : Int)), (.slice (some ⟨g, 0, none⟩) n cap), (Iv (n : Int)), (Bo (icmp .lss (s.1 : Int) (n : Int))), (u4 10), (u4 11), (.slice (some ⟨g, 0, none⟩) n cap), (Iv (s.1 : Int)), (u4 14), (u4 15), (u4 16), (u4 17), Ud]) rfl rfl (does_move (u := (Iv (s.1 : Int))) (ev rfl)) rfl ?_
      refine q_is (l' := [(.slice (some ⟨g, 0, none⟩) n cap), (Iv s.2), Ud, Ud, (Iv 0), (Iv (s.1 : Int)), (Iv (s.1 : Int)), (.slice (some ⟨g, 0, none⟩) n cap), (Iv (n : Int)), (Bo (icmp .lss (s.1 : Int) (n : Int))), (u4 10), (u4 11), (.slice (some ⟨g, 0, none⟩) n cap), (Iv (s.1 : Int)), (Iv s.2), (u4 15), (u4 16), (u4 17), Ud]) rfl rfl (does_move (u := (Iv s.2)) (ev rfl)) rfl ?_
      refine q_is (l' := [(.slice (some ⟨g, 0, none⟩) n cap), (Iv s.2), Ud, Ud, (Iv 0), (Iv (s.1 : Int)), (Iv (s.1 : Int)), (.slice (some ⟨g, 0, none⟩) n cap), (Iv (n : Int)), (Bo (icmp .lss (s.1 : Int) (n : Int))), (u4 10), (u4 11), (.slice (some ⟨g, 0, none⟩) n cap), (Iv (s.1 : Int)), (Iv s.2), (Pt g (s.1 * 1)), (u4 16), (u4 17), Ud]) rfl rfl (does_indexOwn (b := g) (n := n) (i := (s.1 : Int)) Try.underlying38 Try.sizeOf2 (ev rfl) (ev rfl) (by omega) (by omega)) rfl ?_
      refine seqn rfl rfl (does_mark (fl := false) (k := k) (N := N) (off := s.1 * 1) (j := s.1 * 1) (u := (Iv s.2)) (ev rfl) (ev rfl) Try.sizeOf2 (mkc_i (by omega)) (by omega) (by omega) hF7) ?_; rintro _ w16 ⟨rfl, W14, hM15⟩
      have X17 := KpL.more X8 (KpL.of_wr W14) (allS (.inl (by simp)) all0)
      refine wpList_nil (hK13 _ _ ?_)
      refine wp_region_lit ?_
      refine q_is (l' := [(.slice (some ⟨g, 0, none⟩) n cap), (Iv s.2), Ud, Ud, (Iv 0), (Iv (s.1 : Int)), (Iv (s.1 : Int)), (.slice (some ⟨g, 0, none⟩) n cap), (Iv (n : Int)), (Bo (icmp .lss (s.1 : Int) (n : Int))), (u4 10), (u4 11), (.slice (some ⟨g, 0, none⟩) n cap), (Iv (s.1 : Int)), (Iv s.2), (Pt g (s.1 * 1)), (Iv s.2), (u4 17), Ud]) rfl rfl (does_move (u := (Iv s.2)) (ev rfl)) rfl ?_
      refine q_is (l' := [(.slice (some ⟨g, 0, none⟩) n cap), (Iv s.2), Ud, Ud, (Iv 0), (Iv (s.1 : Int)), (Iv (s.1 : Int)), (.slice (some ⟨g, 0, none⟩) n cap), (Iv (n : Int)), (Bo (icmp .lss (s.1 : Int) (n : Int))), (u4 10), (u4 11), (.slice (some ⟨g, 0, none⟩) n cap), (Iv (s.1 : Int)), (Iv s.2), (Pt g (s.1 * 1)), (Iv s.2), (Iv (s.2 + 1)), Ud]) rfl rfl (does_iarith (p := s.2) (q := 1) (r := s.2 + 1) (ev rfl) (ev rfl) (.inl ⟨rfl, (in_i64 (by omega) (by omega)).symm⟩)) rfl ?_
      refine q_is (l' := [(.slice (some ⟨g, 0, none⟩) n cap), (Iv (s.2 + 1)), Ud, Ud, (Iv 0), (Iv (s.1 : Int)), (Iv (s.1 : Int)), (.slice (some ⟨g, 0, none⟩) n cap), (Iv (n : Int)), (Bo (icmp .lss (s.1 : Int) (n : Int))), (u4 10), (u4 11), (.slice (some ⟨g, 0, none⟩) n cap), (Iv (s.1 : Int)), (Iv s.2), (Pt g (s.1 * 1)), (Iv s.2), (Iv (s.2 + 1)), Ud]) rfl rfl (does_assign (u := (Iv (s.2 + 1))) (ev rfl)) rfl ?_
      refine wpList_nil (hK12 _ _ ?_)
      refine wp_region_lit ?_
      refine q_is (l' := [(.slice (some ⟨g, 0, none⟩) n cap), (Iv (s.2 + 1)), Ud, Ud, (Iv 0), (Iv (s.1 : Int)), (Iv (s.1 : Int)), (.slice (some ⟨g, 0, none⟩) n cap), (Iv (n : Int)), (Bo (icmp .lss (s.1 : Int) (n : Int))), (Iv (s.1 : Int)), (u4 11), (.slice (some ⟨g, 0, none⟩) n cap), (Iv (s.1 : Int)), (Iv s.2), (Pt g (s.1 * 1)), (Iv s.2), (Iv (s.2 + 1)), Ud]) rfl rfl (does_move (u := (Iv (s.1 : Int))) (ev rfl)) rfl ?_
      refine q_is (l' := [(.slice (some ⟨g, 0, none⟩) n cap), (Iv (s.2 + 1)), Ud, Ud, (Iv 0), (Iv (s.1 : Int)), (Iv (s.1 : Int)), (.slice (some ⟨g, 0, none⟩) n cap), (Iv (n : Int)), (Bo (icmp .lss (s.1 : Int) (n : Int))), (Iv (s.1 : Int)), (Iv ((s.1 : Int) + 1)), (.slice (some ⟨g, 0, none⟩) n cap), (Iv (s.1 : Int)), (Iv s.2), (Pt g (s.1 * 1)), (Iv s.2), (Iv (s.2 + 1)), Ud]) rfl rfl (does_iarith (p := (s.1 : Int)) (q := 1) (r := (s.1 : Int) + 1) (ev rfl) (ev rfl) (.inl ⟨rfl, (in_i64 (by omega) (by omega)).symm⟩)) rfl ?_
      refine q_is (l' := [(.slice (some ⟨g, 0, none⟩) n cap), (Iv (s.2 + 1)), Ud, Ud, (Iv 0), (Iv ((s.1 : Int) + 1)), (Iv (s.1 : Int)), (.slice (some ⟨g, 0, none⟩) n cap), (Iv (n : Int)), (Bo (icmp .lss (s.1 : Int) (n : Int))), (Iv (s.1 : Int)), (Iv ((s.1 : Int) + 1)), (.slice (some ⟨g, 0, none⟩) n cap), (Iv (s.1 : Int)), (Iv s.2), (Pt g (s.1 * 1)), (Iv s.2), (Iv (s.2 + 1)), Ud]) rfl rfl (does_assign (u := (Iv ((s.1 : Int) + 1))) (ev rfl)) rfl ?_
      refine wpList_nil ?_
      refine ⟨(s.1 + 1, s.2 + 1), ⟨fun t => (([(.slice (some ⟨g, 0, none⟩) n cap), (Iv (s.2 + 1)), Ud, Ud, (Iv 0), (Iv ((s.1 : Int) + 1)), (Iv (s.1 : Int)), (.slice (some ⟨g, 0, none⟩) n cap), (Iv (n : Int)), (Bo (icmp .lss (s.1 : Int) (n : Int))), (Iv (s.1 : Int)), (Iv ((s.1 : Int) + 1)), (.slice (some ⟨g, 0, none⟩) n cap), (Iv (s.1 : Int)), (Iv s.2), (Pt g (s.1 * 1)), (Iv s.2), (Iv (s.2 + 1)), Ud] : List Value)[t]?).getD undef, ?_, (KpL.more E6 (KpL.of_wr W14) (allS (.inl (by simp)) all0)), (Mk.cast hM15 (by (try dsimp only); omega)), ?_⟩, ?_⟩
      · first | rfl | (simp only [Nat.cast_add, Nat.cast_one, Int.natCast_add, Int.natCast_one]; rfl)
      · (try dsimp only); exact ⟨by omega, by omega⟩
      · (try dsimp only); omega
    have c11' := c11
    (try simp only [icmp, Bool.and_eq_true, Bool.or_eq_true, Bool.and_eq_false_iff, Bool.or_eq_false_iff, Bool.not_eq_true', Bool.not_eq_false', decide_eq_true_eq, decide_eq_false_iff_not, beq_iff_eq, bne_iff_ne, beq_eq_false_iff_ne, bne_eq_false_iff_eq] at c11')
    refine wp_exit ?_
    refine hK2 _ _ ?_
    refine wp_seq_k fun K18 hK18 => ?_
    refine wp_region_lit ?_
    refine q_is (l' := [(.slice (some ⟨g, 0, none⟩) n cap), (Iv s.2), Ud, Ud, (Iv 0), (Iv (s.1 : Int)), (Iv (s.1 : Int)), (.slice (some ⟨g, 0, none⟩) n cap), (Iv (n : Int)), (Bo (icmp .lss (s.1 : Int) (n : Int))), (u4 10), (u4 11), (u4 12), (u4 13), (u4 14), (u4 15), (u4 16), (u4 17), (Iv s.2)]) rfl rfl (does_move (u := (Iv s.2)) (ev rfl)) rfl ?_
    refine q_is (l' := [(.slice (some ⟨g, 0, none⟩) n cap), (Iv s.2), Ud, Ud, (Iv s.2), (Iv (s.1 : Int)), (Iv (s.1 : Int)), (.slice (some ⟨g, 0, none⟩) n cap), (Iv (n : Int)), (Bo (icmp .lss (s.1 : Int) (n : Int))), (u4 10), (u4 11), (u4 12), (u4 13), (u4 14), (u4 15), (u4 16), (u4 17), (Iv s.2)]) rfl rfl (does_assign (u := (Iv s.2)) (ev rfl)) rfl ?_
    refine wpList_nil (hK18 _ _ ?_)
    refine wp_ret ?_
    refine ret_valK (v := (Iv s.2)) (res_T rfl (slot rfl)) X8 ?_
    have hj : s.1 = n := by omega
    exact ⟨by first | rfl | (show Value.int _ _ = Value.int _ _; congr 1; omega), Mk.cast hF7 (by rw [hj])⟩

theorem c_laws_markInt64S (a : Value) (n : Nat) (L : List Nat) (B : Nat) (k : Int) (w : World) (ha : WL 1 B w L a n) (h0 : 0 ≤ k) (h1 : k + (n : Int) * 1 ≤ 4611686018427387904) : GivesK L Try.prog 18 #[a, Iv k] w (fun v w' => v = Iv (k + (n : Int) * 1) ∧ Hang B w' (fun u => Sl RI 1 u a (mkL fI 1 k n))) := by
  obtain ⟨hL, ⟨rfl, rfl, rfl⟩ | ⟨g, cap, cs, rfl, rfl, hB, hn, hc⟩⟩ := ha
  · exact (Gives.toK (c_laws_markInt64S_nil k w)).mono fun v w' hv => ⟨by rw [hv]; simp, fun u _ => Sl_mk0 u⟩
  · exact (c_laws_markInt64S_blk g cs.length n cap k w (Mk.zero hB rfl) hn h0 h1).mono fun v w' ⟨hv, hM⟩ => ⟨hv, Mk.hang hM (hL g (by simp)).1 hc (by decide) (by omega) rI⟩

end Go.Proofs.Ytffmjlalacnfiaa
