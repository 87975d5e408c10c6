/- contracts of functions, each walked once -/
import Derived.Test.YtibfpalicagadaaY
namespace Go.Proofs.Ytibfpalicagadaa
open Go Go.RowKit
set_option maxRecDepth 100000
set_option linter.unusedVariables false
set_option linter.unusedSimpArgs false

/- laws.FnExactCountInside -/
theorem c_laws_FnExactCountInside (g : List Value) (A_g : GridT) (w : World) (hv_g : RGridT w A_g g) : Gives Try.prog 5 #[(.agg g.toArray)] w (fun v w' => v = (Bo true)) := by
  obtain ⟨r1, r3, r5, r7, y9, rfl, h2, h4, h6, h8, h10⟩ := hv_g
  have hs13 := h10; have hs13l := Sl.len h10; obtain ⟨p11, q12, rfl⟩ := Sl.shape h10
  refine enter [(.agg #[(Fl r1), (Fl r3), (Fl r5), (Fl r7), (Iv A_g.x), (Iv A_g.y), (Iv A_g.z), (.slice p11 A_g.vals.length q12)]), Ud, Ud, Ud, Ud, Ud, Ud, Ud, Ud, Ud, Ud, Ud, Ud, Ud, Ud, Ud, Ud, Ud, Ud, Ud, Ud, Ud, Ud, Ud, Ud, Ud, Ud, Ud, Ud, Ud, Ud, Ud, Ud, Ud, Ud, Ud, Ud, Ud, Ud, Ud] Try.func5 rfl Try.ntmps5 rfl ?_
  refine wp_seq_k fun K14 hK14 => ?_
  refine wp_region_lit ?_
  refine seqd rfl rfl (does_box (u := (.agg #[(Fl r1), (Fl r3), (Fl r5), (Fl r7), (Iv A_g.x), (Iv A_g.y), (Iv A_g.z), (.slice p11 A_g.vals.length q12)])) (ev rfl)) ?_; rintro _ w19 ⟨b15, rfl, hb16, hB17, E18⟩
  have g20 : w.heap.size ≤ b15 := Nat.le_trans (Below.size (Ext.refl w)) hb16
  change Blk _ _ [(Fl r1), (Fl r3), (Fl r5), (Fl r7), (Iv A_g.x), (Iv A_g.y), (Iv A_g.z), (.slice p11 A_g.vals.length q12)] at hB17
  have X21 := Ext.gr (Ext.refl w) E18
  show wpList _ _ _ _ (fr [(.agg #[(Fl r1), (Fl r3), (Fl r5), (Fl r7), (Iv A_g.x), (Iv A_g.y), (Iv A_g.z), (.slice p11 A_g.vals.length q12)]), (Pt b15 0), Ud, Ud, Ud, Ud, Ud, Ud, Ud, Ud, Ud, Ud, Ud, Ud, Ud, Ud, Ud, Ud, Ud, Ud, Ud, Ud, Ud, Ud, Ud, Ud, Ud, Ud, Ud, Ud, Ud, Ud, Ud, Ud, Ud, Ud, Ud, Ud, Ud, Ud]) _
  refine q_is (l' := [(.agg #[(Fl r1), (Fl r3), (Fl r5), (Fl r7), (Iv A_g.x), (Iv A_g.y), (Iv A_g.z), (.slice p11 A_g.vals.length q12)]), (Pt b15 0), (Bo false), Ud, Ud, Ud, Ud, Ud, Ud, Ud, Ud, Ud, Ud, Ud, Ud, Ud, Ud, Ud, Ud, Ud, Ud, Ud, Ud, Ud, Ud, Ud, Ud, Ud, Ud, Ud, Ud, Ud, Ud, Ud, Ud, Ud, Ud, Ud, Ud, Ud]) rfl rfl (does_assign (u := (Bo false)) (ev rfl)) rfl ?_
  refine wpList_nil (hK14 _ _ ?_)
  refine wp_seq_k fun K22 hK22 => ?_
  refine wp_region_lit ?_
  refine q_is (l' := [(.agg #[(Fl r1), (Fl r3), (Fl r5), (Fl r7), (Iv A_g.x), (Iv A_g.y), (Iv A_g.z), (.slice p11 A_g.vals.length q12)]), (Pt b15 0), (Bo false), (Iv 1048576), Ud, Ud, Ud, Ud, Ud, Ud, Ud, Ud, Ud, Ud, Ud, Ud, Ud, Ud, Ud, Ud, Ud, Ud, Ud, Ud, Ud, Ud, Ud, Ud, Ud, Ud, Ud, Ud, Ud, Ud, Ud, Ud, Ud, Ud, Ud, Ud]) rfl rfl (does_assign (u := (Iv 1048576)) (ev rfl)) rfl ?_
  refine wpList_nil (hK22 _ _ ?_)
  refine wp_seq_k fun K23 hK23 => ?_
  refine wp_region_lit ?_
  refine q_is (l' := [(.agg #[(Fl r1), (Fl r3), (Fl r5), (Fl r7), (Iv A_g.x), (Iv A_g.y), (Iv A_g.z), (.slice p11 A_g.vals.length q12)]), (Pt b15 0), (Bo false), (Iv 1048576), Ud, Ud, Ud, Ud, Ud, (.agg #[(Fl r1), (Fl r3), (Fl r5), (Fl r7), (Iv A_g.x), (Iv A_g.y), (Iv A_g.z), (.slice p11 A_g.vals.length q12)]), Ud, Ud, Ud, Ud, Ud, Ud, Ud, Ud, Ud, Ud, Ud, Ud, Ud, Ud, Ud, Ud, Ud, Ud, Ud, Ud, Ud, Ud, Ud, Ud, Ud, Ud, Ud, Ud, Ud, Ud]) rfl rfl (does_loadAgg (cs := [(Fl r1), (Fl r3), (Fl r5), (Fl r7), (Iv A_g.x), (Iv A_g.y), (Iv A_g.z), (.slice p11 A_g.vals.length q12)]) (ev rfl) Try.isAgg27 Try.sizeOf27 (Blk.cells hB17) rfl) rfl ?_
  refine q_is (l' := [(.agg #[(Fl r1), (Fl r3), (Fl r5), (Fl r7), (Iv A_g.x), (Iv A_g.y), (Iv A_g.z), (.slice p11 A_g.vals.length q12)]), (Pt b15 0), (Bo false), (Iv 1048576), Ud, Ud, Ud, Ud, Ud, (.agg #[(Fl r1), (Fl r3), (Fl r5), (Fl r7), (Iv A_g.x), (Iv A_g.y), (Iv A_g.z), (.slice p11 A_g.vals.length q12)]), (Iv 1048576), Ud, Ud, Ud, Ud, Ud, Ud, Ud, Ud, Ud, Ud, Ud, Ud, Ud, Ud, Ud, Ud, Ud, Ud, Ud, Ud, Ud, Ud, Ud, Ud, Ud, Ud, Ud, Ud, Ud]) rfl rfl (does_move (u := (Iv 1048576)) (ev rfl)) rfl ?_
  refine seqd rfl rfl (does_call (args := #[(.agg #[(Fl r1), (Fl r3), (Fl r5), (Fl r7), (Iv A_g.x), (Iv A_g.y), (Iv A_g.z), (.slice p11 A_g.vals.length q12)]), (Iv 1048576)]) cal17 (evs rfl) (c_laws_szGrid [(Fl r1), (Fl r3), (Fl r5), (Fl r7), (Iv A_g.x), (Iv A_g.y), (Iv A_g.z), (.slice p11 A_g.vals.length q12)] A_g 1048576 _ ⟨r1, r3, r5, r7, (.slice p11 A_g.vals.length q12), rfl, h2, h4, h6, h8, (Sl.ext hs13 RF.mono X21)⟩ (by omega) (by omega))) ?_; rintro _ w25 ⟨E24, ⟨i26, rfl, h27⟩⟩
  have X28 := Ext.gr X21 E24
  show wpList _ _ _ _ (fr [(.agg #[(Fl r1), (Fl r3), (Fl r5), (Fl r7), (Iv A_g.x), (Iv A_g.y), (Iv A_g.z), (.slice p11 A_g.vals.length q12)]), (Pt b15 0), (Bo false), (Iv 1048576), Ud, Ud, Ud, Ud, Ud, (.agg #[(Fl r1), (Fl r3), (Fl r5), (Fl r7), (Iv A_g.x), (Iv A_g.y), (Iv A_g.z), (.slice p11 A_g.vals.length q12)]), (Iv 1048576), (Iv i26), Ud, Ud, Ud, Ud, Ud, Ud, Ud, Ud, Ud, Ud, Ud, Ud, Ud, Ud, Ud, Ud, Ud, Ud, Ud, Ud, Ud, Ud, Ud, Ud, Ud, Ud, Ud, Ud]) _
  refine q_is (l' := [(.agg #[(Fl r1), (Fl r3), (Fl r5), (Fl r7), (Iv A_g.x), (Iv A_g.y), (Iv A_g.z), (.slice p11 A_g.vals.length q12)]), (Pt b15 0), (Bo false), (Iv i26), Ud, Ud, Ud, Ud, Ud, (.agg #[(Fl r1), (Fl r3), (Fl r5), (Fl r7), (Iv A_g.x), (Iv A_g.y), (Iv A_g.z), (.slice p11 A_g.vals.length q12)]), (Iv 1048576), (Iv i26), Ud, Ud, Ud, Ud, Ud, Ud, Ud, Ud, Ud, Ud, Ud, Ud, Ud, Ud, Ud, Ud, Ud, Ud, Ud, Ud, Ud, Ud, Ud, Ud, Ud, Ud, Ud, Ud]) rfl rfl (does_assign (u := (Iv i26)) (ev rfl)) rfl ?_
  refine wpList_nil (hK23 _ _ ?_)
  refine wp_seq_k fun K29 hK29 => ?_
  refine wp_seq_k fun K30 hK30 => ?_
  refine wp_region_lit ?_
  refine q_is (l' := [(.agg #[(Fl r1), (Fl r3), (Fl r5), (Fl r7), (Iv A_g.x), (Iv A_g.y), (Iv A_g.z), (.slice p11 A_g.vals.length q12)]), (Pt b15 0), (Bo false), (Iv i26), Ud, Ud, Ud, Ud, Ud, (.agg #[(Fl r1), (Fl r3), (Fl r5), (Fl r7), (Iv A_g.x), (Iv A_g.y), (Iv A_g.z), (.slice p11 A_g.vals.length q12)]), (Iv 1048576), (Iv i26), (Iv i26), Ud, Ud, Ud, Ud, Ud, Ud, Ud, Ud, Ud, Ud, Ud, Ud, Ud, Ud, Ud, Ud, Ud, Ud, Ud, Ud, Ud, Ud, Ud, Ud, Ud, Ud, Ud]) rfl rfl (does_move (u := (Iv i26)) (ev rfl)) rfl ?_
  refine q_is (l' := [(.agg #[(Fl r1), (Fl r3), (Fl r5), (Fl r7), (Iv A_g.x), (Iv A_g.y), (Iv A_g.z), (.slice p11 A_g.vals.length q12)]), (Pt b15 0), (Bo false), (Iv i26), Ud, Ud, Ud, Ud, Ud, (.agg #[(Fl r1), (Fl r3), (Fl r5), (Fl r7), (Iv A_g.x), (Iv A_g.y), (Iv A_g.z), (.slice p11 A_g.vals.length q12)]), (Iv 1048576), (Iv i26), (Iv i26), (Bo (icmp .lss i26 0)), Ud, Ud, Ud, Ud, Ud, Ud, Ud, Ud, Ud, Ud, Ud, Ud, Ud, Ud, Ud, Ud, Ud, Ud, Ud, Ud, Ud, Ud, Ud, Ud, Ud, Ud]) rfl rfl (does_icmp (p := i26) (q := 0) (.inr (.inr (.inl rfl))) (ev rfl) (ev rfl)) rfl ?_
  refine wpList_nil (hK30 _ _ ?_)
  refine wp_cond_split (t := icmp .lss i26 0) (ev rfl) (fun c31 => ?_) (fun c31 => ?_)
  · have c31' := c31
    (try simp only [icmp, Bool.and_eq_true, Bool.or_eq_true, Bool.and_eq_false_iff, Bool.or_eq_false_iff, Bool.not_eq_true', Bool.not_eq_false', decide_eq_true_eq, decide_eq_false_iff_not, beq_iff_eq, bne_iff_ne, beq_eq_false_iff_ne, bne_eq_false_iff_eq] at c31')
    refine wp_seq_k fun K32 hK32 => ?_
    refine wp_region_lit ?_
    refine q_is (l' := [(.agg #[(Fl r1), (Fl r3), (Fl r5), (Fl r7), (Iv A_g.x), (Iv A_g.y), (Iv A_g.z), (.slice p11 A_g.vals.length q12)]), (Pt b15 0), (Bo true), (Iv i26), Ud, Ud, Ud, Ud, Ud, (.agg #[(Fl r1), (Fl r3), (Fl r5), (Fl r7), (Iv A_g.x), (Iv A_g.y), (Iv A_g.z), (.slice p11 A_g.vals.length q12)]), (Iv 1048576), (Iv i26), (Iv i26), (Bo (icmp .lss i26 0)), Ud, Ud, Ud, Ud, Ud, Ud, Ud, Ud, Ud, Ud, Ud, Ud, Ud, Ud, Ud, Ud, Ud, Ud, Ud, Ud, Ud, Ud, Ud, Ud, Ud, Ud]) rfl rfl (does_assign (u := (Bo true)) (ev rfl)) rfl ?_
    refine wpList_nil (hK32 _ _ ?_)
    refine wp_ret ?_
    dsimp only [Exit.then, Exit.inBlock]
    refine ret_val (v := (Bo true)) (res_T rfl (slot rfl)) X28 ?_
    try simp only [h2, h4, h6, h8] at c31
    exact rfl
  have c31' := c31
  (try simp only [icmp, Bool.and_eq_true, Bool.or_eq_true, Bool.and_eq_false_iff, Bool.or_eq_false_iff, Bool.not_eq_true', Bool.not_eq_false', decide_eq_true_eq, decide_eq_false_iff_not, beq_iff_eq, bne_iff_ne, beq_eq_false_iff_ne, bne_eq_false_iff_eq] at c31')
  refine wp_skip (hK29 _ _ ?_)
  refine wp_seq_k fun K33 hK33 => ?_
  refine wp_region_lit ?_
  refine q_is (l' := [(.agg #[(Fl r1), (Fl r3), (Fl r5), (Fl r7), (Iv A_g.x), (Iv A_g.y), (Iv A_g.z), (.slice p11 A_g.vals.length q12)]), (Pt b15 0), (Bo false), (Iv i26), Ud, Ud, Ud, Ud, Ud, (.agg #[(Fl r1), (Fl r3), (Fl r5), (Fl r7), (Iv A_g.x), (Iv A_g.y), (Iv A_g.z), (.slice p11 A_g.vals.length q12)]), (Iv 1048576), (Iv i26), (Iv i26), (Bo (icmp .lss i26 0)), Ud, (.agg #[(Fl r1), (Fl r3), (Fl r5), (Fl r7), (Iv A_g.x), (Iv A_g.y), (Iv A_g.z), (.slice p11 A_g.vals.length q12)]), Ud, Ud, Ud, Ud, Ud, Ud, Ud, Ud, Ud, Ud, Ud, Ud, Ud, Ud, Ud, Ud, Ud, Ud, Ud, Ud, Ud, Ud, Ud, Ud]) rfl rfl (does_loadAgg (cs := [(Fl r1), (Fl r3), (Fl r5), (Fl r7), (Iv A_g.x), (Iv A_g.y), (Iv A_g.z), (.slice p11 A_g.vals.length q12)]) (ev rfl) Try.isAgg27 Try.sizeOf27 (Blk.cells (hB17.ext E24)) rfl) rfl ?_
  refine seqd rfl rfl (does_call (args := #[(.agg #[(Fl r1), (Fl r3), (Fl r5), (Fl r7), (Iv A_g.x), (Iv A_g.y), (Iv A_g.z), (.slice p11 A_g.vals.length q12)])]) cal19 (evs rfl) (c_laws_toGrid [(Fl r1), (Fl r3), (Fl r5), (Fl r7), (Iv A_g.x), (Iv A_g.y), (Iv A_g.z), (.slice p11 A_g.vals.length q12)] A_g _ ⟨r1, r3, r5, r7, (.slice p11 A_g.vals.length q12), rfl, h2, h4, h6, h8, (Sl.ext hs13 RF.mono X28)⟩ (by omega))) ?_; rintro _ w35 ⟨E34, ⟨cs37, rfl, hh36⟩⟩
  have X38 := Ext.gr X28 E34
  have n39 : b15 < w25.heap.size := Blk.lt (hB17.ext E24)
  obtain ⟨r40, r42, r44, r46, y48, rfl, h41, h43, h45, h47, h49⟩ := hh36.get
  have h49l := Sl.len h49; obtain ⟨p50, q51, rfl⟩ := Sl.shape h49
  have hh52 : Hang w25.heap.size w35 (fun u => Sl RF 1 u (.slice p50 A_g.vals.length q51) A_g.vals) := fun u hu => by obtain ⟨_, _, _, _, _, hq, _, _, _, _, _⟩ := hh36 u hu; cases hq; assumption
  show wpList _ _ _ _ (fr [(.agg #[(Fl r1), (Fl r3), (Fl r5), (Fl r7), (Iv A_g.x), (Iv A_g.y), (Iv A_g.z), (.slice p11 A_g.vals.length q12)]), (Pt b15 0), (Bo false), (Iv i26), Ud, Ud, Ud, Ud, Ud, (.agg #[(Fl r1), (Fl r3), (Fl r5), (Fl r7), (Iv A_g.x), (Iv A_g.y), (Iv A_g.z), (.slice p11 A_g.vals.length q12)]), (Iv 1048576), (Iv i26), (Iv i26), (Bo (icmp .lss i26 0)), Ud, (.agg #[(Fl r1), (Fl r3), (Fl r5), (Fl r7), (Iv A_g.x), (Iv A_g.y), (Iv A_g.z), (.slice p11 A_g.vals.length q12)]), (.agg #[(Fl r40), (Fl r42), (Fl r44), (Fl r46), (Iv A_g.x), (Iv A_g.y), (Iv A_g.z), (.slice p50 A_g.vals.length q51)]), Ud, Ud, Ud, Ud, Ud, Ud, Ud, Ud, Ud, Ud, Ud, Ud, Ud, Ud, Ud, Ud, Ud, Ud, Ud, Ud, Ud, Ud, Ud]) _
  refine seqd rfl rfl (does_call (args := #[(.agg #[(Fl r40), (Fl r42), (Fl r44), (Fl r46), (Iv A_g.x), (Iv A_g.y), (Iv A_g.z), (.slice p50 A_g.vals.length q51)])]) cal25 (evs rfl) (c_spec_CountInside [(Fl r40), (Fl r42), (Fl r44), (Fl r46), (Iv A_g.x), (Iv A_g.y), (Iv A_g.z), (.slice p50 A_g.vals.length q51)] A_g _ ⟨r40, r42, r44, r46, (.slice p50 A_g.vals.length q51), rfl, h41, h43, h45, h47, hh52.get⟩)) ?_; rintro _ w54 ⟨E53, rfl⟩
  have X55 := Ext.gr X38 E53
  show wpList _ _ _ _ (fr [(.agg #[(Fl r1), (Fl r3), (Fl r5), (Fl r7), (Iv A_g.x), (Iv A_g.y), (Iv A_g.z), (.slice p11 A_g.vals.length q12)]), (Pt b15 0), (Bo false), (Iv i26), Ud, Ud, Ud, Ud, Ud, (.agg #[(Fl r1), (Fl r3), (Fl r5), (Fl r7), (Iv A_g.x), (Iv A_g.y), (Iv A_g.z), (.slice p11 A_g.vals.length q12)]), (Iv 1048576), (Iv i26), (Iv i26), (Bo (icmp .lss i26 0)), Ud, (.agg #[(Fl r1), (Fl r3), (Fl r5), (Fl r7), (Iv A_g.x), (Iv A_g.y), (Iv A_g.z), (.slice p11 A_g.vals.length q12)]), (.agg #[(Fl r40), (Fl r42), (Fl r44), (Fl r46), (Iv A_g.x), (Iv A_g.y), (Iv A_g.z), (.slice p50 A_g.vals.length q51)]), (.tuple #[(Iv (gvI (isGrid A_g) (insG A_g))), (Bo (isGrid A_g))]), Ud, Ud, Ud, Ud, Ud, Ud, Ud, Ud, Ud, Ud, Ud, Ud, Ud, Ud, Ud, Ud, Ud, Ud, Ud, Ud, Ud, Ud]) _
  refine q_is (l' := [(.agg #[(Fl r1), (Fl r3), (Fl r5), (Fl r7), (Iv A_g.x), (Iv A_g.y), (Iv A_g.z), (.slice p11 A_g.vals.length q12)]), (Pt b15 0), (Bo false), (Iv i26), Ud, Ud, Ud, Ud, Ud, (.agg #[(Fl r1), (Fl r3), (Fl r5), (Fl r7), (Iv A_g.x), (Iv A_g.y), (Iv A_g.z), (.slice p11 A_g.vals.length q12)]), (Iv 1048576), (Iv i26), (Iv i26), (Bo (icmp .lss i26 0)), (.tuple #[(Iv (gvI (isGrid A_g) (insG A_g))), (Bo (isGrid A_g))]), (.agg #[(Fl r1), (Fl r3), (Fl r5), (Fl r7), (Iv A_g.x), (Iv A_g.y), (Iv A_g.z), (.slice p11 A_g.vals.length q12)]), (.agg #[(Fl r40), (Fl r42), (Fl r44), (Fl r46), (Iv A_g.x), (Iv A_g.y), (Iv A_g.z), (.slice p50 A_g.vals.length q51)]), (.tuple #[(Iv (gvI (isGrid A_g) (insG A_g))), (Bo (isGrid A_g))]), Ud, Ud, Ud, Ud, Ud, Ud, Ud, Ud, Ud, Ud, Ud, Ud, Ud, Ud, Ud, Ud, Ud, Ud, Ud, Ud, Ud, Ud]) rfl rfl (does_move (u := (.tuple #[(Iv (gvI (isGrid A_g) (insG A_g))), (Bo (isGrid A_g))])) (ev rfl)) rfl ?_
  refine q_is (l' := [(.agg #[(Fl r1), (Fl r3), (Fl r5), (Fl r7), (Iv A_g.x), (Iv A_g.y), (Iv A_g.z), (.slice p11 A_g.vals.length q12)]), (Pt b15 0), (Bo false), (Iv i26), Ud, Ud, Ud, Ud, Ud, (.agg #[(Fl r1), (Fl r3), (Fl r5), (Fl r7), (Iv A_g.x), (Iv A_g.y), (Iv A_g.z), (.slice p11 A_g.vals.length q12)]), (Iv 1048576), (Iv i26), (Iv i26), (Bo (icmp .lss i26 0)), (.tuple #[(Iv (gvI (isGrid A_g) (insG A_g))), (Bo (isGrid A_g))]), (.agg #[(Fl r1), (Fl r3), (Fl r5), (Fl r7), (Iv A_g.x), (Iv A_g.y), (Iv A_g.z), (.slice p11 A_g.vals.length q12)]), (.agg #[(Fl r40), (Fl r42), (Fl r44), (Fl r46), (Iv A_g.x), (Iv A_g.y), (Iv A_g.z), (.slice p50 A_g.vals.length q51)]), (.tuple #[(Iv (gvI (isGrid A_g) (insG A_g))), (Bo (isGrid A_g))]), (Iv (gvI (isGrid A_g) (insG A_g))), Ud, Ud, Ud, Ud, Ud, Ud, Ud, Ud, Ud, Ud, Ud, Ud, Ud, Ud, Ud, Ud, Ud, Ud, Ud, Ud, Ud]) rfl rfl (does_extract (vs := #[(Iv (gvI (isGrid A_g) (insG A_g))), (Bo (isGrid A_g))]) (u := (Iv (gvI (isGrid A_g) (insG A_g)))) (ev rfl) rfl) rfl ?_
  refine q_is (l' := [(.agg #[(Fl r1), (Fl r3), (Fl r5), (Fl r7), (Iv A_g.x), (Iv A_g.y), (Iv A_g.z), (.slice p11 A_g.vals.length q12)]), (Pt b15 0), (Bo false), (Iv i26), Ud, Ud, Ud, Ud, Ud, (.agg #[(Fl r1), (Fl r3), (Fl r5), (Fl r7), (Iv A_g.x), (Iv A_g.y), (Iv A_g.z), (.slice p11 A_g.vals.length q12)]), (Iv 1048576), (Iv i26), (Iv i26), (Bo (icmp .lss i26 0)), (.tuple #[(Iv (gvI (isGrid A_g) (insG A_g))), (Bo (isGrid A_g))]), (.agg #[(Fl r1), (Fl r3), (Fl r5), (Fl r7), (Iv A_g.x), (Iv A_g.y), (Iv A_g.z), (.slice p11 A_g.vals.length q12)]), (.agg #[(Fl r40), (Fl r42), (Fl r44), (Fl r46), (Iv A_g.x), (Iv A_g.y), (Iv A_g.z), (.slice p50 A_g.vals.length q51)]), (.tuple #[(Iv (gvI (isGrid A_g) (insG A_g))), (Bo (isGrid A_g))]), (Iv (gvI (isGrid A_g) (insG A_g))), (Bo (isGrid A_g)), Ud, Ud, Ud, Ud, Ud, Ud, Ud, Ud, Ud, Ud, Ud, Ud, Ud, Ud, Ud, Ud, Ud, Ud, Ud, Ud]) rfl rfl (does_extract (vs := #[(Iv (gvI (isGrid A_g) (insG A_g))), (Bo (isGrid A_g))]) (u := (Bo (isGrid A_g))) (ev rfl) rfl) rfl ?_
  refine q_is (l' := [(.agg #[(Fl r1), (Fl r3), (Fl r5), (Fl r7), (Iv A_g.x), (Iv A_g.y), (Iv A_g.z), (.slice p11 A_g.vals.length q12)]), (Pt b15 0), (Bo false), (Iv i26), (Iv (gvI (isGrid A_g) (insG A_g))), Ud, Ud, Ud, Ud, (.agg #[(Fl r1), (Fl r3), (Fl r5), (Fl r7), (Iv A_g.x), (Iv A_g.y), (Iv A_g.z), (.slice p11 A_g.vals.length q12)]), (Iv 1048576), (Iv i26), (Iv i26), (Bo (icmp .lss i26 0)), (.tuple #[(Iv (gvI (isGrid A_g) (insG A_g))), (Bo (isGrid A_g))]), (.agg #[(Fl r1), (Fl r3), (Fl r5), (Fl r7), (Iv A_g.x), (Iv A_g.y), (Iv A_g.z), (.slice p11 A_g.vals.length q12)]), (.agg #[(Fl r40), (Fl r42), (Fl r44), (Fl r46), (Iv A_g.x), (Iv A_g.y), (Iv A_g.z), (.slice p50 A_g.vals.length q51)]), (.tuple #[(Iv (gvI (isGrid A_g) (insG A_g))), (Bo (isGrid A_g))]), (Iv (gvI (isGrid A_g) (insG A_g))), (Bo (isGrid A_g)), Ud, Ud, Ud, Ud, Ud, Ud, Ud, Ud, Ud, Ud, Ud, Ud, Ud, Ud, Ud, Ud, Ud, Ud, Ud, Ud]) rfl rfl (does_assign (u := (Iv (gvI (isGrid A_g) (insG A_g)))) (ev rfl)) rfl ?_
  refine q_is (l' := [(.agg #[(Fl r1), (Fl r3), (Fl r5), (Fl r7), (Iv A_g.x), (Iv A_g.y), (Iv A_g.z), (.slice p11 A_g.vals.length q12)]), (Pt b15 0), (Bo false), (Iv i26), (Iv (gvI (isGrid A_g) (insG A_g))), (Bo (isGrid A_g)), Ud, Ud, Ud, (.agg #[(Fl r1), (Fl r3), (Fl r5), (Fl r7), (Iv A_g.x), (Iv A_g.y), (Iv A_g.z), (.slice p11 A_g.vals.length q12)]), (Iv 1048576), (Iv i26), (Iv i26), (Bo (icmp .lss i26 0)), (.tuple #[(Iv (gvI (isGrid A_g) (insG A_g))), (Bo (isGrid A_g))]), (.agg #[(Fl r1), (Fl r3), (Fl r5), (Fl r7), (Iv A_g.x), (Iv A_g.y), (Iv A_g.z), (.slice p11 A_g.vals.length q12)]), (.agg #[(Fl r40), (Fl r42), (Fl r44), (Fl r46), (Iv A_g.x), (Iv A_g.y), (Iv A_g.z), (.slice p50 A_g.vals.length q51)]), (.tuple #[(Iv (gvI (isGrid A_g) (insG A_g))), (Bo (isGrid A_g))]), (Iv (gvI (isGrid A_g) (insG A_g))), (Bo (isGrid A_g)), Ud, Ud, Ud, Ud, Ud, Ud, Ud, Ud, Ud, Ud, Ud, Ud, Ud, Ud, Ud, Ud, Ud, Ud, Ud, Ud]) rfl rfl (does_assign (u := (Bo (isGrid A_g))) (ev rfl)) rfl ?_
  refine wpList_nil (hK33 _ _ ?_)
  refine wp_seq_k fun K56 hK56 => ?_
  refine wp_region_lit ?_
  refine q_is (l' := [(.agg #[(Fl r1), (Fl r3), (Fl r5), (Fl r7), (Iv A_g.x), (Iv A_g.y), (Iv A_g.z), (.slice p11 A_g.vals.length q12)]), (Pt b15 0), (Bo false), (Iv i26), (Iv (gvI (isGrid A_g) (insG A_g))), (Bo (isGrid A_g)), Ud, Ud, Ud, (.agg #[(Fl r1), (Fl r3), (Fl r5), (Fl r7), (Iv A_g.x), (Iv A_g.y), (Iv A_g.z), (.slice p11 A_g.vals.length q12)]), (Iv 1048576), (Iv i26), (Iv i26), (Bo (icmp .lss i26 0)), (.tuple #[(Iv (gvI (isGrid A_g) (insG A_g))), (Bo (isGrid A_g))]), (.agg #[(Fl r1), (Fl r3), (Fl r5), (Fl r7), (Iv A_g.x), (Iv A_g.y), (Iv A_g.z), (.slice p11 A_g.vals.length q12)]), (.agg #[(Fl r40), (Fl r42), (Fl r44), (Fl r46), (Iv A_g.x), (Iv A_g.y), (Iv A_g.z), (.slice p50 A_g.vals.length q51)]), (.tuple #[(Iv (gvI (isGrid A_g) (insG A_g))), (Bo (isGrid A_g))]), (Iv (gvI (isGrid A_g) (insG A_g))), (Bo (isGrid A_g)), (.agg #[(Fl r1), (Fl r3), (Fl r5), (Fl r7), (Iv A_g.x), (Iv A_g.y), (Iv A_g.z), (.slice p11 A_g.vals.length q12)]), Ud, Ud, Ud, Ud, Ud, Ud, Ud, Ud, Ud, Ud, Ud, Ud, Ud, Ud, Ud, Ud, Ud, Ud, Ud]) rfl rfl (does_loadAgg (cs := [(Fl r1), (Fl r3), (Fl r5), (Fl r7), (Iv A_g.x), (Iv A_g.y), (Iv A_g.z), (.slice p11 A_g.vals.length q12)]) (ev rfl) Try.isAgg27 Try.sizeOf27 (Blk.cells (((hB17.ext E24).ext E34).ext E53)) rfl) rfl ?_
  refine seqd rfl rfl (does_call (args := #[(.agg #[(Fl r1), (Fl r3), (Fl r5), (Fl r7), (Iv A_g.x), (Iv A_g.y), (Iv A_g.z), (.slice p11 A_g.vals.length q12)])]) cal19 (evs rfl) (c_laws_toGrid [(Fl r1), (Fl r3), (Fl r5), (Fl r7), (Iv A_g.x), (Iv A_g.y), (Iv A_g.z), (.slice p11 A_g.vals.length q12)] A_g _ ⟨r1, r3, r5, r7, (.slice p11 A_g.vals.length q12), rfl, h2, h4, h6, h8, (Sl.ext hs13 RF.mono X55)⟩ (by omega))) ?_; rintro _ w58 ⟨E57, ⟨cs60, rfl, hh59⟩⟩
  have X61 := Ext.gr X55 E57
  have n62 : b15 < w54.heap.size := Blk.lt (((hB17.ext E24).ext E34).ext E53)
  obtain ⟨r63, r65, r67, r69, y71, rfl, h64, h66, h68, h70, h72⟩ := hh59.get
  have h72l := Sl.len h72; obtain ⟨p73, q74, rfl⟩ := Sl.shape h72
  have hh75 : Hang w54.heap.size w58 (fun u => Sl RF 1 u (.slice p73 A_g.vals.length q74) A_g.vals) := fun u hu => by obtain ⟨_, _, _, _, _, hq, _, _, _, _, _⟩ := hh59 u hu; cases hq; assumption
  show wpList _ _ _ _ (fr [(.agg #[(Fl r1), (Fl r3), (Fl r5), (Fl r7), (Iv A_g.x), (Iv A_g.y), (Iv A_g.z), (.slice p11 A_g.vals.length q12)]), (Pt b15 0), (Bo false), (Iv i26), (Iv (gvI (isGrid A_g) (insG A_g))), (Bo (isGrid A_g)), Ud, Ud, Ud, (.agg #[(Fl r1), (Fl r3), (Fl r5), (Fl r7), (Iv A_g.x), (Iv A_g.y), (Iv A_g.z), (.slice p11 A_g.vals.length q12)]), (Iv 1048576), (Iv i26), (Iv i26), (Bo (icmp .lss i26 0)), (.tuple #[(Iv (gvI (isGrid A_g) (insG A_g))), (Bo (isGrid A_g))]), (.agg #[(Fl r1), (Fl r3), (Fl r5), (Fl r7), (Iv A_g.x), (Iv A_g.y), (Iv A_g.z), (.slice p11 A_g.vals.length q12)]), (.agg #[(Fl r40), (Fl r42), (Fl r44), (Fl r46), (Iv A_g.x), (Iv A_g.y), (Iv A_g.z), (.slice p50 A_g.vals.length q51)]), (.tuple #[(Iv (gvI (isGrid A_g) (insG A_g))), (Bo (isGrid A_g))]), (Iv (gvI (isGrid A_g) (insG A_g))), (Bo (isGrid A_g)), (.agg #[(Fl r1), (Fl r3), (Fl r5), (Fl r7), (Iv A_g.x), (Iv A_g.y), (Iv A_g.z), (.slice p11 A_g.vals.length q12)]), (.agg #[(Fl r63), (Fl r65), (Fl r67), (Fl r69), (Iv A_g.x), (Iv A_g.y), (Iv A_g.z), (.slice p73 A_g.vals.length q74)]), Ud, Ud, Ud, Ud, Ud, Ud, Ud, Ud, Ud, Ud, Ud, Ud, Ud, Ud, Ud, Ud, Ud, Ud]) _
  refine seqd rfl rfl (does_alloc z32) ?_; rintro _ w80 ⟨b76, rfl, hb77, hB78, E79⟩
  have n81 : b15 < b76 := Nat.lt_of_lt_of_le (Blk.lt ((((hB17.ext E24).ext E34).ext E53).ext E57)) hb77
  have g82 : w.heap.size ≤ b76 := Nat.le_trans (Below.size X61) hb77
  change Blk _ _ [(Fl 0), (Fl 0), (Fl 0), (Fl 0), (Iv 0), (Iv 0), (Iv 0), (.slice none 0 0)] at hB78
  have X83 := Ext.gr X61 E79
  show wpList _ _ _ _ (fr [(.agg #[(Fl r1), (Fl r3), (Fl r5), (Fl r7), (Iv A_g.x), (Iv A_g.y), (Iv A_g.z), (.slice p11 A_g.vals.length q12)]), (Pt b15 0), (Bo false), (Iv i26), (Iv (gvI (isGrid A_g) (insG A_g))), (Bo (isGrid A_g)), (Pt b76 0), Ud, Ud, (.agg #[(Fl r1), (Fl r3), (Fl r5), (Fl r7), (Iv A_g.x), (Iv A_g.y), (Iv A_g.z), (.slice p11 A_g.vals.length q12)]), (Iv 1048576), (Iv i26), (Iv i26), (Bo (icmp .lss i26 0)), (.tuple #[(Iv (gvI (isGrid A_g) (insG A_g))), (Bo (isGrid A_g))]), (.agg #[(Fl r1), (Fl r3), (Fl r5), (Fl r7), (Iv A_g.x), (Iv A_g.y), (Iv A_g.z), (.slice p11 A_g.vals.length q12)]), (.agg #[(Fl r40), (Fl r42), (Fl r44), (Fl r46), (Iv A_g.x), (Iv A_g.y), (Iv A_g.z), (.slice p50 A_g.vals.length q51)]), (.tuple #[(Iv (gvI (isGrid A_g) (insG A_g))), (Bo (isGrid A_g))]), (Iv (gvI (isGrid A_g) (insG A_g))), (Bo (isGrid A_g)), (.agg #[(Fl r1), (Fl r3), (Fl r5), (Fl r7), (Iv A_g.x), (Iv A_g.y), (Iv A_g.z), (.slice p11 A_g.vals.length q12)]), (.agg #[(Fl r63), (Fl r65), (Fl r67), (Fl r69), (Iv A_g.x), (Iv A_g.y), (Iv A_g.z), (.slice p73 A_g.vals.length q74)]), Ud, Ud, Ud, Ud, Ud, Ud, Ud, Ud, Ud, Ud, Ud, Ud, Ud, Ud, Ud, Ud, Ud, Ud]) _
  refine seqn rfl rfl (does_store (n := 8) (cs := [(Fl 0), (Fl 0), (Fl 0), (Fl 0), (Iv 0), (Iv 0), (Iv 0), (.slice none 0 0)]) (u := (.agg #[(Fl r63), (Fl r65), (Fl r67), (Fl r69), (Iv A_g.x), (Iv A_g.y), (Iv A_g.z), (.slice p73 A_g.vals.length q74)])) (ev rfl) (ev rfl) Try.sizeOf32 rfl hB78 (Nat.le_of_ble_eq_true rfl) rfl) ?_; rintro _ w86 ⟨rfl, W84, hB85⟩
  change Blk _ _ [(Fl r63), (Fl r65), (Fl r67), (Fl r69), (Iv A_g.x), (Iv A_g.y), (Iv A_g.z), (.slice p73 A_g.vals.length q74)] at hB85
  have X87 := Below.wr X83 W84 g82
  refine wpList_nil (hK56 _ _ ?_)
  refine wp_seq_k fun K88 hK88 => ?_
  refine wp_region_lit ?_
  refine q_is (l' := [(.agg #[(Fl r1), (Fl r3), (Fl r5), (Fl r7), (Iv A_g.x), (Iv A_g.y), (Iv A_g.z), (.slice p11 A_g.vals.length q12)]), (Pt b15 0), (Bo false), (Iv i26), (Iv (gvI (isGrid A_g) (insG A_g))), (Bo (isGrid A_g)), (Pt b76 0), Ud, Ud, (.agg #[(Fl r1), (Fl r3), (Fl r5), (Fl r7), (Iv A_g.x), (Iv A_g.y), (Iv A_g.z), (.slice p11 A_g.vals.length q12)]), (Iv 1048576), (Iv i26), (Iv i26), (Bo (icmp .lss i26 0)), (.tuple #[(Iv (gvI (isGrid A_g) (insG A_g))), (Bo (isGrid A_g))]), (.agg #[(Fl r1), (Fl r3), (Fl r5), (Fl r7), (Iv A_g.x), (Iv A_g.y), (Iv A_g.z), (.slice p11 A_g.vals.length q12)]), (.agg #[(Fl r40), (Fl r42), (Fl r44), (Fl r46), (Iv A_g.x), (Iv A_g.y), (Iv A_g.z), (.slice p50 A_g.vals.length q51)]), (.tuple #[(Iv (gvI (isGrid A_g) (insG A_g))), (Bo (isGrid A_g))]), (Iv (gvI (isGrid A_g) (insG A_g))), (Bo (isGrid A_g)), (.agg #[(Fl r1), (Fl r3), (Fl r5), (Fl r7), (Iv A_g.x), (Iv A_g.y), (Iv A_g.z), (.slice p11 A_g.vals.length q12)]), (.agg #[(Fl r63), (Fl r65), (Fl r67), (Fl r69), (Iv A_g.x), (Iv A_g.y), (Iv A_g.z), (.slice p73 A_g.vals.length q74)]), Ud, (.agg #[(Fl r63), (Fl r65), (Fl r67), (Fl r69), (Iv A_g.x), (Iv A_g.y), (Iv A_g.z), (.slice p73 A_g.vals.length q74)]), Ud, Ud, Ud, Ud, Ud, Ud, Ud, Ud, Ud, Ud, Ud, Ud, Ud, Ud, Ud, Ud]) rfl rfl (does_loadAgg (cs := [(Fl r63), (Fl r65), (Fl r67), (Fl r69), (Iv A_g.x), (Iv A_g.y), (Iv A_g.z), (.slice p73 A_g.vals.length q74)]) (ev rfl) Try.isAgg32 Try.sizeOf32 (Blk.cells hB85) rfl) rfl ?_
  refine seqd rfl rfl (does_call (args := #[(.agg #[(Fl r63), (Fl r65), (Fl r67), (Fl r69), (Iv A_g.x), (Iv A_g.y), (Iv A_g.z), (.slice p73 A_g.vals.length q74)])]) cal26 (evs rfl) (c_impl_CountInside [(Fl r63), (Fl r65), (Fl r67), (Fl r69), (Iv A_g.x), (Iv A_g.y), (Iv A_g.z), (.slice p73 A_g.vals.length q74)] A_g _ ⟨r63, r65, r67, r69, (.slice p73 A_g.vals.length q74), rfl, h64, h66, h68, h70, (hh75 _ (((Same.refl _ _).ext E79).wr W84 (.inr (Nat.le_trans (Below.size (Ext.refl _)) hb77))))⟩)) ?_; rintro _ w90 ⟨E89, rfl⟩
  have X91 := Ext.gr X87 E89
  show wpList _ _ _ _ (fr [(.agg #[(Fl r1), (Fl r3), (Fl r5), (Fl r7), (Iv A_g.x), (Iv A_g.y), (Iv A_g.z), (.slice p11 A_g.vals.length q12)]), (Pt b15 0), (Bo false), (Iv i26), (Iv (gvI (isGrid A_g) (insG A_g))), (Bo (isGrid A_g)), (Pt b76 0), Ud, Ud, (.agg #[(Fl r1), (Fl r3), (Fl r5), (Fl r7), (Iv A_g.x), (Iv A_g.y), (Iv A_g.z), (.slice p11 A_g.vals.length q12)]), (Iv 1048576), (Iv i26), (Iv i26), (Bo (icmp .lss i26 0)), (.tuple #[(Iv (gvI (isGrid A_g) (insG A_g))), (Bo (isGrid A_g))]), (.agg #[(Fl r1), (Fl r3), (Fl r5), (Fl r7), (Iv A_g.x), (Iv A_g.y), (Iv A_g.z), (.slice p11 A_g.vals.length q12)]), (.agg #[(Fl r40), (Fl r42), (Fl r44), (Fl r46), (Iv A_g.x), (Iv A_g.y), (Iv A_g.z), (.slice p50 A_g.vals.length q51)]), (.tuple #[(Iv (gvI (isGrid A_g) (insG A_g))), (Bo (isGrid A_g))]), (Iv (gvI (isGrid A_g) (insG A_g))), (Bo (isGrid A_g)), (.agg #[(Fl r1), (Fl r3), (Fl r5), (Fl r7), (Iv A_g.x), (Iv A_g.y), (Iv A_g.z), (.slice p11 A_g.vals.length q12)]), (.agg #[(Fl r63), (Fl r65), (Fl r67), (Fl r69), (Iv A_g.x), (Iv A_g.y), (Iv A_g.z), (.slice p73 A_g.vals.length q74)]), Ud, (.agg #[(Fl r63), (Fl r65), (Fl r67), (Fl r69), (Iv A_g.x), (Iv A_g.y), (Iv A_g.z), (.slice p73 A_g.vals.length q74)]), (.tuple #[(Iv (gvI (isGrid A_g) (insG A_g))), (Bo (isGrid A_g))]), Ud, Ud, Ud, Ud, Ud, Ud, Ud, Ud, Ud, Ud, Ud, Ud, Ud, Ud, Ud]) _
  refine q_is (l' := [(.agg #[(Fl r1), (Fl r3), (Fl r5), (Fl r7), (Iv A_g.x), (Iv A_g.y), (Iv A_g.z), (.slice p11 A_g.vals.length q12)]), (Pt b15 0), (Bo false), (Iv i26), (Iv (gvI (isGrid A_g) (insG A_g))), (Bo (isGrid A_g)), (Pt b76 0), Ud, Ud, (.agg #[(Fl r1), (Fl r3), (Fl r5), (Fl r7), (Iv A_g.x), (Iv A_g.y), (Iv A_g.z), (.slice p11 A_g.vals.length q12)]), (Iv 1048576), (Iv i26), (Iv i26), (Bo (icmp .lss i26 0)), (.tuple #[(Iv (gvI (isGrid A_g) (insG A_g))), (Bo (isGrid A_g))]), (.agg #[(Fl r1), (Fl r3), (Fl r5), (Fl r7), (Iv A_g.x), (Iv A_g.y), (Iv A_g.z), (.slice p11 A_g.vals.length q12)]), (.agg #[(Fl r40), (Fl r42), (Fl r44), (Fl r46), (Iv A_g.x), (Iv A_g.y), (Iv A_g.z), (.slice p50 A_g.vals.length q51)]), (.tuple #[(Iv (gvI (isGrid A_g) (insG A_g))), (Bo (isGrid A_g))]), (Iv (gvI (isGrid A_g) (insG A_g))), (Bo (isGrid A_g)), (.agg #[(Fl r1), (Fl r3), (Fl r5), (Fl r7), (Iv A_g.x), (Iv A_g.y), (Iv A_g.z), (.slice p11 A_g.vals.length q12)]), (.agg #[(Fl r63), (Fl r65), (Fl r67), (Fl r69), (Iv A_g.x), (Iv A_g.y), (Iv A_g.z), (.slice p73 A_g.vals.length q74)]), (.tuple #[(Iv (gvI (isGrid A_g) (insG A_g))), (Bo (isGrid A_g))]), (.agg #[(Fl r63), (Fl r65), (Fl r67), (Fl r69), (Iv A_g.x), (Iv A_g.y), (Iv A_g.z), (.slice p73 A_g.vals.length q74)]), (.tuple #[(Iv (gvI (isGrid A_g) (insG A_g))), (Bo (isGrid A_g))]), Ud, Ud, Ud, Ud, Ud, Ud, Ud, Ud, Ud, Ud, Ud, Ud, Ud, Ud, Ud]) rfl rfl (does_move (u := (.tuple #[(Iv (gvI (isGrid A_g) (insG A_g))), (Bo (isGrid A_g))])) (ev rfl)) rfl ?_
  refine q_is (l' := [(.agg #[(Fl r1), (Fl r3), (Fl r5), (Fl r7), (Iv A_g.x), (Iv A_g.y), (Iv A_g.z), (.slice p11 A_g.vals.length q12)]), (Pt b15 0), (Bo false), (Iv i26), (Iv (gvI (isGrid A_g) (insG A_g))), (Bo (isGrid A_g)), (Pt b76 0), Ud, Ud, (.agg #[(Fl r1), (Fl r3), (Fl r5), (Fl r7), (Iv A_g.x), (Iv A_g.y), (Iv A_g.z), (.slice p11 A_g.vals.length q12)]), (Iv 1048576), (Iv i26), (Iv i26), (Bo (icmp .lss i26 0)), (.tuple #[(Iv (gvI (isGrid A_g) (insG A_g))), (Bo (isGrid A_g))]), (.agg #[(Fl r1), (Fl r3), (Fl r5), (Fl r7), (Iv A_g.x), (Iv A_g.y), (Iv A_g.z), (.slice p11 A_g.vals.length q12)]), (.agg #[(Fl r40), (Fl r42), (Fl r44), (Fl r46), (Iv A_g.x), (Iv A_g.y), (Iv A_g.z), (.slice p50 A_g.vals.length q51)]), (.tuple #[(Iv (gvI (isGrid A_g) (insG A_g))), (Bo (isGrid A_g))]), (Iv (gvI (isGrid A_g) (insG A_g))), (Bo (isGrid A_g)), (.agg #[(Fl r1), (Fl r3), (Fl r5), (Fl r7), (Iv A_g.x), (Iv A_g.y), (Iv A_g.z), (.slice p11 A_g.vals.length q12)]), (.agg #[(Fl r63), (Fl r65), (Fl r67), (Fl r69), (Iv A_g.x), (Iv A_g.y), (Iv A_g.z), (.slice p73 A_g.vals.length q74)]), (.tuple #[(Iv (gvI (isGrid A_g) (insG A_g))), (Bo (isGrid A_g))]), (.agg #[(Fl r63), (Fl r65), (Fl r67), (Fl r69), (Iv A_g.x), (Iv A_g.y), (Iv A_g.z), (.slice p73 A_g.vals.length q74)]), (.tuple #[(Iv (gvI (isGrid A_g) (insG A_g))), (Bo (isGrid A_g))]), (Iv (gvI (isGrid A_g) (insG A_g))), Ud, Ud, Ud, Ud, Ud, Ud, Ud, Ud, Ud, Ud, Ud, Ud, Ud, Ud]) rfl rfl (does_extract (vs := #[(Iv (gvI (isGrid A_g) (insG A_g))), (Bo (isGrid A_g))]) (u := (Iv (gvI (isGrid A_g) (insG A_g)))) (ev rfl) rfl) rfl ?_
  refine q_is (l' := [(.agg #[(Fl r1), (Fl r3), (Fl r5), (Fl r7), (Iv A_g.x), (Iv A_g.y), (Iv A_g.z), (.slice p11 A_g.vals.length q12)]), (Pt b15 0), (Bo false), (Iv i26), (Iv (gvI (isGrid A_g) (insG A_g))), (Bo (isGrid A_g)), (Pt b76 0), Ud, Ud, (.agg #[(Fl r1), (Fl r3), (Fl r5), (Fl r7), (Iv A_g.x), (Iv A_g.y), (Iv A_g.z), (.slice p11 A_g.vals.length q12)]), (Iv 1048576), (Iv i26), (Iv i26), (Bo (icmp .lss i26 0)), (.tuple #[(Iv (gvI (isGrid A_g) (insG A_g))), (Bo (isGrid A_g))]), (.agg #[(Fl r1), (Fl r3), (Fl r5), (Fl r7), (Iv A_g.x), (Iv A_g.y), (Iv A_g.z), (.slice p11 A_g.vals.length q12)]), (.agg #[(Fl r40), (Fl r42), (Fl r44), (Fl r46), (Iv A_g.x), (Iv A_g.y), (Iv A_g.z), (.slice p50 A_g.vals.length q51)]), (.tuple #[(Iv (gvI (isGrid A_g) (insG A_g))), (Bo (isGrid A_g))]), (Iv (gvI (isGrid A_g) (insG A_g))), (Bo (isGrid A_g)), (.agg #[(Fl r1), (Fl r3), (Fl r5), (Fl r7), (Iv A_g.x), (Iv A_g.y), (Iv A_g.z), (.slice p11 A_g.vals.length q12)]), (.agg #[(Fl r63), (Fl r65), (Fl r67), (Fl r69), (Iv A_g.x), (Iv A_g.y), (Iv A_g.z), (.slice p73 A_g.vals.length q74)]), (.tuple #[(Iv (gvI (isGrid A_g) (insG A_g))), (Bo (isGrid A_g))]), (.agg #[(Fl r63), (Fl r65), (Fl r67), (Fl r69), (Iv A_g.x), (Iv A_g.y), (Iv A_g.z), (.slice p73 A_g.vals.length q74)]), (.tuple #[(Iv (gvI (isGrid A_g) (insG A_g))), (Bo (isGrid A_g))]), (Iv (gvI (isGrid A_g) (insG A_g))), (Bo (isGrid A_g)), Ud, Ud, Ud, Ud, Ud, Ud, Ud, Ud, Ud, Ud, Ud, Ud, Ud]) rfl rfl (does_extract (vs := #[(Iv (gvI (isGrid A_g) (insG A_g))), (Bo (isGrid A_g))]) (u := (Bo (isGrid A_g))) (ev rfl) rfl) rfl ?_
  refine q_is (l' := [(.agg #[(Fl r1), (Fl r3), (Fl r5), (Fl r7), (Iv A_g.x), (Iv A_g.y), (Iv A_g.z), (.slice p11 A_g.vals.length q12)]), (Pt b15 0), (Bo false), (Iv i26), (Iv (gvI (isGrid A_g) (insG A_g))), (Bo (isGrid A_g)), (Pt b76 0), (Iv (gvI (isGrid A_g) (insG A_g))), Ud, (.agg #[(Fl r1), (Fl r3), (Fl r5), (Fl r7), (Iv A_g.x), (Iv A_g.y), (Iv A_g.z), (.slice p11 A_g.vals.length q12)]), (Iv 1048576), (Iv i26), (Iv i26), (Bo (icmp .lss i26 0)), (.tuple #[(Iv (gvI (isGrid A_g) (insG A_g))), (Bo (isGrid A_g))]), (.agg #[(Fl r1), (Fl r3), (Fl r5), (Fl r7), (Iv A_g.x), (Iv A_g.y), (Iv A_g.z), (.slice p11 A_g.vals.length q12)]), (.agg #[(Fl r40), (Fl r42), (Fl r44), (Fl r46), (Iv A_g.x), (Iv A_g.y), (Iv A_g.z), (.slice p50 A_g.vals.length q51)]), (.tuple #[(Iv (gvI (isGrid A_g) (insG A_g))), (Bo (isGrid A_g))]), (Iv (gvI (isGrid A_g) (insG A_g))), (Bo (isGrid A_g)), (.agg #[(Fl r1), (Fl r3), (Fl r5), (Fl r7), (Iv A_g.x), (Iv A_g.y), (Iv A_g.z), (.slice p11 A_g.vals.length q12)]), (.agg #[(Fl r63), (Fl r65), (Fl r67), (Fl r69), (Iv A_g.x), (Iv A_g.y), (Iv A_g.z), (.slice p73 A_g.vals.length q74)]), (.tuple #[(Iv (gvI (isGrid A_g) (insG A_g))), (Bo (isGrid A_g))]), (.agg #[(Fl r63), (Fl r65), (Fl r67), (Fl r69), (Iv A_g.x), (Iv A_g.y), (Iv A_g.z), (.slice p73 A_g.vals.length q74)]), (.tuple #[(Iv (gvI (isGrid A_g) (insG A_g))), (Bo (isGrid A_g))]), (Iv (gvI (isGrid A_g) (insG A_g))), (Bo (isGrid A_g)), Ud, Ud, Ud, Ud, Ud, Ud, Ud, Ud, Ud, Ud, Ud, Ud, Ud]) rfl rfl (does_assign (u := (Iv (gvI (isGrid A_g) (insG A_g)))) (ev rfl)) rfl ?_
  refine q_is (l' := [(.agg #[(Fl r1), (Fl r3), (Fl r5), (Fl r7), (Iv A_g.x), (Iv A_g.y), (Iv A_g.z), (.slice p11 A_g.vals.length q12)]), (Pt b15 0), (Bo false), (Iv i26), (Iv (gvI (isGrid A_g) (insG A_g))), (Bo (isGrid A_g)), (Pt b76 0), (Iv (gvI (isGrid A_g) (insG A_g))), (Bo (isGrid A_g)), (.agg #[(Fl r1), (Fl r3), (Fl r5), (Fl r7), (Iv A_g.x), (Iv A_g.y), (Iv A_g.z), (.slice p11 A_g.vals.length q12)]), (Iv 1048576), (Iv i26), (Iv i26), (Bo (icmp .lss i26 0)), (.tuple #[(Iv (gvI (isGrid A_g) (insG A_g))), (Bo (isGrid A_g))]), (.agg #[(Fl r1), (Fl r3), (Fl r5), (Fl r7), (Iv A_g.x), (Iv A_g.y), (Iv A_g.z), (.slice p11 A_g.vals.length q12)]), (.agg #[(Fl r40), (Fl r42), (Fl r44), (Fl r46), (Iv A_g.x), (Iv A_g.y), (Iv A_g.z), (.slice p50 A_g.vals.length q51)]), (.tuple #[(Iv (gvI (isGrid A_g) (insG A_g))), (Bo (isGrid A_g))]), (Iv (gvI (isGrid A_g) (insG A_g))), (Bo (isGrid A_g)), (.agg #[(Fl r1), (Fl r3), (Fl r5), (Fl r7), (Iv A_g.x), (Iv A_g.y), (Iv A_g.z), (.slice p11 A_g.vals.length q12)]), (.agg #[(Fl r63), (Fl r65), (Fl r67), (Fl r69), (Iv A_g.x), (Iv A_g.y), (Iv A_g.z), (.slice p73 A_g.vals.length q74)]), (.tuple #[(Iv (gvI (isGrid A_g) (insG A_g))), (Bo (isGrid A_g))]), (.agg #[(Fl r63), (Fl r65), (Fl r67), (Fl r69), (Iv A_g.x), (Iv A_g.y), (Iv A_g.z), (.slice p73 A_g.vals.length q74)]), (.tuple #[(Iv (gvI (isGrid A_g) (insG A_g))), (Bo (isGrid A_g))]), (Iv (gvI (isGrid A_g) (insG A_g))), (Bo (isGrid A_g)), Ud, Ud, Ud, Ud, Ud, Ud, Ud, Ud, Ud, Ud, Ud, Ud, Ud]) rfl rfl (does_assign (u := (Bo (isGrid A_g))) (ev rfl)) rfl ?_
  refine wpList_nil (hK88 _ _ ?_)
  refine wp_seq_k fun K92 hK92 => ?_
  refine wp_seq_k fun K93 hK93 => ?_
  obtain ⟨β1, hβ1⟩ : ∃ b : Bool, b = (icmp .neq (gvI (isGrid A_g) (insG A_g)) (gvI (isGrid A_g) (insG A_g))) := ⟨_, rfl⟩
  obtain ⟨β2, hβ2⟩ : ∃ b : Bool, b = ((isGrid A_g) != (isGrid A_g)) := ⟨_, rfl⟩
  refine region_text (
    [Fact.pure [] (fun v => v = (Iv (gvI (isGrid A_g) (insG A_g)))),
    Fact.pure [] (fun v => v = (Iv (gvI (isGrid A_g) (insG A_g)))),
    Fact.pure [27, 28] (fun v => v = (Bo β1)),
    Fact.pure [29] (fun v => v = (Bo β1)),
    Fact.pure [30] (fun v => β1 = false → v = (Bo (isGrid A_g))),
    Fact.pure [30] (fun v => β1 = false → v = (Bo (isGrid A_g))),
    Fact.pure [31, 32, 30] (fun v => β1 = false → v = (Bo β2)),
    Fact.pure [30, 33] (fun v => v = (Bo (β1 || β2)))]) (by simp [Fact.pure, Fact.mem]) ?_
  refine RW_d (fun v94 => [(.agg #[(Fl r1), (Fl r3), (Fl r5), (Fl r7), (Iv A_g.x), (Iv A_g.y), (Iv A_g.z), (.slice p11 A_g.vals.length q12)]), (Pt b15 0), (Bo false), (Iv i26), (Iv (gvI (isGrid A_g) (insG A_g))), (Bo (isGrid A_g)), (Pt b76 0), (Iv (gvI (isGrid A_g) (insG A_g))), (Bo (isGrid A_g)), (.agg #[(Fl r1), (Fl r3), (Fl r5), (Fl r7), (Iv A_g.x), (Iv A_g.y), (Iv A_g.z), (.slice p11 A_g.vals.length q12)]), (Iv 1048576), (Iv i26), (Iv i26), (Bo (icmp .lss i26 0)), (.tuple #[(Iv (gvI (isGrid A_g) (insG A_g))), (Bo (isGrid A_g))]), (.agg #[(Fl r1), (Fl r3), (Fl r5), (Fl r7), (Iv A_g.x), (Iv A_g.y), (Iv A_g.z), (.slice p11 A_g.vals.length q12)]), (.agg #[(Fl r40), (Fl r42), (Fl r44), (Fl r46), (Iv A_g.x), (Iv A_g.y), (Iv A_g.z), (.slice p50 A_g.vals.length q51)]), (.tuple #[(Iv (gvI (isGrid A_g) (insG A_g))), (Bo (isGrid A_g))]), (Iv (gvI (isGrid A_g) (insG A_g))), (Bo (isGrid A_g)), (.agg #[(Fl r1), (Fl r3), (Fl r5), (Fl r7), (Iv A_g.x), (Iv A_g.y), (Iv A_g.z), (.slice p11 A_g.vals.length q12)]), (.agg #[(Fl r63), (Fl r65), (Fl r67), (Fl r69), (Iv A_g.x), (Iv A_g.y), (Iv A_g.z), (.slice p73 A_g.vals.length q74)]), (.tuple #[(Iv (gvI (isGrid A_g) (insG A_g))), (Bo (isGrid A_g))]), (.agg #[(Fl r63), (Fl r65), (Fl r67), (Fl r69), (Iv A_g.x), (Iv A_g.y), (Iv A_g.z), (.slice p73 A_g.vals.length q74)]), (.tuple #[(Iv (gvI (isGrid A_g) (insG A_g))), (Bo (isGrid A_g))]), (Iv (gvI (isGrid A_g) (insG A_g))), (Bo (isGrid A_g)), v94, Ud, Ud, Ud, Ud, Ud, Ud, Ud, Ud, Ud, Ud, Ud, Ud]) rfl (fun _ => rfl) (fun u hu hF => ?_) (fun v94 => ?_)
  · clear hF
    refine doesG_un rfl ?_
    refine (does_move (u := (Iv (gvI (isGrid A_g) (insG A_g)))) (ev rfl)).mono ?_; rintro _ _ ⟨rfl, rfl⟩
    exact ⟨rfl, Ext.refl _⟩
  refine RW_d (fun v95 => [(.agg #[(Fl r1), (Fl r3), (Fl r5), (Fl r7), (Iv A_g.x), (Iv A_g.y), (Iv A_g.z), (.slice p11 A_g.vals.length q12)]), (Pt b15 0), (Bo false), (Iv i26), (Iv (gvI (isGrid A_g) (insG A_g))), (Bo (isGrid A_g)), (Pt b76 0), (Iv (gvI (isGrid A_g) (insG A_g))), (Bo (isGrid A_g)), (.agg #[(Fl r1), (Fl r3), (Fl r5), (Fl r7), (Iv A_g.x), (Iv A_g.y), (Iv A_g.z), (.slice p11 A_g.vals.length q12)]), (Iv 1048576), (Iv i26), (Iv i26), (Bo (icmp .lss i26 0)), (.tuple #[(Iv (gvI (isGrid A_g) (insG A_g))), (Bo (isGrid A_g))]), (.agg #[(Fl r1), (Fl r3), (Fl r5), (Fl r7), (Iv A_g.x), (Iv A_g.y), (Iv A_g.z), (.slice p11 A_g.vals.length q12)]), (.agg #[(Fl r40), (Fl r42), (Fl r44), (Fl r46), (Iv A_g.x), (Iv A_g.y), (Iv A_g.z), (.slice p50 A_g.vals.length q51)]), (.tuple #[(Iv (gvI (isGrid A_g) (insG A_g))), (Bo (isGrid A_g))]), (Iv (gvI (isGrid A_g) (insG A_g))), (Bo (isGrid A_g)), (.agg #[(Fl r1), (Fl r3), (Fl r5), (Fl r7), (Iv A_g.x), (Iv A_g.y), (Iv A_g.z), (.slice p11 A_g.vals.length q12)]), (.agg #[(Fl r63), (Fl r65), (Fl r67), (Fl r69), (Iv A_g.x), (Iv A_g.y), (Iv A_g.z), (.slice p73 A_g.vals.length q74)]), (.tuple #[(Iv (gvI (isGrid A_g) (insG A_g))), (Bo (isGrid A_g))]), (.agg #[(Fl r63), (Fl r65), (Fl r67), (Fl r69), (Iv A_g.x), (Iv A_g.y), (Iv A_g.z), (.slice p73 A_g.vals.length q74)]), (.tuple #[(Iv (gvI (isGrid A_g) (insG A_g))), (Bo (isGrid A_g))]), (Iv (gvI (isGrid A_g) (insG A_g))), (Bo (isGrid A_g)), v94, v95, Ud, Ud, Ud, Ud, Ud, Ud, Ud, Ud, Ud, Ud, Ud]) rfl (fun _ => rfl) (fun u hu hF => ?_) (fun v95 => ?_)
  · clear hF
    refine doesG_un rfl ?_
    refine (does_move (u := (Iv (gvI (isGrid A_g) (insG A_g)))) (ev rfl)).mono ?_; rintro _ _ ⟨rfl, rfl⟩
    exact ⟨rfl, Ext.refl _⟩
  refine RW_d (fun v96 => [(.agg #[(Fl r1), (Fl r3), (Fl r5), (Fl r7), (Iv A_g.x), (Iv A_g.y), (Iv A_g.z), (.slice p11 A_g.vals.length q12)]), (Pt b15 0), (Bo false), (Iv i26), (Iv (gvI (isGrid A_g) (insG A_g))), (Bo (isGrid A_g)), (Pt b76 0), (Iv (gvI (isGrid A_g) (insG A_g))), (Bo (isGrid A_g)), (.agg #[(Fl r1), (Fl r3), (Fl r5), (Fl r7), (Iv A_g.x), (Iv A_g.y), (Iv A_g.z), (.slice p11 A_g.vals.length q12)]), (Iv 1048576), (Iv i26), (Iv i26), (Bo (icmp .lss i26 0)), (.tuple #[(Iv (gvI (isGrid A_g) (insG A_g))), (Bo (isGrid A_g))]), (.agg #[(Fl r1), (Fl r3), (Fl r5), (Fl r7), (Iv A_g.x), (Iv A_g.y), (Iv A_g.z), (.slice p11 A_g.vals.length q12)]), (.agg #[(Fl r40), (Fl r42), (Fl r44), (Fl r46), (Iv A_g.x), (Iv A_g.y), (Iv A_g.z), (.slice p50 A_g.vals.length q51)]), (.tuple #[(Iv (gvI (isGrid A_g) (insG A_g))), (Bo (isGrid A_g))]), (Iv (gvI (isGrid A_g) (insG A_g))), (Bo (isGrid A_g)), (.agg #[(Fl r1), (Fl r3), (Fl r5), (Fl r7), (Iv A_g.x), (Iv A_g.y), (Iv A_g.z), (.slice p11 A_g.vals.length q12)]), (.agg #[(Fl r63), (Fl r65), (Fl r67), (Fl r69), (Iv A_g.x), (Iv A_g.y), (Iv A_g.z), (.slice p73 A_g.vals.length q74)]), (.tuple #[(Iv (gvI (isGrid A_g) (insG A_g))), (Bo (isGrid A_g))]), (.agg #[(Fl r63), (Fl r65), (Fl r67), (Fl r69), (Iv A_g.x), (Iv A_g.y), (Iv A_g.z), (.slice p73 A_g.vals.length q74)]), (.tuple #[(Iv (gvI (isGrid A_g) (insG A_g))), (Bo (isGrid A_g))]), (Iv (gvI (isGrid A_g) (insG A_g))), (Bo (isGrid A_g)), v94, v95, v96, Ud, Ud, Ud, Ud, Ud, Ud, Ud, Ud, Ud, Ud]) rfl (fun _ => rfl) (fun u hu hF => ?_) (fun v96 => ?_)
  · have h27_ : v94 = (Iv (gvI (isGrid A_g) (insG A_g))) := hF.1
    have h28_ : v95 = (Iv (gvI (isGrid A_g) (insG A_g))) := hF.2.1
    clear hF
    obtain rfl := h27_
    obtain rfl := h28_
    refine doesG_un rfl ?_
    refine (does_icmp (p := gvI (isGrid A_g) (insG A_g)) (q := gvI (isGrid A_g) (insG A_g)) (.inr (.inl rfl)) (ev rfl) (ev rfl)).mono ?_; rintro _ _ ⟨rfl, rfl⟩
    exact ⟨(by first | rfl | (show _ = _; simp only [hβ1])), Ext.refl _⟩
  refine RW_d (fun v97 => [(.agg #[(Fl r1), (Fl r3), (Fl r5), (Fl r7), (Iv A_g.x), (Iv A_g.y), (Iv A_g.z), (.slice p11 A_g.vals.length q12)]), (Pt b15 0), (Bo false), (Iv i26), (Iv (gvI (isGrid A_g) (insG A_g))), (Bo (isGrid A_g)), (Pt b76 0), (Iv (gvI (isGrid A_g) (insG A_g))), (Bo (isGrid A_g)), (.agg #[(Fl r1), (Fl r3), (Fl r5), (Fl r7), (Iv A_g.x), (Iv A_g.y), (Iv A_g.z), (.slice p11 A_g.vals.length q12)]), (Iv 1048576), (Iv i26), (Iv i26), (Bo (icmp .lss i26 0)), (.tuple #[(Iv (gvI (isGrid A_g) (insG A_g))), (Bo (isGrid A_g))]), (.agg #[(Fl r1), (Fl r3), (Fl r5), (Fl r7), (Iv A_g.x), (Iv A_g.y), (Iv A_g.z), (.slice p11 A_g.vals.length q12)]), (.agg #[(Fl r40), (Fl r42), (Fl r44), (Fl r46), (Iv A_g.x), (Iv A_g.y), (Iv A_g.z), (.slice p50 A_g.vals.length q51)]), (.tuple #[(Iv (gvI (isGrid A_g) (insG A_g))), (Bo (isGrid A_g))]), (Iv (gvI (isGrid A_g) (insG A_g))), (Bo (isGrid A_g)), (.agg #[(Fl r1), (Fl r3), (Fl r5), (Fl r7), (Iv A_g.x), (Iv A_g.y), (Iv A_g.z), (.slice p11 A_g.vals.length q12)]), (.agg #[(Fl r63), (Fl r65), (Fl r67), (Fl r69), (Iv A_g.x), (Iv A_g.y), (Iv A_g.z), (.slice p73 A_g.vals.length q74)]), (.tuple #[(Iv (gvI (isGrid A_g) (insG A_g))), (Bo (isGrid A_g))]), (.agg #[(Fl r63), (Fl r65), (Fl r67), (Fl r69), (Iv A_g.x), (Iv A_g.y), (Iv A_g.z), (.slice p73 A_g.vals.length q74)]), (.tuple #[(Iv (gvI (isGrid A_g) (insG A_g))), (Bo (isGrid A_g))]), (Iv (gvI (isGrid A_g) (insG A_g))), (Bo (isGrid A_g)), v94, v95, v96, v97, Ud, Ud, Ud, Ud, Ud, Ud, Ud, Ud, Ud]) rfl (fun _ => rfl) (fun u hu hF => ?_) (fun v97 => ?_)
  · have h29_ : v96 = (Bo β1) := hF.1
    clear hF
    obtain rfl := h29_
    refine doesG_un rfl ?_
    refine (does_move (u := (Bo β1)) (ev rfl)).mono ?_; rintro _ _ ⟨rfl, rfl⟩
    exact ⟨rfl, Ext.refl _⟩
  refine RW_d (fun v98 => [(.agg #[(Fl r1), (Fl r3), (Fl r5), (Fl r7), (Iv A_g.x), (Iv A_g.y), (Iv A_g.z), (.slice p11 A_g.vals.length q12)]), (Pt b15 0), (Bo false), (Iv i26), (Iv (gvI (isGrid A_g) (insG A_g))), (Bo (isGrid A_g)), (Pt b76 0), (Iv (gvI (isGrid A_g) (insG A_g))), (Bo (isGrid A_g)), (.agg #[(Fl r1), (Fl r3), (Fl r5), (Fl r7), (Iv A_g.x), (Iv A_g.y), (Iv A_g.z), (.slice p11 A_g.vals.length q12)]), (Iv 1048576), (Iv i26), (Iv i26), (Bo (icmp .lss i26 0)), (.tuple #[(Iv (gvI (isGrid A_g) (insG A_g))), (Bo (isGrid A_g))]), (.agg #[(Fl r1), (Fl r3), (Fl r5), (Fl r7), (Iv A_g.x), (Iv A_g.y), (Iv A_g.z), (.slice p11 A_g.vals.length q12)]), (.agg #[(Fl r40), (Fl r42), (Fl r44), (Fl r46), (Iv A_g.x), (Iv A_g.y), (Iv A_g.z), (.slice p50 A_g.vals.length q51)]), (.tuple #[(Iv (gvI (isGrid A_g) (insG A_g))), (Bo (isGrid A_g))]), (Iv (gvI (isGrid A_g) (insG A_g))), (Bo (isGrid A_g)), (.agg #[(Fl r1), (Fl r3), (Fl r5), (Fl r7), (Iv A_g.x), (Iv A_g.y), (Iv A_g.z), (.slice p11 A_g.vals.length q12)]), (.agg #[(Fl r63), (Fl r65), (Fl r67), (Fl r69), (Iv A_g.x), (Iv A_g.y), (Iv A_g.z), (.slice p73 A_g.vals.length q74)]), (.tuple #[(Iv (gvI (isGrid A_g) (insG A_g))), (Bo (isGrid A_g))]), (.agg #[(Fl r63), (Fl r65), (Fl r67), (Fl r69), (Iv A_g.x), (Iv A_g.y), (Iv A_g.z), (.slice p73 A_g.vals.length q74)]), (.tuple #[(Iv (gvI (isGrid A_g) (insG A_g))), (Bo (isGrid A_g))]), (Iv (gvI (isGrid A_g) (insG A_g))), (Bo (isGrid A_g)), v94, v95, v96, v97, v98, Ud, Ud, Ud, Ud, Ud, Ud, Ud, Ud]) rfl (fun _ => rfl) (fun u hu hF => ?_) (fun v98 => ?_)
  · have h30_ : v97 = (Bo β1) := hF.1
    clear hF
    obtain rfl := h30_
    refine doesG_g (b := β1) rfl (yld rfl rfl) (fun hg => ?_) (fun hg => ⟨fun h => absurd h hg, Ext.refl _⟩)
    refine (does_move (u := (Bo (isGrid A_g))) (ev rfl)).mono ?_; rintro _ _ ⟨rfl, rfl⟩
    exact ⟨fun _ => rfl, Ext.refl _⟩
  refine RW_d (fun v99 => [(.agg #[(Fl r1), (Fl r3), (Fl r5), (Fl r7), (Iv A_g.x), (Iv A_g.y), (Iv A_g.z), (.slice p11 A_g.vals.length q12)]), (Pt b15 0), (Bo false), (Iv i26), (Iv (gvI (isGrid A_g) (insG A_g))), (Bo (isGrid A_g)), (Pt b76 0), (Iv (gvI (isGrid A_g) (insG A_g))), (Bo (isGrid A_g)), (.agg #[(Fl r1), (Fl r3), (Fl r5), (Fl r7), (Iv A_g.x), (Iv A_g.y), (Iv A_g.z), (.slice p11 A_g.vals.length q12)]), (Iv 1048576), (Iv i26), (Iv i26), (Bo (icmp .lss i26 0)), (.tuple #[(Iv (gvI (isGrid A_g) (insG A_g))), (Bo (isGrid A_g))]), (.agg #[(Fl r1), (Fl r3), (Fl r5), (Fl r7), (Iv A_g.x), (Iv A_g.y), (Iv A_g.z), (.slice p11 A_g.vals.length q12)]), (.agg #[(Fl r40), (Fl r42), (Fl r44), (Fl r46), (Iv A_g.x), (Iv A_g.y), (Iv A_g.z), (.slice p50 A_g.vals.length q51)]), (.tuple #[(Iv (gvI (isGrid A_g) (insG A_g))), (Bo (isGrid A_g))]), (Iv (gvI (isGrid A_g) (insG A_g))), (Bo (isGrid A_g)), (.agg #[(Fl r1), (Fl r3), (Fl r5), (Fl r7), (Iv A_g.x), (Iv A_g.y), (Iv A_g.z), (.slice p11 A_g.vals.length q12)]), (.agg #[(Fl r63), (Fl r65), (Fl r67), (Fl r69), (Iv A_g.x), (Iv A_g.y), (Iv A_g.z), (.slice p73 A_g.vals.length q74)]), (.tuple #[(Iv (gvI (isGrid A_g) (insG A_g))), (Bo (isGrid A_g))]), (.agg #[(Fl r63), (Fl r65), (Fl r67), (Fl r69), (Iv A_g.x), (Iv A_g.y), (Iv A_g.z), (.slice p73 A_g.vals.length q74)]), (.tuple #[(Iv (gvI (isGrid A_g) (insG A_g))), (Bo (isGrid A_g))]), (Iv (gvI (isGrid A_g) (insG A_g))), (Bo (isGrid A_g)), v94, v95, v96, v97, v98, v99, Ud, Ud, Ud, Ud, Ud, Ud, Ud]) rfl (fun _ => rfl) (fun u hu hF => ?_) (fun v99 => ?_)
  · have h30_ : v97 = (Bo β1) := hF.1
    clear hF
    obtain rfl := h30_
    refine doesG_g (b := β1) rfl (yld rfl rfl) (fun hg => ?_) (fun hg => ⟨fun h => absurd h hg, Ext.refl _⟩)
    refine (does_move (u := (Bo (isGrid A_g))) (ev rfl)).mono ?_; rintro _ _ ⟨rfl, rfl⟩
    exact ⟨fun _ => rfl, Ext.refl _⟩
  refine RW_d (fun v100 => [(.agg #[(Fl r1), (Fl r3), (Fl r5), (Fl r7), (Iv A_g.x), (Iv A_g.y), (Iv A_g.z), (.slice p11 A_g.vals.length q12)]), (Pt b15 0), (Bo false), (Iv i26), (Iv (gvI (isGrid A_g) (insG A_g))), (Bo (isGrid A_g)), (Pt b76 0), (Iv (gvI (isGrid A_g) (insG A_g))), (Bo (isGrid A_g)), (.agg #[(Fl r1), (Fl r3), (Fl r5), (Fl r7), (Iv A_g.x), (Iv A_g.y), (Iv A_g.z), (.slice p11 A_g.vals.length q12)]), (Iv 1048576), (Iv i26), (Iv i26), (Bo (icmp .lss i26 0)), (.tuple #[(Iv (gvI (isGrid A_g) (insG A_g))), (Bo (isGrid A_g))]), (.agg #[(Fl r1), (Fl r3), (Fl r5), (Fl r7), (Iv A_g.x), (Iv A_g.y), (Iv A_g.z), (.slice p11 A_g.vals.length q12)]), (.agg #[(Fl r40), (Fl r42), (Fl r44), (Fl r46), (Iv A_g.x), (Iv A_g.y), (Iv A_g.z), (.slice p50 A_g.vals.length q51)]), (.tuple #[(Iv (gvI (isGrid A_g) (insG A_g))), (Bo (isGrid A_g))]), (Iv (gvI (isGrid A_g) (insG A_g))), (Bo (isGrid A_g)), (.agg #[(Fl r1), (Fl r3), (Fl r5), (Fl r7), (Iv A_g.x), (Iv A_g.y), (Iv A_g.z), (.slice p11 A_g.vals.length q12)]), (.agg #[(Fl r63), (Fl r65), (Fl r67), (Fl r69), (Iv A_g.x), (Iv A_g.y), (Iv A_g.z), (.slice p73 A_g.vals.length q74)]), (.tuple #[(Iv (gvI (isGrid A_g) (insG A_g))), (Bo (isGrid A_g))]), (.agg #[(Fl r63), (Fl r65), (Fl r67), (Fl r69), (Iv A_g.x), (Iv A_g.y), (Iv A_g.z), (.slice p73 A_g.vals.length q74)]), (.tuple #[(Iv (gvI (isGrid A_g) (insG A_g))), (Bo (isGrid A_g))]), (Iv (gvI (isGrid A_g) (insG A_g))), (Bo (isGrid A_g)), v94, v95, v96, v97, v98, v99, v100, Ud, Ud, Ud, Ud, Ud, Ud]) rfl (fun _ => rfl) (fun u hu hF => ?_) (fun v100 => ?_)
  · have h31_ : β1 = false → v98 = (Bo (isGrid A_g)) := hF.1
    have h32_ : β1 = false → v99 = (Bo (isGrid A_g)) := hF.2.1
    have h30_ : v97 = (Bo β1) := hF.2.2.1
    clear hF
    obtain rfl := h30_
    refine doesG_g (b := β1) rfl (yld rfl rfl) (fun hg => ?_) (fun hg => ⟨fun h => absurd h hg, Ext.refl _⟩)
    obtain rfl := h31_ hg
    obtain rfl := h32_ hg
    refine (does_bne (p := (isGrid A_g)) (q := (isGrid A_g)) Try.underlying4 (ev rfl) (ev rfl)).mono ?_; rintro _ _ ⟨rfl, rfl⟩
    exact ⟨fun _ => (by first | rfl | (show _ = _; simp only [hβ2])), Ext.refl _⟩
  refine RW_d (fun v101 => [(.agg #[(Fl r1), (Fl r3), (Fl r5), (Fl r7), (Iv A_g.x), (Iv A_g.y), (Iv A_g.z), (.slice p11 A_g.vals.length q12)]), (Pt b15 0), (Bo false), (Iv i26), (Iv (gvI (isGrid A_g) (insG A_g))), (Bo (isGrid A_g)), (Pt b76 0), (Iv (gvI (isGrid A_g) (insG A_g))), (Bo (isGrid A_g)), (.agg #[(Fl r1), (Fl r3), (Fl r5), (Fl r7), (Iv A_g.x), (Iv A_g.y), (Iv A_g.z), (.slice p11 A_g.vals.length q12)]), (Iv 1048576), (Iv i26), (Iv i26), (Bo (icmp .lss i26 0)), (.tuple #[(Iv (gvI (isGrid A_g) (insG A_g))), (Bo (isGrid A_g))]), (.agg #[(Fl r1), (Fl r3), (Fl r5), (Fl r7), (Iv A_g.x), (Iv A_g.y), (Iv A_g.z), (.slice p11 A_g.vals.length q12)]), (.agg #[(Fl r40), (Fl r42), (Fl r44), (Fl r46), (Iv A_g.x), (Iv A_g.y), (Iv A_g.z), (.slice p50 A_g.vals.length q51)]), (.tuple #[(Iv (gvI (isGrid A_g) (insG A_g))), (Bo (isGrid A_g))]), (Iv (gvI (isGrid A_g) (insG A_g))), (Bo (isGrid A_g)), (.agg #[(Fl r1), (Fl r3), (Fl r5), (Fl r7), (Iv A_g.x), (Iv A_g.y), (Iv A_g.z), (.slice p11 A_g.vals.length q12)]), (.agg #[(Fl r63), (Fl r65), (Fl r67), (Fl r69), (Iv A_g.x), (Iv A_g.y), (Iv A_g.z), (.slice p73 A_g.vals.length q74)]), (.tuple #[(Iv (gvI (isGrid A_g) (insG A_g))), (Bo (isGrid A_g))]), (.agg #[(Fl r63), (Fl r65), (Fl r67), (Fl r69), (Iv A_g.x), (Iv A_g.y), (Iv A_g.z), (.slice p73 A_g.vals.length q74)]), (.tuple #[(Iv (gvI (isGrid A_g) (insG A_g))), (Bo (isGrid A_g))]), (Iv (gvI (isGrid A_g) (insG A_g))), (Bo (isGrid A_g)), v94, v95, v96, v97, v98, v99, v100, v101, Ud, Ud, Ud, Ud, Ud]) rfl (fun _ => rfl) (fun u hu hF => ?_) (fun v101 => ?_)
  · have h30_ : v97 = (Bo β1) := hF.1
    have h33_ : β1 = false → v100 = (Bo β2) := hF.2.1
    clear hF
    obtain rfl := h30_
    refine doesG_un rfl ((does_pick (b := β1) (ev rfl) (ev rfl) (ev rfl)).mono ?_); rintro _ _ ⟨rfl, rfl⟩; refine ⟨?_, Ext.refl _⟩; skip
    cases hbb : β1 <;> simp [hbb] at h33_ ⊢
    all_goals (first | rfl | (subst h33_; rfl) | simp_all)
  refine RW_fin ?_; intro w102 E103 hP104
  obtain ⟨⟨⟨⟨⟨⟨⟨⟨-, -⟩, -⟩, -⟩, -⟩, -⟩, -⟩, -⟩, q105⟩ := hP104
  have X106 := Ext.gr X91 E103
  have q105 : v101 = (Bo (β1 || β2)) := q105
  obtain rfl := q105
  show wpList _ _ _ _ (fr [(.agg #[(Fl r1), (Fl r3), (Fl r5), (Fl r7), (Iv A_g.x), (Iv A_g.y), (Iv A_g.z), (.slice p11 A_g.vals.length q12)]), (Pt b15 0), (Bo false), (Iv i26), (Iv (gvI (isGrid A_g) (insG A_g))), (Bo (isGrid A_g)), (Pt b76 0), (Iv (gvI (isGrid A_g) (insG A_g))), (Bo (isGrid A_g)), (.agg #[(Fl r1), (Fl r3), (Fl r5), (Fl r7), (Iv A_g.x), (Iv A_g.y), (Iv A_g.z), (.slice p11 A_g.vals.length q12)]), (Iv 1048576), (Iv i26), (Iv i26), (Bo (icmp .lss i26 0)), (.tuple #[(Iv (gvI (isGrid A_g) (insG A_g))), (Bo (isGrid A_g))]), (.agg #[(Fl r1), (Fl r3), (Fl r5), (Fl r7), (Iv A_g.x), (Iv A_g.y), (Iv A_g.z), (.slice p11 A_g.vals.length q12)]), (.agg #[(Fl r40), (Fl r42), (Fl r44), (Fl r46), (Iv A_g.x), (Iv A_g.y), (Iv A_g.z), (.slice p50 A_g.vals.length q51)]), (.tuple #[(Iv (gvI (isGrid A_g) (insG A_g))), (Bo (isGrid A_g))]), (Iv (gvI (isGrid A_g) (insG A_g))), (Bo (isGrid A_g)), (.agg #[(Fl r1), (Fl r3), (Fl r5), (Fl r7), (Iv A_g.x), (Iv A_g.y), (Iv A_g.z), (.slice p11 A_g.vals.length q12)]), (.agg #[(Fl r63), (Fl r65), (Fl r67), (Fl r69), (Iv A_g.x), (Iv A_g.y), (Iv A_g.z), (.slice p73 A_g.vals.length q74)]), (.tuple #[(Iv (gvI (isGrid A_g) (insG A_g))), (Bo (isGrid A_g))]), (.agg #[(Fl r63), (Fl r65), (Fl r67), (Fl r69), (Iv A_g.x), (Iv A_g.y), (Iv A_g.z), (.slice p73 A_g.vals.length q74)]), (.tuple #[(Iv (gvI (isGrid A_g) (insG A_g))), (Bo (isGrid A_g))]), (Iv (gvI (isGrid A_g) (insG A_g))), (Bo (isGrid A_g)), v94, v95, v96, v97, v98, v99, v100, (Bo (β1 || β2)), Ud, Ud, Ud, Ud, Ud]) _
  refine wpList_nil (hK93 _ _ ?_)
  refine wp_cond_split (t := β1 || β2) (ev rfl) (fun c107 => ?_) (fun c107 => ?_)
  · have c107' := c107
    (try simp only [hβ1, hβ2] at c107')
    (try simp only [icmp, Bool.and_eq_true, Bool.or_eq_true, Bool.and_eq_false_iff, Bool.or_eq_false_iff, Bool.not_eq_true', Bool.not_eq_false', decide_eq_true_eq, decide_eq_false_iff_not, beq_iff_eq, bne_iff_ne, beq_eq_false_iff_ne, bne_eq_false_iff_eq] at c107')
    refine wp_seq_k fun K108 hK108 => ?_
    refine wp_region_lit ?_
    refine q_is (l' := [(.agg #[(Fl r1), (Fl r3), (Fl r5), (Fl r7), (Iv A_g.x), (Iv A_g.y), (Iv A_g.z), (.slice p11 A_g.vals.length q12)]), (Pt b15 0), (Bo false), (Iv i26), (Iv (gvI (isGrid A_g) (insG A_g))), (Bo (isGrid A_g)), (Pt b76 0), (Iv (gvI (isGrid A_g) (insG A_g))), (Bo (isGrid A_g)), (.agg #[(Fl r1), (Fl r3), (Fl r5), (Fl r7), (Iv A_g.x), (Iv A_g.y), (Iv A_g.z), (.slice p11 A_g.vals.length q12)]), (Iv 1048576), (Iv i26), (Iv i26), (Bo (icmp .lss i26 0)), (.tuple #[(Iv (gvI (isGrid A_g) (insG A_g))), (Bo (isGrid A_g))]), (.agg #[(Fl r1), (Fl r3), (Fl r5), (Fl r7), (Iv A_g.x), (Iv A_g.y), (Iv A_g.z), (.slice p11 A_g.vals.length q12)]), (.agg #[(Fl r40), (Fl r42), (Fl r44), (Fl r46), (Iv A_g.x), (Iv A_g.y), (Iv A_g.z), (.slice p50 A_g.vals.length q51)]), (.tuple #[(Iv (gvI (isGrid A_g) (insG A_g))), (Bo (isGrid A_g))]), (Iv (gvI (isGrid A_g) (insG A_g))), (Bo (isGrid A_g)), (.agg #[(Fl r1), (Fl r3), (Fl r5), (Fl r7), (Iv A_g.x), (Iv A_g.y), (Iv A_g.z), (.slice p11 A_g.vals.length q12)]), (.agg #[(Fl r63), (Fl r65), (Fl r67), (Fl r69), (Iv A_g.x), (Iv A_g.y), (Iv A_g.z), (.slice p73 A_g.vals.length q74)]), (.tuple #[(Iv (gvI (isGrid A_g) (insG A_g))), (Bo (isGrid A_g))]), (.agg #[(Fl r63), (Fl r65), (Fl r67), (Fl r69), (Iv A_g.x), (Iv A_g.y), (Iv A_g.z), (.slice p73 A_g.vals.length q74)]), (.tuple #[(Iv (gvI (isGrid A_g) (insG A_g))), (Bo (isGrid A_g))]), (Iv (gvI (isGrid A_g) (insG A_g))), (Bo (isGrid A_g)), v94, v95, v96, v97, v98, v99, v100, (Bo (β1 || β2)), Ud, Ud, Ud, Ud, Ud]) rfl rfl (does_assign (u := (Bo false)) (ev rfl)) rfl ?_
    refine wpList_nil (hK108 _ _ ?_)
    refine wp_ret ?_
    dsimp only [Exit.then, Exit.inBlock]
    refine ret_val (v := (Bo false)) (res_T rfl (slot rfl)) X106 ?_
    try simp only [h2, h4, h6, h8, h41, h43, h45, h47, h64, h66, h68, h70, hβ1, hβ2] at c31 c107
    have x109 : true = false := by first | rfl | (simp only [sameF_self, sameV_self, sameG_self, bne_self_eq_false, icmp, h2, h4, h6, h8, h41, h43, h45, h47, h64, h66, h68, h70, hβ1, hβ2, c31, c107]; done) | (simp [sameF_self, sameV_self, sameG_self, bne_self_eq_false, icmp, h2, h4, h6, h8, h41, h43, h45, h47, h64, h66, h68, h70, hβ1, hβ2, c31, c107]; done) | (revert c31 c107; simp +contextual [sameF_self, sameV_self, sameG_self, bne_self_eq_false, icmp, h2, h4, h6, h8, h41, h43, h45, h47, h64, h66, h68, h70, hβ1, hβ2]; done) | (rcases c31' with hh | hh <;> simp only [hh, sameF_self, sameV_self, sameG_self, bne_self_eq_false, icmp, h2, h4, h6, h8, h41, h43, h45, h47, h64, h66, h68, h70, hβ1, hβ2, c31, c107]; done) | (rcases c107' with hh | hh <;> simp only [hh, sameF_self, sameV_self, sameG_self, bne_self_eq_false, icmp, h2, h4, h6, h8, h41, h43, h45, h47, h64, h66, h68, h70, hβ1, hβ2, c31, c107]; done) | (rcases c107' with hh | hh <;> simp_all [sameF_self, sameV_self, sameG_self, bne_self_eq_false, icmp]; done) | (rcases c107' with hh | hh | hh <;> simp_all [sameF_self, sameV_self, sameG_self, bne_self_eq_false, icmp]; done) | (rcases c107' with hh | hh | hh | hh <;> simp_all [sameF_self, sameV_self, sameG_self, bne_self_eq_false, icmp]; done) | (simp_all [sameF_self, sameV_self, sameG_self, bne_self_eq_false, icmp]; done)
    exact (by first | rfl | rw [x109])
  have c107' := c107
  (try simp only [hβ1, hβ2] at c107')
  (try simp only [icmp, Bool.and_eq_true, Bool.or_eq_true, Bool.and_eq_false_iff, Bool.or_eq_false_iff, Bool.not_eq_true', Bool.not_eq_false', decide_eq_true_eq, decide_eq_false_iff_not, beq_iff_eq, bne_iff_ne, beq_eq_false_iff_ne, bne_eq_false_iff_eq] at c107')
  refine wp_skip (hK92 _ _ ?_)
  refine wp_seq_k fun K110 hK110 => ?_
  refine wp_seq_k fun K111 hK111 => ?_
  refine region_draw (
    [Fact.pure [] (fun v => v = (.agg #[(Fl r63), (Fl r65), (Fl r67), (Fl r69), (Iv A_g.x), (Iv A_g.y), (Iv A_g.z), (.slice p73 A_g.vals.length q74)])),
    Fact.pure [] (fun v => v = (.agg #[(Fl r1), (Fl r3), (Fl r5), (Fl r7), (Iv A_g.x), (Iv A_g.y), (Iv A_g.z), (.slice p11 A_g.vals.length q12)])),
    Fact.mem [36] (fun v w' => ∃ cs_1 : List Value, v = (.agg cs_1.toArray) ∧ Hang w102.heap.size w' (fun u => RGridT u A_g cs_1)) (by rintro v w1 w2 hx ⟨z1, rfl, k0⟩; exact ⟨z1, rfl, (k0.ext hx)⟩),
    Fact.pure [35, 37] (fun v => v = (Bo (sameG A_g A_g))),
    Fact.pure [38] (fun v => v = (Bo (!(sameG A_g A_g))))]) mixed (by kernel_rfl) (by intro _ _ d _ _ h; cases d <;> exact h) ?_
  obtain ⟨w112, hw114⟩ : ∃ w', w' = World.drew w102 := ⟨_, rfl⟩; rw [← hw114]; have E113 : Ext w102 w112 := by rw [hw114]; exact Ext.draw _
  clear hw114
  have X115 := Ext.gr X106 E113
  refine RW_d (fun v116 => [(.agg #[(Fl r1), (Fl r3), (Fl r5), (Fl r7), (Iv A_g.x), (Iv A_g.y), (Iv A_g.z), (.slice p11 A_g.vals.length q12)]), (Pt b15 0), (Bo false), (Iv i26), (Iv (gvI (isGrid A_g) (insG A_g))), (Bo (isGrid A_g)), (Pt b76 0), (Iv (gvI (isGrid A_g) (insG A_g))), (Bo (isGrid A_g)), (.agg #[(Fl r1), (Fl r3), (Fl r5), (Fl r7), (Iv A_g.x), (Iv A_g.y), (Iv A_g.z), (.slice p11 A_g.vals.length q12)]), (Iv 1048576), (Iv i26), (Iv i26), (Bo (icmp .lss i26 0)), (.tuple #[(Iv (gvI (isGrid A_g) (insG A_g))), (Bo (isGrid A_g))]), (.agg #[(Fl r1), (Fl r3), (Fl r5), (Fl r7), (Iv A_g.x), (Iv A_g.y), (Iv A_g.z), (.slice p11 A_g.vals.length q12)]), (.agg #[(Fl r40), (Fl r42), (Fl r44), (Fl r46), (Iv A_g.x), (Iv A_g.y), (Iv A_g.z), (.slice p50 A_g.vals.length q51)]), (.tuple #[(Iv (gvI (isGrid A_g) (insG A_g))), (Bo (isGrid A_g))]), (Iv (gvI (isGrid A_g) (insG A_g))), (Bo (isGrid A_g)), (.agg #[(Fl r1), (Fl r3), (Fl r5), (Fl r7), (Iv A_g.x), (Iv A_g.y), (Iv A_g.z), (.slice p11 A_g.vals.length q12)]), (.agg #[(Fl r63), (Fl r65), (Fl r67), (Fl r69), (Iv A_g.x), (Iv A_g.y), (Iv A_g.z), (.slice p73 A_g.vals.length q74)]), (.tuple #[(Iv (gvI (isGrid A_g) (insG A_g))), (Bo (isGrid A_g))]), (.agg #[(Fl r63), (Fl r65), (Fl r67), (Fl r69), (Iv A_g.x), (Iv A_g.y), (Iv A_g.z), (.slice p73 A_g.vals.length q74)]), (.tuple #[(Iv (gvI (isGrid A_g) (insG A_g))), (Bo (isGrid A_g))]), (Iv (gvI (isGrid A_g) (insG A_g))), (Bo (isGrid A_g)), v94, v95, v96, v97, v98, v99, v100, (Bo (β1 || β2)), v116, Ud, Ud, Ud, Ud]) rfl (fun _ => rfl) (fun u hu hF => ?_) (fun v116 => ?_)
  · clear hF
    refine doesG_un rfl ?_
    refine (does_loadAgg (cs := [(Fl r63), (Fl r65), (Fl r67), (Fl r69), (Iv A_g.x), (Iv A_g.y), (Iv A_g.z), (.slice p73 A_g.vals.length q74)]) (ev rfl) Try.isAgg32 Try.sizeOf32 (Blk.cells ((((hB85.ext E89).ext E103).ext E113).ext hu)) rfl).mono ?_; rintro _ _ ⟨rfl, rfl⟩
    exact ⟨rfl, Ext.refl _⟩
  refine RW_d (fun v117 => [(.agg #[(Fl r1), (Fl r3), (Fl r5), (Fl r7), (Iv A_g.x), (Iv A_g.y), (Iv A_g.z), (.slice p11 A_g.vals.length q12)]), (Pt b15 0), (Bo false), (Iv i26), (Iv (gvI (isGrid A_g) (insG A_g))), (Bo (isGrid A_g)), (Pt b76 0), (Iv (gvI (isGrid A_g) (insG A_g))), (Bo (isGrid A_g)), (.agg #[(Fl r1), (Fl r3), (Fl r5), (Fl r7), (Iv A_g.x), (Iv A_g.y), (Iv A_g.z), (.slice p11 A_g.vals.length q12)]), (Iv 1048576), (Iv i26), (Iv i26), (Bo (icmp .lss i26 0)), (.tuple #[(Iv (gvI (isGrid A_g) (insG A_g))), (Bo (isGrid A_g))]), (.agg #[(Fl r1), (Fl r3), (Fl r5), (Fl r7), (Iv A_g.x), (Iv A_g.y), (Iv A_g.z), (.slice p11 A_g.vals.length q12)]), (.agg #[(Fl r40), (Fl r42), (Fl r44), (Fl r46), (Iv A_g.x), (Iv A_g.y), (Iv A_g.z), (.slice p50 A_g.vals.length q51)]), (.tuple #[(Iv (gvI (isGrid A_g) (insG A_g))), (Bo (isGrid A_g))]), (Iv (gvI (isGrid A_g) (insG A_g))), (Bo (isGrid A_g)), (.agg #[(Fl r1), (Fl r3), (Fl r5), (Fl r7), (Iv A_g.x), (Iv A_g.y), (Iv A_g.z), (.slice p11 A_g.vals.length q12)]), (.agg #[(Fl r63), (Fl r65), (Fl r67), (Fl r69), (Iv A_g.x), (Iv A_g.y), (Iv A_g.z), (.slice p73 A_g.vals.length q74)]), (.tuple #[(Iv (gvI (isGrid A_g) (insG A_g))), (Bo (isGrid A_g))]), (.agg #[(Fl r63), (Fl r65), (Fl r67), (Fl r69), (Iv A_g.x), (Iv A_g.y), (Iv A_g.z), (.slice p73 A_g.vals.length q74)]), (.tuple #[(Iv (gvI (isGrid A_g) (insG A_g))), (Bo (isGrid A_g))]), (Iv (gvI (isGrid A_g) (insG A_g))), (Bo (isGrid A_g)), v94, v95, v96, v97, v98, v99, v100, (Bo (β1 || β2)), v116, v117, Ud, Ud, Ud]) rfl (fun _ => rfl) (fun u hu hF => ?_) (fun v117 => ?_)
  · clear hF
    refine doesG_un rfl ?_
    refine (does_loadAgg (cs := [(Fl r1), (Fl r3), (Fl r5), (Fl r7), (Iv A_g.x), (Iv A_g.y), (Iv A_g.z), (.slice p11 A_g.vals.length q12)]) (ev rfl) Try.isAgg27 Try.sizeOf27 (Blk.cells ((((((((((hB17.ext E24).ext E34).ext E53).ext E57).ext E79).wr W84 (Nat.ne_of_lt n81)).ext E89).ext E103).ext E113).ext hu)) rfl).mono ?_; rintro _ _ ⟨rfl, rfl⟩
    exact ⟨rfl, Ext.refl _⟩
  refine RW_d (fun v118 => [(.agg #[(Fl r1), (Fl r3), (Fl r5), (Fl r7), (Iv A_g.x), (Iv A_g.y), (Iv A_g.z), (.slice p11 A_g.vals.length q12)]), (Pt b15 0), (Bo false), (Iv i26), (Iv (gvI (isGrid A_g) (insG A_g))), (Bo (isGrid A_g)), (Pt b76 0), (Iv (gvI (isGrid A_g) (insG A_g))), (Bo (isGrid A_g)), (.agg #[(Fl r1), (Fl r3), (Fl r5), (Fl r7), (Iv A_g.x), (Iv A_g.y), (Iv A_g.z), (.slice p11 A_g.vals.length q12)]), (Iv 1048576), (Iv i26), (Iv i26), (Bo (icmp .lss i26 0)), (.tuple #[(Iv (gvI (isGrid A_g) (insG A_g))), (Bo (isGrid A_g))]), (.agg #[(Fl r1), (Fl r3), (Fl r5), (Fl r7), (Iv A_g.x), (Iv A_g.y), (Iv A_g.z), (.slice p11 A_g.vals.length q12)]), (.agg #[(Fl r40), (Fl r42), (Fl r44), (Fl r46), (Iv A_g.x), (Iv A_g.y), (Iv A_g.z), (.slice p50 A_g.vals.length q51)]), (.tuple #[(Iv (gvI (isGrid A_g) (insG A_g))), (Bo (isGrid A_g))]), (Iv (gvI (isGrid A_g) (insG A_g))), (Bo (isGrid A_g)), (.agg #[(Fl r1), (Fl r3), (Fl r5), (Fl r7), (Iv A_g.x), (Iv A_g.y), (Iv A_g.z), (.slice p11 A_g.vals.length q12)]), (.agg #[(Fl r63), (Fl r65), (Fl r67), (Fl r69), (Iv A_g.x), (Iv A_g.y), (Iv A_g.z), (.slice p73 A_g.vals.length q74)]), (.tuple #[(Iv (gvI (isGrid A_g) (insG A_g))), (Bo (isGrid A_g))]), (.agg #[(Fl r63), (Fl r65), (Fl r67), (Fl r69), (Iv A_g.x), (Iv A_g.y), (Iv A_g.z), (.slice p73 A_g.vals.length q74)]), (.tuple #[(Iv (gvI (isGrid A_g) (insG A_g))), (Bo (isGrid A_g))]), (Iv (gvI (isGrid A_g) (insG A_g))), (Bo (isGrid A_g)), v94, v95, v96, v97, v98, v99, v100, (Bo (β1 || β2)), v116, v117, v118, Ud, Ud]) rfl (fun _ => rfl) (fun u hu hF => ?_) (fun v118 => ?_)
  · have h36_ : v117 = (.agg #[(Fl r1), (Fl r3), (Fl r5), (Fl r7), (Iv A_g.x), (Iv A_g.y), (Iv A_g.z), (.slice p11 A_g.vals.length q12)]) := hF.1
    clear hF
    obtain rfl := h36_
    refine doesG_un rfl ?_
    refine (does_call (args := #[(.agg #[(Fl r1), (Fl r3), (Fl r5), (Fl r7), (Iv A_g.x), (Iv A_g.y), (Iv A_g.z), (.slice p11 A_g.vals.length q12)])]) cal19 (evs rfl) (c_laws_toGrid [(Fl r1), (Fl r3), (Fl r5), (Fl r7), (Iv A_g.x), (Iv A_g.y), (Iv A_g.z), (.slice p11 A_g.vals.length q12)] A_g _ ⟨r1, r3, r5, r7, (.slice p11 A_g.vals.length q12), rfl, h2, h4, h6, h8, (Sl.ext (Sl.ext hs13 RF.mono (Ext.gr X106 E113)) RF.mono hu)⟩ (by omega))).mono ?_; rintro v u' ⟨hx, ⟨csn1, hv, k0⟩⟩
    exact ⟨⟨csn1, hv, (Hang.le k0 (Nat.le_trans (Below.size E113) (Below.size hu)))⟩, hx⟩
  refine RW_d (fun v119 => [(.agg #[(Fl r1), (Fl r3), (Fl r5), (Fl r7), (Iv A_g.x), (Iv A_g.y), (Iv A_g.z), (.slice p11 A_g.vals.length q12)]), (Pt b15 0), (Bo false), (Iv i26), (Iv (gvI (isGrid A_g) (insG A_g))), (Bo (isGrid A_g)), (Pt b76 0), (Iv (gvI (isGrid A_g) (insG A_g))), (Bo (isGrid A_g)), (.agg #[(Fl r1), (Fl r3), (Fl r5), (Fl r7), (Iv A_g.x), (Iv A_g.y), (Iv A_g.z), (.slice p11 A_g.vals.length q12)]), (Iv 1048576), (Iv i26), (Iv i26), (Bo (icmp .lss i26 0)), (.tuple #[(Iv (gvI (isGrid A_g) (insG A_g))), (Bo (isGrid A_g))]), (.agg #[(Fl r1), (Fl r3), (Fl r5), (Fl r7), (Iv A_g.x), (Iv A_g.y), (Iv A_g.z), (.slice p11 A_g.vals.length q12)]), (.agg #[(Fl r40), (Fl r42), (Fl r44), (Fl r46), (Iv A_g.x), (Iv A_g.y), (Iv A_g.z), (.slice p50 A_g.vals.length q51)]), (.tuple #[(Iv (gvI (isGrid A_g) (insG A_g))), (Bo (isGrid A_g))]), (Iv (gvI (isGrid A_g) (insG A_g))), (Bo (isGrid A_g)), (.agg #[(Fl r1), (Fl r3), (Fl r5), (Fl r7), (Iv A_g.x), (Iv A_g.y), (Iv A_g.z), (.slice p11 A_g.vals.length q12)]), (.agg #[(Fl r63), (Fl r65), (Fl r67), (Fl r69), (Iv A_g.x), (Iv A_g.y), (Iv A_g.z), (.slice p73 A_g.vals.length q74)]), (.tuple #[(Iv (gvI (isGrid A_g) (insG A_g))), (Bo (isGrid A_g))]), (.agg #[(Fl r63), (Fl r65), (Fl r67), (Fl r69), (Iv A_g.x), (Iv A_g.y), (Iv A_g.z), (.slice p73 A_g.vals.length q74)]), (.tuple #[(Iv (gvI (isGrid A_g) (insG A_g))), (Bo (isGrid A_g))]), (Iv (gvI (isGrid A_g) (insG A_g))), (Bo (isGrid A_g)), v94, v95, v96, v97, v98, v99, v100, (Bo (β1 || β2)), v116, v117, v118, v119, Ud]) rfl (fun _ => rfl) (fun u hu hF => ?_) (fun v119 => ?_)
  · have h35_ : v116 = (.agg #[(Fl r63), (Fl r65), (Fl r67), (Fl r69), (Iv A_g.x), (Iv A_g.y), (Iv A_g.z), (.slice p73 A_g.vals.length q74)]) := hF.1
    have h37_ : ∃ cs_1 : List Value, v118 = (.agg cs_1.toArray) ∧ Hang w102.heap.size u (fun u => RGridT u A_g cs_1) := hF.2.1
    clear hF
    obtain rfl := h35_
    obtain ⟨cs37_2, rfl, hh37_1⟩ := h37_
    obtain ⟨r37_3, r37_5, r37_7, r37_9, y37_11, rfl, h37_4, h37_6, h37_8, h37_10, h37_12⟩ := hh37_1.get
    have hh37_12 := h37_12; obtain ⟨p37_13, q37_14, rfl⟩ := Sl.shape h37_12
    refine doesG_un rfl ?_
    refine (does_call (args := #[(.agg #[(Fl r63), (Fl r65), (Fl r67), (Fl r69), (Iv A_g.x), (Iv A_g.y), (Iv A_g.z), (.slice p73 A_g.vals.length q74)]), (.agg #[(Fl r37_3), (Fl r37_5), (Fl r37_7), (Fl r37_9), (Iv A_g.x), (Iv A_g.y), (Iv A_g.z), (.slice p37_13 A_g.vals.length q37_14)])]) cal21 (evs rfl) (c_laws_eqGrid [(Fl r63), (Fl r65), (Fl r67), (Fl r69), (Iv A_g.x), (Iv A_g.y), (Iv A_g.z), (.slice p73 A_g.vals.length q74)] A_g [(Fl r37_3), (Fl r37_5), (Fl r37_7), (Fl r37_9), (Iv A_g.x), (Iv A_g.y), (Iv A_g.z), (.slice p37_13 A_g.vals.length q37_14)] A_g _ ⟨r63, r65, r67, r69, (.slice p73 A_g.vals.length q74), rfl, h64, h66, h68, h70, (Sl.ext (hh75 _ ((((((Same.refl _ _).ext E79).wr W84 (.inr (Nat.le_trans (Below.size (Ext.refl _)) hb77))).ext E89).ext E103).ext E113)) RF.mono hu)⟩ ⟨r37_3, r37_5, r37_7, r37_9, (.slice p37_13 A_g.vals.length q37_14), rfl, (by assumption), (by assumption), (by assumption), (by assumption), hh37_12⟩)).mono ?_; rintro v u' ⟨hx, hv⟩
    exact ⟨hv.trans (by simp only [h37_4, h37_6, h37_8, h37_10]), hx⟩
  refine RW_d (fun v120 => [(.agg #[(Fl r1), (Fl r3), (Fl r5), (Fl r7), (Iv A_g.x), (Iv A_g.y), (Iv A_g.z), (.slice p11 A_g.vals.length q12)]), (Pt b15 0), (Bo false), (Iv i26), (Iv (gvI (isGrid A_g) (insG A_g))), (Bo (isGrid A_g)), (Pt b76 0), (Iv (gvI (isGrid A_g) (insG A_g))), (Bo (isGrid A_g)), (.agg #[(Fl r1), (Fl r3), (Fl r5), (Fl r7), (Iv A_g.x), (Iv A_g.y), (Iv A_g.z), (.slice p11 A_g.vals.length q12)]), (Iv 1048576), (Iv i26), (Iv i26), (Bo (icmp .lss i26 0)), (.tuple #[(Iv (gvI (isGrid A_g) (insG A_g))), (Bo (isGrid A_g))]), (.agg #[(Fl r1), (Fl r3), (Fl r5), (Fl r7), (Iv A_g.x), (Iv A_g.y), (Iv A_g.z), (.slice p11 A_g.vals.length q12)]), (.agg #[(Fl r40), (Fl r42), (Fl r44), (Fl r46), (Iv A_g.x), (Iv A_g.y), (Iv A_g.z), (.slice p50 A_g.vals.length q51)]), (.tuple #[(Iv (gvI (isGrid A_g) (insG A_g))), (Bo (isGrid A_g))]), (Iv (gvI (isGrid A_g) (insG A_g))), (Bo (isGrid A_g)), (.agg #[(Fl r1), (Fl r3), (Fl r5), (Fl r7), (Iv A_g.x), (Iv A_g.y), (Iv A_g.z), (.slice p11 A_g.vals.length q12)]), (.agg #[(Fl r63), (Fl r65), (Fl r67), (Fl r69), (Iv A_g.x), (Iv A_g.y), (Iv A_g.z), (.slice p73 A_g.vals.length q74)]), (.tuple #[(Iv (gvI (isGrid A_g) (insG A_g))), (Bo (isGrid A_g))]), (.agg #[(Fl r63), (Fl r65), (Fl r67), (Fl r69), (Iv A_g.x), (Iv A_g.y), (Iv A_g.z), (.slice p73 A_g.vals.length q74)]), (.tuple #[(Iv (gvI (isGrid A_g) (insG A_g))), (Bo (isGrid A_g))]), (Iv (gvI (isGrid A_g) (insG A_g))), (Bo (isGrid A_g)), v94, v95, v96, v97, v98, v99, v100, (Bo (β1 || β2)), v116, v117, v118, v119, v120]) rfl (fun _ => rfl) (fun u hu hF => ?_) (fun v120 => ?_)
  · have h38_ : v119 = (Bo (sameG A_g A_g)) := hF.1
    clear hF
    obtain rfl := h38_
    refine doesG_un rfl ?_
    refine (does_not (ev rfl)).mono ?_; rintro _ _ ⟨rfl, rfl⟩
    exact ⟨rfl, Ext.refl _⟩
  refine RW_fin ?_; intro w121 E122 hP123
  obtain ⟨⟨⟨⟨⟨-, -⟩, -⟩, -⟩, -⟩, q124⟩ := hP123
  have X125 := Ext.gr X115 E122
  have q124 : v120 = (Bo (!(sameG A_g A_g))) := q124
  obtain rfl := q124
  show wpList _ _ _ _ (fr [(.agg #[(Fl r1), (Fl r3), (Fl r5), (Fl r7), (Iv A_g.x), (Iv A_g.y), (Iv A_g.z), (.slice p11 A_g.vals.length q12)]), (Pt b15 0), (Bo false), (Iv i26), (Iv (gvI (isGrid A_g) (insG A_g))), (Bo (isGrid A_g)), (Pt b76 0), (Iv (gvI (isGrid A_g) (insG A_g))), (Bo (isGrid A_g)), (.agg #[(Fl r1), (Fl r3), (Fl r5), (Fl r7), (Iv A_g.x), (Iv A_g.y), (Iv A_g.z), (.slice p11 A_g.vals.length q12)]), (Iv 1048576), (Iv i26), (Iv i26), (Bo (icmp .lss i26 0)), (.tuple #[(Iv (gvI (isGrid A_g) (insG A_g))), (Bo (isGrid A_g))]), (.agg #[(Fl r1), (Fl r3), (Fl r5), (Fl r7), (Iv A_g.x), (Iv A_g.y), (Iv A_g.z), (.slice p11 A_g.vals.length q12)]), (.agg #[(Fl r40), (Fl r42), (Fl r44), (Fl r46), (Iv A_g.x), (Iv A_g.y), (Iv A_g.z), (.slice p50 A_g.vals.length q51)]), (.tuple #[(Iv (gvI (isGrid A_g) (insG A_g))), (Bo (isGrid A_g))]), (Iv (gvI (isGrid A_g) (insG A_g))), (Bo (isGrid A_g)), (.agg #[(Fl r1), (Fl r3), (Fl r5), (Fl r7), (Iv A_g.x), (Iv A_g.y), (Iv A_g.z), (.slice p11 A_g.vals.length q12)]), (.agg #[(Fl r63), (Fl r65), (Fl r67), (Fl r69), (Iv A_g.x), (Iv A_g.y), (Iv A_g.z), (.slice p73 A_g.vals.length q74)]), (.tuple #[(Iv (gvI (isGrid A_g) (insG A_g))), (Bo (isGrid A_g))]), (.agg #[(Fl r63), (Fl r65), (Fl r67), (Fl r69), (Iv A_g.x), (Iv A_g.y), (Iv A_g.z), (.slice p73 A_g.vals.length q74)]), (.tuple #[(Iv (gvI (isGrid A_g) (insG A_g))), (Bo (isGrid A_g))]), (Iv (gvI (isGrid A_g) (insG A_g))), (Bo (isGrid A_g)), v94, v95, v96, v97, v98, v99, v100, (Bo (β1 || β2)), v116, v117, v118, v119, (Bo (!(sameG A_g A_g)))]) _
  refine wpList_nil (hK111 _ _ ?_)
  refine wp_cond_split (t := !(sameG A_g A_g)) (ev rfl) (fun c126 => ?_) (fun c126 => ?_)
  · rw [Bool.not_eq_true'] at c126
    have c126' := c126
    (try simp only [hβ1, hβ2] at c126')
    (try simp only [icmp, Bool.and_eq_true, Bool.or_eq_true, Bool.and_eq_false_iff, Bool.or_eq_false_iff, Bool.not_eq_true', Bool.not_eq_false', decide_eq_true_eq, decide_eq_false_iff_not, beq_iff_eq, bne_iff_ne, beq_eq_false_iff_ne, bne_eq_false_iff_eq] at c126')
    refine wp_seq_k fun K127 hK127 => ?_
    refine wp_region_lit ?_
    refine q_is (l' := [(.agg #[(Fl r1), (Fl r3), (Fl r5), (Fl r7), (Iv A_g.x), (Iv A_g.y), (Iv A_g.z), (.slice p11 A_g.vals.length q12)]), (Pt b15 0), (Bo false), (Iv i26), (Iv (gvI (isGrid A_g) (insG A_g))), (Bo (isGrid A_g)), (Pt b76 0), (Iv (gvI (isGrid A_g) (insG A_g))), (Bo (isGrid A_g)), (.agg #[(Fl r1), (Fl r3), (Fl r5), (Fl r7), (Iv A_g.x), (Iv A_g.y), (Iv A_g.z), (.slice p11 A_g.vals.length q12)]), (Iv 1048576), (Iv i26), (Iv i26), (Bo (icmp .lss i26 0)), (.tuple #[(Iv (gvI (isGrid A_g) (insG A_g))), (Bo (isGrid A_g))]), (.agg #[(Fl r1), (Fl r3), (Fl r5), (Fl r7), (Iv A_g.x), (Iv A_g.y), (Iv A_g.z), (.slice p11 A_g.vals.length q12)]), (.agg #[(Fl r40), (Fl r42), (Fl r44), (Fl r46), (Iv A_g.x), (Iv A_g.y), (Iv A_g.z), (.slice p50 A_g.vals.length q51)]), (.tuple #[(Iv (gvI (isGrid A_g) (insG A_g))), (Bo (isGrid A_g))]), (Iv (gvI (isGrid A_g) (insG A_g))), (Bo (isGrid A_g)), (.agg #[(Fl r1), (Fl r3), (Fl r5), (Fl r7), (Iv A_g.x), (Iv A_g.y), (Iv A_g.z), (.slice p11 A_g.vals.length q12)]), (.agg #[(Fl r63), (Fl r65), (Fl r67), (Fl r69), (Iv A_g.x), (Iv A_g.y), (Iv A_g.z), (.slice p73 A_g.vals.length q74)]), (.tuple #[(Iv (gvI (isGrid A_g) (insG A_g))), (Bo (isGrid A_g))]), (.agg #[(Fl r63), (Fl r65), (Fl r67), (Fl r69), (Iv A_g.x), (Iv A_g.y), (Iv A_g.z), (.slice p73 A_g.vals.length q74)]), (.tuple #[(Iv (gvI (isGrid A_g) (insG A_g))), (Bo (isGrid A_g))]), (Iv (gvI (isGrid A_g) (insG A_g))), (Bo (isGrid A_g)), v94, v95, v96, v97, v98, v99, v100, (Bo (β1 || β2)), v116, v117, v118, v119, (Bo (!(sameG A_g A_g)))]) rfl rfl (does_assign (u := (Bo false)) (ev rfl)) rfl ?_
    refine wpList_nil (hK127 _ _ ?_)
    refine wp_ret ?_
    dsimp only [Exit.then, Exit.inBlock]
    refine ret_val (v := (Bo false)) (res_T rfl (slot rfl)) X125 ?_
    try simp only [h2, h4, h6, h8, h41, h43, h45, h47, h64, h66, h68, h70, hβ1, hβ2] at c31 c107 c126
    have x128 : true = false := by first | rfl | (simp only [sameF_self, sameV_self, sameG_self, bne_self_eq_false, icmp, h2, h4, h6, h8, h41, h43, h45, h47, h64, h66, h68, h70, hβ1, hβ2, c31, c107, c126]; done) | (simp [sameF_self, sameV_self, sameG_self, bne_self_eq_false, icmp, h2, h4, h6, h8, h41, h43, h45, h47, h64, h66, h68, h70, hβ1, hβ2, c31, c107, c126]; done) | (revert c31 c107 c126; simp +contextual [sameF_self, sameV_self, sameG_self, bne_self_eq_false, icmp, h2, h4, h6, h8, h41, h43, h45, h47, h64, h66, h68, h70, hβ1, hβ2]; done) | (rcases c31' with hh | hh <;> simp only [hh, sameF_self, sameV_self, sameG_self, bne_self_eq_false, icmp, h2, h4, h6, h8, h41, h43, h45, h47, h64, h66, h68, h70, hβ1, hβ2, c31, c107, c126]; done) | (rcases c107' with hh | hh <;> simp only [hh, sameF_self, sameV_self, sameG_self, bne_self_eq_false, icmp, h2, h4, h6, h8, h41, h43, h45, h47, h64, h66, h68, h70, hβ1, hβ2, c31, c107, c126]; done) | (rcases c126' with hh | hh <;> simp only [hh, sameF_self, sameV_self, sameG_self, bne_self_eq_false, icmp, h2, h4, h6, h8, h41, h43, h45, h47, h64, h66, h68, h70, hβ1, hβ2, c31, c107, c126]; done) | (rcases c126' with hh | hh <;> simp_all [sameF_self, sameV_self, sameG_self, bne_self_eq_false, icmp]; done) | (rcases c126' with hh | hh | hh <;> simp_all [sameF_self, sameV_self, sameG_self, bne_self_eq_false, icmp]; done) | (rcases c126' with hh | hh | hh | hh <;> simp_all [sameF_self, sameV_self, sameG_self, bne_self_eq_false, icmp]; done) | (simp_all [sameF_self, sameV_self, sameG_self, bne_self_eq_false, icmp]; done)
    exact (by first | rfl | rw [x128])
  rw [Bool.not_eq_false'] at c126
  have c126' := c126
  (try simp only [hβ1, hβ2] at c126')
  (try simp only [icmp, Bool.and_eq_true, Bool.or_eq_true, Bool.and_eq_false_iff, Bool.or_eq_false_iff, Bool.not_eq_true', Bool.not_eq_false', decide_eq_true_eq, decide_eq_false_iff_not, beq_iff_eq, bne_iff_ne, beq_eq_false_iff_ne, bne_eq_false_iff_eq] at c126')
  refine wp_skip (hK110 _ _ ?_)
  refine wp_seq_k fun K129 hK129 => ?_
  refine wp_region_lit ?_
  refine q_is (l' := [(.agg #[(Fl r1), (Fl r3), (Fl r5), (Fl r7), (Iv A_g.x), (Iv A_g.y), (Iv A_g.z), (.slice p11 A_g.vals.length q12)]), (Pt b15 0), (Bo true), (Iv i26), (Iv (gvI (isGrid A_g) (insG A_g))), (Bo (isGrid A_g)), (Pt b76 0), (Iv (gvI (isGrid A_g) (insG A_g))), (Bo (isGrid A_g)), (.agg #[(Fl r1), (Fl r3), (Fl r5), (Fl r7), (Iv A_g.x), (Iv A_g.y), (Iv A_g.z), (.slice p11 A_g.vals.length q12)]), (Iv 1048576), (Iv i26), (Iv i26), (Bo (icmp .lss i26 0)), (.tuple #[(Iv (gvI (isGrid A_g) (insG A_g))), (Bo (isGrid A_g))]), (.agg #[(Fl r1), (Fl r3), (Fl r5), (Fl r7), (Iv A_g.x), (Iv A_g.y), (Iv A_g.z), (.slice p11 A_g.vals.length q12)]), (.agg #[(Fl r40), (Fl r42), (Fl r44), (Fl r46), (Iv A_g.x), (Iv A_g.y), (Iv A_g.z), (.slice p50 A_g.vals.length q51)]), (.tuple #[(Iv (gvI (isGrid A_g) (insG A_g))), (Bo (isGrid A_g))]), (Iv (gvI (isGrid A_g) (insG A_g))), (Bo (isGrid A_g)), (.agg #[(Fl r1), (Fl r3), (Fl r5), (Fl r7), (Iv A_g.x), (Iv A_g.y), (Iv A_g.z), (.slice p11 A_g.vals.length q12)]), (.agg #[(Fl r63), (Fl r65), (Fl r67), (Fl r69), (Iv A_g.x), (Iv A_g.y), (Iv A_g.z), (.slice p73 A_g.vals.length q74)]), (.tuple #[(Iv (gvI (isGrid A_g) (insG A_g))), (Bo (isGrid A_g))]), (.agg #[(Fl r63), (Fl r65), (Fl r67), (Fl r69), (Iv A_g.x), (Iv A_g.y), (Iv A_g.z), (.slice p73 A_g.vals.length q74)]), (.tuple #[(Iv (gvI (isGrid A_g) (insG A_g))), (Bo (isGrid A_g))]), (Iv (gvI (isGrid A_g) (insG A_g))), (Bo (isGrid A_g)), v94, v95, v96, v97, v98, v99, v100, (Bo (β1 || β2)), v116, v117, v118, v119, (Bo (!(sameG A_g A_g)))]) rfl rfl (does_assign (u := (Bo true)) (ev rfl)) rfl ?_
  refine wpList_nil (hK129 _ _ ?_)
  refine wp_ret ?_
  refine ret_val (v := (Bo true)) (res_T rfl (slot rfl)) X125 ?_
  try simp only [h2, h4, h6, h8, h41, h43, h45, h47, h64, h66, h68, h70, hβ1, hβ2] at c31 c107 c126
  exact rfl

/- spec.l01Add -/
theorem c_spec_l01Add (a : List Value) (A_a : V3) (b : List Value) (A_b : V3) (w : World) (hv_a : RV3 w A_a a) (hv_b : RV3 w A_b b) : Gives Try.prog 109 #[(.agg a.toArray), (.agg b.toArray)] w (fun v w' => ∃ cs_1 : List Value, v = (.agg cs_1.toArray) ∧ RV3 w (vadd A_a A_b) cs_1) := by
  obtain ⟨r1, r3, r5, rfl, h2, h4, h6⟩ := hv_a
  obtain ⟨r7, r9, r11, rfl, h8, h10, h12⟩ := hv_b
  refine enter [(.agg #[(Fl r1), (Fl r3), (Fl r5)]), (.agg #[(Fl r7), (Fl r9), (Fl r11)]), Ud, Ud, Ud, Ud, Ud, Ud, Ud, Ud, Ud, Ud, Ud, Ud, Ud, Ud, Ud, Ud, Ud, Ud, Ud] Try.func109 rfl Try.ntmps109 rfl ?_
  refine wp_seq_k fun K13 hK13 => ?_
  refine wp_region_lit ?_
  refine seqd rfl rfl (does_box (u := (.agg #[(Fl r1), (Fl r3), (Fl r5)])) (ev rfl)) ?_; rintro _ w18 ⟨b14, rfl, hb15, hB16, E17⟩
  have g19 : w.heap.size ≤ b14 := Nat.le_trans (Below.size (Ext.refl w)) hb15
  change Blk _ _ [(Fl r1), (Fl r3), (Fl r5)] at hB16
  have X20 := Ext.gr (Ext.refl w) E17
  show wpList _ _ _ _ (fr [(.agg #[(Fl r1), (Fl r3), (Fl r5)]), (.agg #[(Fl r7), (Fl r9), (Fl r11)]), (Pt b14 0), Ud, Ud, Ud, Ud, Ud, Ud, Ud, Ud, Ud, Ud, Ud, Ud, Ud, Ud, Ud, Ud, Ud, Ud]) _
  refine seqd rfl rfl (does_box (u := (.agg #[(Fl r7), (Fl r9), (Fl r11)])) (ev rfl)) ?_; rintro _ w25 ⟨b21, rfl, hb22, hB23, E24⟩
  have n26 : b14 < b21 := Nat.lt_of_lt_of_le (Blk.lt hB16) hb22
  have g27 : w.heap.size ≤ b21 := Nat.le_trans (Below.size X20) hb22
  change Blk _ _ [(Fl r7), (Fl r9), (Fl r11)] at hB23
  have X28 := Ext.gr X20 E24
  show wpList _ _ _ _ (fr [(.agg #[(Fl r1), (Fl r3), (Fl r5)]), (.agg #[(Fl r7), (Fl r9), (Fl r11)]), (Pt b14 0), (Pt b21 0), Ud, Ud, Ud, Ud, Ud, Ud, Ud, Ud, Ud, Ud, Ud, Ud, Ud, Ud, Ud, Ud, Ud]) _
  refine seqd rfl rfl (does_alloc z30) ?_; rintro _ w33 ⟨b29, rfl, hb30, hB31, E32⟩
  have n34 : b14 < b29 := Nat.lt_of_lt_of_le (Blk.lt (hB16.ext E24)) hb30
  have n35 : b21 < b29 := Nat.lt_of_lt_of_le (Blk.lt hB23) hb30
  have g36 : w.heap.size ≤ b29 := Nat.le_trans (Below.size X28) hb30
  change Blk _ _ [(Fl 0), (Fl 0), (Fl 0)] at hB31
  have X37 := Ext.gr X28 E32
  show wpList _ _ _ _ (fr [(.agg #[(Fl r1), (Fl r3), (Fl r5)]), (.agg #[(Fl r7), (Fl r9), (Fl r11)]), (Pt b14 0), (Pt b21 0), (Pt b29 0), Ud, Ud, Ud, Ud, Ud, Ud, Ud, Ud, Ud, Ud, Ud, Ud, Ud, Ud, Ud, Ud]) _
  refine wpList_nil (hK13 _ _ ?_)
  refine wp_seq_k fun K38 hK38 => ?_
  refine wp_region_lit ?_
  refine q_is (l' := [(.agg #[(Fl r1), (Fl r3), (Fl r5)]), (.agg #[(Fl r7), (Fl r9), (Fl r11)]), (Pt b14 0), (Pt b21 0), (Pt b29 0), (Pt b14 0), Ud, Ud, Ud, Ud, Ud, Ud, Ud, Ud, Ud, Ud, Ud, Ud, Ud, Ud, Ud]) rfl rfl (does_fieldAddr (ev rfl) fa30_0) rfl ?_
  refine q_is (l' := [(.agg #[(Fl r1), (Fl r3), (Fl r5)]), (.agg #[(Fl r7), (Fl r9), (Fl r11)]), (Pt b14 0), (Pt b21 0), (Pt b29 0), (Pt b14 0), (Fl r1), Ud, Ud, Ud, Ud, Ud, Ud, Ud, Ud, Ud, Ud, Ud, Ud, Ud, Ud]) rfl rfl (does_load (u := (Fl r1)) (ev rfl) Try.isAgg22 (Cells.at (Blk.cells ((hB16.ext E24).ext E32)) 0 rfl)) rfl ?_
  refine q_is (l' := [(.agg #[(Fl r1), (Fl r3), (Fl r5)]), (.agg #[(Fl r7), (Fl r9), (Fl r11)]), (Pt b14 0), (Pt b21 0), (Pt b29 0), (Pt b14 0), (Fl r1), (Pt b21 0), Ud, Ud, Ud, Ud, Ud, Ud, Ud, Ud, Ud, Ud, Ud, Ud, Ud]) rfl rfl (does_fieldAddr (ev rfl) fa30_0) rfl ?_
  refine q_is (l' := [(.agg #[(Fl r1), (Fl r3), (Fl r5)]), (.agg #[(Fl r7), (Fl r9), (Fl r11)]), (Pt b14 0), (Pt b21 0), (Pt b29 0), (Pt b14 0), (Fl r1), (Pt b21 0), (Fl r7), Ud, Ud, Ud, Ud, Ud, Ud, Ud, Ud, Ud, Ud, Ud, Ud]) rfl rfl (does_load (u := (Fl r7)) (ev rfl) Try.isAgg22 (Cells.at (Blk.cells (hB23.ext E32)) 0 rfl)) rfl ?_
  refine seqd rfl rfl (does_float (.inl rfl) (ev rfl) (ev rfl)) ?_; rintro _ w42 ⟨r39, rfl, h40, E41⟩
  have X43 := Ext.gr X37 E41
  show wpList _ _ _ _ (fr [(.agg #[(Fl r1), (Fl r3), (Fl r5)]), (.agg #[(Fl r7), (Fl r9), (Fl r11)]), (Pt b14 0), (Pt b21 0), (Pt b29 0), (Pt b14 0), (Fl r1), (Pt b21 0), (Fl r7), (Fl r39), Ud, Ud, Ud, Ud, Ud, Ud, Ud, Ud, Ud, Ud, Ud]) _
  refine q_is (l' := [(.agg #[(Fl r1), (Fl r3), (Fl r5)]), (.agg #[(Fl r7), (Fl r9), (Fl r11)]), (Pt b14 0), (Pt b21 0), (Pt b29 0), (Pt b14 0), (Fl r1), (Pt b21 0), (Fl r7), (Fl r39), (Pt b14 1), Ud, Ud, Ud, Ud, Ud, Ud, Ud, Ud, Ud, Ud]) rfl rfl (does_fieldAddr (ev rfl) fa30_1) rfl ?_
  refine q_is (l' := [(.agg #[(Fl r1), (Fl r3), (Fl r5)]), (.agg #[(Fl r7), (Fl r9), (Fl r11)]), (Pt b14 0), (Pt b21 0), (Pt b29 0), (Pt b14 0), (Fl r1), (Pt b21 0), (Fl r7), (Fl r39), (Pt b14 1), (Fl r3), Ud, Ud, Ud, Ud, Ud, Ud, Ud, Ud, Ud]) rfl rfl (does_load (u := (Fl r3)) (ev rfl) Try.isAgg22 (Cells.at (Blk.cells (((hB16.ext E24).ext E32).ext E41)) 1 rfl)) rfl ?_
  refine q_is (l' := [(.agg #[(Fl r1), (Fl r3), (Fl r5)]), (.agg #[(Fl r7), (Fl r9), (Fl r11)]), (Pt b14 0), (Pt b21 0), (Pt b29 0), (Pt b14 0), (Fl r1), (Pt b21 0), (Fl r7), (Fl r39), (Pt b14 1), (Fl r3), (Pt b21 1), Ud, Ud, Ud, Ud, Ud, Ud, Ud, Ud]) rfl rfl (does_fieldAddr (ev rfl) fa30_1) rfl ?_
  refine q_is (l' := [(.agg #[(Fl r1), (Fl r3), (Fl r5)]), (.agg #[(Fl r7), (Fl r9), (Fl r11)]), (Pt b14 0), (Pt b21 0), (Pt b29 0), (Pt b14 0), (Fl r1), (Pt b21 0), (Fl r7), (Fl r39), (Pt b14 1), (Fl r3), (Pt b21 1), (Fl r9), Ud, Ud, Ud, Ud, Ud, Ud, Ud]) rfl rfl (does_load (u := (Fl r9)) (ev rfl) Try.isAgg22 (Cells.at (Blk.cells ((hB23.ext E32).ext E41)) 1 rfl)) rfl ?_
  refine seqd rfl rfl (does_float (.inl rfl) (ev rfl) (ev rfl)) ?_; rintro _ w47 ⟨r44, rfl, h45, E46⟩
  have X48 := Ext.gr X43 E46
  show wpList _ _ _ _ (fr [(.agg #[(Fl r1), (Fl r3), (Fl r5)]), (.agg #[(Fl r7), (Fl r9), (Fl r11)]), (Pt b14 0), (Pt b21 0), (Pt b29 0), (Pt b14 0), (Fl r1), (Pt b21 0), (Fl r7), (Fl r39), (Pt b14 1), (Fl r3), (Pt b21 1), (Fl r9), (Fl r44), Ud, Ud, Ud, Ud, Ud, Ud]) _
  refine q_is (l' := [(.agg #[(Fl r1), (Fl r3), (Fl r5)]), (.agg #[(Fl r7), (Fl r9), (Fl r11)]), (Pt b14 0), (Pt b21 0), (Pt b29 0), (Pt b14 0), (Fl r1), (Pt b21 0), (Fl r7), (Fl r39), (Pt b14 1), (Fl r3), (Pt b21 1), (Fl r9), (Fl r44), (Pt b14 2), Ud, Ud, Ud, Ud, Ud]) rfl rfl (does_fieldAddr (ev rfl) fa30_2) rfl ?_
  refine q_is (l' := [(.agg #[(Fl r1), (Fl r3), (Fl r5)]), (.agg #[(Fl r7), (Fl r9), (Fl r11)]), (Pt b14 0), (Pt b21 0), (Pt b29 0), (Pt b14 0), (Fl r1), (Pt b21 0), (Fl r7), (Fl r39), (Pt b14 1), (Fl r3), (Pt b21 1), (Fl r9), (Fl r44), (Pt b14 2), (Fl r5), Ud, Ud, Ud, Ud]) rfl rfl (does_load (u := (Fl r5)) (ev rfl) Try.isAgg22 (Cells.at (Blk.cells ((((hB16.ext E24).ext E32).ext E41).ext E46)) 2 rfl)) rfl ?_
  refine q_is (l' := [(.agg #[(Fl r1), (Fl r3), (Fl r5)]), (.agg #[(Fl r7), (Fl r9), (Fl r11)]), (Pt b14 0), (Pt b21 0), (Pt b29 0), (Pt b14 0), (Fl r1), (Pt b21 0), (Fl r7), (Fl r39), (Pt b14 1), (Fl r3), (Pt b21 1), (Fl r9), (Fl r44), (Pt b14 2), (Fl r5), (Pt b21 2), Ud, Ud, Ud]) rfl rfl (does_fieldAddr (ev rfl) fa30_2) rfl ?_
  refine q_is (l' := [(.agg #[(Fl r1), (Fl r3), (Fl r5)]), (.agg #[(Fl r7), (Fl r9), (Fl r11)]), (Pt b14 0), (Pt b21 0), (Pt b29 0), (Pt b14 0), (Fl r1), (Pt b21 0), (Fl r7), (Fl r39), (Pt b14 1), (Fl r3), (Pt b21 1), (Fl r9), (Fl r44), (Pt b14 2), (Fl r5), (Pt b21 2), (Fl r11), Ud, Ud]) rfl rfl (does_load (u := (Fl r11)) (ev rfl) Try.isAgg22 (Cells.at (Blk.cells (((hB23.ext E32).ext E41).ext E46)) 2 rfl)) rfl ?_
  refine seqd rfl rfl (does_float (.inl rfl) (ev rfl) (ev rfl)) ?_; rintro _ w52 ⟨r49, rfl, h50, E51⟩
  have X53 := Ext.gr X48 E51
  show wpList _ _ _ _ (fr [(.agg #[(Fl r1), (Fl r3), (Fl r5)]), (.agg #[(Fl r7), (Fl r9), (Fl r11)]), (Pt b14 0), (Pt b21 0), (Pt b29 0), (Pt b14 0), (Fl r1), (Pt b21 0), (Fl r7), (Fl r39), (Pt b14 1), (Fl r3), (Pt b21 1), (Fl r9), (Fl r44), (Pt b14 2), (Fl r5), (Pt b21 2), (Fl r11), (Fl r49), Ud]) _
  refine q_is (l' := [(.agg #[(Fl r1), (Fl r3), (Fl r5)]), (.agg #[(Fl r7), (Fl r9), (Fl r11)]), (Pt b14 0), (Pt b21 0), (Pt b29 0), (Pt b14 0), (Fl r1), (Pt b21 0), (Fl r7), (Fl r39), (Pt b14 1), (Fl r3), (Pt b21 1), (Fl r9), (Fl r44), (Pt b14 2), (Fl r5), (Pt b21 2), (Fl r11), (Fl r49), (.agg #[(Fl r39), (Fl r44), (Fl r49)])]) rfl rfl (does_build (parts' := [(0, (Fl r39)), (1, (Fl r44)), (2, (Fl r49))]) (cells := #[(Fl r39), (Fl r44), (Fl r49)]) (evp rfl) (by kernel_rfl)) rfl ?_
  refine seqn rfl rfl (does_store (n := 3) (cs := [(Fl 0), (Fl 0), (Fl 0)]) (u := (.agg #[(Fl r39), (Fl r44), (Fl r49)])) (ev rfl) (ev rfl) Try.sizeOf30 rfl (((hB31.ext E41).ext E46).ext E51) (Nat.le_of_ble_eq_true rfl) rfl) ?_; rintro _ w56 ⟨rfl, W54, hB55⟩
  change Blk _ _ [(Fl r39), (Fl r44), (Fl r49)] at hB55
  have X57 := Below.wr X53 W54 g36
  refine wpList_nil (hK38 _ _ ?_)
  refine wp_ret ?_
  refine ret_val (v := (.agg #[(Fl r39), (Fl r44), (Fl r49)])) (res_C rfl (slot rfl) (run_loadAgg (cs := [(Fl r39), (Fl r44), (Fl r49)]) Try.isAgg30 Try.sizeOf30 (Blk.cells hB55) rfl)) X57 ?_
  have x58 : cf .f32 r39 = (vadd A_a A_b).x := by first | rfl | (simp only [vadd, h2, h4, h6, h8, h10, h12, h40, h45, h50]; done) | (simp [vadd, h2, h4, h6, h8, h10, h12, h40, h45, h50]; done)
  have x59 : cf .f32 r44 = (vadd A_a A_b).y := by first | rfl | (simp only [vadd, h2, h4, h6, h8, h10, h12, h40, h45, h50]; done) | (simp [vadd, h2, h4, h6, h8, h10, h12, h40, h45, h50]; done)
  have x60 : cf .f32 r49 = (vadd A_a A_b).z := by first | rfl | (simp only [vadd, h2, h4, h6, h8, h10, h12, h40, h45, h50]; done) | (simp [vadd, h2, h4, h6, h8, h10, h12, h40, h45, h50]; done)
  exact ⟨[(Fl r39), (Fl r44), (Fl r49)], rfl, ⟨r39, r44, r49, rfl, x58, x59, x60⟩⟩

/- spec.l06Point -/
theorem c_spec_l06Point (low : List Value) (A_low : V3) (step : Nat) (x : Int) (y : Int) (z : Int) (w : World) (hv_low : RV3 w A_low low) : Gives Try.prog 73 #[(.agg low.toArray), (Fl step), (Iv x), (Iv y), (Iv z)] w (fun v w' => ∃ cs_1 : List Value, v = (.agg cs_1.toArray) ∧ RV3 w (ptG A_low (cf .f32 step) x y z) cs_1) := by
  obtain ⟨r1, r3, r5, rfl, h2, h4, h6⟩ := hv_low
  refine enter [(.agg #[(Fl r1), (Fl r3), (Fl r5)]), (Fl step), (Iv x), (Iv y), (Iv z), Ud, Ud, Ud, Ud, Ud, Ud, Ud, Ud, Ud, Ud, Ud, Ud, Ud, Ud, Ud, Ud, Ud, Ud, Ud, Ud, Ud, Ud, Ud] Try.func73 rfl Try.ntmps73 rfl ?_
  refine wp_seq_k fun K7 hK7 => ?_
  refine wp_region_lit ?_
  refine seqd rfl rfl (does_box (u := (.agg #[(Fl r1), (Fl r3), (Fl r5)])) (ev rfl)) ?_; rintro _ w12 ⟨b8, rfl, hb9, hB10, E11⟩
  have g13 : w.heap.size ≤ b8 := Nat.le_trans (Below.size (Ext.refl w)) hb9
  change Blk _ _ [(Fl r1), (Fl r3), (Fl r5)] at hB10
  have X14 := Ext.gr (Ext.refl w) E11
  show wpList _ _ _ _ (fr [(.agg #[(Fl r1), (Fl r3), (Fl r5)]), (Fl step), (Iv x), (Iv y), (Iv z), (Pt b8 0), Ud, Ud, Ud, Ud, Ud, Ud, Ud, Ud, Ud, Ud, Ud, Ud, Ud, Ud, Ud, Ud, Ud, Ud, Ud, Ud, Ud, Ud]) _
  refine seqd rfl rfl (does_alloc z30) ?_; rintro _ w19 ⟨b15, rfl, hb16, hB17, E18⟩
  have n20 : b8 < b15 := Nat.lt_of_lt_of_le (Blk.lt hB10) hb16
  have g21 : w.heap.size ≤ b15 := Nat.le_trans (Below.size X14) hb16
  change Blk _ _ [(Fl 0), (Fl 0), (Fl 0)] at hB17
  have X22 := Ext.gr X14 E18
  show wpList _ _ _ _ (fr [(.agg #[(Fl r1), (Fl r3), (Fl r5)]), (Fl step), (Iv x), (Iv y), (Iv z), (Pt b8 0), Ud, Ud, Ud, Ud, (Pt b15 0), Ud, Ud, Ud, Ud, Ud, Ud, Ud, Ud, Ud, Ud, Ud, Ud, Ud, Ud, Ud, Ud, Ud]) _
  refine wpList_nil (hK7 _ _ ?_)
  refine wp_seq_k fun K23 hK23 => ?_
  refine wp_region_lit ?_
  refine q_is (l' := [(.agg #[(Fl r1), (Fl r3), (Fl r5)]), (Fl step), (Iv x), (Iv y), (Iv z), (Pt b8 0), Ud, Ud, Ud, Ud, (Pt b15 0), Ud, (Fl step), Ud, Ud, Ud, Ud, Ud, Ud, Ud, Ud, Ud, Ud, Ud, Ud, Ud, Ud, Ud]) rfl rfl (does_move (u := (Fl step)) (ev rfl)) rfl ?_
  refine q_is (l' := [(.agg #[(Fl r1), (Fl r3), (Fl r5)]), (Fl step), (Iv x), (Iv y), (Iv z), (Pt b8 0), Ud, Ud, Ud, Ud, (Pt b15 0), Ud, (Fl step), (Iv x), Ud, Ud, Ud, Ud, Ud, Ud, Ud, Ud, Ud, Ud, Ud, Ud, Ud, Ud]) rfl rfl (does_move (u := (Iv x)) (ev rfl)) rfl ?_
  refine q_is (l' := [(.agg #[(Fl r1), (Fl r3), (Fl r5)]), (Fl step), (Iv x), (Iv y), (Iv z), (Pt b8 0), Ud, Ud, Ud, Ud, (Pt b15 0), Ud, (Fl step), (Iv x), (Fl (FloatKind.f32.nearest x)), Ud, Ud, Ud, Ud, Ud, Ud, Ud, Ud, Ud, Ud, Ud, Ud, Ud]) rfl rfl (does_conv_if (k := .f32) Try.underlying2 Try.underlying22 (ev rfl)) rfl ?_
  refine seqd rfl rfl (does_float (.inr (.inr (.inl rfl))) (ev rfl) (ev rfl)) ?_; rintro _ w27 ⟨r24, rfl, h25, E26⟩
  have X28 := Ext.gr X22 E26
  show wpList _ _ _ _ (fr [(.agg #[(Fl r1), (Fl r3), (Fl r5)]), (Fl step), (Iv x), (Iv y), (Iv z), (Pt b8 0), Ud, Ud, Ud, Ud, (Pt b15 0), Ud, (Fl step), (Iv x), (Fl (FloatKind.f32.nearest x)), (Fl r24), Ud, Ud, Ud, Ud, Ud, Ud, Ud, Ud, Ud, Ud, Ud, Ud]) _
  refine q_is (l' := [(.agg #[(Fl r1), (Fl r3), (Fl r5)]), (Fl step), (Iv x), (Iv y), (Iv z), (Pt b8 0), Ud, Ud, Ud, Ud, (Pt b15 0), Ud, (Fl step), (Iv x), (Fl (FloatKind.f32.nearest x)), (Fl r24), (Fl step), Ud, Ud, Ud, Ud, Ud, Ud, Ud, Ud, Ud, Ud, Ud]) rfl rfl (does_move (u := (Fl step)) (ev rfl)) rfl ?_
  refine q_is (l' := [(.agg #[(Fl r1), (Fl r3), (Fl r5)]), (Fl step), (Iv x), (Iv y), (Iv z), (Pt b8 0), Ud, Ud, Ud, Ud, (Pt b15 0), Ud, (Fl step), (Iv x), (Fl (FloatKind.f32.nearest x)), (Fl r24), (Fl step), (Iv y), Ud, Ud, Ud, Ud, Ud, Ud, Ud, Ud, Ud, Ud]) rfl rfl (does_move (u := (Iv y)) (ev rfl)) rfl ?_
  refine q_is (l' := [(.agg #[(Fl r1), (Fl r3), (Fl r5)]), (Fl step), (Iv x), (Iv y), (Iv z), (Pt b8 0), Ud, Ud, Ud, Ud, (Pt b15 0), Ud, (Fl step), (Iv x), (Fl (FloatKind.f32.nearest x)), (Fl r24), (Fl step), (Iv y), (Fl (FloatKind.f32.nearest y)), Ud, Ud, Ud, Ud, Ud, Ud, Ud, Ud, Ud]) rfl rfl (does_conv_if (k := .f32) Try.underlying2 Try.underlying22 (ev rfl)) rfl ?_
  refine seqd rfl rfl (does_float (.inr (.inr (.inl rfl))) (ev rfl) (ev rfl)) ?_; rintro _ w32 ⟨r29, rfl, h30, E31⟩
  have X33 := Ext.gr X28 E31
  show wpList _ _ _ _ (fr [(.agg #[(Fl r1), (Fl r3), (Fl r5)]), (Fl step), (Iv x), (Iv y), (Iv z), (Pt b8 0), Ud, Ud, Ud, Ud, (Pt b15 0), Ud, (Fl step), (Iv x), (Fl (FloatKind.f32.nearest x)), (Fl r24), (Fl step), (Iv y), (Fl (FloatKind.f32.nearest y)), (Fl r29), Ud, Ud, Ud, Ud, Ud, Ud, Ud, Ud]) _
  refine q_is (l' := [(.agg #[(Fl r1), (Fl r3), (Fl r5)]), (Fl step), (Iv x), (Iv y), (Iv z), (Pt b8 0), Ud, Ud, Ud, Ud, (Pt b15 0), Ud, (Fl step), (Iv x), (Fl (FloatKind.f32.nearest x)), (Fl r24), (Fl step), (Iv y), (Fl (FloatKind.f32.nearest y)), (Fl r29), (Fl step), Ud, Ud, Ud, Ud, Ud, Ud, Ud]) rfl rfl (does_move (u := (Fl step)) (ev rfl)) rfl ?_
  refine q_is (l' := [(.agg #[(Fl r1), (Fl r3), (Fl r5)]), (Fl step), (Iv x), (Iv y), (Iv z), (Pt b8 0), Ud, Ud, Ud, Ud, (Pt b15 0), Ud, (Fl step), (Iv x), (Fl (FloatKind.f32.nearest x)), (Fl r24), (Fl step), (Iv y), (Fl (FloatKind.f32.nearest y)), (Fl r29), (Fl step), (Iv z), Ud, Ud, Ud, Ud, Ud, Ud]) rfl rfl (does_move (u := (Iv z)) (ev rfl)) rfl ?_
  refine q_is (l' := [(.agg #[(Fl r1), (Fl r3), (Fl r5)]), (Fl step), (Iv x), (Iv y), (Iv z), (Pt b8 0), Ud, Ud, Ud, Ud, (Pt b15 0), Ud, (Fl step), (Iv x), (Fl (FloatKind.f32.nearest x)), (Fl r24), (Fl step), (Iv y), (Fl (FloatKind.f32.nearest y)), (Fl r29), (Fl step), (Iv z), (Fl (FloatKind.f32.nearest z)), Ud, Ud, Ud, Ud, Ud]) rfl rfl (does_conv_if (k := .f32) Try.underlying2 Try.underlying22 (ev rfl)) rfl ?_
  refine seqd rfl rfl (does_float (.inr (.inr (.inl rfl))) (ev rfl) (ev rfl)) ?_; rintro _ w37 ⟨r34, rfl, h35, E36⟩
  have X38 := Ext.gr X33 E36
  show wpList _ _ _ _ (fr [(.agg #[(Fl r1), (Fl r3), (Fl r5)]), (Fl step), (Iv x), (Iv y), (Iv z), (Pt b8 0), Ud, Ud, Ud, Ud, (Pt b15 0), Ud, (Fl step), (Iv x), (Fl (FloatKind.f32.nearest x)), (Fl r24), (Fl step), (Iv y), (Fl (FloatKind.f32.nearest y)), (Fl r29), (Fl step), (Iv z), (Fl (FloatKind.f32.nearest z)), (Fl r34), Ud, Ud, Ud, Ud]) _
  refine q_is (l' := [(.agg #[(Fl r1), (Fl r3), (Fl r5)]), (Fl step), (Iv x), (Iv y), (Iv z), (Pt b8 0), Ud, Ud, Ud, Ud, (Pt b15 0), Ud, (Fl step), (Iv x), (Fl (FloatKind.f32.nearest x)), (Fl r24), (Fl step), (Iv y), (Fl (FloatKind.f32.nearest y)), (Fl r29), (Fl step), (Iv z), (Fl (FloatKind.f32.nearest z)), (Fl r34), (.agg #[(Fl r24), (Fl r29), (Fl r34)]), Ud, Ud, Ud]) rfl rfl (does_build (parts' := [(0, (Fl r24)), (1, (Fl r29)), (2, (Fl r34))]) (cells := #[(Fl r24), (Fl r29), (Fl r34)]) (evp rfl) (by kernel_rfl)) rfl ?_
  refine seqd rfl rfl (does_alloc z30) ?_; rintro _ w43 ⟨b39, rfl, hb40, hB41, E42⟩
  have n44 : b8 < b39 := Nat.lt_of_lt_of_le (Blk.lt ((((hB10.ext E18).ext E26).ext E31).ext E36)) hb40
  have n45 : b15 < b39 := Nat.lt_of_lt_of_le (Blk.lt (((hB17.ext E26).ext E31).ext E36)) hb40
  have g46 : w.heap.size ≤ b39 := Nat.le_trans (Below.size X38) hb40
  change Blk _ _ [(Fl 0), (Fl 0), (Fl 0)] at hB41
  have X47 := Ext.gr X38 E42
  show wpList _ _ _ _ (fr [(.agg #[(Fl r1), (Fl r3), (Fl r5)]), (Fl step), (Iv x), (Iv y), (Iv z), (Pt b8 0), Ud, Ud, Ud, Ud, (Pt b15 0), (Pt b39 0), (Fl step), (Iv x), (Fl (FloatKind.f32.nearest x)), (Fl r24), (Fl step), (Iv y), (Fl (FloatKind.f32.nearest y)), (Fl r29), (Fl step), (Iv z), (Fl (FloatKind.f32.nearest z)), (Fl r34), (.agg #[(Fl r24), (Fl r29), (Fl r34)]), Ud, Ud, Ud]) _
  refine seqn rfl rfl (does_store (n := 3) (cs := [(Fl 0), (Fl 0), (Fl 0)]) (u := (.agg #[(Fl r24), (Fl r29), (Fl r34)])) (ev rfl) (ev rfl) Try.sizeOf30 rfl hB41 (Nat.le_of_ble_eq_true rfl) rfl) ?_; rintro _ w50 ⟨rfl, W48, hB49⟩
  change Blk _ _ [(Fl r24), (Fl r29), (Fl r34)] at hB49
  have X51 := Below.wr X47 W48 g46
  refine wpList_nil (hK23 _ _ ?_)
  refine wp_seq_k fun K52 hK52 => ?_
  refine wp_region_lit ?_
  refine q_is (l' := [(.agg #[(Fl r1), (Fl r3), (Fl r5)]), (Fl step), (Iv x), (Iv y), (Iv z), (Pt b8 0), Ud, Ud, Ud, Ud, (Pt b15 0), (Pt b39 0), (Fl step), (Iv x), (Fl (FloatKind.f32.nearest x)), (Fl r24), (Fl step), (Iv y), (Fl (FloatKind.f32.nearest y)), (Fl r29), (Fl step), (Iv z), (Fl (FloatKind.f32.nearest z)), (Fl r34), (.agg #[(Fl r24), (Fl r29), (Fl r34)]), (.agg #[(Fl r1), (Fl r3), (Fl r5)]), Ud, Ud]) rfl rfl (does_loadAgg (cs := [(Fl r1), (Fl r3), (Fl r5)]) (ev rfl) Try.isAgg30 Try.sizeOf30 (Blk.cells ((((((hB10.ext E18).ext E26).ext E31).ext E36).ext E42).wr W48 (Nat.ne_of_lt n44))) rfl) rfl ?_
  refine q_is (l' := [(.agg #[(Fl r1), (Fl r3), (Fl r5)]), (Fl step), (Iv x), (Iv y), (Iv z), (Pt b8 0), Ud, Ud, Ud, Ud, (Pt b15 0), (Pt b39 0), (Fl step), (Iv x), (Fl (FloatKind.f32.nearest x)), (Fl r24), (Fl step), (Iv y), (Fl (FloatKind.f32.nearest y)), (Fl r29), (Fl step), (Iv z), (Fl (FloatKind.f32.nearest z)), (Fl r34), (.agg #[(Fl r24), (Fl r29), (Fl r34)]), (.agg #[(Fl r1), (Fl r3), (Fl r5)]), (.agg #[(Fl r24), (Fl r29), (Fl r34)]), Ud]) rfl rfl (does_loadAgg (cs := [(Fl r24), (Fl r29), (Fl r34)]) (ev rfl) Try.isAgg30 Try.sizeOf30 (Blk.cells hB49) rfl) rfl ?_
  refine seqd rfl rfl (does_call (args := #[(.agg #[(Fl r1), (Fl r3), (Fl r5)]), (.agg #[(Fl r24), (Fl r29), (Fl r34)])]) cal109 (evs rfl) (c_spec_l01Add [(Fl r1), (Fl r3), (Fl r5)] A_low [(Fl r24), (Fl r29), (Fl r34)] (V3.mk (cf .f32 r24) (cf .f32 r29) (cf .f32 r34)) _ ⟨r1, r3, r5, rfl, h2, h4, h6⟩ ⟨r24, r29, r34, rfl, rfl, rfl, rfl⟩)) ?_; rintro _ w54 ⟨E53, ⟨_, rfl, ⟨r55, r57, r59, rfl, h56, h58, h60⟩⟩⟩
  have X61 := Ext.gr X51 E53
  show wpList _ _ _ _ (fr [(.agg #[(Fl r1), (Fl r3), (Fl r5)]), (Fl step), (Iv x), (Iv y), (Iv z), (Pt b8 0), Ud, Ud, Ud, Ud, (Pt b15 0), (Pt b39 0), (Fl step), (Iv x), (Fl (FloatKind.f32.nearest x)), (Fl r24), (Fl step), (Iv y), (Fl (FloatKind.f32.nearest y)), (Fl r29), (Fl step), (Iv z), (Fl (FloatKind.f32.nearest z)), (Fl r34), (.agg #[(Fl r24), (Fl r29), (Fl r34)]), (.agg #[(Fl r1), (Fl r3), (Fl r5)]), (.agg #[(Fl r24), (Fl r29), (Fl r34)]), (.agg #[(Fl r55), (Fl r57), (Fl r59)])]) _
  refine seqn rfl rfl (does_store (n := 3) (cs := [(Fl 0), (Fl 0), (Fl 0)]) (u := (.agg #[(Fl r55), (Fl r57), (Fl r59)])) (ev rfl) (ev rfl) Try.sizeOf30 rfl ((((((hB17.ext E26).ext E31).ext E36).ext E42).wr W48 (Nat.ne_of_lt n45)).ext E53) (Nat.le_of_ble_eq_true rfl) rfl) ?_; rintro _ w64 ⟨rfl, W62, hB63⟩
  change Blk _ _ [(Fl r55), (Fl r57), (Fl r59)] at hB63
  have X65 := Below.wr X61 W62 g21
  refine wpList_nil (hK52 _ _ ?_)
  refine wp_ret ?_
  refine ret_val (v := (.agg #[(Fl r55), (Fl r57), (Fl r59)])) (res_C rfl (slot rfl) (run_loadAgg (cs := [(Fl r55), (Fl r57), (Fl r59)]) Try.isAgg30 Try.sizeOf30 (Blk.cells hB63) rfl)) X65 ?_
  have x66 : cf .f32 r55 = (ptG A_low (cf .f32 step) x y z).x := by first | rfl | (simp only [ptG, nrF, h2, h4, h6, h25, h30, h35, h56, h58, h60]; done) | (simp [ptG, nrF, h2, h4, h6, h25, h30, h35, h56, h58, h60]; done)
  have x67 : cf .f32 r57 = (ptG A_low (cf .f32 step) x y z).y := by first | rfl | (simp only [ptG, nrF, h2, h4, h6, h25, h30, h35, h56, h58, h60]; done) | (simp [ptG, nrF, h2, h4, h6, h25, h30, h35, h56, h58, h60]; done)
  have x68 : cf .f32 r59 = (ptG A_low (cf .f32 step) x y z).z := by first | rfl | (simp only [ptG, nrF, h2, h4, h6, h25, h30, h35, h56, h58, h60]; done) | (simp [ptG, nrF, h2, h4, h6, h25, h30, h35, h56, h58, h60]; done)
  exact ⟨[(Fl r55), (Fl r57), (Fl r59)], rfl, ⟨r55, r57, r59, rfl, x66, x67, x68⟩⟩

/- spec.GridPoint -/
theorem c_spec_GridPoint (g : List Value) (A_g : GridT) (x : Int) (y : Int) (z : Int) (w : World) (hv_g : RGridT w A_g g) : Gives Try.prog 27 #[(.agg g.toArray), (Iv x), (Iv y), (Iv z)] w (fun v w' => ∃ cs_1 : List Value, v = (.tuple #[(.agg cs_1.toArray), (Bo (hasOk A_g x y z))]) ∧ RV3 w (gvV (hasOk A_g x y z) (ptG A_g.low A_g.step x y z)) cs_1) := by
  obtain ⟨r1, r3, r5, r7, y9, rfl, h2, h4, h6, h8, h10⟩ := hv_g
  have hs13 := h10; have hs13l := Sl.len h10; obtain ⟨p11, q12, rfl⟩ := Sl.shape h10
  refine enter [(.agg #[(Fl r1), (Fl r3), (Fl r5), (Fl r7), (Iv A_g.x), (Iv A_g.y), (Iv A_g.z), (.slice p11 A_g.vals.length q12)]), (Iv x), (Iv y), (Iv z), Ud, Ud, Ud, Ud, Ud, Ud, Ud, Ud, Ud, Ud, Ud, Ud, Ud, Ud, Ud, Ud, Ud, Ud, Ud, Ud, Ud, Ud, Ud, Ud] Try.func27 rfl Try.ntmps27 rfl ?_
  refine wp_seq_k fun K14 hK14 => ?_
  refine wp_region_lit ?_
  refine seqd rfl rfl (does_box (u := (.agg #[(Fl r1), (Fl r3), (Fl r5), (Fl r7), (Iv A_g.x), (Iv A_g.y), (Iv A_g.z), (.slice p11 A_g.vals.length q12)])) (ev rfl)) ?_; rintro _ w19 ⟨b15, rfl, hb16, hB17, E18⟩
  have g20 : w.heap.size ≤ b15 := Nat.le_trans (Below.size (Ext.refl w)) hb16
  change Blk _ _ [(Fl r1), (Fl r3), (Fl r5), (Fl r7), (Iv A_g.x), (Iv A_g.y), (Iv A_g.z), (.slice p11 A_g.vals.length q12)] at hB17
  have X21 := Ext.gr (Ext.refl w) E18
  show wpList _ _ _ _ (fr [(.agg #[(Fl r1), (Fl r3), (Fl r5), (Fl r7), (Iv A_g.x), (Iv A_g.y), (Iv A_g.z), (.slice p11 A_g.vals.length q12)]), (Iv x), (Iv y), (Iv z), (Pt b15 0), Ud, Ud, Ud, Ud, Ud, Ud, Ud, Ud, Ud, Ud, Ud, Ud, Ud, Ud, Ud, Ud, Ud, Ud, Ud, Ud, Ud, Ud, Ud]) _
  refine seqd rfl rfl (does_alloc z30) ?_; rintro _ w26 ⟨b22, rfl, hb23, hB24, E25⟩
  have n27 : b15 < b22 := Nat.lt_of_lt_of_le (Blk.lt hB17) hb23
  have g28 : w.heap.size ≤ b22 := Nat.le_trans (Below.size X21) hb23
  change Blk _ _ [(Fl 0), (Fl 0), (Fl 0)] at hB24
  have X29 := Ext.gr X21 E25
  show wpList _ _ _ _ (fr [(.agg #[(Fl r1), (Fl r3), (Fl r5), (Fl r7), (Iv A_g.x), (Iv A_g.y), (Iv A_g.z), (.slice p11 A_g.vals.length q12)]), (Iv x), (Iv y), (Iv z), (Pt b15 0), Ud, Ud, Ud, (Pt b22 0), Ud, Ud, Ud, Ud, Ud, Ud, Ud, Ud, Ud, Ud, Ud, Ud, Ud, Ud, Ud, Ud, Ud, Ud, Ud]) _
  refine q_is (l' := [(.agg #[(Fl r1), (Fl r3), (Fl r5), (Fl r7), (Iv A_g.x), (Iv A_g.y), (Iv A_g.z), (.slice p11 A_g.vals.length q12)]), (Iv x), (Iv y), (Iv z), (Pt b15 0), Ud, Ud, Ud, (Pt b22 0), (Bo false), Ud, Ud, Ud, Ud, Ud, Ud, Ud, Ud, Ud, Ud, Ud, Ud, Ud, Ud, Ud, Ud, Ud, Ud]) rfl rfl (does_assign (u := (Bo false)) (ev rfl)) rfl ?_
  refine wpList_nil (hK14 _ _ ?_)
  refine wp_seq_k fun K30 hK30 => ?_
  refine wp_seq_k fun K31 hK31 => ?_
  obtain ⟨β1, hβ1⟩ : ∃ b : Bool, b = ((!(isGrid A_g)) || (!(hasG A_g x y z))) := ⟨_, rfl⟩
  refine region_text (
    [Fact.pure [] (fun v => v = (Bo (isGrid A_g))),
    Fact.pure [10] (fun v => v = (Bo (!(isGrid A_g)))),
    Fact.pure [11] (fun v => v = (Bo (!(isGrid A_g)))),
    Fact.pure [12] (fun v => (!(isGrid A_g)) = false → v = (Iv x)),
    Fact.pure [12] (fun v => (!(isGrid A_g)) = false → v = (Iv y)),
    Fact.pure [12] (fun v => (!(isGrid A_g)) = false → v = (Iv z)),
    Fact.pure [13, 14, 15, 12] (fun v => (!(isGrid A_g)) = false → v = (Bo (hasG A_g x y z))),
    Fact.pure [16, 12] (fun v => (!(isGrid A_g)) = false → v = (Bo (!(hasG A_g x y z)))),
    Fact.pure [12, 17] (fun v => v = (Bo β1))]) (by simp [Fact.pure, Fact.mem]) ?_
  refine RW_d (fun v32 => [(.agg #[(Fl r1), (Fl r3), (Fl r5), (Fl r7), (Iv A_g.x), (Iv A_g.y), (Iv A_g.z), (.slice p11 A_g.vals.length q12)]), (Iv x), (Iv y), (Iv z), (Pt b15 0), Ud, Ud, Ud, (Pt b22 0), (Bo false), v32, Ud, Ud, Ud, Ud, Ud, Ud, Ud, Ud, Ud, Ud, Ud, Ud, Ud, Ud, Ud, Ud, Ud]) rfl (fun _ => rfl) (fun u hu hF => ?_) (fun v32 => ?_)
  · clear hF
    refine doesG_un rfl ?_
    refine (does_call (args := #[(Pt b15 0)]) cal61 (evs rfl) (c_spec_l06Is b15 0 [(Fl r1), (Fl r3), (Fl r5), (Fl r7), (Iv A_g.x), (Iv A_g.y), (Iv A_g.z), (.slice p11 A_g.vals.length q12)] A_g _ (Blk.cells ((hB17.ext E25).ext hu)) ⟨r1, r3, r5, r7, (.slice p11 A_g.vals.length q12), rfl, h2, h4, h6, h8, (Sl.ext (Sl.ext hs13 RF.mono X29) RF.mono hu)⟩)).mono ?_; rintro v u' ⟨hx, hv⟩
    exact ⟨hv, hx⟩
  refine RW_d (fun v33 => [(.agg #[(Fl r1), (Fl r3), (Fl r5), (Fl r7), (Iv A_g.x), (Iv A_g.y), (Iv A_g.z), (.slice p11 A_g.vals.length q12)]), (Iv x), (Iv y), (Iv z), (Pt b15 0), Ud, Ud, Ud, (Pt b22 0), (Bo false), v32, v33, Ud, Ud, Ud, Ud, Ud, Ud, Ud, Ud, Ud, Ud, Ud, Ud, Ud, Ud, Ud, Ud]) rfl (fun _ => rfl) (fun u hu hF => ?_) (fun v33 => ?_)
  · have h10_ : v32 = (Bo (isGrid A_g)) := hF.1
    clear hF
    obtain rfl := h10_
    refine doesG_un rfl ?_
    refine (does_not (ev rfl)).mono ?_; rintro _ _ ⟨rfl, rfl⟩
    exact ⟨rfl, Ext.refl _⟩
  refine RW_d (fun v34 => [(.agg #[(Fl r1), (Fl r3), (Fl r5), (Fl r7), (Iv A_g.x), (Iv A_g.y), (Iv A_g.z), (.slice p11 A_g.vals.length q12)]), (Iv x), (Iv y), (Iv z), (Pt b15 0), Ud, Ud, Ud, (Pt b22 0), (Bo false), v32, v33, v34, Ud, Ud, Ud, Ud, Ud, Ud, Ud, Ud, Ud, Ud, Ud, Ud, Ud, Ud, Ud]) rfl (fun _ => rfl) (fun u hu hF => ?_) (fun v34 => ?_)
  · have h11_ : v33 = (Bo (!(isGrid A_g))) := hF.1
    clear hF
    obtain rfl := h11_
    refine doesG_un rfl ?_
    refine (does_move (u := (Bo (!(isGrid A_g)))) (ev rfl)).mono ?_; rintro _ _ ⟨rfl, rfl⟩
    exact ⟨rfl, Ext.refl _⟩
  refine RW_d (fun v35 => [(.agg #[(Fl r1), (Fl r3), (Fl r5), (Fl r7), (Iv A_g.x), (Iv A_g.y), (Iv A_g.z), (.slice p11 A_g.vals.length q12)]), (Iv x), (Iv y), (Iv z), (Pt b15 0), Ud, Ud, Ud, (Pt b22 0), (Bo false), v32, v33, v34, v35, Ud, Ud, Ud, Ud, Ud, Ud, Ud, Ud, Ud, Ud, Ud, Ud, Ud, Ud]) rfl (fun _ => rfl) (fun u hu hF => ?_) (fun v35 => ?_)
  · have h12_ : v34 = (Bo (!(isGrid A_g))) := hF.1
    clear hF
    obtain rfl := h12_
    refine doesG_g (b := (!(isGrid A_g))) rfl (yld rfl rfl) (fun hg => ?_) (fun hg => ⟨fun h => absurd h hg, Ext.refl _⟩)
    refine (does_move (u := (Iv x)) (ev rfl)).mono ?_; rintro _ _ ⟨rfl, rfl⟩
    exact ⟨fun _ => rfl, Ext.refl _⟩
  refine RW_d (fun v36 => [(.agg #[(Fl r1), (Fl r3), (Fl r5), (Fl r7), (Iv A_g.x), (Iv A_g.y), (Iv A_g.z), (.slice p11 A_g.vals.length q12)]), (Iv x), (Iv y), (Iv z), (Pt b15 0), Ud, Ud, Ud, (Pt b22 0), (Bo false), v32, v33, v34, v35, v36, Ud, Ud, Ud, Ud, Ud, Ud, Ud, Ud, Ud, Ud, Ud, Ud, Ud]) rfl (fun _ => rfl) (fun u hu hF => ?_) (fun v36 => ?_)
  · have h12_ : v34 = (Bo (!(isGrid A_g))) := hF.1
    clear hF
    obtain rfl := h12_
    refine doesG_g (b := (!(isGrid A_g))) rfl (yld rfl rfl) (fun hg => ?_) (fun hg => ⟨fun h => absurd h hg, Ext.refl _⟩)
    refine (does_move (u := (Iv y)) (ev rfl)).mono ?_; rintro _ _ ⟨rfl, rfl⟩
    exact ⟨fun _ => rfl, Ext.refl _⟩
  refine RW_d (fun v37 => [(.agg #[(Fl r1), (Fl r3), (Fl r5), (Fl r7), (Iv A_g.x), (Iv A_g.y), (Iv A_g.z), (.slice p11 A_g.vals.length q12)]), (Iv x), (Iv y), (Iv z), (Pt b15 0), Ud, Ud, Ud, (Pt b22 0), (Bo false), v32, v33, v34, v35, v36, v37, Ud, Ud, Ud, Ud, Ud, Ud, Ud, Ud, Ud, Ud, Ud, Ud]) rfl (fun _ => rfl) (fun u hu hF => ?_) (fun v37 => ?_)
  · have h12_ : v34 = (Bo (!(isGrid A_g))) := hF.1
    clear hF
    obtain rfl := h12_
    refine doesG_g (b := (!(isGrid A_g))) rfl (yld rfl rfl) (fun hg => ?_) (fun hg => ⟨fun h => absurd h hg, Ext.refl _⟩)
    refine (does_move (u := (Iv z)) (ev rfl)).mono ?_; rintro _ _ ⟨rfl, rfl⟩
    exact ⟨fun _ => rfl, Ext.refl _⟩
  refine RW_d (fun v38 => [(.agg #[(Fl r1), (Fl r3), (Fl r5), (Fl r7), (Iv A_g.x), (Iv A_g.y), (Iv A_g.z), (.slice p11 A_g.vals.length q12)]), (Iv x), (Iv y), (Iv z), (Pt b15 0), Ud, Ud, Ud, (Pt b22 0), (Bo false), v32, v33, v34, v35, v36, v37, v38, Ud, Ud, Ud, Ud, Ud, Ud, Ud, Ud, Ud, Ud, Ud]) rfl (fun _ => rfl) (fun u hu hF => ?_) (fun v38 => ?_)
  · have h13_ : (!(isGrid A_g)) = false → v35 = (Iv x) := hF.1
    have h14_ : (!(isGrid A_g)) = false → v36 = (Iv y) := hF.2.1
    have h15_ : (!(isGrid A_g)) = false → v37 = (Iv z) := hF.2.2.1
    have h12_ : v34 = (Bo (!(isGrid A_g))) := hF.2.2.2.1
    clear hF
    obtain rfl := h12_
    refine doesG_g (b := (!(isGrid A_g))) rfl (yld rfl rfl) (fun hg => ?_) (fun hg => ⟨fun h => absurd h hg, Ext.refl _⟩)
    obtain rfl := h13_ hg
    obtain rfl := h14_ hg
    obtain rfl := h15_ hg
    refine (does_call (args := #[(Pt b15 0), (Iv x), (Iv y), (Iv z)]) cal68 (evs rfl) (c_spec_l06Has b15 0 [(Fl r1), (Fl r3), (Fl r5), (Fl r7), (Iv A_g.x), (Iv A_g.y), (Iv A_g.z), (.slice p11 A_g.vals.length q12)] A_g x y z _ (Blk.cells ((hB17.ext E25).ext hu)) ⟨r1, r3, r5, r7, (.slice p11 A_g.vals.length q12), rfl, h2, h4, h6, h8, (Sl.ext (Sl.ext hs13 RF.mono X29) RF.mono hu)⟩)).mono ?_; rintro v u' ⟨hx, hv⟩
    exact ⟨fun _ => hv, hx⟩
  refine RW_d (fun v39 => [(.agg #[(Fl r1), (Fl r3), (Fl r5), (Fl r7), (Iv A_g.x), (Iv A_g.y), (Iv A_g.z), (.slice p11 A_g.vals.length q12)]), (Iv x), (Iv y), (Iv z), (Pt b15 0), Ud, Ud, Ud, (Pt b22 0), (Bo false), v32, v33, v34, v35, v36, v37, v38, v39, Ud, Ud, Ud, Ud, Ud, Ud, Ud, Ud, Ud, Ud]) rfl (fun _ => rfl) (fun u hu hF => ?_) (fun v39 => ?_)
  · have h16_ : (!(isGrid A_g)) = false → v38 = (Bo (hasG A_g x y z)) := hF.1
    have h12_ : v34 = (Bo (!(isGrid A_g))) := hF.2.1
    clear hF
    obtain rfl := h12_
    refine doesG_g (b := (!(isGrid A_g))) rfl (yld rfl rfl) (fun hg => ?_) (fun hg => ⟨fun h => absurd h hg, Ext.refl _⟩)
    obtain rfl := h16_ hg
    refine (does_not (ev rfl)).mono ?_; rintro _ _ ⟨rfl, rfl⟩
    exact ⟨fun _ => rfl, Ext.refl _⟩
  refine RW_d (fun v40 => [(.agg #[(Fl r1), (Fl r3), (Fl r5), (Fl r7), (Iv A_g.x), (Iv A_g.y), (Iv A_g.z), (.slice p11 A_g.vals.length q12)]), (Iv x), (Iv y), (Iv z), (Pt b15 0), Ud, Ud, Ud, (Pt b22 0), (Bo false), v32, v33, v34, v35, v36, v37, v38, v39, v40, Ud, Ud, Ud, Ud, Ud, Ud, Ud, Ud, Ud]) rfl (fun _ => rfl) (fun u hu hF => ?_) (fun v40 => ?_)
  · have h12_ : v34 = (Bo (!(isGrid A_g))) := hF.1
    have h17_ : (!(isGrid A_g)) = false → v39 = (Bo (!(hasG A_g x y z))) := hF.2.1
    clear hF
    obtain rfl := h12_
    refine doesG_un rfl ((does_pick (b := (!(isGrid A_g))) (ev rfl) (ev rfl) (ev rfl)).mono ?_); rintro _ _ ⟨rfl, rfl⟩; refine ⟨?_, Ext.refl _⟩; rw [hβ1]; skip
    cases hbb : (!(isGrid A_g)) <;> simp [hbb] at h17_ ⊢
    all_goals (first | rfl | (subst h17_; rfl) | simp_all)
  refine RW_fin ?_; intro w41 E42 hP43
  obtain ⟨⟨⟨⟨⟨⟨⟨⟨⟨-, -⟩, -⟩, -⟩, -⟩, -⟩, -⟩, -⟩, -⟩, q44⟩ := hP43
  have X45 := Ext.gr X29 E42
  have q44 : v40 = (Bo β1) := q44
  obtain rfl := q44
  show wpList _ _ _ _ (fr [(.agg #[(Fl r1), (Fl r3), (Fl r5), (Fl r7), (Iv A_g.x), (Iv A_g.y), (Iv A_g.z), (.slice p11 A_g.vals.length q12)]), (Iv x), (Iv y), (Iv z), (Pt b15 0), Ud, Ud, Ud, (Pt b22 0), (Bo false), v32, v33, v34, v35, v36, v37, v38, v39, (Bo β1), Ud, Ud, Ud, Ud, Ud, Ud, Ud, Ud, Ud]) _
  refine wpList_nil (hK31 _ _ ?_)
  refine wp_cond_split (t := β1) (ev rfl) (fun c46 => ?_) (fun c46 => ?_)
  · have c46' := c46
    (try simp only [hβ1] at c46')
    (try simp only [icmp, Bool.and_eq_true, Bool.or_eq_true, Bool.and_eq_false_iff, Bool.or_eq_false_iff, Bool.not_eq_true', Bool.not_eq_false', decide_eq_true_eq, decide_eq_false_iff_not, beq_iff_eq, bne_iff_ne, beq_eq_false_iff_ne, bne_eq_false_iff_eq] at c46')
    refine wp_seq_k fun K47 hK47 => ?_
    refine wp_region_lit ?_
    refine q_is (l' := [(.agg #[(Fl r1), (Fl r3), (Fl r5), (Fl r7), (Iv A_g.x), (Iv A_g.y), (Iv A_g.z), (.slice p11 A_g.vals.length q12)]), (Iv x), (Iv y), (Iv z), (Pt b15 0), Ud, Ud, Ud, (Pt b22 0), (Bo false), v32, v33, v34, v35, v36, v37, v38, v39, (Bo β1), (.agg #[(Fl 0), (Fl 0), (Fl 0)]), Ud, Ud, Ud, Ud, Ud, Ud, Ud, Ud]) rfl rfl (does_build (parts' := []) (cells := #[(Fl 0), (Fl 0), (Fl 0)]) (evp rfl) (by kernel_rfl)) rfl ?_
    refine seqn rfl rfl (does_store (n := 3) (cs := [(Fl 0), (Fl 0), (Fl 0)]) (u := (.agg #[(Fl 0), (Fl 0), (Fl 0)])) (ev rfl) (ev rfl) Try.sizeOf30 rfl (hB24.ext E42) (Nat.le_of_ble_eq_true rfl) rfl) ?_; rintro _ w50 ⟨rfl, W48, hB49⟩
    change Blk _ _ [(Fl 0), (Fl 0), (Fl 0)] at hB49
    have X51 := Below.wr X45 W48 g28
    refine q_is (l' := [(.agg #[(Fl r1), (Fl r3), (Fl r5), (Fl r7), (Iv A_g.x), (Iv A_g.y), (Iv A_g.z), (.slice p11 A_g.vals.length q12)]), (Iv x), (Iv y), (Iv z), (Pt b15 0), Ud, Ud, Ud, (Pt b22 0), (Bo false), v32, v33, v34, v35, v36, v37, v38, v39, (Bo β1), (.agg #[(Fl 0), (Fl 0), (Fl 0)]), Ud, Ud, Ud, Ud, Ud, Ud, Ud, Ud]) rfl rfl (does_assign (u := (Bo false)) (ev rfl)) rfl ?_
    refine wpList_nil (hK47 _ _ ?_)
    refine wp_ret ?_
    dsimp only [Exit.then, Exit.inBlock]
    refine ret_val (v := (.tuple #[(.agg #[(Fl 0), (Fl 0), (Fl 0)]), (Bo false)])) (res_CT rfl (slot rfl) (run_loadAgg (cs := [(Fl 0), (Fl 0), (Fl 0)]) Try.isAgg30 Try.sizeOf30 (Blk.cells hB49) rfl) (slot rfl)) X51 ?_
    try simp only [h2, h4, h6, h8, hβ1] at c46
    have x52 : (hasOk A_g x y z) = false := by first | rfl | (simp only [gvV_t, gvV_f, zV, h2, h4, h6, h8, hβ1, c46]; done) | exact hasOk_f (by assumption) | exact hasOk_t (by assumption) | assumption | (rw [hasOk_f (by assumption)]; rfl) | (rw [‹hasOk A_g x y z = false›]; rfl) | (rw [hasOk_t (by assumption)]; simp only [gvV_t, gvV_f, zV, h2, h4, h6, h8, hβ1, c46]; done)
    have x53 : cf .f32 0 = (gvV (hasOk A_g x y z) (ptG A_g.low A_g.step x y z)).x := by first | rfl | (simp only [gvV_t, gvV_f, zV, h2, h4, h6, h8, hβ1, c46]; done) | exact hasOk_f (by assumption) | exact hasOk_t (by assumption) | assumption | (rw [hasOk_f (by assumption)]; rfl) | (rw [‹hasOk A_g x y z = false›]; rfl) | (rw [hasOk_t (by assumption)]; simp only [gvV_t, gvV_f, zV, h2, h4, h6, h8, hβ1, c46]; done)
    have x54 : cf .f32 0 = (gvV (hasOk A_g x y z) (ptG A_g.low A_g.step x y z)).y := by first | rfl | (simp only [gvV_t, gvV_f, zV, h2, h4, h6, h8, hβ1, c46]; done) | exact hasOk_f (by assumption) | exact hasOk_t (by assumption) | assumption | (rw [hasOk_f (by assumption)]; rfl) | (rw [‹hasOk A_g x y z = false›]; rfl) | (rw [hasOk_t (by assumption)]; simp only [gvV_t, gvV_f, zV, h2, h4, h6, h8, hβ1, c46]; done)
    have x55 : cf .f32 0 = (gvV (hasOk A_g x y z) (ptG A_g.low A_g.step x y z)).z := by first | rfl | (simp only [gvV_t, gvV_f, zV, h2, h4, h6, h8, hβ1, c46]; done) | exact hasOk_f (by assumption) | exact hasOk_t (by assumption) | assumption | (rw [hasOk_f (by assumption)]; rfl) | (rw [‹hasOk A_g x y z = false›]; rfl) | (rw [hasOk_t (by assumption)]; simp only [gvV_t, gvV_f, zV, h2, h4, h6, h8, hβ1, c46]; done)
    exact ⟨[(Fl 0), (Fl 0), (Fl 0)], (by first | rfl | rw [x52]), ⟨0, 0, 0, rfl, x53, x54, x55⟩⟩
  have c46' := c46
  (try simp only [hβ1] at c46')
  (try simp only [icmp, Bool.and_eq_true, Bool.or_eq_true, Bool.and_eq_false_iff, Bool.or_eq_false_iff, Bool.not_eq_true', Bool.not_eq_false', decide_eq_true_eq, decide_eq_false_iff_not, beq_iff_eq, bne_iff_ne, beq_eq_false_iff_ne, bne_eq_false_iff_eq] at c46')
  refine wp_skip (hK30 _ _ ?_)
  refine wp_seq_k fun K56 hK56 => ?_
  refine wp_region_lit ?_
  refine q_is (l' := [(.agg #[(Fl r1), (Fl r3), (Fl r5), (Fl r7), (Iv A_g.x), (Iv A_g.y), (Iv A_g.z), (.slice p11 A_g.vals.length q12)]), (Iv x), (Iv y), (Iv z), (Pt b15 0), Ud, Ud, Ud, (Pt b22 0), (Bo false), v32, v33, v34, v35, v36, v37, v38, v39, (Bo β1), Ud, (Pt b15 0), Ud, Ud, Ud, Ud, Ud, Ud, Ud]) rfl rfl (does_fieldAddr (ev rfl) fa32_0) rfl ?_
  refine q_is (l' := [(.agg #[(Fl r1), (Fl r3), (Fl r5), (Fl r7), (Iv A_g.x), (Iv A_g.y), (Iv A_g.z), (.slice p11 A_g.vals.length q12)]), (Iv x), (Iv y), (Iv z), (Pt b15 0), Ud, Ud, Ud, (Pt b22 0), (Bo false), v32, v33, v34, v35, v36, v37, v38, v39, (Bo β1), Ud, (Pt b15 0), (.agg #[(Fl r1), (Fl r3), (Fl r5)]), Ud, Ud, Ud, Ud, Ud, Ud]) rfl rfl (does_loadAgg (cs := [(Fl r1), (Fl r3), (Fl r5)]) (ev rfl) Try.isAgg30 Try.sizeOf30 (Cells.sub (Blk.cells ((hB17.ext E25).ext E42)) 0 3) rfl) rfl ?_
  refine q_is (l' := [(.agg #[(Fl r1), (Fl r3), (Fl r5), (Fl r7), (Iv A_g.x), (Iv A_g.y), (Iv A_g.z), (.slice p11 A_g.vals.length q12)]), (Iv x), (Iv y), (Iv z), (Pt b15 0), Ud, Ud, Ud, (Pt b22 0), (Bo false), v32, v33, v34, v35, v36, v37, v38, v39, (Bo β1), Ud, (Pt b15 0), (.agg #[(Fl r1), (Fl r3), (Fl r5)]), (Pt b15 3), Ud, Ud, Ud, Ud, Ud]) rfl rfl (does_fieldAddr (ev rfl) fa32_1) rfl ?_
  refine q_is (l' := [(.agg #[(Fl r1), (Fl r3), (Fl r5), (Fl r7), (Iv A_g.x), (Iv A_g.y), (Iv A_g.z), (.slice p11 A_g.vals.length q12)]), (Iv x), (Iv y), (Iv z), (Pt b15 0), Ud, Ud, Ud, (Pt b22 0), (Bo false), v32, v33, v34, v35, v36, v37, v38, v39, (Bo β1), Ud, (Pt b15 0), (.agg #[(Fl r1), (Fl r3), (Fl r5)]), (Pt b15 3), (Fl r7), Ud, Ud, Ud, Ud]) rfl rfl (does_load (u := (Fl r7)) (ev rfl) Try.isAgg22 (Cells.at (Blk.cells ((hB17.ext E25).ext E42)) 3 rfl)) rfl ?_
  refine q_is (l' := [(.agg #[(Fl r1), (Fl r3), (Fl r5), (Fl r7), (Iv A_g.x), (Iv A_g.y), (Iv A_g.z), (.slice p11 A_g.vals.length q12)]), (Iv x), (Iv y), (Iv z), (Pt b15 0), Ud, Ud, Ud, (Pt b22 0), (Bo false), v32, v33, v34, v35, v36, v37, v38, v39, (Bo β1), Ud, (Pt b15 0), (.agg #[(Fl r1), (Fl r3), (Fl r5)]), (Pt b15 3), (Fl r7), (Iv x), Ud, Ud, Ud]) rfl rfl (does_move (u := (Iv x)) (ev rfl)) rfl ?_
  refine q_is (l' := [(.agg #[(Fl r1), (Fl r3), (Fl r5), (Fl r7), (Iv A_g.x), (Iv A_g.y), (Iv A_g.z), (.slice p11 A_g.vals.length q12)]), (Iv x), (Iv y), (Iv z), (Pt b15 0), Ud, Ud, Ud, (Pt b22 0), (Bo false), v32, v33, v34, v35, v36, v37, v38, v39, (Bo β1), Ud, (Pt b15 0), (.agg #[(Fl r1), (Fl r3), (Fl r5)]), (Pt b15 3), (Fl r7), (Iv x), (Iv y), Ud, Ud]) rfl rfl (does_move (u := (Iv y)) (ev rfl)) rfl ?_
  refine q_is (l' := [(.agg #[(Fl r1), (Fl r3), (Fl r5), (Fl r7), (Iv A_g.x), (Iv A_g.y), (Iv A_g.z), (.slice p11 A_g.vals.length q12)]), (Iv x), (Iv y), (Iv z), (Pt b15 0), Ud, Ud, Ud, (Pt b22 0), (Bo false), v32, v33, v34, v35, v36, v37, v38, v39, (Bo β1), Ud, (Pt b15 0), (.agg #[(Fl r1), (Fl r3), (Fl r5)]), (Pt b15 3), (Fl r7), (Iv x), (Iv y), (Iv z), Ud]) rfl rfl (does_move (u := (Iv z)) (ev rfl)) rfl ?_
  refine seqd rfl rfl (does_call (args := #[(.agg #[(Fl r1), (Fl r3), (Fl r5)]), (Fl r7), (Iv x), (Iv y), (Iv z)]) cal73 (evs rfl) (c_spec_l06Point [(Fl r1), (Fl r3), (Fl r5)] A_g.low r7 x y z _ ⟨r1, r3, r5, rfl, h2, h4, h6⟩)) ?_; rintro _ w58 ⟨E57, ⟨_, rfl, ⟨r59, r61, r63, rfl, h60, h62, h64⟩⟩⟩
  have X65 := Ext.gr X45 E57
  show wpList _ _ _ _ (fr [(.agg #[(Fl r1), (Fl r3), (Fl r5), (Fl r7), (Iv A_g.x), (Iv A_g.y), (Iv A_g.z), (.slice p11 A_g.vals.length q12)]), (Iv x), (Iv y), (Iv z), (Pt b15 0), Ud, Ud, Ud, (Pt b22 0), (Bo false), v32, v33, v34, v35, v36, v37, v38, v39, (Bo β1), Ud, (Pt b15 0), (.agg #[(Fl r1), (Fl r3), (Fl r5)]), (Pt b15 3), (Fl r7), (Iv x), (Iv y), (Iv z), (.agg #[(Fl r59), (Fl r61), (Fl r63)])]) _
  refine seqn rfl rfl (does_store (n := 3) (cs := [(Fl 0), (Fl 0), (Fl 0)]) (u := (.agg #[(Fl r59), (Fl r61), (Fl r63)])) (ev rfl) (ev rfl) Try.sizeOf30 rfl ((hB24.ext E42).ext E57) (Nat.le_of_ble_eq_true rfl) rfl) ?_; rintro _ w68 ⟨rfl, W66, hB67⟩
  change Blk _ _ [(Fl r59), (Fl r61), (Fl r63)] at hB67
  have X69 := Below.wr X65 W66 g28
  refine q_is (l' := [(.agg #[(Fl r1), (Fl r3), (Fl r5), (Fl r7), (Iv A_g.x), (Iv A_g.y), (Iv A_g.z), (.slice p11 A_g.vals.length q12)]), (Iv x), (Iv y), (Iv z), (Pt b15 0), Ud, Ud, Ud, (Pt b22 0), (Bo true), v32, v33, v34, v35, v36, v37, v38, v39, (Bo β1), Ud, (Pt b15 0), (.agg #[(Fl r1), (Fl r3), (Fl r5)]), (Pt b15 3), (Fl r7), (Iv x), (Iv y), (Iv z), (.agg #[(Fl r59), (Fl r61), (Fl r63)])]) rfl rfl (does_assign (u := (Bo true)) (ev rfl)) rfl ?_
  refine wpList_nil (hK56 _ _ ?_)
  refine wp_ret ?_
  refine ret_val (v := (.tuple #[(.agg #[(Fl r59), (Fl r61), (Fl r63)]), (Bo true)])) (res_CT rfl (slot rfl) (run_loadAgg (cs := [(Fl r59), (Fl r61), (Fl r63)]) Try.isAgg30 Try.sizeOf30 (Blk.cells hB67) rfl) (slot rfl)) X69 ?_
  try simp only [h2, h4, h6, h8, hβ1, h60, h62, h64] at c46
  have x70 : (hasOk A_g x y z) = true := by first | rfl | (simp only [gvV_t, gvV_f, zV, h2, h4, h6, h8, hβ1, h60, h62, h64, c46]; done) | exact hasOk_f (by assumption) | exact hasOk_t (by assumption) | assumption | (rw [hasOk_f (by assumption)]; rfl) | (rw [‹hasOk A_g x y z = false›]; rfl) | (rw [hasOk_t (by assumption)]; simp only [gvV_t, gvV_f, zV, h2, h4, h6, h8, hβ1, h60, h62, h64, c46]; done)
  have x71 : cf .f32 r59 = (gvV (hasOk A_g x y z) (ptG A_g.low A_g.step x y z)).x := by first | rfl | (simp only [gvV_t, gvV_f, zV, h2, h4, h6, h8, hβ1, h60, h62, h64, c46]; done) | exact hasOk_f (by assumption) | exact hasOk_t (by assumption) | assumption | (rw [hasOk_f (by assumption)]; rfl) | (rw [‹hasOk A_g x y z = false›]; rfl) | (rw [hasOk_t (by assumption)]; simp only [gvV_t, gvV_f, zV, h2, h4, h6, h8, hβ1, h60, h62, h64, c46]; done)
  have x72 : cf .f32 r61 = (gvV (hasOk A_g x y z) (ptG A_g.low A_g.step x y z)).y := by first | rfl | (simp only [gvV_t, gvV_f, zV, h2, h4, h6, h8, hβ1, h60, h62, h64, c46]; done) | exact hasOk_f (by assumption) | exact hasOk_t (by assumption) | assumption | (rw [hasOk_f (by assumption)]; rfl) | (rw [‹hasOk A_g x y z = false›]; rfl) | (rw [hasOk_t (by assumption)]; simp only [gvV_t, gvV_f, zV, h2, h4, h6, h8, hβ1, h60, h62, h64, c46]; done)
  have x73 : cf .f32 r63 = (gvV (hasOk A_g x y z) (ptG A_g.low A_g.step x y z)).z := by first | rfl | (simp only [gvV_t, gvV_f, zV, h2, h4, h6, h8, hβ1, h60, h62, h64, c46]; done) | exact hasOk_f (by assumption) | exact hasOk_t (by assumption) | assumption | (rw [hasOk_f (by assumption)]; rfl) | (rw [‹hasOk A_g x y z = false›]; rfl) | (rw [hasOk_t (by assumption)]; simp only [gvV_t, gvV_f, zV, h2, h4, h6, h8, hβ1, h60, h62, h64, c46]; done)
  exact ⟨[(Fl r59), (Fl r61), (Fl r63)], (by first | rfl | rw [x70]), ⟨r59, r61, r63, rfl, x71, x72, x73⟩⟩

/- impl.AddVectors -/
theorem c_impl_AddVectors (a : List Value) (A_a : V3) (b : List Value) (A_b : V3) (w : World) (hv_a : RV3 w A_a a) (hv_b : RV3 w A_b b) : Gives Try.prog 110 #[(.agg a.toArray), (.agg b.toArray)] w (fun v w' => ∃ cs_1 : List Value, v = (.agg cs_1.toArray) ∧ RV3 w (vadd A_a A_b) cs_1) := by
  obtain ⟨r1, r3, r5, rfl, h2, h4, h6⟩ := hv_a
  obtain ⟨r7, r9, r11, rfl, h8, h10, h12⟩ := hv_b
  refine enter [(.agg #[(Fl r1), (Fl r3), (Fl r5)]), (.agg #[(Fl r7), (Fl r9), (Fl r11)]), Ud, Ud, Ud, Ud, Ud, Ud, Ud, Ud, Ud, Ud, Ud, Ud, Ud, Ud, Ud, Ud, Ud, Ud, Ud] Try.func110 rfl Try.ntmps110 rfl ?_
  refine wp_seq_k fun K13 hK13 => ?_
  refine wp_region_lit ?_
  refine seqd rfl rfl (does_box (u := (.agg #[(Fl r1), (Fl r3), (Fl r5)])) (ev rfl)) ?_; rintro _ w18 ⟨b14, rfl, hb15, hB16, E17⟩
  have g19 : w.heap.size ≤ b14 := Nat.le_trans (Below.size (Ext.refl w)) hb15
  change Blk _ _ [(Fl r1), (Fl r3), (Fl r5)] at hB16
  have X20 := Ext.gr (Ext.refl w) E17
  show wpList _ _ _ _ (fr [(.agg #[(Fl r1), (Fl r3), (Fl r5)]), (.agg #[(Fl r7), (Fl r9), (Fl r11)]), (Pt b14 0), Ud, Ud, Ud, Ud, Ud, Ud, Ud, Ud, Ud, Ud, Ud, Ud, Ud, Ud, Ud, Ud, Ud, Ud]) _
  refine seqd rfl rfl (does_box (u := (.agg #[(Fl r7), (Fl r9), (Fl r11)])) (ev rfl)) ?_; rintro _ w25 ⟨b21, rfl, hb22, hB23, E24⟩
  have n26 : b14 < b21 := Nat.lt_of_lt_of_le (Blk.lt hB16) hb22
  have g27 : w.heap.size ≤ b21 := Nat.le_trans (Below.size X20) hb22
  change Blk _ _ [(Fl r7), (Fl r9), (Fl r11)] at hB23
  have X28 := Ext.gr X20 E24
  show wpList _ _ _ _ (fr [(.agg #[(Fl r1), (Fl r3), (Fl r5)]), (.agg #[(Fl r7), (Fl r9), (Fl r11)]), (Pt b14 0), (Pt b21 0), Ud, Ud, Ud, Ud, Ud, Ud, Ud, Ud, Ud, Ud, Ud, Ud, Ud, Ud, Ud, Ud, Ud]) _
  refine seqd rfl rfl (does_alloc z30) ?_; rintro _ w33 ⟨b29, rfl, hb30, hB31, E32⟩
  have n34 : b14 < b29 := Nat.lt_of_lt_of_le (Blk.lt (hB16.ext E24)) hb30
  have n35 : b21 < b29 := Nat.lt_of_lt_of_le (Blk.lt hB23) hb30
  have g36 : w.heap.size ≤ b29 := Nat.le_trans (Below.size X28) hb30
  change Blk _ _ [(Fl 0), (Fl 0), (Fl 0)] at hB31
  have X37 := Ext.gr X28 E32
  show wpList _ _ _ _ (fr [(.agg #[(Fl r1), (Fl r3), (Fl r5)]), (.agg #[(Fl r7), (Fl r9), (Fl r11)]), (Pt b14 0), (Pt b21 0), (Pt b29 0), Ud, Ud, Ud, Ud, Ud, Ud, Ud, Ud, Ud, Ud, Ud, Ud, Ud, Ud, Ud, Ud]) _
  refine wpList_nil (hK13 _ _ ?_)
  refine wp_seq_k fun K38 hK38 => ?_
  refine wp_region_lit ?_
  refine q_is (l' := [(.agg #[(Fl r1), (Fl r3), (Fl r5)]), (.agg #[(Fl r7), (Fl r9), (Fl r11)]), (Pt b14 0), (Pt b21 0), (Pt b29 0), (Pt b14 0), Ud, Ud, Ud, Ud, Ud, Ud, Ud, Ud, Ud, Ud, Ud, Ud, Ud, Ud, Ud]) rfl rfl (does_fieldAddr (ev rfl) fa30_0) rfl ?_
  refine q_is (l' := [(.agg #[(Fl r1), (Fl r3), (Fl r5)]), (.agg #[(Fl r7), (Fl r9), (Fl r11)]), (Pt b14 0), (Pt b21 0), (Pt b29 0), (Pt b14 0), (Fl r1), Ud, Ud, Ud, Ud, Ud, Ud, Ud, Ud, Ud, Ud, Ud, Ud, Ud, Ud]) rfl rfl (does_load (u := (Fl r1)) (ev rfl) Try.isAgg22 (Cells.at (Blk.cells ((hB16.ext E24).ext E32)) 0 rfl)) rfl ?_
  refine q_is (l' := [(.agg #[(Fl r1), (Fl r3), (Fl r5)]), (.agg #[(Fl r7), (Fl r9), (Fl r11)]), (Pt b14 0), (Pt b21 0), (Pt b29 0), (Pt b14 0), (Fl r1), (Pt b21 0), Ud, Ud, Ud, Ud, Ud, Ud, Ud, Ud, Ud, Ud, Ud, Ud, Ud]) rfl rfl (does_fieldAddr (ev rfl) fa30_0) rfl ?_
  refine q_is (l' := [(.agg #[(Fl r1), (Fl r3), (Fl r5)]), (.agg #[(Fl r7), (Fl r9), (Fl r11)]), (Pt b14 0), (Pt b21 0), (Pt b29 0), (Pt b14 0), (Fl r1), (Pt b21 0), (Fl r7), Ud, Ud, Ud, Ud, Ud, Ud, Ud, Ud, Ud, Ud, Ud, Ud]) rfl rfl (does_load (u := (Fl r7)) (ev rfl) Try.isAgg22 (Cells.at (Blk.cells (hB23.ext E32)) 0 rfl)) rfl ?_
  refine seqd rfl rfl (does_float (.inl rfl) (ev rfl) (ev rfl)) ?_; rintro _ w42 ⟨r39, rfl, h40, E41⟩
  have X43 := Ext.gr X37 E41
  show wpList _ _ _ _ (fr [(.agg #[(Fl r1), (Fl r3), (Fl r5)]), (.agg #[(Fl r7), (Fl r9), (Fl r11)]), (Pt b14 0), (Pt b21 0), (Pt b29 0), (Pt b14 0), (Fl r1), (Pt b21 0), (Fl r7), (Fl r39), Ud, Ud, Ud, Ud, Ud, Ud, Ud, Ud, Ud, Ud, Ud]) _
  refine q_is (l' := [(.agg #[(Fl r1), (Fl r3), (Fl r5)]), (.agg #[(Fl r7), (Fl r9), (Fl r11)]), (Pt b14 0), (Pt b21 0), (Pt b29 0), (Pt b14 0), (Fl r1), (Pt b21 0), (Fl r7), (Fl r39), (Pt b14 1), Ud, Ud, Ud, Ud, Ud, Ud, Ud, Ud, Ud, Ud]) rfl rfl (does_fieldAddr (ev rfl) fa30_1) rfl ?_
  refine q_is (l' := [(.agg #[(Fl r1), (Fl r3), (Fl r5)]), (.agg #[(Fl r7), (Fl r9), (Fl r11)]), (Pt b14 0), (Pt b21 0), (Pt b29 0), (Pt b14 0), (Fl r1), (Pt b21 0), (Fl r7), (Fl r39), (Pt b14 1), (Fl r3), Ud, Ud, Ud, Ud, Ud, Ud, Ud, Ud, Ud]) rfl rfl (does_load (u := (Fl r3)) (ev rfl) Try.isAgg22 (Cells.at (Blk.cells (((hB16.ext E24).ext E32).ext E41)) 1 rfl)) rfl ?_
  refine q_is (l' := [(.agg #[(Fl r1), (Fl r3), (Fl r5)]), (.agg #[(Fl r7), (Fl r9), (Fl r11)]), (Pt b14 0), (Pt b21 0), (Pt b29 0), (Pt b14 0), (Fl r1), (Pt b21 0), (Fl r7), (Fl r39), (Pt b14 1), (Fl r3), (Pt b21 1), Ud, Ud, Ud, Ud, Ud, Ud, Ud, Ud]) rfl rfl (does_fieldAddr (ev rfl) fa30_1) rfl ?_
  refine q_is (l' := [(.agg #[(Fl r1), (Fl r3), (Fl r5)]), (.agg #[(Fl r7), (Fl r9), (Fl r11)]), (Pt b14 0), (Pt b21 0), (Pt b29 0), (Pt b14 0), (Fl r1), (Pt b21 0), (Fl r7), (Fl r39), (Pt b14 1), (Fl r3), (Pt b21 1), (Fl r9), Ud, Ud, Ud, Ud, Ud, Ud, Ud]) rfl rfl (does_load (u := (Fl r9)) (ev rfl) Try.isAgg22 (Cells.at (Blk.cells ((hB23.ext E32).ext E41)) 1 rfl)) rfl ?_
  refine seqd rfl rfl (does_float (.inl rfl) (ev rfl) (ev rfl)) ?_; rintro _ w47 ⟨r44, rfl, h45, E46⟩
  have X48 := Ext.gr X43 E46
  show wpList _ _ _ _ (fr [(.agg #[(Fl r1), (Fl r3), (Fl r5)]), (.agg #[(Fl r7), (Fl r9), (Fl r11)]), (Pt b14 0), (Pt b21 0), (Pt b29 0), (Pt b14 0), (Fl r1), (Pt b21 0), (Fl r7), (Fl r39), (Pt b14 1), (Fl r3), (Pt b21 1), (Fl r9), (Fl r44), Ud, Ud, Ud, Ud, Ud, Ud]) _
  refine q_is (l' := [(.agg #[(Fl r1), (Fl r3), (Fl r5)]), (.agg #[(Fl r7), (Fl r9), (Fl r11)]), (Pt b14 0), (Pt b21 0), (Pt b29 0), (Pt b14 0), (Fl r1), (Pt b21 0), (Fl r7), (Fl r39), (Pt b14 1), (Fl r3), (Pt b21 1), (Fl r9), (Fl r44), (Pt b14 2), Ud, Ud, Ud, Ud, Ud]) rfl rfl (does_fieldAddr (ev rfl) fa30_2) rfl ?_
  refine q_is (l' := [(.agg #[(Fl r1), (Fl r3), (Fl r5)]), (.agg #[(Fl r7), (Fl r9), (Fl r11)]), (Pt b14 0), (Pt b21 0), (Pt b29 0), (Pt b14 0), (Fl r1), (Pt b21 0), (Fl r7), (Fl r39), (Pt b14 1), (Fl r3), (Pt b21 1), (Fl r9), (Fl r44), (Pt b14 2), (Fl r5), Ud, Ud, Ud, Ud]) rfl rfl (does_load (u := (Fl r5)) (ev rfl) Try.isAgg22 (Cells.at (Blk.cells ((((hB16.ext E24).ext E32).ext E41).ext E46)) 2 rfl)) rfl ?_
  refine q_is (l' := [(.agg #[(Fl r1), (Fl r3), (Fl r5)]), (.agg #[(Fl r7), (Fl r9), (Fl r11)]), (Pt b14 0), (Pt b21 0), (Pt b29 0), (Pt b14 0), (Fl r1), (Pt b21 0), (Fl r7), (Fl r39), (Pt b14 1), (Fl r3), (Pt b21 1), (Fl r9), (Fl r44), (Pt b14 2), (Fl r5), (Pt b21 2), Ud, Ud, Ud]) rfl rfl (does_fieldAddr (ev rfl) fa30_2) rfl ?_
  refine q_is (l' := [(.agg #[(Fl r1), (Fl r3), (Fl r5)]), (.agg #[(Fl r7), (Fl r9), (Fl r11)]), (Pt b14 0), (Pt b21 0), (Pt b29 0), (Pt b14 0), (Fl r1), (Pt b21 0), (Fl r7), (Fl r39), (Pt b14 1), (Fl r3), (Pt b21 1), (Fl r9), (Fl r44), (Pt b14 2), (Fl r5), (Pt b21 2), (Fl r11), Ud, Ud]) rfl rfl (does_load (u := (Fl r11)) (ev rfl) Try.isAgg22 (Cells.at (Blk.cells (((hB23.ext E32).ext E41).ext E46)) 2 rfl)) rfl ?_
  refine seqd rfl rfl (does_float (.inl rfl) (ev rfl) (ev rfl)) ?_; rintro _ w52 ⟨r49, rfl, h50, E51⟩
  have X53 := Ext.gr X48 E51
  show wpList _ _ _ _ (fr [(.agg #[(Fl r1), (Fl r3), (Fl r5)]), (.agg #[(Fl r7), (Fl r9), (Fl r11)]), (Pt b14 0), (Pt b21 0), (Pt b29 0), (Pt b14 0), (Fl r1), (Pt b21 0), (Fl r7), (Fl r39), (Pt b14 1), (Fl r3), (Pt b21 1), (Fl r9), (Fl r44), (Pt b14 2), (Fl r5), (Pt b21 2), (Fl r11), (Fl r49), Ud]) _
  refine q_is (l' := [(.agg #[(Fl r1), (Fl r3), (Fl r5)]), (.agg #[(Fl r7), (Fl r9), (Fl r11)]), (Pt b14 0), (Pt b21 0), (Pt b29 0), (Pt b14 0), (Fl r1), (Pt b21 0), (Fl r7), (Fl r39), (Pt b14 1), (Fl r3), (Pt b21 1), (Fl r9), (Fl r44), (Pt b14 2), (Fl r5), (Pt b21 2), (Fl r11), (Fl r49), (.agg #[(Fl r39), (Fl r44), (Fl r49)])]) rfl rfl (does_build (parts' := [(0, (Fl r39)), (1, (Fl r44)), (2, (Fl r49))]) (cells := #[(Fl r39), (Fl r44), (Fl r49)]) (evp rfl) (by kernel_rfl)) rfl ?_
  refine seqn rfl rfl (does_store (n := 3) (cs := [(Fl 0), (Fl 0), (Fl 0)]) (u := (.agg #[(Fl r39), (Fl r44), (Fl r49)])) (ev rfl) (ev rfl) Try.sizeOf30 rfl (((hB31.ext E41).ext E46).ext E51) (Nat.le_of_ble_eq_true rfl) rfl) ?_; rintro _ w56 ⟨rfl, W54, hB55⟩
  change Blk _ _ [(Fl r39), (Fl r44), (Fl r49)] at hB55
  have X57 := Below.wr X53 W54 g36
  refine wpList_nil (hK38 _ _ ?_)
  refine wp_ret ?_
  refine ret_val (v := (.agg #[(Fl r39), (Fl r44), (Fl r49)])) (res_C rfl (slot rfl) (run_loadAgg (cs := [(Fl r39), (Fl r44), (Fl r49)]) Try.isAgg30 Try.sizeOf30 (Blk.cells hB55) rfl)) X57 ?_
  have x58 : cf .f32 r39 = (vadd A_a A_b).x := by first | rfl | (simp only [vadd, h2, h4, h6, h8, h10, h12, h40, h45, h50]; done) | (simp [vadd, h2, h4, h6, h8, h10, h12, h40, h45, h50]; done)
  have x59 : cf .f32 r44 = (vadd A_a A_b).y := by first | rfl | (simp only [vadd, h2, h4, h6, h8, h10, h12, h40, h45, h50]; done) | (simp [vadd, h2, h4, h6, h8, h10, h12, h40, h45, h50]; done)
  have x60 : cf .f32 r49 = (vadd A_a A_b).z := by first | rfl | (simp only [vadd, h2, h4, h6, h8, h10, h12, h40, h45, h50]; done) | (simp [vadd, h2, h4, h6, h8, h10, h12, h40, h45, h50]; done)
  exact ⟨[(Fl r39), (Fl r44), (Fl r49)], rfl, ⟨r39, r44, r49, rfl, x58, x59, x60⟩⟩

/- (*impl.Grid).point -/
theorem c_impl_Grid_point (g_b : Nat) (g_o : Nat) (g : List Value) (A_g : GridT) (x : Int) (y : Int) (z : Int) (w : World) (hc_g : Cells w g_b g_o g) (hv_g : RGridT w A_g g) : Gives Try.prog 74 #[(Pt g_b g_o), (.agg #[(Iv x), (Iv y), (Iv z)])] w (fun v w' => ∃ cs_1 : List Value, v = (.agg cs_1.toArray) ∧ RV3 w (ptG A_g.low A_g.step x y z) cs_1) := by
  obtain ⟨r1, r3, r5, r7, y9, rfl, h2, h4, h6, h8, h10⟩ := hv_g
  have hs13 := h10; have hs13l := Sl.len h10; obtain ⟨p11, q12, rfl⟩ := Sl.shape h10
  refine enter [(Pt g_b g_o), (.agg #[(Iv x), (Iv y), (Iv z)]), Ud, Ud, Ud, Ud, Ud, Ud, Ud, Ud, Ud, Ud, Ud, Ud, Ud, Ud, Ud, Ud, Ud, Ud, Ud, Ud, Ud, Ud, Ud, Ud, Ud, Ud, Ud, Ud, Ud, Ud, Ud, Ud, Ud] Try.func74 rfl Try.ntmps74 rfl ?_
  refine wp_seq_k fun K14 hK14 => ?_
  refine wp_region_lit ?_
  refine seqd rfl rfl (does_box (u := (.agg #[(Iv x), (Iv y), (Iv z)])) (ev rfl)) ?_; rintro _ w19 ⟨b15, rfl, hb16, hB17, E18⟩
  have n20 : g_b < b15 := Nat.lt_of_lt_of_le (cell_lt (Cells.at hc_g 0 rfl)) hb16
  have g21 : w.heap.size ≤ b15 := Nat.le_trans (Below.size (Ext.refl w)) hb16
  change Blk _ _ [(Iv x), (Iv y), (Iv z)] at hB17
  have X22 := Ext.gr (Ext.refl w) E18
  show wpList _ _ _ _ (fr [(Pt g_b g_o), (.agg #[(Iv x), (Iv y), (Iv z)]), Ud, (Pt b15 0), Ud, Ud, Ud, Ud, Ud, Ud, Ud, Ud, Ud, Ud, Ud, Ud, Ud, Ud, Ud, Ud, Ud, Ud, Ud, Ud, Ud, Ud, Ud, Ud, Ud, Ud, Ud, Ud, Ud, Ud, Ud]) _
  refine seqd rfl rfl (does_alloc z30) ?_; rintro _ w27 ⟨b23, rfl, hb24, hB25, E26⟩
  have n28 : g_b < b23 := Nat.lt_of_lt_of_le (cell_lt (Cells.at (hc_g.ext X22) 0 rfl)) hb24
  have n29 : b15 < b23 := Nat.lt_of_lt_of_le (Blk.lt hB17) hb24
  have g30 : w.heap.size ≤ b23 := Nat.le_trans (Below.size X22) hb24
  change Blk _ _ [(Fl 0), (Fl 0), (Fl 0)] at hB25
  have X31 := Ext.gr X22 E26
  show wpList _ _ _ _ (fr [(Pt g_b g_o), (.agg #[(Iv x), (Iv y), (Iv z)]), Ud, (Pt b15 0), (Pt b23 0), Ud, Ud, Ud, Ud, Ud, Ud, Ud, Ud, Ud, Ud, Ud, Ud, Ud, Ud, Ud, Ud, Ud, Ud, Ud, Ud, Ud, Ud, Ud, Ud, Ud, Ud, Ud, Ud, Ud, Ud]) _
  refine wpList_nil (hK14 _ _ ?_)
  refine wp_seq_k fun K32 hK32 => ?_
  refine region_draw (
    [Fact.pure [] (fun v => v = (Pt g_b g_o)),
    Fact.pure [5] (fun v => v = (Pt g_b g_o)),
    Fact.pure [6] (fun v => v = (Pt g_b g_o)),
    Fact.pure [7] (fun v => v = (.agg #[(Fl r1), (Fl r3), (Fl r5)])),
    Fact.pure [] (fun v => v = (Pt g_b g_o)),
    Fact.pure [9] (fun v => v = (Pt g_b g_o)),
    Fact.pure [10] (fun v => v = (Pt g_b (g_o + 3))),
    Fact.pure [11] (fun v => v = (Fl r7)),
    Fact.pure [] (fun v => v = (Pt b15 0)),
    Fact.pure [13] (fun v => v = (Iv x)),
    Fact.pure [14] (fun v => v = (Fl (FloatKind.f32.nearest x))),
    Fact.pure [12, 15] (fun v => ∃ r_1 : Nat, v = (Fl r_1) ∧ cf .f32 r_1 = fop .mul .f32 (cf .f32 r7) (cf .f32 (FloatKind.f32.nearest x))),
    Fact.pure [] (fun v => v = (Pt g_b g_o)),
    Fact.pure [17] (fun v => v = (Pt g_b g_o)),
    Fact.pure [18] (fun v => v = (Pt g_b (g_o + 3))),
    Fact.pure [19] (fun v => v = (Fl r7)),
    Fact.pure [] (fun v => v = (Pt b15 1)),
    Fact.pure [21] (fun v => v = (Iv y)),
    Fact.pure [22] (fun v => v = (Fl (FloatKind.f32.nearest y))),
    Fact.pure [20, 23] (fun v => ∃ r_1 : Nat, v = (Fl r_1) ∧ cf .f32 r_1 = fop .mul .f32 (cf .f32 r7) (cf .f32 (FloatKind.f32.nearest y))),
    Fact.pure [] (fun v => v = (Pt g_b g_o)),
    Fact.pure [25] (fun v => v = (Pt g_b g_o)),
    Fact.pure [26] (fun v => v = (Pt g_b (g_o + 3))),
    Fact.pure [27] (fun v => v = (Fl r7)),
    Fact.pure [] (fun v => v = (Pt b15 2)),
    Fact.pure [29] (fun v => v = (Iv z)),
    Fact.pure [30] (fun v => v = (Fl (FloatKind.f32.nearest z))),
    Fact.pure [28, 31] (fun v => ∃ r_1 : Nat, v = (Fl r_1) ∧ cf .f32 r_1 = fop .mul .f32 (cf .f32 r7) (cf .f32 (FloatKind.f32.nearest z))),
    Fact.pure [16, 24, 32] (fun v => ∃ r_1 : Nat, ∃ r_2 : Nat, ∃ r_3 : Nat, v = (.agg #[(Fl r_1), (Fl r_2), (Fl r_3)]) ∧ cf .f32 r_1 = fop .mul .f32 (cf .f32 r7) (cf .f32 (FloatKind.f32.nearest x)) ∧ cf .f32 r_2 = fop .mul .f32 (cf .f32 r7) (cf .f32 (FloatKind.f32.nearest y)) ∧ cf .f32 r_3 = fop .mul .f32 (cf .f32 r7) (cf .f32 (FloatKind.f32.nearest z))),
    Fact.pure [8, 33] (fun v => ∃ cs_1 : List Value, v = (.agg cs_1.toArray) ∧ RV3 w (vadd A_g.low (V3.mk (fop .mul .f32 (cf .f32 r7) (cf .f32 (FloatKind.f32.nearest x))) (fop .mul .f32 (cf .f32 r7) (cf .f32 (FloatKind.f32.nearest y))) (fop .mul .f32 (cf .f32 r7) (cf .f32 (FloatKind.f32.nearest z))))) cs_1)]) mixed (by kernel_rfl) (by intro _ _ d _ _ h; cases d <;> exact h) ?_
  obtain ⟨w33, hw35⟩ : ∃ w', w' = World.drew w27 := ⟨_, rfl⟩; rw [← hw35]; have E34 : Ext w27 w33 := by rw [hw35]; exact Ext.draw _
  clear hw35
  have X36 := Ext.gr X31 E34
  refine RW_d (fun v37 => [(Pt g_b g_o), (.agg #[(Iv x), (Iv y), (Iv z)]), Ud, (Pt b15 0), (Pt b23 0), v37, Ud, Ud, Ud, Ud, Ud, Ud, Ud, Ud, Ud, Ud, Ud, Ud, Ud, Ud, Ud, Ud, Ud, Ud, Ud, Ud, Ud, Ud, Ud, Ud, Ud, Ud, Ud, Ud, Ud]) rfl (fun _ => rfl) (fun u hu hF => ?_) (fun v37 => ?_)
  · clear hF
    refine doesG_un rfl ?_
    refine (does_move (u := (Pt g_b g_o)) (ev rfl)).mono ?_; rintro _ _ ⟨rfl, rfl⟩
    exact ⟨rfl, Ext.refl _⟩
  refine RW_d (fun v38 => [(Pt g_b g_o), (.agg #[(Iv x), (Iv y), (Iv z)]), Ud, (Pt b15 0), (Pt b23 0), v37, v38, Ud, Ud, Ud, Ud, Ud, Ud, Ud, Ud, Ud, Ud, Ud, Ud, Ud, Ud, Ud, Ud, Ud, Ud, Ud, Ud, Ud, Ud, Ud, Ud, Ud, Ud, Ud, Ud]) rfl (fun _ => rfl) (fun u hu hF => ?_) (fun v38 => ?_)
  · have h5_ : v37 = (Pt g_b g_o) := hF.1
    clear hF
    obtain rfl := h5_
    refine doesG_un rfl ?_
    refine (does_nilCheck (ev rfl)).mono ?_; rintro _ _ ⟨rfl, rfl⟩
    exact ⟨rfl, Ext.refl _⟩
  refine RW_d (fun v39 => [(Pt g_b g_o), (.agg #[(Iv x), (Iv y), (Iv z)]), Ud, (Pt b15 0), (Pt b23 0), v37, v38, v39, Ud, Ud, Ud, Ud, Ud, Ud, Ud, Ud, Ud, Ud, Ud, Ud, Ud, Ud, Ud, Ud, Ud, Ud, Ud, Ud, Ud, Ud, Ud, Ud, Ud, Ud, Ud]) rfl (fun _ => rfl) (fun u hu hF => ?_) (fun v39 => ?_)
  · have h6_ : v38 = (Pt g_b g_o) := hF.1
    clear hF
    obtain rfl := h6_
    refine doesG_un rfl ?_
    refine (does_fieldAddr (ev rfl) fa32_0).mono ?_; rintro _ _ ⟨rfl, rfl⟩
    exact ⟨rfl, Ext.refl _⟩
  refine RW_d (fun v40 => [(Pt g_b g_o), (.agg #[(Iv x), (Iv y), (Iv z)]), Ud, (Pt b15 0), (Pt b23 0), v37, v38, v39, v40, Ud, Ud, Ud, Ud, Ud, Ud, Ud, Ud, Ud, Ud, Ud, Ud, Ud, Ud, Ud, Ud, Ud, Ud, Ud, Ud, Ud, Ud, Ud, Ud, Ud, Ud]) rfl (fun _ => rfl) (fun u hu hF => ?_) (fun v40 => ?_)
  · have h7_ : v39 = (Pt g_b g_o) := hF.1
    clear hF
    obtain rfl := h7_
    refine doesG_un rfl ?_
    refine (does_loadAgg (cs := [(Fl r1), (Fl r3), (Fl r5)]) (ev rfl) Try.isAgg30 Try.sizeOf30 (Cells.sub ((hc_g.ext (Ext.gr X31 E34)).ext hu) 0 3) rfl).mono ?_; rintro _ _ ⟨rfl, rfl⟩
    exact ⟨rfl, Ext.refl _⟩
  refine RW_d (fun v41 => [(Pt g_b g_o), (.agg #[(Iv x), (Iv y), (Iv z)]), Ud, (Pt b15 0), (Pt b23 0), v37, v38, v39, v40, v41, Ud, Ud, Ud, Ud, Ud, Ud, Ud, Ud, Ud, Ud, Ud, Ud, Ud, Ud, Ud, Ud, Ud, Ud, Ud, Ud, Ud, Ud, Ud, Ud, Ud]) rfl (fun _ => rfl) (fun u hu hF => ?_) (fun v41 => ?_)
  · clear hF
    refine doesG_un rfl ?_
    refine (does_move (u := (Pt g_b g_o)) (ev rfl)).mono ?_; rintro _ _ ⟨rfl, rfl⟩
    exact ⟨rfl, Ext.refl _⟩
  refine RW_d (fun v42 => [(Pt g_b g_o), (.agg #[(Iv x), (Iv y), (Iv z)]), Ud, (Pt b15 0), (Pt b23 0), v37, v38, v39, v40, v41, v42, Ud, Ud, Ud, Ud, Ud, Ud, Ud, Ud, Ud, Ud, Ud, Ud, Ud, Ud, Ud, Ud, Ud, Ud, Ud, Ud, Ud, Ud, Ud, Ud]) rfl (fun _ => rfl) (fun u hu hF => ?_) (fun v42 => ?_)
  · have h9_ : v41 = (Pt g_b g_o) := hF.1
    clear hF
    obtain rfl := h9_
    refine doesG_un rfl ?_
    refine (does_nilCheck (ev rfl)).mono ?_; rintro _ _ ⟨rfl, rfl⟩
    exact ⟨rfl, Ext.refl _⟩
  refine RW_d (fun v43 => [(Pt g_b g_o), (.agg #[(Iv x), (Iv y), (Iv z)]), Ud, (Pt b15 0), (Pt b23 0), v37, v38, v39, v40, v41, v42, v43, Ud, Ud, Ud, Ud, Ud, Ud, Ud, Ud, Ud, Ud, Ud, Ud, Ud, Ud, Ud, Ud, Ud, Ud, Ud, Ud, Ud, Ud, Ud]) rfl (fun _ => rfl) (fun u hu hF => ?_) (fun v43 => ?_)
  · have h10_ : v42 = (Pt g_b g_o) := hF.1
    clear hF
    obtain rfl := h10_
    refine doesG_un rfl ?_
    refine (does_fieldAddr (ev rfl) fa32_1).mono ?_; rintro _ _ ⟨rfl, rfl⟩
    exact ⟨rfl, Ext.refl _⟩
  refine RW_d (fun v44 => [(Pt g_b g_o), (.agg #[(Iv x), (Iv y), (Iv z)]), Ud, (Pt b15 0), (Pt b23 0), v37, v38, v39, v40, v41, v42, v43, v44, Ud, Ud, Ud, Ud, Ud, Ud, Ud, Ud, Ud, Ud, Ud, Ud, Ud, Ud, Ud, Ud, Ud, Ud, Ud, Ud, Ud, Ud]) rfl (fun _ => rfl) (fun u hu hF => ?_) (fun v44 => ?_)
  · have h11_ : v43 = (Pt g_b (g_o + 3)) := hF.1
    clear hF
    obtain rfl := h11_
    refine doesG_un rfl ?_
    refine (does_load (u := (Fl r7)) (ev rfl) Try.isAgg22 (Cells.at ((hc_g.ext (Ext.gr X31 E34)).ext hu) 3 rfl)).mono ?_; rintro _ _ ⟨rfl, rfl⟩
    exact ⟨rfl, Ext.refl _⟩
  refine RW_d (fun v45 => [(Pt g_b g_o), (.agg #[(Iv x), (Iv y), (Iv z)]), Ud, (Pt b15 0), (Pt b23 0), v37, v38, v39, v40, v41, v42, v43, v44, v45, Ud, Ud, Ud, Ud, Ud, Ud, Ud, Ud, Ud, Ud, Ud, Ud, Ud, Ud, Ud, Ud, Ud, Ud, Ud, Ud, Ud]) rfl (fun _ => rfl) (fun u hu hF => ?_) (fun v45 => ?_)
  · clear hF
    refine doesG_un rfl ?_
    refine (does_indexAt_run (r := (Pt b15 0)) (ev rfl) (ev rfl) (fun w => ia80_0 _ _ w)).mono ?_; rintro _ _ ⟨rfl, rfl⟩
    exact ⟨rfl, Ext.refl _⟩
  refine RW_d (fun v46 => [(Pt g_b g_o), (.agg #[(Iv x), (Iv y), (Iv z)]), Ud, (Pt b15 0), (Pt b23 0), v37, v38, v39, v40, v41, v42, v43, v44, v45, v46, Ud, Ud, Ud, Ud, Ud, Ud, Ud, Ud, Ud, Ud, Ud, Ud, Ud, Ud, Ud, Ud, Ud, Ud, Ud, Ud]) rfl (fun _ => rfl) (fun u hu hF => ?_) (fun v46 => ?_)
  · have h13_ : v45 = (Pt b15 0) := hF.1
    clear hF
    obtain rfl := h13_
    refine doesG_un rfl ?_
    refine (does_load (u := (Iv x)) (ev rfl) Try.isAgg2 (Cells.at (Blk.cells (((hB17.ext E26).ext E34).ext hu)) 0 rfl)).mono ?_; rintro _ _ ⟨rfl, rfl⟩
    exact ⟨rfl, Ext.refl _⟩
  refine RW_d (fun v47 => [(Pt g_b g_o), (.agg #[(Iv x), (Iv y), (Iv z)]), Ud, (Pt b15 0), (Pt b23 0), v37, v38, v39, v40, v41, v42, v43, v44, v45, v46, v47, Ud, Ud, Ud, Ud, Ud, Ud, Ud, Ud, Ud, Ud, Ud, Ud, Ud, Ud, Ud, Ud, Ud, Ud, Ud]) rfl (fun _ => rfl) (fun u hu hF => ?_) (fun v47 => ?_)
  · have h14_ : v46 = (Iv x) := hF.1
    clear hF
    obtain rfl := h14_
    refine doesG_un rfl ?_
    refine (does_conv_if (k := .f32) Try.underlying2 Try.underlying22 (ev rfl)).mono ?_; rintro _ _ ⟨rfl, rfl⟩
    exact ⟨rfl, Ext.refl _⟩
  refine RW_d (fun v48 => [(Pt g_b g_o), (.agg #[(Iv x), (Iv y), (Iv z)]), Ud, (Pt b15 0), (Pt b23 0), v37, v38, v39, v40, v41, v42, v43, v44, v45, v46, v47, v48, Ud, Ud, Ud, Ud, Ud, Ud, Ud, Ud, Ud, Ud, Ud, Ud, Ud, Ud, Ud, Ud, Ud, Ud]) rfl (fun _ => rfl) (fun u hu hF => ?_) (fun v48 => ?_)
  · have h12_ : v44 = (Fl r7) := hF.1
    have h15_ : v47 = (Fl (FloatKind.f32.nearest x)) := hF.2.1
    clear hF
    obtain rfl := h12_
    obtain rfl := h15_
    refine doesG_un rfl ?_
    refine (does_float (.inr (.inr (.inl rfl))) (ev rfl) (ev rfl)).mono ?_; rintro _ _ ⟨r, rfl, hr, hx⟩
    exact ⟨⟨r, rfl, (by simp only [hr])⟩, hx⟩
  refine RW_d (fun v49 => [(Pt g_b g_o), (.agg #[(Iv x), (Iv y), (Iv z)]), Ud, (Pt b15 0), (Pt b23 0), v37, v38, v39, v40, v41, v42, v43, v44, v45, v46, v47, v48, v49, Ud, Ud, Ud, Ud, Ud, Ud, Ud, Ud, Ud, Ud, Ud, Ud, Ud, Ud, Ud, Ud, Ud]) rfl (fun _ => rfl) (fun u hu hF => ?_) (fun v49 => ?_)
  · clear hF
    refine doesG_un rfl ?_
    refine (does_move (u := (Pt g_b g_o)) (ev rfl)).mono ?_; rintro _ _ ⟨rfl, rfl⟩
    exact ⟨rfl, Ext.refl _⟩
  refine RW_d (fun v50 => [(Pt g_b g_o), (.agg #[(Iv x), (Iv y), (Iv z)]), Ud, (Pt b15 0), (Pt b23 0), v37, v38, v39, v40, v41, v42, v43, v44, v45, v46, v47, v48, v49, v50, Ud, Ud, Ud, Ud, Ud, Ud, Ud, Ud, Ud, Ud, Ud, Ud, Ud, Ud, Ud, Ud]) rfl (fun _ => rfl) (fun u hu hF => ?_) (fun v50 => ?_)
  · have h17_ : v49 = (Pt g_b g_o) := hF.1
    clear hF
    obtain rfl := h17_
    refine doesG_un rfl ?_
    refine (does_nilCheck (ev rfl)).mono ?_; rintro _ _ ⟨rfl, rfl⟩
    exact ⟨rfl, Ext.refl _⟩
  refine RW_d (fun v51 => [(Pt g_b g_o), (.agg #[(Iv x), (Iv y), (Iv z)]), Ud, (Pt b15 0), (Pt b23 0), v37, v38, v39, v40, v41, v42, v43, v44, v45, v46, v47, v48, v49, v50, v51, Ud, Ud, Ud, Ud, Ud, Ud, Ud, Ud, Ud, Ud, Ud, Ud, Ud, Ud, Ud]) rfl (fun _ => rfl) (fun u hu hF => ?_) (fun v51 => ?_)
  · have h18_ : v50 = (Pt g_b g_o) := hF.1
    clear hF
    obtain rfl := h18_
    refine doesG_un rfl ?_
    refine (does_fieldAddr (ev rfl) fa32_1).mono ?_; rintro _ _ ⟨rfl, rfl⟩
    exact ⟨rfl, Ext.refl _⟩
  refine RW_d (fun v52 => [(Pt g_b g_o), (.agg #[(Iv x), (Iv y), (Iv z)]), Ud, (Pt b15 0), (Pt b23 0), v37, v38, v39, v40, v41, v42, v43, v44, v45, v46, v47, v48, v49, v50, v51, v52, Ud, Ud, Ud, Ud, Ud, Ud, Ud, Ud, Ud, Ud, Ud, Ud, Ud, Ud]) rfl (fun _ => rfl) (fun u hu hF => ?_) (fun v52 => ?_)
  · have h19_ : v51 = (Pt g_b (g_o + 3)) := hF.1
    clear hF
    obtain rfl := h19_
    refine doesG_un rfl ?_
    refine (does_load (u := (Fl r7)) (ev rfl) Try.isAgg22 (Cells.at ((hc_g.ext (Ext.gr X31 E34)).ext hu) 3 rfl)).mono ?_; rintro _ _ ⟨rfl, rfl⟩
    exact ⟨rfl, Ext.refl _⟩
  refine RW_d (fun v53 => [(Pt g_b g_o), (.agg #[(Iv x), (Iv y), (Iv z)]), Ud, (Pt b15 0), (Pt b23 0), v37, v38, v39, v40, v41, v42, v43, v44, v45, v46, v47, v48, v49, v50, v51, v52, v53, Ud, Ud, Ud, Ud, Ud, Ud, Ud, Ud, Ud, Ud, Ud, Ud, Ud]) rfl (fun _ => rfl) (fun u hu hF => ?_) (fun v53 => ?_)
  · clear hF
    refine doesG_un rfl ?_
    refine (does_indexAt_run (r := (Pt b15 1)) (ev rfl) (ev rfl) (fun w => ia80_1 _ _ w)).mono ?_; rintro _ _ ⟨rfl, rfl⟩
    exact ⟨rfl, Ext.refl _⟩
  refine RW_d (fun v54 => [(Pt g_b g_o), (.agg #[(Iv x), (Iv y), (Iv z)]), Ud, (Pt b15 0), (Pt b23 0), v37, v38, v39, v40, v41, v42, v43, v44, v45, v46, v47, v48, v49, v50, v51, v52, v53, v54, Ud, Ud, Ud, Ud, Ud, Ud, Ud, Ud, Ud, Ud, Ud, Ud]) rfl (fun _ => rfl) (fun u hu hF => ?_) (fun v54 => ?_)
  · have h21_ : v53 = (Pt b15 1) := hF.1
    clear hF
    obtain rfl := h21_
    refine doesG_un rfl ?_
    refine (does_load (u := (Iv y)) (ev rfl) Try.isAgg2 (Cells.at (Blk.cells (((hB17.ext E26).ext E34).ext hu)) 1 rfl)).mono ?_; rintro _ _ ⟨rfl, rfl⟩
    exact ⟨rfl, Ext.refl _⟩
  refine RW_d (fun v55 => [(Pt g_b g_o), (.agg #[(Iv x), (Iv y), (Iv z)]), Ud, (Pt b15 0), (Pt b23 0), v37, v38, v39, v40, v41, v42, v43, v44, v45, v46, v47, v48, v49, v50, v51, v52, v53, v54, v55, Ud, Ud, Ud, Ud, Ud, Ud, Ud, Ud, Ud, Ud, Ud]) rfl (fun _ => rfl) (fun u hu hF => ?_) (fun v55 => ?_)
  · have h22_ : v54 = (Iv y) := hF.1
    clear hF
    obtain rfl := h22_
    refine doesG_un rfl ?_
    refine (does_conv_if (k := .f32) Try.underlying2 Try.underlying22 (ev rfl)).mono ?_; rintro _ _ ⟨rfl, rfl⟩
    exact ⟨rfl, Ext.refl _⟩
  refine RW_d (fun v56 => [(Pt g_b g_o), (.agg #[(Iv x), (Iv y), (Iv z)]), Ud, (Pt b15 0), (Pt b23 0), v37, v38, v39, v40, v41, v42, v43, v44, v45, v46, v47, v48, v49, v50, v51, v52, v53, v54, v55, v56, Ud, Ud, Ud, Ud, Ud, Ud, Ud, Ud, Ud, Ud]) rfl (fun _ => rfl) (fun u hu hF => ?_) (fun v56 => ?_)
  · have h20_ : v52 = (Fl r7) := hF.1
    have h23_ : v55 = (Fl (FloatKind.f32.nearest y)) := hF.2.1
    clear hF
    obtain rfl := h20_
    obtain rfl := h23_
    refine doesG_un rfl ?_
    refine (does_float (.inr (.inr (.inl rfl))) (ev rfl) (ev rfl)).mono ?_; rintro _ _ ⟨r, rfl, hr, hx⟩
    exact ⟨⟨r, rfl, (by simp only [hr])⟩, hx⟩
  refine RW_d (fun v57 => [(Pt g_b g_o), (.agg #[(Iv x), (Iv y), (Iv z)]), Ud, (Pt b15 0), (Pt b23 0), v37, v38, v39, v40, v41, v42, v43, v44, v45, v46, v47, v48, v49, v50, v51, v52, v53, v54, v55, v56, v57, Ud, Ud, Ud, Ud, Ud, Ud, Ud, Ud, Ud]) rfl (fun _ => rfl) (fun u hu hF => ?_) (fun v57 => ?_)
  · clear hF
    refine doesG_un rfl ?_
    refine (does_move (u := (Pt g_b g_o)) (ev rfl)).mono ?_; rintro _ _ ⟨rfl, rfl⟩
    exact ⟨rfl, Ext.refl _⟩
  refine RW_d (fun v58 => [(Pt g_b g_o), (.agg #[(Iv x), (Iv y), (Iv z)]), Ud, (Pt b15 0), (Pt b23 0), v37, v38, v39, v40, v41, v42, v43, v44, v45, v46, v47, v48, v49, v50, v51, v52, v53, v54, v55, v56, v57, v58, Ud, Ud, Ud, Ud, Ud, Ud, Ud, Ud]) rfl (fun _ => rfl) (fun u hu hF => ?_) (fun v58 => ?_)
  · have h25_ : v57 = (Pt g_b g_o) := hF.1
    clear hF
    obtain rfl := h25_
    refine doesG_un rfl ?_
    refine (does_nilCheck (ev rfl)).mono ?_; rintro _ _ ⟨rfl, rfl⟩
    exact ⟨rfl, Ext.refl _⟩
  refine RW_d (fun v59 => [(Pt g_b g_o), (.agg #[(Iv x), (Iv y), (Iv z)]), Ud, (Pt b15 0), (Pt b23 0), v37, v38, v39, v40, v41, v42, v43, v44, v45, v46, v47, v48, v49, v50, v51, v52, v53, v54, v55, v56, v57, v58, v59, Ud, Ud, Ud, Ud, Ud, Ud, Ud]) rfl (fun _ => rfl) (fun u hu hF => ?_) (fun v59 => ?_)
  · have h26_ : v58 = (Pt g_b g_o) := hF.1
    clear hF
    obtain rfl := h26_
    refine doesG_un rfl ?_
    refine (does_fieldAddr (ev rfl) fa32_1).mono ?_; rintro _ _ ⟨rfl, rfl⟩
    exact ⟨rfl, Ext.refl _⟩
  refine RW_d (fun v60 => [(Pt g_b g_o), (.agg #[(Iv x), (Iv y), (Iv z)]), Ud, (Pt b15 0), (Pt b23 0), v37, v38, v39, v40, v41, v42, v43, v44, v45, v46, v47, v48, v49, v50, v51, v52, v53, v54, v55, v56, v57, v58, v59, v60, Ud, Ud, Ud, Ud, Ud, Ud]) rfl (fun _ => rfl) (fun u hu hF => ?_) (fun v60 => ?_)
  · have h27_ : v59 = (Pt g_b (g_o + 3)) := hF.1
    clear hF
    obtain rfl := h27_
    refine doesG_un rfl ?_
    refine (does_load (u := (Fl r7)) (ev rfl) Try.isAgg22 (Cells.at ((hc_g.ext (Ext.gr X31 E34)).ext hu) 3 rfl)).mono ?_; rintro _ _ ⟨rfl, rfl⟩
    exact ⟨rfl, Ext.refl _⟩
  refine RW_d (fun v61 => [(Pt g_b g_o), (.agg #[(Iv x), (Iv y), (Iv z)]), Ud, (Pt b15 0), (Pt b23 0), v37, v38, v39, v40, v41, v42, v43, v44, v45, v46, v47, v48, v49, v50, v51, v52, v53, v54, v55, v56, v57, v58, v59, v60, v61, Ud, Ud, Ud, Ud, Ud]) rfl (fun _ => rfl) (fun u hu hF => ?_) (fun v61 => ?_)
  · clear hF
    refine doesG_un rfl ?_
    refine (does_indexAt_run (r := (Pt b15 2)) (ev rfl) (ev rfl) (fun w => ia80_2 _ _ w)).mono ?_; rintro _ _ ⟨rfl, rfl⟩
    exact ⟨rfl, Ext.refl _⟩
  refine RW_d (fun v62 => [(Pt g_b g_o), (.agg #[(Iv x), (Iv y), (Iv z)]), Ud, (Pt b15 0), (Pt b23 0), v37, v38, v39, v40, v41, v42, v43, v44, v45, v46, v47, v48, v49, v50, v51, v52, v53, v54, v55, v56, v57, v58, v59, v60, v61, v62, Ud, Ud, Ud, Ud]) rfl (fun _ => rfl) (fun u hu hF => ?_) (fun v62 => ?_)
  · have h29_ : v61 = (Pt b15 2) := hF.1
    clear hF
    obtain rfl := h29_
    refine doesG_un rfl ?_
    refine (does_load (u := (Iv z)) (ev rfl) Try.isAgg2 (Cells.at (Blk.cells (((hB17.ext E26).ext E34).ext hu)) 2 rfl)).mono ?_; rintro _ _ ⟨rfl, rfl⟩
    exact ⟨rfl, Ext.refl _⟩
  refine RW_d (fun v63 => [(Pt g_b g_o), (.agg #[(Iv x), (Iv y), (Iv z)]), Ud, (Pt b15 0), (Pt b23 0), v37, v38, v39, v40, v41, v42, v43, v44, v45, v46, v47, v48, v49, v50, v51, v52, v53, v54, v55, v56, v57, v58, v59, v60, v61, v62, v63, Ud, Ud, Ud]) rfl (fun _ => rfl) (fun u hu hF => ?_) (fun v63 => ?_)
  · have h30_ : v62 = (Iv z) := hF.1
    clear hF
    obtain rfl := h30_
    refine doesG_un rfl ?_
    refine (does_conv_if (k := .f32) Try.underlying2 Try.underlying22 (ev rfl)).mono ?_; rintro _ _ ⟨rfl, rfl⟩
    exact ⟨rfl, Ext.refl _⟩
  refine RW_d (fun v64 => [(Pt g_b g_o), (.agg #[(Iv x), (Iv y), (Iv z)]), Ud, (Pt b15 0), (Pt b23 0), v37, v38, v39, v40, v41, v42, v43, v44, v45, v46, v47, v48, v49, v50, v51, v52, v53, v54, v55, v56, v57, v58, v59, v60, v61, v62, v63, v64, Ud, Ud]) rfl (fun _ => rfl) (fun u hu hF => ?_) (fun v64 => ?_)
  · have h28_ : v60 = (Fl r7) := hF.1
    have h31_ : v63 = (Fl (FloatKind.f32.nearest z)) := hF.2.1
    clear hF
    obtain rfl := h28_
    obtain rfl := h31_
    refine doesG_un rfl ?_
    refine (does_float (.inr (.inr (.inl rfl))) (ev rfl) (ev rfl)).mono ?_; rintro _ _ ⟨r, rfl, hr, hx⟩
    exact ⟨⟨r, rfl, (by simp only [hr])⟩, hx⟩
  refine RW_d (fun v65 => [(Pt g_b g_o), (.agg #[(Iv x), (Iv y), (Iv z)]), Ud, (Pt b15 0), (Pt b23 0), v37, v38, v39, v40, v41, v42, v43, v44, v45, v46, v47, v48, v49, v50, v51, v52, v53, v54, v55, v56, v57, v58, v59, v60, v61, v62, v63, v64, v65, Ud]) rfl (fun _ => rfl) (fun u hu hF => ?_) (fun v65 => ?_)
  · have h16_ : ∃ r_1 : Nat, v48 = (Fl r_1) ∧ cf .f32 r_1 = fop .mul .f32 (cf .f32 r7) (cf .f32 (FloatKind.f32.nearest x)) := hF.1
    have h24_ : ∃ r_1 : Nat, v56 = (Fl r_1) ∧ cf .f32 r_1 = fop .mul .f32 (cf .f32 r7) (cf .f32 (FloatKind.f32.nearest y)) := hF.2.1
    have h32_ : ∃ r_1 : Nat, v64 = (Fl r_1) ∧ cf .f32 r_1 = fop .mul .f32 (cf .f32 r7) (cf .f32 (FloatKind.f32.nearest z)) := hF.2.2.1
    clear hF
    obtain ⟨r16_1, rfl, h16_2⟩ := h16_
    obtain ⟨r24_1, rfl, h24_2⟩ := h24_
    obtain ⟨r32_1, rfl, h32_2⟩ := h32_
    refine doesG_un rfl ?_
    refine (does_build (parts' := [(0, (Fl r16_1)), (1, (Fl r24_1)), (2, (Fl r32_1))]) (cells := #[(Fl r16_1), (Fl r24_1), (Fl r32_1)]) (evp rfl) (by kernel_rfl)).mono ?_; rintro _ _ ⟨rfl, rfl⟩
    exact ⟨⟨r16_1, r24_1, r32_1, rfl, (by simp only [h16_2, h24_2, h32_2]), (by simp only [h16_2, h24_2, h32_2]), (by simp only [h16_2, h24_2, h32_2])⟩, Ext.refl _⟩
  refine RW_d (fun v66 => [(Pt g_b g_o), (.agg #[(Iv x), (Iv y), (Iv z)]), Ud, (Pt b15 0), (Pt b23 0), v37, v38, v39, v40, v41, v42, v43, v44, v45, v46, v47, v48, v49, v50, v51, v52, v53, v54, v55, v56, v57, v58, v59, v60, v61, v62, v63, v64, v65, v66]) rfl (fun _ => rfl) (fun u hu hF => ?_) (fun v66 => ?_)
  · have h8_ : v40 = (.agg #[(Fl r1), (Fl r3), (Fl r5)]) := hF.1
    have h33_ : ∃ r_1 : Nat, ∃ r_2 : Nat, ∃ r_3 : Nat, v65 = (.agg #[(Fl r_1), (Fl r_2), (Fl r_3)]) ∧ cf .f32 r_1 = fop .mul .f32 (cf .f32 r7) (cf .f32 (FloatKind.f32.nearest x)) ∧ cf .f32 r_2 = fop .mul .f32 (cf .f32 r7) (cf .f32 (FloatKind.f32.nearest y)) ∧ cf .f32 r_3 = fop .mul .f32 (cf .f32 r7) (cf .f32 (FloatKind.f32.nearest z)) := hF.2.1
    clear hF
    obtain rfl := h8_
    obtain ⟨r33_1, r33_3, r33_5, rfl, h33_2, h33_4, h33_6⟩ := h33_
    refine doesG_un rfl ?_
    refine (does_call (args := #[(.agg #[(Fl r1), (Fl r3), (Fl r5)]), (.agg #[(Fl r33_1), (Fl r33_3), (Fl r33_5)])]) cal110 (evs rfl) (c_impl_AddVectors [(Fl r1), (Fl r3), (Fl r5)] A_g.low [(Fl r33_1), (Fl r33_3), (Fl r33_5)] (V3.mk (fop .mul .f32 (cf .f32 r7) (cf .f32 (FloatKind.f32.nearest x))) (fop .mul .f32 (cf .f32 r7) (cf .f32 (FloatKind.f32.nearest y))) (fop .mul .f32 (cf .f32 r7) (cf .f32 (FloatKind.f32.nearest z)))) _ ⟨r1, r3, r5, rfl, h2, h4, h6⟩ ⟨r33_1, r33_3, r33_5, rfl, (by assumption), (by assumption), (by assumption)⟩)).mono ?_; rintro v u' ⟨hx, ⟨csn1, hv, k0⟩⟩
    exact ⟨⟨csn1, hv.trans (by simp only [h33_2, h33_4, h33_6]), (by first | exact k0 | simpa only [h33_2, h33_4, h33_6] using RV3.any (w := w) k0)⟩, hx⟩
  refine RW_fin ?_; intro w67 E68 hP69
  obtain ⟨⟨⟨⟨⟨⟨⟨⟨⟨⟨⟨⟨⟨⟨⟨⟨⟨⟨⟨⟨⟨⟨⟨⟨⟨⟨⟨⟨⟨⟨-, -⟩, -⟩, -⟩, -⟩, -⟩, -⟩, -⟩, -⟩, -⟩, -⟩, -⟩, -⟩, -⟩, -⟩, -⟩, -⟩, -⟩, -⟩, -⟩, -⟩, -⟩, -⟩, -⟩, -⟩, -⟩, -⟩, -⟩, -⟩, -⟩, q70⟩ := hP69
  have X71 := Ext.gr X36 E68
  have q70 : ∃ cs_1 : List Value, v66 = (.agg cs_1.toArray) ∧ RV3 w (vadd A_g.low (V3.mk (fop .mul .f32 (cf .f32 r7) (cf .f32 (FloatKind.f32.nearest x))) (fop .mul .f32 (cf .f32 r7) (cf .f32 (FloatKind.f32.nearest y))) (fop .mul .f32 (cf .f32 r7) (cf .f32 (FloatKind.f32.nearest z))))) cs_1 := q70
  obtain ⟨_, rfl, ⟨r72, r74, r76, rfl, h73, h75, h77⟩⟩ := q70
  show wpList _ _ _ _ (fr [(Pt g_b g_o), (.agg #[(Iv x), (Iv y), (Iv z)]), Ud, (Pt b15 0), (Pt b23 0), v37, v38, v39, v40, v41, v42, v43, v44, v45, v46, v47, v48, v49, v50, v51, v52, v53, v54, v55, v56, v57, v58, v59, v60, v61, v62, v63, v64, v65, (.agg #[(Fl r72), (Fl r74), (Fl r76)])]) _
  refine seqn rfl rfl (does_store (n := 3) (cs := [(Fl 0), (Fl 0), (Fl 0)]) (u := (.agg #[(Fl r72), (Fl r74), (Fl r76)])) (ev rfl) (ev rfl) Try.sizeOf30 rfl ((hB25.ext E34).ext E68) (Nat.le_of_ble_eq_true rfl) rfl) ?_; rintro _ w80 ⟨rfl, W78, hB79⟩
  change Blk _ _ [(Fl r72), (Fl r74), (Fl r76)] at hB79
  have X81 := Below.wr X71 W78 g30
  refine wpList_nil (hK32 _ _ ?_)
  refine wp_ret ?_
  refine ret_val (v := (.agg #[(Fl r72), (Fl r74), (Fl r76)])) (res_C rfl (slot rfl) (run_loadAgg (cs := [(Fl r72), (Fl r74), (Fl r76)]) Try.isAgg30 Try.sizeOf30 (Blk.cells hB79) rfl)) X81 ?_
  have x82 : cf .f32 r72 = (ptG A_g.low A_g.step x y z).x := by first | rfl | (simp only [ptG, nrF, h2, h4, h6, h8, h73, h75, h77]; done) | (simp [ptG, nrF, h2, h4, h6, h8, h73, h75, h77]; done)
  have x83 : cf .f32 r74 = (ptG A_g.low A_g.step x y z).y := by first | rfl | (simp only [ptG, nrF, h2, h4, h6, h8, h73, h75, h77]; done) | (simp [ptG, nrF, h2, h4, h6, h8, h73, h75, h77]; done)
  have x84 : cf .f32 r76 = (ptG A_g.low A_g.step x y z).z := by first | rfl | (simp only [ptG, nrF, h2, h4, h6, h8, h73, h75, h77]; done) | (simp [ptG, nrF, h2, h4, h6, h8, h73, h75, h77]; done)
  exact ⟨[(Fl r72), (Fl r74), (Fl r76)], rfl, ⟨r72, r74, r76, rfl, x82, x83, x84⟩⟩

/- impl.GridPoint -/
theorem c_impl_GridPoint (g : List Value) (A_g : GridT) (x : Int) (y : Int) (z : Int) (w : World) (hv_g : RGridT w A_g g) : Gives Try.prog 28 #[(.agg g.toArray), (Iv x), (Iv y), (Iv z)] w (fun v w' => ∃ cs_1 : List Value, v = (.tuple #[(.agg cs_1.toArray), (Bo (hasOk A_g x y z))]) ∧ RV3 w (gvV (hasOk A_g x y z) (ptG A_g.low A_g.step x y z)) cs_1) := by
  obtain ⟨r1, r3, r5, r7, y9, rfl, h2, h4, h6, h8, h10⟩ := hv_g
  have hs13 := h10; have hs13l := Sl.len h10; obtain ⟨p11, q12, rfl⟩ := Sl.shape h10
  refine enter [(.agg #[(Fl r1), (Fl r3), (Fl r5), (Fl r7), (Iv A_g.x), (Iv A_g.y), (Iv A_g.z), (.slice p11 A_g.vals.length q12)]), (Iv x), (Iv y), (Iv z), Ud, Ud, Ud, Ud, Ud, Ud, Ud, Ud, Ud, Ud, Ud, Ud, Ud, Ud, Ud, Ud, Ud] Try.func28 rfl Try.ntmps28 rfl ?_
  refine wp_seq_k fun K14 hK14 => ?_
  refine wp_region_lit ?_
  refine seqd rfl rfl (does_box (u := (.agg #[(Fl r1), (Fl r3), (Fl r5), (Fl r7), (Iv A_g.x), (Iv A_g.y), (Iv A_g.z), (.slice p11 A_g.vals.length q12)])) (ev rfl)) ?_; rintro _ w19 ⟨b15, rfl, hb16, hB17, E18⟩
  have g20 : w.heap.size ≤ b15 := Nat.le_trans (Below.size (Ext.refl w)) hb16
  change Blk _ _ [(Fl r1), (Fl r3), (Fl r5), (Fl r7), (Iv A_g.x), (Iv A_g.y), (Iv A_g.z), (.slice p11 A_g.vals.length q12)] at hB17
  have X21 := Ext.gr (Ext.refl w) E18
  show wpList _ _ _ _ (fr [(.agg #[(Fl r1), (Fl r3), (Fl r5), (Fl r7), (Iv A_g.x), (Iv A_g.y), (Iv A_g.z), (.slice p11 A_g.vals.length q12)]), (Iv x), (Iv y), (Iv z), (Pt b15 0), Ud, Ud, Ud, Ud, Ud, Ud, Ud, Ud, Ud, Ud, Ud, Ud, Ud, Ud, Ud, Ud]) _
  refine seqd rfl rfl (does_alloc z30) ?_; rintro _ w26 ⟨b22, rfl, hb23, hB24, E25⟩
  have n27 : b15 < b22 := Nat.lt_of_lt_of_le (Blk.lt hB17) hb23
  have g28 : w.heap.size ≤ b22 := Nat.le_trans (Below.size X21) hb23
  change Blk _ _ [(Fl 0), (Fl 0), (Fl 0)] at hB24
  have X29 := Ext.gr X21 E25
  show wpList _ _ _ _ (fr [(.agg #[(Fl r1), (Fl r3), (Fl r5), (Fl r7), (Iv A_g.x), (Iv A_g.y), (Iv A_g.z), (.slice p11 A_g.vals.length q12)]), (Iv x), (Iv y), (Iv z), (Pt b15 0), Ud, Ud, Ud, (Pt b22 0), Ud, Ud, Ud, Ud, Ud, Ud, Ud, Ud, Ud, Ud, Ud, Ud]) _
  refine q_is (l' := [(.agg #[(Fl r1), (Fl r3), (Fl r5), (Fl r7), (Iv A_g.x), (Iv A_g.y), (Iv A_g.z), (.slice p11 A_g.vals.length q12)]), (Iv x), (Iv y), (Iv z), (Pt b15 0), Ud, Ud, Ud, (Pt b22 0), (Bo false), Ud, Ud, Ud, Ud, Ud, Ud, Ud, Ud, Ud, Ud, Ud]) rfl rfl (does_assign (u := (Bo false)) (ev rfl)) rfl ?_
  refine wpList_nil (hK14 _ _ ?_)
  refine wp_seq_k fun K30 hK30 => ?_
  refine wp_seq_k fun K31 hK31 => ?_
  refine wp_region_lit ?_
  refine q_is (l' := [(.agg #[(Fl r1), (Fl r3), (Fl r5), (Fl r7), (Iv A_g.x), (Iv A_g.y), (Iv A_g.z), (.slice p11 A_g.vals.length q12)]), (Iv x), (Iv y), (Iv z), (Pt b15 0), Ud, Ud, Ud, (Pt b22 0), (Bo false), (Iv x), Ud, Ud, Ud, Ud, Ud, Ud, Ud, Ud, Ud, Ud]) rfl rfl (does_move (u := (Iv x)) (ev rfl)) rfl ?_
  refine q_is (l' := [(.agg #[(Fl r1), (Fl r3), (Fl r5), (Fl r7), (Iv A_g.x), (Iv A_g.y), (Iv A_g.z), (.slice p11 A_g.vals.length q12)]), (Iv x), (Iv y), (Iv z), (Pt b15 0), Ud, Ud, Ud, (Pt b22 0), (Bo false), (Iv x), (Iv y), Ud, Ud, Ud, Ud, Ud, Ud, Ud, Ud, Ud]) rfl rfl (does_move (u := (Iv y)) (ev rfl)) rfl ?_
  refine q_is (l' := [(.agg #[(Fl r1), (Fl r3), (Fl r5), (Fl r7), (Iv A_g.x), (Iv A_g.y), (Iv A_g.z), (.slice p11 A_g.vals.length q12)]), (Iv x), (Iv y), (Iv z), (Pt b15 0), Ud, Ud, Ud, (Pt b22 0), (Bo false), (Iv x), (Iv y), (Iv z), Ud, Ud, Ud, Ud, Ud, Ud, Ud, Ud]) rfl rfl (does_move (u := (Iv z)) (ev rfl)) rfl ?_
  refine seqd rfl rfl (does_call (args := #[(Pt b15 0), (Iv x), (Iv y), (Iv z)]) cal70 (evs rfl) (c_impl_Grid_has b15 0 [(Fl r1), (Fl r3), (Fl r5), (Fl r7), (Iv A_g.x), (Iv A_g.y), (Iv A_g.z), (.slice p11 A_g.vals.length q12)] A_g x y z _ (Blk.cells (hB17.ext E25)) ⟨r1, r3, r5, r7, (.slice p11 A_g.vals.length q12), rfl, h2, h4, h6, h8, (Sl.ext hs13 RF.mono X29)⟩)) ?_; rintro _ w33 ⟨E32, rfl⟩
  have X34 := Ext.gr X29 E32
  show wpList _ _ _ _ (fr [(.agg #[(Fl r1), (Fl r3), (Fl r5), (Fl r7), (Iv A_g.x), (Iv A_g.y), (Iv A_g.z), (.slice p11 A_g.vals.length q12)]), (Iv x), (Iv y), (Iv z), (Pt b15 0), Ud, Ud, Ud, (Pt b22 0), (Bo false), (Iv x), (Iv y), (Iv z), (Bo (hasOk A_g x y z)), Ud, Ud, Ud, Ud, Ud, Ud, Ud]) _
  refine q_is (l' := [(.agg #[(Fl r1), (Fl r3), (Fl r5), (Fl r7), (Iv A_g.x), (Iv A_g.y), (Iv A_g.z), (.slice p11 A_g.vals.length q12)]), (Iv x), (Iv y), (Iv z), (Pt b15 0), Ud, Ud, Ud, (Pt b22 0), (Bo false), (Iv x), (Iv y), (Iv z), (Bo (hasOk A_g x y z)), (Bo (!(hasOk A_g x y z))), Ud, Ud, Ud, Ud, Ud, Ud]) rfl rfl (does_not (ev rfl)) rfl ?_
  refine wpList_nil (hK31 _ _ ?_)
  refine wp_cond_split (t := !(hasOk A_g x y z)) (ev rfl) (fun c35 => ?_) (fun c35 => ?_)
  · rw [Bool.not_eq_true'] at c35
    have c35' := c35
    refine wp_seq_k fun K36 hK36 => ?_
    refine wp_region_lit ?_
    refine q_is (l' := [(.agg #[(Fl r1), (Fl r3), (Fl r5), (Fl r7), (Iv A_g.x), (Iv A_g.y), (Iv A_g.z), (.slice p11 A_g.vals.length q12)]), (Iv x), (Iv y), (Iv z), (Pt b15 0), Ud, Ud, Ud, (Pt b22 0), (Bo false), (Iv x), (Iv y), (Iv z), (Bo (hasOk A_g x y z)), (Bo (!(hasOk A_g x y z))), (.agg #[(Fl 0), (Fl 0), (Fl 0)]), Ud, Ud, Ud, Ud, Ud]) rfl rfl (does_build (parts' := []) (cells := #[(Fl 0), (Fl 0), (Fl 0)]) (evp rfl) (by kernel_rfl)) rfl ?_
    refine seqn rfl rfl (does_store (n := 3) (cs := [(Fl 0), (Fl 0), (Fl 0)]) (u := (.agg #[(Fl 0), (Fl 0), (Fl 0)])) (ev rfl) (ev rfl) Try.sizeOf30 rfl (hB24.ext E32) (Nat.le_of_ble_eq_true rfl) rfl) ?_; rintro _ w39 ⟨rfl, W37, hB38⟩
    change Blk _ _ [(Fl 0), (Fl 0), (Fl 0)] at hB38
    have X40 := Below.wr X34 W37 g28
    refine q_is (l' := [(.agg #[(Fl r1), (Fl r3), (Fl r5), (Fl r7), (Iv A_g.x), (Iv A_g.y), (Iv A_g.z), (.slice p11 A_g.vals.length q12)]), (Iv x), (Iv y), (Iv z), (Pt b15 0), Ud, Ud, Ud, (Pt b22 0), (Bo false), (Iv x), (Iv y), (Iv z), (Bo (hasOk A_g x y z)), (Bo (!(hasOk A_g x y z))), (.agg #[(Fl 0), (Fl 0), (Fl 0)]), Ud, Ud, Ud, Ud, Ud]) rfl rfl (does_assign (u := (Bo false)) (ev rfl)) rfl ?_
    refine wpList_nil (hK36 _ _ ?_)
    refine wp_ret ?_
    dsimp only [Exit.then, Exit.inBlock]
    refine ret_val (v := (.tuple #[(.agg #[(Fl 0), (Fl 0), (Fl 0)]), (Bo false)])) (res_CT rfl (slot rfl) (run_loadAgg (cs := [(Fl 0), (Fl 0), (Fl 0)]) Try.isAgg30 Try.sizeOf30 (Blk.cells hB38) rfl) (slot rfl)) X40 ?_
    try simp only [h2, h4, h6, h8] at c35
    have x41 : (hasOk A_g x y z) = false := by first | rfl | (simp only [gvV_t, gvV_f, zV, h2, h4, h6, h8, c35]; done) | exact hasOk_f (by assumption) | exact hasOk_t (by assumption) | assumption | (rw [hasOk_f (by assumption)]; rfl) | (rw [‹hasOk A_g x y z = false›]; rfl) | (rw [hasOk_t (by assumption)]; simp only [gvV_t, gvV_f, zV, h2, h4, h6, h8, c35]; done)
    have x42 : cf .f32 0 = (gvV (hasOk A_g x y z) (ptG A_g.low A_g.step x y z)).x := by first | rfl | (simp only [gvV_t, gvV_f, zV, h2, h4, h6, h8, c35]; done) | exact hasOk_f (by assumption) | exact hasOk_t (by assumption) | assumption | (rw [hasOk_f (by assumption)]; rfl) | (rw [‹hasOk A_g x y z = false›]; rfl) | (rw [hasOk_t (by assumption)]; simp only [gvV_t, gvV_f, zV, h2, h4, h6, h8, c35]; done)
    have x43 : cf .f32 0 = (gvV (hasOk A_g x y z) (ptG A_g.low A_g.step x y z)).y := by first | rfl | (simp only [gvV_t, gvV_f, zV, h2, h4, h6, h8, c35]; done) | exact hasOk_f (by assumption) | exact hasOk_t (by assumption) | assumption | (rw [hasOk_f (by assumption)]; rfl) | (rw [‹hasOk A_g x y z = false›]; rfl) | (rw [hasOk_t (by assumption)]; simp only [gvV_t, gvV_f, zV, h2, h4, h6, h8, c35]; done)
    have x44 : cf .f32 0 = (gvV (hasOk A_g x y z) (ptG A_g.low A_g.step x y z)).z := by first | rfl | (simp only [gvV_t, gvV_f, zV, h2, h4, h6, h8, c35]; done) | exact hasOk_f (by assumption) | exact hasOk_t (by assumption) | assumption | (rw [hasOk_f (by assumption)]; rfl) | (rw [‹hasOk A_g x y z = false›]; rfl) | (rw [hasOk_t (by assumption)]; simp only [gvV_t, gvV_f, zV, h2, h4, h6, h8, c35]; done)
    exact ⟨[(Fl 0), (Fl 0), (Fl 0)], (by first | rfl | rw [x41]), ⟨0, 0, 0, rfl, x42, x43, x44⟩⟩
  rw [Bool.not_eq_false'] at c35
  have c35' := c35
  refine wp_skip (hK30 _ _ ?_)
  refine wp_seq_k fun K45 hK45 => ?_
  refine wp_region_lit ?_
  refine q_is (l' := [(.agg #[(Fl r1), (Fl r3), (Fl r5), (Fl r7), (Iv A_g.x), (Iv A_g.y), (Iv A_g.z), (.slice p11 A_g.vals.length q12)]), (Iv x), (Iv y), (Iv z), (Pt b15 0), Ud, Ud, Ud, (Pt b22 0), (Bo false), (Iv x), (Iv y), (Iv z), (Bo (hasOk A_g x y z)), (Bo (!(hasOk A_g x y z))), Ud, (Iv x), Ud, Ud, Ud, Ud]) rfl rfl (does_move (u := (Iv x)) (ev rfl)) rfl ?_
  refine q_is (l' := [(.agg #[(Fl r1), (Fl r3), (Fl r5), (Fl r7), (Iv A_g.x), (Iv A_g.y), (Iv A_g.z), (.slice p11 A_g.vals.length q12)]), (Iv x), (Iv y), (Iv z), (Pt b15 0), Ud, Ud, Ud, (Pt b22 0), (Bo false), (Iv x), (Iv y), (Iv z), (Bo (hasOk A_g x y z)), (Bo (!(hasOk A_g x y z))), Ud, (Iv x), (Iv y), Ud, Ud, Ud]) rfl rfl (does_move (u := (Iv y)) (ev rfl)) rfl ?_
  refine q_is (l' := [(.agg #[(Fl r1), (Fl r3), (Fl r5), (Fl r7), (Iv A_g.x), (Iv A_g.y), (Iv A_g.z), (.slice p11 A_g.vals.length q12)]), (Iv x), (Iv y), (Iv z), (Pt b15 0), Ud, Ud, Ud, (Pt b22 0), (Bo false), (Iv x), (Iv y), (Iv z), (Bo (hasOk A_g x y z)), (Bo (!(hasOk A_g x y z))), Ud, (Iv x), (Iv y), (Iv z), Ud, Ud]) rfl rfl (does_move (u := (Iv z)) (ev rfl)) rfl ?_
  refine q_is (l' := [(.agg #[(Fl r1), (Fl r3), (Fl r5), (Fl r7), (Iv A_g.x), (Iv A_g.y), (Iv A_g.z), (.slice p11 A_g.vals.length q12)]), (Iv x), (Iv y), (Iv z), (Pt b15 0), Ud, Ud, Ud, (Pt b22 0), (Bo false), (Iv x), (Iv y), (Iv z), (Bo (hasOk A_g x y z)), (Bo (!(hasOk A_g x y z))), Ud, (Iv x), (Iv y), (Iv z), (.agg #[(Iv x), (Iv y), (Iv z)]), Ud]) rfl rfl (does_build (parts' := [(0, (Iv x)), (1, (Iv y)), (2, (Iv z))]) (cells := #[(Iv x), (Iv y), (Iv z)]) (evp rfl) (by kernel_rfl)) rfl ?_
  refine seqd rfl rfl (does_call (args := #[(Pt b15 0), (.agg #[(Iv x), (Iv y), (Iv z)])]) cal74 (evs rfl) (c_impl_Grid_point b15 0 [(Fl r1), (Fl r3), (Fl r5), (Fl r7), (Iv A_g.x), (Iv A_g.y), (Iv A_g.z), (.slice p11 A_g.vals.length q12)] A_g x y z _ (Blk.cells ((hB17.ext E25).ext E32)) ⟨r1, r3, r5, r7, (.slice p11 A_g.vals.length q12), rfl, h2, h4, h6, h8, (Sl.ext hs13 RF.mono X34)⟩)) ?_; rintro _ w47 ⟨E46, ⟨_, rfl, ⟨r48, r50, r52, rfl, h49, h51, h53⟩⟩⟩
  have X54 := Ext.gr X34 E46
  show wpList _ _ _ _ (fr [(.agg #[(Fl r1), (Fl r3), (Fl r5), (Fl r7), (Iv A_g.x), (Iv A_g.y), (Iv A_g.z), (.slice p11 A_g.vals.length q12)]), (Iv x), (Iv y), (Iv z), (Pt b15 0), Ud, Ud, Ud, (Pt b22 0), (Bo false), (Iv x), (Iv y), (Iv z), (Bo (hasOk A_g x y z)), (Bo (!(hasOk A_g x y z))), Ud, (Iv x), (Iv y), (Iv z), (.agg #[(Iv x), (Iv y), (Iv z)]), (.agg #[(Fl r48), (Fl r50), (Fl r52)])]) _
  refine seqn rfl rfl (does_store (n := 3) (cs := [(Fl 0), (Fl 0), (Fl 0)]) (u := (.agg #[(Fl r48), (Fl r50), (Fl r52)])) (ev rfl) (ev rfl) Try.sizeOf30 rfl ((hB24.ext E32).ext E46) (Nat.le_of_ble_eq_true rfl) rfl) ?_; rintro _ w57 ⟨rfl, W55, hB56⟩
  change Blk _ _ [(Fl r48), (Fl r50), (Fl r52)] at hB56
  have X58 := Below.wr X54 W55 g28
  refine q_is (l' := [(.agg #[(Fl r1), (Fl r3), (Fl r5), (Fl r7), (Iv A_g.x), (Iv A_g.y), (Iv A_g.z), (.slice p11 A_g.vals.length q12)]), (Iv x), (Iv y), (Iv z), (Pt b15 0), Ud, Ud, Ud, (Pt b22 0), (Bo true), (Iv x), (Iv y), (Iv z), (Bo (hasOk A_g x y z)), (Bo (!(hasOk A_g x y z))), Ud, (Iv x), (Iv y), (Iv z), (.agg #[(Iv x), (Iv y), (Iv z)]), (.agg #[(Fl r48), (Fl r50), (Fl r52)])]) rfl rfl (does_assign (u := (Bo true)) (ev rfl)) rfl ?_
  refine wpList_nil (hK45 _ _ ?_)
  refine wp_ret ?_
  refine ret_val (v := (.tuple #[(.agg #[(Fl r48), (Fl r50), (Fl r52)]), (Bo true)])) (res_CT rfl (slot rfl) (run_loadAgg (cs := [(Fl r48), (Fl r50), (Fl r52)]) Try.isAgg30 Try.sizeOf30 (Blk.cells hB56) rfl) (slot rfl)) X58 ?_
  try simp only [h2, h4, h6, h8, h49, h51, h53] at c35
  have x59 : (hasOk A_g x y z) = true := by first | rfl | (simp only [gvV_t, gvV_f, zV, h2, h4, h6, h8, h49, h51, h53, c35]; done) | exact hasOk_f (by assumption) | exact hasOk_t (by assumption) | assumption | (rw [hasOk_f (by assumption)]; rfl) | (rw [‹hasOk A_g x y z = false›]; rfl) | (rw [hasOk_t (by assumption)]; simp only [gvV_t, gvV_f, zV, h2, h4, h6, h8, h49, h51, h53, c35]; done)
  have x60 : cf .f32 r48 = (gvV (hasOk A_g x y z) (ptG A_g.low A_g.step x y z)).x := by first | rfl | (simp only [gvV_t, gvV_f, zV, h2, h4, h6, h8, h49, h51, h53, c35]; done) | exact hasOk_f (by assumption) | exact hasOk_t (by assumption) | assumption | (rw [hasOk_f (by assumption)]; rfl) | (rw [‹hasOk A_g x y z = false›]; rfl) | (rw [hasOk_t (by assumption)]; simp only [gvV_t, gvV_f, zV, h2, h4, h6, h8, h49, h51, h53, c35]; done)
  have x61 : cf .f32 r50 = (gvV (hasOk A_g x y z) (ptG A_g.low A_g.step x y z)).y := by first | rfl | (simp only [gvV_t, gvV_f, zV, h2, h4, h6, h8, h49, h51, h53, c35]; done) | exact hasOk_f (by assumption) | exact hasOk_t (by assumption) | assumption | (rw [hasOk_f (by assumption)]; rfl) | (rw [‹hasOk A_g x y z = false›]; rfl) | (rw [hasOk_t (by assumption)]; simp only [gvV_t, gvV_f, zV, h2, h4, h6, h8, h49, h51, h53, c35]; done)
  have x62 : cf .f32 r52 = (gvV (hasOk A_g x y z) (ptG A_g.low A_g.step x y z)).z := by first | rfl | (simp only [gvV_t, gvV_f, zV, h2, h4, h6, h8, h49, h51, h53, c35]; done) | exact hasOk_f (by assumption) | exact hasOk_t (by assumption) | assumption | (rw [hasOk_f (by assumption)]; rfl) | (rw [‹hasOk A_g x y z = false›]; rfl) | (rw [hasOk_t (by assumption)]; simp only [gvV_t, gvV_f, zV, h2, h4, h6, h8, h49, h51, h53, c35]; done)
  exact ⟨[(Fl r48), (Fl r50), (Fl r52)], (by first | rfl | rw [x59]), ⟨r48, r50, r52, rfl, x60, x61, x62⟩⟩

/- laws.FnExactGridPoint -/
theorem c_laws_FnExactGridPoint (g : List Value) (A_g : GridT) (x : Int) (y : Int) (z : Int) (w : World) (hv_g : RGridT w A_g g) : Gives Try.prog 6 #[(.agg g.toArray), (Iv x), (Iv y), (Iv z)] w (fun v w' => v = (Bo true)) := by
  obtain ⟨r1, r3, r5, r7, y9, rfl, h2, h4, h6, h8, h10⟩ := hv_g
  have hs13 := h10; have hs13l := Sl.len h10; obtain ⟨p11, q12, rfl⟩ := Sl.shape h10
  refine enter [(.agg #[(Fl r1), (Fl r3), (Fl r5), (Fl r7), (Iv A_g.x), (Iv A_g.y), (Iv A_g.z), (.slice p11 A_g.vals.length q12)]), (Iv x), (Iv y), (Iv z), Ud, Ud, Ud, Ud, Ud, Ud, Ud, Ud, Ud, Ud, Ud, Ud, Ud, Ud, Ud, Ud, Ud, Ud, Ud, Ud, Ud, Ud, Ud, Ud, Ud, Ud, Ud, Ud, Ud, Ud, Ud, Ud, Ud, Ud, Ud, Ud, Ud, Ud, Ud, Ud, Ud, Ud, Ud, Ud, Ud, Ud, Ud, Ud, Ud] Try.func6 rfl Try.ntmps6 rfl ?_
  refine wp_seq_k fun K14 hK14 => ?_
  refine wp_region_lit ?_
  refine seqd rfl rfl (does_box (u := (.agg #[(Fl r1), (Fl r3), (Fl r5), (Fl r7), (Iv A_g.x), (Iv A_g.y), (Iv A_g.z), (.slice p11 A_g.vals.length q12)])) (ev rfl)) ?_; rintro _ w19 ⟨b15, rfl, hb16, hB17, E18⟩
  have g20 : w.heap.size ≤ b15 := Nat.le_trans (Below.size (Ext.refl w)) hb16
  change Blk _ _ [(Fl r1), (Fl r3), (Fl r5), (Fl r7), (Iv A_g.x), (Iv A_g.y), (Iv A_g.z), (.slice p11 A_g.vals.length q12)] at hB17
  have X21 := Ext.gr (Ext.refl w) E18
  show wpList _ _ _ _ (fr [(.agg #[(Fl r1), (Fl r3), (Fl r5), (Fl r7), (Iv A_g.x), (Iv A_g.y), (Iv A_g.z), (.slice p11 A_g.vals.length q12)]), (Iv x), (Iv y), (Iv z), (Pt b15 0), Ud, Ud, Ud, Ud, Ud, Ud, Ud, Ud, Ud, Ud, Ud, Ud, Ud, Ud, Ud, Ud, Ud, Ud, Ud, Ud, Ud, Ud, Ud, Ud, Ud, Ud, Ud, Ud, Ud, Ud, Ud, Ud, Ud, Ud, Ud, Ud, Ud, Ud, Ud, Ud, Ud, Ud, Ud, Ud, Ud, Ud, Ud, Ud]) _
  refine q_is (l' := [(.agg #[(Fl r1), (Fl r3), (Fl r5), (Fl r7), (Iv A_g.x), (Iv A_g.y), (Iv A_g.z), (.slice p11 A_g.vals.length q12)]), (Iv x), (Iv y), (Iv z), (Pt b15 0), Ud, Ud, Ud, (Bo false), Ud, Ud, Ud, Ud, Ud, Ud, Ud, Ud, Ud, Ud, Ud, Ud, Ud, Ud, Ud, Ud, Ud, Ud, Ud, Ud, Ud, Ud, Ud, Ud, Ud, Ud, Ud, Ud, Ud, Ud, Ud, Ud, Ud, Ud, Ud, Ud, Ud, Ud, Ud, Ud, Ud, Ud, Ud, Ud]) rfl rfl (does_assign (u := (Bo false)) (ev rfl)) rfl ?_
  refine wpList_nil (hK14 _ _ ?_)
  refine wp_seq_k fun K22 hK22 => ?_
  refine wp_region_lit ?_
  refine q_is (l' := [(.agg #[(Fl r1), (Fl r3), (Fl r5), (Fl r7), (Iv A_g.x), (Iv A_g.y), (Iv A_g.z), (.slice p11 A_g.vals.length q12)]), (Iv x), (Iv y), (Iv z), (Pt b15 0), Ud, Ud, Ud, (Bo false), (Iv 1048576), Ud, Ud, Ud, Ud, Ud, Ud, Ud, Ud, Ud, Ud, Ud, Ud, Ud, Ud, Ud, Ud, Ud, Ud, Ud, Ud, Ud, Ud, Ud, Ud, Ud, Ud, Ud, Ud, Ud, Ud, Ud, Ud, Ud, Ud, Ud, Ud, Ud, Ud, Ud, Ud, Ud, Ud, Ud]) rfl rfl (does_assign (u := (Iv 1048576)) (ev rfl)) rfl ?_
  refine wpList_nil (hK22 _ _ ?_)
  refine wp_seq_k fun K23 hK23 => ?_
  refine wp_region_lit ?_
  refine q_is (l' := [(.agg #[(Fl r1), (Fl r3), (Fl r5), (Fl r7), (Iv A_g.x), (Iv A_g.y), (Iv A_g.z), (.slice p11 A_g.vals.length q12)]), (Iv x), (Iv y), (Iv z), (Pt b15 0), Ud, Ud, Ud, (Bo false), (Iv 1048576), Ud, Ud, Ud, Ud, Ud, (.agg #[(Fl r1), (Fl r3), (Fl r5), (Fl r7), (Iv A_g.x), (Iv A_g.y), (Iv A_g.z), (.slice p11 A_g.vals.length q12)]), Ud, Ud, Ud, Ud, Ud, Ud, Ud, Ud, Ud, Ud, Ud, Ud, Ud, Ud, Ud, Ud, Ud, Ud, Ud, Ud, Ud, Ud, Ud, Ud, Ud, Ud, Ud, Ud, Ud, Ud, Ud, Ud, Ud, Ud, Ud, Ud, Ud]) rfl rfl (does_loadAgg (cs := [(Fl r1), (Fl r3), (Fl r5), (Fl r7), (Iv A_g.x), (Iv A_g.y), (Iv A_g.z), (.slice p11 A_g.vals.length q12)]) (ev rfl) Try.isAgg27 Try.sizeOf27 (Blk.cells hB17) rfl) rfl ?_
  refine q_is (l' := [(.agg #[(Fl r1), (Fl r3), (Fl r5), (Fl r7), (Iv A_g.x), (Iv A_g.y), (Iv A_g.z), (.slice p11 A_g.vals.length q12)]), (Iv x), (Iv y), (Iv z), (Pt b15 0), Ud, Ud, Ud, (Bo false), (Iv 1048576), Ud, Ud, Ud, Ud, Ud, (.agg #[(Fl r1), (Fl r3), (Fl r5), (Fl r7), (Iv A_g.x), (Iv A_g.y), (Iv A_g.z), (.slice p11 A_g.vals.length q12)]), (Iv 1048576), Ud, Ud, Ud, Ud, Ud, Ud, Ud, Ud, Ud, Ud, Ud, Ud, Ud, Ud, Ud, Ud, Ud, Ud, Ud, Ud, Ud, Ud, Ud, Ud, Ud, Ud, Ud, Ud, Ud, Ud, Ud, Ud, Ud, Ud, Ud, Ud]) rfl rfl (does_move (u := (Iv 1048576)) (ev rfl)) rfl ?_
  refine seqd rfl rfl (does_call (args := #[(.agg #[(Fl r1), (Fl r3), (Fl r5), (Fl r7), (Iv A_g.x), (Iv A_g.y), (Iv A_g.z), (.slice p11 A_g.vals.length q12)]), (Iv 1048576)]) cal17 (evs rfl) (c_laws_szGrid [(Fl r1), (Fl r3), (Fl r5), (Fl r7), (Iv A_g.x), (Iv A_g.y), (Iv A_g.z), (.slice p11 A_g.vals.length q12)] A_g 1048576 _ ⟨r1, r3, r5, r7, (.slice p11 A_g.vals.length q12), rfl, h2, h4, h6, h8, (Sl.ext hs13 RF.mono X21)⟩ (by omega) (by omega))) ?_; rintro _ w25 ⟨E24, ⟨i26, rfl, h27⟩⟩
  have X28 := Ext.gr X21 E24
  show wpList _ _ _ _ (fr [(.agg #[(Fl r1), (Fl r3), (Fl r5), (Fl r7), (Iv A_g.x), (Iv A_g.y), (Iv A_g.z), (.slice p11 A_g.vals.length q12)]), (Iv x), (Iv y), (Iv z), (Pt b15 0), Ud, Ud, Ud, (Bo false), (Iv 1048576), Ud, Ud, Ud, Ud, Ud, (.agg #[(Fl r1), (Fl r3), (Fl r5), (Fl r7), (Iv A_g.x), (Iv A_g.y), (Iv A_g.z), (.slice p11 A_g.vals.length q12)]), (Iv 1048576), (Iv i26), Ud, Ud, Ud, Ud, Ud, Ud, Ud, Ud, Ud, Ud, Ud, Ud, Ud, Ud, Ud, Ud, Ud, Ud, Ud, Ud, Ud, Ud, Ud, Ud, Ud, Ud, Ud, Ud, Ud, Ud, Ud, Ud, Ud, Ud, Ud]) _
  refine q_is (l' := [(.agg #[(Fl r1), (Fl r3), (Fl r5), (Fl r7), (Iv A_g.x), (Iv A_g.y), (Iv A_g.z), (.slice p11 A_g.vals.length q12)]), (Iv x), (Iv y), (Iv z), (Pt b15 0), Ud, Ud, Ud, (Bo false), (Iv i26), Ud, Ud, Ud, Ud, Ud, (.agg #[(Fl r1), (Fl r3), (Fl r5), (Fl r7), (Iv A_g.x), (Iv A_g.y), (Iv A_g.z), (.slice p11 A_g.vals.length q12)]), (Iv 1048576), (Iv i26), Ud, Ud, Ud, Ud, Ud, Ud, Ud, Ud, Ud, Ud, Ud, Ud, Ud, Ud, Ud, Ud, Ud, Ud, Ud, Ud, Ud, Ud, Ud, Ud, Ud, Ud, Ud, Ud, Ud, Ud, Ud, Ud, Ud, Ud, Ud]) rfl rfl (does_assign (u := (Iv i26)) (ev rfl)) rfl ?_
  refine wpList_nil (hK23 _ _ ?_)
  refine wp_seq_k fun K29 hK29 => ?_
  refine wp_seq_k fun K30 hK30 => ?_
  refine wp_region_lit ?_
  refine q_is (l' := [(.agg #[(Fl r1), (Fl r3), (Fl r5), (Fl r7), (Iv A_g.x), (Iv A_g.y), (Iv A_g.z), (.slice p11 A_g.vals.length q12)]), (Iv x), (Iv y), (Iv z), (Pt b15 0), Ud, Ud, Ud, (Bo false), (Iv i26), Ud, Ud, Ud, Ud, Ud, (.agg #[(Fl r1), (Fl r3), (Fl r5), (Fl r7), (Iv A_g.x), (Iv A_g.y), (Iv A_g.z), (.slice p11 A_g.vals.length q12)]), (Iv 1048576), (Iv i26), (Iv i26), Ud, Ud, Ud, Ud, Ud, Ud, Ud, Ud, Ud, Ud, Ud, Ud, Ud, Ud, Ud, Ud, Ud, Ud, Ud, Ud, Ud, Ud, Ud, Ud, Ud, Ud, Ud, Ud, Ud, Ud, Ud, Ud, Ud, Ud]) rfl rfl (does_move (u := (Iv i26)) (ev rfl)) rfl ?_
  refine q_is (l' := [(.agg #[(Fl r1), (Fl r3), (Fl r5), (Fl r7), (Iv A_g.x), (Iv A_g.y), (Iv A_g.z), (.slice p11 A_g.vals.length q12)]), (Iv x), (Iv y), (Iv z), (Pt b15 0), Ud, Ud, Ud, (Bo false), (Iv i26), Ud, Ud, Ud, Ud, Ud, (.agg #[(Fl r1), (Fl r3), (Fl r5), (Fl r7), (Iv A_g.x), (Iv A_g.y), (Iv A_g.z), (.slice p11 A_g.vals.length q12)]), (Iv 1048576), (Iv i26), (Iv i26), (Bo (icmp .lss i26 0)), Ud, Ud, Ud, Ud, Ud, Ud, Ud, Ud, Ud, Ud, Ud, Ud, Ud, Ud, Ud, Ud, Ud, Ud, Ud, Ud, Ud, Ud, Ud, Ud, Ud, Ud, Ud, Ud, Ud, Ud, Ud, Ud, Ud]) rfl rfl (does_icmp (p := i26) (q := 0) (.inr (.inr (.inl rfl))) (ev rfl) (ev rfl)) rfl ?_
  refine wpList_nil (hK30 _ _ ?_)
  refine wp_cond_split (t := icmp .lss i26 0) (ev rfl) (fun c31 => ?_) (fun c31 => ?_)
  · have c31' := c31
    (try simp only [icmp, Bool.and_eq_true, Bool.or_eq_true, Bool.and_eq_false_iff, Bool.or_eq_false_iff, Bool.not_eq_true', Bool.not_eq_false', decide_eq_true_eq, decide_eq_false_iff_not, beq_iff_eq, bne_iff_ne, beq_eq_false_iff_ne, bne_eq_false_iff_eq] at c31')
    refine wp_seq_k fun K32 hK32 => ?_
    refine wp_region_lit ?_
    refine q_is (l' := [(.agg #[(Fl r1), (Fl r3), (Fl r5), (Fl r7), (Iv A_g.x), (Iv A_g.y), (Iv A_g.z), (.slice p11 A_g.vals.length q12)]), (Iv x), (Iv y), (Iv z), (Pt b15 0), Ud, Ud, Ud, (Bo true), (Iv i26), Ud, Ud, Ud, Ud, Ud, (.agg #[(Fl r1), (Fl r3), (Fl r5), (Fl r7), (Iv A_g.x), (Iv A_g.y), (Iv A_g.z), (.slice p11 A_g.vals.length q12)]), (Iv 1048576), (Iv i26), (Iv i26), (Bo (icmp .lss i26 0)), Ud, Ud, Ud, Ud, Ud, Ud, Ud, Ud, Ud, Ud, Ud, Ud, Ud, Ud, Ud, Ud, Ud, Ud, Ud, Ud, Ud, Ud, Ud, Ud, Ud, Ud, Ud, Ud, Ud, Ud, Ud, Ud, Ud]) rfl rfl (does_assign (u := (Bo true)) (ev rfl)) rfl ?_
    refine wpList_nil (hK32 _ _ ?_)
    refine wp_ret ?_
    dsimp only [Exit.then, Exit.inBlock]
    refine ret_val (v := (Bo true)) (res_T rfl (slot rfl)) X28 ?_
    try simp only [h2, h4, h6, h8] at c31
    exact rfl
  have c31' := c31
  (try simp only [icmp, Bool.and_eq_true, Bool.or_eq_true, Bool.and_eq_false_iff, Bool.or_eq_false_iff, Bool.not_eq_true', Bool.not_eq_false', decide_eq_true_eq, decide_eq_false_iff_not, beq_iff_eq, bne_iff_ne, beq_eq_false_iff_ne, bne_eq_false_iff_eq] at c31')
  refine wp_skip (hK29 _ _ ?_)
  refine wp_seq_k fun K33 hK33 => ?_
  refine wp_region_lit ?_
  refine q_is (l' := [(.agg #[(Fl r1), (Fl r3), (Fl r5), (Fl r7), (Iv A_g.x), (Iv A_g.y), (Iv A_g.z), (.slice p11 A_g.vals.length q12)]), (Iv x), (Iv y), (Iv z), (Pt b15 0), Ud, Ud, Ud, (Bo false), (Iv i26), Ud, Ud, Ud, Ud, Ud, (.agg #[(Fl r1), (Fl r3), (Fl r5), (Fl r7), (Iv A_g.x), (Iv A_g.y), (Iv A_g.z), (.slice p11 A_g.vals.length q12)]), (Iv 1048576), (Iv i26), (Iv i26), (Bo (icmp .lss i26 0)), Ud, (.agg #[(Fl r1), (Fl r3), (Fl r5), (Fl r7), (Iv A_g.x), (Iv A_g.y), (Iv A_g.z), (.slice p11 A_g.vals.length q12)]), Ud, Ud, Ud, Ud, Ud, Ud, Ud, Ud, Ud, Ud, Ud, Ud, Ud, Ud, Ud, Ud, Ud, Ud, Ud, Ud, Ud, Ud, Ud, Ud, Ud, Ud, Ud, Ud, Ud, Ud, Ud]) rfl rfl (does_loadAgg (cs := [(Fl r1), (Fl r3), (Fl r5), (Fl r7), (Iv A_g.x), (Iv A_g.y), (Iv A_g.z), (.slice p11 A_g.vals.length q12)]) (ev rfl) Try.isAgg27 Try.sizeOf27 (Blk.cells (hB17.ext E24)) rfl) rfl ?_
  refine seqd rfl rfl (does_call (args := #[(.agg #[(Fl r1), (Fl r3), (Fl r5), (Fl r7), (Iv A_g.x), (Iv A_g.y), (Iv A_g.z), (.slice p11 A_g.vals.length q12)])]) cal19 (evs rfl) (c_laws_toGrid [(Fl r1), (Fl r3), (Fl r5), (Fl r7), (Iv A_g.x), (Iv A_g.y), (Iv A_g.z), (.slice p11 A_g.vals.length q12)] A_g _ ⟨r1, r3, r5, r7, (.slice p11 A_g.vals.length q12), rfl, h2, h4, h6, h8, (Sl.ext hs13 RF.mono X28)⟩ (by omega))) ?_; rintro _ w35 ⟨E34, ⟨cs37, rfl, hh36⟩⟩
  have X38 := Ext.gr X28 E34
  have n39 : b15 < w25.heap.size := Blk.lt (hB17.ext E24)
  obtain ⟨r40, r42, r44, r46, y48, rfl, h41, h43, h45, h47, h49⟩ := hh36.get
  have h49l := Sl.len h49; obtain ⟨p50, q51, rfl⟩ := Sl.shape h49
  have hh52 : Hang w25.heap.size w35 (fun u => Sl RF 1 u (.slice p50 A_g.vals.length q51) A_g.vals) := fun u hu => by obtain ⟨_, _, _, _, _, hq, _, _, _, _, _⟩ := hh36 u hu; cases hq; assumption
  show wpList _ _ _ _ (fr [(.agg #[(Fl r1), (Fl r3), (Fl r5), (Fl r7), (Iv A_g.x), (Iv A_g.y), (Iv A_g.z), (.slice p11 A_g.vals.length q12)]), (Iv x), (Iv y), (Iv z), (Pt b15 0), Ud, Ud, Ud, (Bo false), (Iv i26), Ud, Ud, Ud, Ud, Ud, (.agg #[(Fl r1), (Fl r3), (Fl r5), (Fl r7), (Iv A_g.x), (Iv A_g.y), (Iv A_g.z), (.slice p11 A_g.vals.length q12)]), (Iv 1048576), (Iv i26), (Iv i26), (Bo (icmp .lss i26 0)), Ud, (.agg #[(Fl r1), (Fl r3), (Fl r5), (Fl r7), (Iv A_g.x), (Iv A_g.y), (Iv A_g.z), (.slice p11 A_g.vals.length q12)]), (.agg #[(Fl r40), (Fl r42), (Fl r44), (Fl r46), (Iv A_g.x), (Iv A_g.y), (Iv A_g.z), (.slice p50 A_g.vals.length q51)]), Ud, Ud, Ud, Ud, Ud, Ud, Ud, Ud, Ud, Ud, Ud, Ud, Ud, Ud, Ud, Ud, Ud, Ud, Ud, Ud, Ud, Ud, Ud, Ud, Ud, Ud, Ud, Ud, Ud, Ud]) _
  refine q_is (l' := [(.agg #[(Fl r1), (Fl r3), (Fl r5), (Fl r7), (Iv A_g.x), (Iv A_g.y), (Iv A_g.z), (.slice p11 A_g.vals.length q12)]), (Iv x), (Iv y), (Iv z), (Pt b15 0), Ud, Ud, Ud, (Bo false), (Iv i26), Ud, Ud, Ud, Ud, Ud, (.agg #[(Fl r1), (Fl r3), (Fl r5), (Fl r7), (Iv A_g.x), (Iv A_g.y), (Iv A_g.z), (.slice p11 A_g.vals.length q12)]), (Iv 1048576), (Iv i26), (Iv i26), (Bo (icmp .lss i26 0)), Ud, (.agg #[(Fl r1), (Fl r3), (Fl r5), (Fl r7), (Iv A_g.x), (Iv A_g.y), (Iv A_g.z), (.slice p11 A_g.vals.length q12)]), (.agg #[(Fl r40), (Fl r42), (Fl r44), (Fl r46), (Iv A_g.x), (Iv A_g.y), (Iv A_g.z), (.slice p50 A_g.vals.length q51)]), (Iv x), Ud, Ud, Ud, Ud, Ud, Ud, Ud, Ud, Ud, Ud, Ud, Ud, Ud, Ud, Ud, Ud, Ud, Ud, Ud, Ud, Ud, Ud, Ud, Ud, Ud, Ud, Ud, Ud, Ud]) rfl rfl (does_move (u := (Iv x)) (ev rfl)) rfl ?_
  refine q_is (l' := [(.agg #[(Fl r1), (Fl r3), (Fl r5), (Fl r7), (Iv A_g.x), (Iv A_g.y), (Iv A_g.z), (.slice p11 A_g.vals.length q12)]), (Iv x), (Iv y), (Iv z), (Pt b15 0), Ud, Ud, Ud, (Bo false), (Iv i26), Ud, Ud, Ud, Ud, Ud, (.agg #[(Fl r1), (Fl r3), (Fl r5), (Fl r7), (Iv A_g.x), (Iv A_g.y), (Iv A_g.z), (.slice p11 A_g.vals.length q12)]), (Iv 1048576), (Iv i26), (Iv i26), (Bo (icmp .lss i26 0)), Ud, (.agg #[(Fl r1), (Fl r3), (Fl r5), (Fl r7), (Iv A_g.x), (Iv A_g.y), (Iv A_g.z), (.slice p11 A_g.vals.length q12)]), (.agg #[(Fl r40), (Fl r42), (Fl r44), (Fl r46), (Iv A_g.x), (Iv A_g.y), (Iv A_g.z), (.slice p50 A_g.vals.length q51)]), (Iv x), (Iv y), Ud, Ud, Ud, Ud, Ud, Ud, Ud, Ud, Ud, Ud, Ud, Ud, Ud, Ud, Ud, Ud, Ud, Ud, Ud, Ud, Ud, Ud, Ud, Ud, Ud, Ud, Ud, Ud]) rfl rfl (does_move (u := (Iv y)) (ev rfl)) rfl ?_
  refine q_is (l' := [(.agg #[(Fl r1), (Fl r3), (Fl r5), (Fl r7), (Iv A_g.x), (Iv A_g.y), (Iv A_g.z), (.slice p11 A_g.vals.length q12)]), (Iv x), (Iv y), (Iv z), (Pt b15 0), Ud, Ud, Ud, (Bo false), (Iv i26), Ud, Ud, Ud, Ud, Ud, (.agg #[(Fl r1), (Fl r3), (Fl r5), (Fl r7), (Iv A_g.x), (Iv A_g.y), (Iv A_g.z), (.slice p11 A_g.vals.length q12)]), (Iv 1048576), (Iv i26), (Iv i26), (Bo (icmp .lss i26 0)), Ud, (.agg #[(Fl r1), (Fl r3), (Fl r5), (Fl r7), (Iv A_g.x), (Iv A_g.y), (Iv A_g.z), (.slice p11 A_g.vals.length q12)]), (.agg #[(Fl r40), (Fl r42), (Fl r44), (Fl r46), (Iv A_g.x), (Iv A_g.y), (Iv A_g.z), (.slice p50 A_g.vals.length q51)]), (Iv x), (Iv y), (Iv z), Ud, Ud, Ud, Ud, Ud, Ud, Ud, Ud, Ud, Ud, Ud, Ud, Ud, Ud, Ud, Ud, Ud, Ud, Ud, Ud, Ud, Ud, Ud, Ud, Ud, Ud, Ud]) rfl rfl (does_move (u := (Iv z)) (ev rfl)) rfl ?_
  refine seqd rfl rfl (does_call (args := #[(.agg #[(Fl r40), (Fl r42), (Fl r44), (Fl r46), (Iv A_g.x), (Iv A_g.y), (Iv A_g.z), (.slice p50 A_g.vals.length q51)]), (Iv x), (Iv y), (Iv z)]) cal27 (evs rfl) (c_spec_GridPoint [(Fl r40), (Fl r42), (Fl r44), (Fl r46), (Iv A_g.x), (Iv A_g.y), (Iv A_g.z), (.slice p50 A_g.vals.length q51)] A_g x y z _ ⟨r40, r42, r44, r46, (.slice p50 A_g.vals.length q51), rfl, h41, h43, h45, h47, hh52.get⟩)) ?_; rintro _ w54 ⟨E53, ⟨_, rfl, ⟨r55, r57, r59, rfl, h56, h58, h60⟩⟩⟩
  have X61 := Ext.gr X38 E53
  show wpList _ _ _ _ (fr [(.agg #[(Fl r1), (Fl r3), (Fl r5), (Fl r7), (Iv A_g.x), (Iv A_g.y), (Iv A_g.z), (.slice p11 A_g.vals.length q12)]), (Iv x), (Iv y), (Iv z), (Pt b15 0), Ud, Ud, Ud, (Bo false), (Iv i26), Ud, Ud, Ud, Ud, Ud, (.agg #[(Fl r1), (Fl r3), (Fl r5), (Fl r7), (Iv A_g.x), (Iv A_g.y), (Iv A_g.z), (.slice p11 A_g.vals.length q12)]), (Iv 1048576), (Iv i26), (Iv i26), (Bo (icmp .lss i26 0)), Ud, (.agg #[(Fl r1), (Fl r3), (Fl r5), (Fl r7), (Iv A_g.x), (Iv A_g.y), (Iv A_g.z), (.slice p11 A_g.vals.length q12)]), (.agg #[(Fl r40), (Fl r42), (Fl r44), (Fl r46), (Iv A_g.x), (Iv A_g.y), (Iv A_g.z), (.slice p50 A_g.vals.length q51)]), (Iv x), (Iv y), (Iv z), (.tuple #[(.agg #[(Fl r55), (Fl r57), (Fl r59)]), (Bo (hasOk A_g x y z))]), Ud, Ud, Ud, Ud, Ud, Ud, Ud, Ud, Ud, Ud, Ud, Ud, Ud, Ud, Ud, Ud, Ud, Ud, Ud, Ud, Ud, Ud, Ud, Ud, Ud, Ud]) _
  refine q_is (l' := [(.agg #[(Fl r1), (Fl r3), (Fl r5), (Fl r7), (Iv A_g.x), (Iv A_g.y), (Iv A_g.z), (.slice p11 A_g.vals.length q12)]), (Iv x), (Iv y), (Iv z), (Pt b15 0), Ud, Ud, Ud, (Bo false), (Iv i26), Ud, Ud, Ud, Ud, Ud, (.agg #[(Fl r1), (Fl r3), (Fl r5), (Fl r7), (Iv A_g.x), (Iv A_g.y), (Iv A_g.z), (.slice p11 A_g.vals.length q12)]), (Iv 1048576), (Iv i26), (Iv i26), (Bo (icmp .lss i26 0)), (.tuple #[(.agg #[(Fl r55), (Fl r57), (Fl r59)]), (Bo (hasOk A_g x y z))]), (.agg #[(Fl r1), (Fl r3), (Fl r5), (Fl r7), (Iv A_g.x), (Iv A_g.y), (Iv A_g.z), (.slice p11 A_g.vals.length q12)]), (.agg #[(Fl r40), (Fl r42), (Fl r44), (Fl r46), (Iv A_g.x), (Iv A_g.y), (Iv A_g.z), (.slice p50 A_g.vals.length q51)]), (Iv x), (Iv y), (Iv z), (.tuple #[(.agg #[(Fl r55), (Fl r57), (Fl r59)]), (Bo (hasOk A_g x y z))]), Ud, Ud, Ud, Ud, Ud, Ud, Ud, Ud, Ud, Ud, Ud, Ud, Ud, Ud, Ud, Ud, Ud, Ud, Ud, Ud, Ud, Ud, Ud, Ud, Ud, Ud]) rfl rfl (does_move (u := (.tuple #[(.agg #[(Fl r55), (Fl r57), (Fl r59)]), (Bo (hasOk A_g x y z))])) (ev rfl)) rfl ?_
  refine q_is (l' := [(.agg #[(Fl r1), (Fl r3), (Fl r5), (Fl r7), (Iv A_g.x), (Iv A_g.y), (Iv A_g.z), (.slice p11 A_g.vals.length q12)]), (Iv x), (Iv y), (Iv z), (Pt b15 0), Ud, Ud, Ud, (Bo false), (Iv i26), Ud, Ud, Ud, Ud, Ud, (.agg #[(Fl r1), (Fl r3), (Fl r5), (Fl r7), (Iv A_g.x), (Iv A_g.y), (Iv A_g.z), (.slice p11 A_g.vals.length q12)]), (Iv 1048576), (Iv i26), (Iv i26), (Bo (icmp .lss i26 0)), (.tuple #[(.agg #[(Fl r55), (Fl r57), (Fl r59)]), (Bo (hasOk A_g x y z))]), (.agg #[(Fl r1), (Fl r3), (Fl r5), (Fl r7), (Iv A_g.x), (Iv A_g.y), (Iv A_g.z), (.slice p11 A_g.vals.length q12)]), (.agg #[(Fl r40), (Fl r42), (Fl r44), (Fl r46), (Iv A_g.x), (Iv A_g.y), (Iv A_g.z), (.slice p50 A_g.vals.length q51)]), (Iv x), (Iv y), (Iv z), (.tuple #[(.agg #[(Fl r55), (Fl r57), (Fl r59)]), (Bo (hasOk A_g x y z))]), (.agg #[(Fl r55), (Fl r57), (Fl r59)]), Ud, Ud, Ud, Ud, Ud, Ud, Ud, Ud, Ud, Ud, Ud, Ud, Ud, Ud, Ud, Ud, Ud, Ud, Ud, Ud, Ud, Ud, Ud, Ud, Ud]) rfl rfl (does_extract (vs := #[(.agg #[(Fl r55), (Fl r57), (Fl r59)]), (Bo (hasOk A_g x y z))]) (u := (.agg #[(Fl r55), (Fl r57), (Fl r59)])) (ev rfl) rfl) rfl ?_
  refine q_is (l' := [(.agg #[(Fl r1), (Fl r3), (Fl r5), (Fl r7), (Iv A_g.x), (Iv A_g.y), (Iv A_g.z), (.slice p11 A_g.vals.length q12)]), (Iv x), (Iv y), (Iv z), (Pt b15 0), Ud, Ud, Ud, (Bo false), (Iv i26), Ud, Ud, Ud, Ud, Ud, (.agg #[(Fl r1), (Fl r3), (Fl r5), (Fl r7), (Iv A_g.x), (Iv A_g.y), (Iv A_g.z), (.slice p11 A_g.vals.length q12)]), (Iv 1048576), (Iv i26), (Iv i26), (Bo (icmp .lss i26 0)), (.tuple #[(.agg #[(Fl r55), (Fl r57), (Fl r59)]), (Bo (hasOk A_g x y z))]), (.agg #[(Fl r1), (Fl r3), (Fl r5), (Fl r7), (Iv A_g.x), (Iv A_g.y), (Iv A_g.z), (.slice p11 A_g.vals.length q12)]), (.agg #[(Fl r40), (Fl r42), (Fl r44), (Fl r46), (Iv A_g.x), (Iv A_g.y), (Iv A_g.z), (.slice p50 A_g.vals.length q51)]), (Iv x), (Iv y), (Iv z), (.tuple #[(.agg #[(Fl r55), (Fl r57), (Fl r59)]), (Bo (hasOk A_g x y z))]), (.agg #[(Fl r55), (Fl r57), (Fl r59)]), (Bo (hasOk A_g x y z)), Ud, Ud, Ud, Ud, Ud, Ud, Ud, Ud, Ud, Ud, Ud, Ud, Ud, Ud, Ud, Ud, Ud, Ud, Ud, Ud, Ud, Ud, Ud, Ud]) rfl rfl (does_extract (vs := #[(.agg #[(Fl r55), (Fl r57), (Fl r59)]), (Bo (hasOk A_g x y z))]) (u := (Bo (hasOk A_g x y z))) (ev rfl) rfl) rfl ?_
  refine seqd rfl rfl (does_alloc z30) ?_; rintro _ w66 ⟨b62, rfl, hb63, hB64, E65⟩
  have n67 : b15 < b62 := Nat.lt_of_lt_of_le (Blk.lt (((hB17.ext E24).ext E34).ext E53)) hb63
  have g68 : w.heap.size ≤ b62 := Nat.le_trans (Below.size X61) hb63
  change Blk _ _ [(Fl 0), (Fl 0), (Fl 0)] at hB64
  have X69 := Ext.gr X61 E65
  show wpList _ _ _ _ (fr [(.agg #[(Fl r1), (Fl r3), (Fl r5), (Fl r7), (Iv A_g.x), (Iv A_g.y), (Iv A_g.z), (.slice p11 A_g.vals.length q12)]), (Iv x), (Iv y), (Iv z), (Pt b15 0), Ud, Ud, Ud, (Bo false), (Iv i26), (Pt b62 0), Ud, Ud, Ud, Ud, (.agg #[(Fl r1), (Fl r3), (Fl r5), (Fl r7), (Iv A_g.x), (Iv A_g.y), (Iv A_g.z), (.slice p11 A_g.vals.length q12)]), (Iv 1048576), (Iv i26), (Iv i26), (Bo (icmp .lss i26 0)), (.tuple #[(.agg #[(Fl r55), (Fl r57), (Fl r59)]), (Bo (hasOk A_g x y z))]), (.agg #[(Fl r1), (Fl r3), (Fl r5), (Fl r7), (Iv A_g.x), (Iv A_g.y), (Iv A_g.z), (.slice p11 A_g.vals.length q12)]), (.agg #[(Fl r40), (Fl r42), (Fl r44), (Fl r46), (Iv A_g.x), (Iv A_g.y), (Iv A_g.z), (.slice p50 A_g.vals.length q51)]), (Iv x), (Iv y), (Iv z), (.tuple #[(.agg #[(Fl r55), (Fl r57), (Fl r59)]), (Bo (hasOk A_g x y z))]), (.agg #[(Fl r55), (Fl r57), (Fl r59)]), (Bo (hasOk A_g x y z)), Ud, Ud, Ud, Ud, Ud, Ud, Ud, Ud, Ud, Ud, Ud, Ud, Ud, Ud, Ud, Ud, Ud, Ud, Ud, Ud, Ud, Ud, Ud, Ud]) _
  refine seqn rfl rfl (does_store (n := 3) (cs := [(Fl 0), (Fl 0), (Fl 0)]) (u := (.agg #[(Fl r55), (Fl r57), (Fl r59)])) (ev rfl) (ev rfl) Try.sizeOf30 rfl hB64 (Nat.le_of_ble_eq_true rfl) rfl) ?_; rintro _ w72 ⟨rfl, W70, hB71⟩
  change Blk _ _ [(Fl r55), (Fl r57), (Fl r59)] at hB71
  have X73 := Below.wr X69 W70 g68
  refine q_is (l' := [(.agg #[(Fl r1), (Fl r3), (Fl r5), (Fl r7), (Iv A_g.x), (Iv A_g.y), (Iv A_g.z), (.slice p11 A_g.vals.length q12)]), (Iv x), (Iv y), (Iv z), (Pt b15 0), Ud, Ud, Ud, (Bo false), (Iv i26), (Pt b62 0), (Bo (hasOk A_g x y z)), Ud, Ud, Ud, (.agg #[(Fl r1), (Fl r3), (Fl r5), (Fl r7), (Iv A_g.x), (Iv A_g.y), (Iv A_g.z), (.slice p11 A_g.vals.length q12)]), (Iv 1048576), (Iv i26), (Iv i26), (Bo (icmp .lss i26 0)), (.tuple #[(.agg #[(Fl r55), (Fl r57), (Fl r59)]), (Bo (hasOk A_g x y z))]), (.agg #[(Fl r1), (Fl r3), (Fl r5), (Fl r7), (Iv A_g.x), (Iv A_g.y), (Iv A_g.z), (.slice p11 A_g.vals.length q12)]), (.agg #[(Fl r40), (Fl r42), (Fl r44), (Fl r46), (Iv A_g.x), (Iv A_g.y), (Iv A_g.z), (.slice p50 A_g.vals.length q51)]), (Iv x), (Iv y), (Iv z), (.tuple #[(.agg #[(Fl r55), (Fl r57), (Fl r59)]), (Bo (hasOk A_g x y z))]), (.agg #[(Fl r55), (Fl r57), (Fl r59)]), (Bo (hasOk A_g x y z)), Ud, Ud, Ud, Ud, Ud, Ud, Ud, Ud, Ud, Ud, Ud, Ud, Ud, Ud, Ud, Ud, Ud, Ud, Ud, Ud, Ud, Ud, Ud, Ud]) rfl rfl (does_assign (u := (Bo (hasOk A_g x y z))) (ev rfl)) rfl ?_
  refine wpList_nil (hK33 _ _ ?_)
  refine wp_seq_k fun K74 hK74 => ?_
  refine wp_region_lit ?_
  refine q_is (l' := [(.agg #[(Fl r1), (Fl r3), (Fl r5), (Fl r7), (Iv A_g.x), (Iv A_g.y), (Iv A_g.z), (.slice p11 A_g.vals.length q12)]), (Iv x), (Iv y), (Iv z), (Pt b15 0), Ud, Ud, Ud, (Bo false), (Iv i26), (Pt b62 0), (Bo (hasOk A_g x y z)), Ud, Ud, Ud, (.agg #[(Fl r1), (Fl r3), (Fl r5), (Fl r7), (Iv A_g.x), (Iv A_g.y), (Iv A_g.z), (.slice p11 A_g.vals.length q12)]), (Iv 1048576), (Iv i26), (Iv i26), (Bo (icmp .lss i26 0)), (.tuple #[(.agg #[(Fl r55), (Fl r57), (Fl r59)]), (Bo (hasOk A_g x y z))]), (.agg #[(Fl r1), (Fl r3), (Fl r5), (Fl r7), (Iv A_g.x), (Iv A_g.y), (Iv A_g.z), (.slice p11 A_g.vals.length q12)]), (.agg #[(Fl r40), (Fl r42), (Fl r44), (Fl r46), (Iv A_g.x), (Iv A_g.y), (Iv A_g.z), (.slice p50 A_g.vals.length q51)]), (Iv x), (Iv y), (Iv z), (.tuple #[(.agg #[(Fl r55), (Fl r57), (Fl r59)]), (Bo (hasOk A_g x y z))]), (.agg #[(Fl r55), (Fl r57), (Fl r59)]), (Bo (hasOk A_g x y z)), (.agg #[(Fl r1), (Fl r3), (Fl r5), (Fl r7), (Iv A_g.x), (Iv A_g.y), (Iv A_g.z), (.slice p11 A_g.vals.length q12)]), Ud, Ud, Ud, Ud, Ud, Ud, Ud, Ud, Ud, Ud, Ud, Ud, Ud, Ud, Ud, Ud, Ud, Ud, Ud, Ud, Ud, Ud, Ud]) rfl rfl (does_loadAgg (cs := [(Fl r1), (Fl r3), (Fl r5), (Fl r7), (Iv A_g.x), (Iv A_g.y), (Iv A_g.z), (.slice p11 A_g.vals.length q12)]) (ev rfl) Try.isAgg27 Try.sizeOf27 (Blk.cells (((((hB17.ext E24).ext E34).ext E53).ext E65).wr W70 (Nat.ne_of_lt n67))) rfl) rfl ?_
  refine seqd rfl rfl (does_call (args := #[(.agg #[(Fl r1), (Fl r3), (Fl r5), (Fl r7), (Iv A_g.x), (Iv A_g.y), (Iv A_g.z), (.slice p11 A_g.vals.length q12)])]) cal19 (evs rfl) (c_laws_toGrid [(Fl r1), (Fl r3), (Fl r5), (Fl r7), (Iv A_g.x), (Iv A_g.y), (Iv A_g.z), (.slice p11 A_g.vals.length q12)] A_g _ ⟨r1, r3, r5, r7, (.slice p11 A_g.vals.length q12), rfl, h2, h4, h6, h8, (Sl.ext hs13 RF.mono X73)⟩ (by omega))) ?_; rintro _ w76 ⟨E75, ⟨cs78, rfl, hh77⟩⟩
  have X79 := Ext.gr X73 E75
  have n80 : b15 < w72.heap.size := Blk.lt (((((hB17.ext E24).ext E34).ext E53).ext E65).wr W70 (Nat.ne_of_lt n67))
  have n81 : b62 < w72.heap.size := Blk.lt hB71
  obtain ⟨r82, r84, r86, r88, y90, rfl, h83, h85, h87, h89, h91⟩ := hh77.get
  have h91l := Sl.len h91; obtain ⟨p92, q93, rfl⟩ := Sl.shape h91
  have hh94 : Hang w72.heap.size w76 (fun u => Sl RF 1 u (.slice p92 A_g.vals.length q93) A_g.vals) := fun u hu => by obtain ⟨_, _, _, _, _, hq, _, _, _, _, _⟩ := hh77 u hu; cases hq; assumption
  show wpList _ _ _ _ (fr [(.agg #[(Fl r1), (Fl r3), (Fl r5), (Fl r7), (Iv A_g.x), (Iv A_g.y), (Iv A_g.z), (.slice p11 A_g.vals.length q12)]), (Iv x), (Iv y), (Iv z), (Pt b15 0), Ud, Ud, Ud, (Bo false), (Iv i26), (Pt b62 0), (Bo (hasOk A_g x y z)), Ud, Ud, Ud, (.agg #[(Fl r1), (Fl r3), (Fl r5), (Fl r7), (Iv A_g.x), (Iv A_g.y), (Iv A_g.z), (.slice p11 A_g.vals.length q12)]), (Iv 1048576), (Iv i26), (Iv i26), (Bo (icmp .lss i26 0)), (.tuple #[(.agg #[(Fl r55), (Fl r57), (Fl r59)]), (Bo (hasOk A_g x y z))]), (.agg #[(Fl r1), (Fl r3), (Fl r5), (Fl r7), (Iv A_g.x), (Iv A_g.y), (Iv A_g.z), (.slice p11 A_g.vals.length q12)]), (.agg #[(Fl r40), (Fl r42), (Fl r44), (Fl r46), (Iv A_g.x), (Iv A_g.y), (Iv A_g.z), (.slice p50 A_g.vals.length q51)]), (Iv x), (Iv y), (Iv z), (.tuple #[(.agg #[(Fl r55), (Fl r57), (Fl r59)]), (Bo (hasOk A_g x y z))]), (.agg #[(Fl r55), (Fl r57), (Fl r59)]), (Bo (hasOk A_g x y z)), (.agg #[(Fl r1), (Fl r3), (Fl r5), (Fl r7), (Iv A_g.x), (Iv A_g.y), (Iv A_g.z), (.slice p11 A_g.vals.length q12)]), (.agg #[(Fl r82), (Fl r84), (Fl r86), (Fl r88), (Iv A_g.x), (Iv A_g.y), (Iv A_g.z), (.slice p92 A_g.vals.length q93)]), Ud, Ud, Ud, Ud, Ud, Ud, Ud, Ud, Ud, Ud, Ud, Ud, Ud, Ud, Ud, Ud, Ud, Ud, Ud, Ud, Ud, Ud]) _
  refine seqd rfl rfl (does_alloc z32) ?_; rintro _ w99 ⟨b95, rfl, hb96, hB97, E98⟩
  have n100 : b15 < b95 := Nat.lt_of_lt_of_le (Blk.lt ((((((hB17.ext E24).ext E34).ext E53).ext E65).wr W70 (Nat.ne_of_lt n67)).ext E75)) hb96
  have n101 : b62 < b95 := Nat.lt_of_lt_of_le (Blk.lt (hB71.ext E75)) hb96
  have g102 : w.heap.size ≤ b95 := Nat.le_trans (Below.size X79) hb96
  change Blk _ _ [(Fl 0), (Fl 0), (Fl 0), (Fl 0), (Iv 0), (Iv 0), (Iv 0), (.slice none 0 0)] at hB97
  have X103 := Ext.gr X79 E98
  show wpList _ _ _ _ (fr [(.agg #[(Fl r1), (Fl r3), (Fl r5), (Fl r7), (Iv A_g.x), (Iv A_g.y), (Iv A_g.z), (.slice p11 A_g.vals.length q12)]), (Iv x), (Iv y), (Iv z), (Pt b15 0), Ud, Ud, Ud, (Bo false), (Iv i26), (Pt b62 0), (Bo (hasOk A_g x y z)), (Pt b95 0), Ud, Ud, (.agg #[(Fl r1), (Fl r3), (Fl r5), (Fl r7), (Iv A_g.x), (Iv A_g.y), (Iv A_g.z), (.slice p11 A_g.vals.length q12)]), (Iv 1048576), (Iv i26), (Iv i26), (Bo (icmp .lss i26 0)), (.tuple #[(.agg #[(Fl r55), (Fl r57), (Fl r59)]), (Bo (hasOk A_g x y z))]), (.agg #[(Fl r1), (Fl r3), (Fl r5), (Fl r7), (Iv A_g.x), (Iv A_g.y), (Iv A_g.z), (.slice p11 A_g.vals.length q12)]), (.agg #[(Fl r40), (Fl r42), (Fl r44), (Fl r46), (Iv A_g.x), (Iv A_g.y), (Iv A_g.z), (.slice p50 A_g.vals.length q51)]), (Iv x), (Iv y), (Iv z), (.tuple #[(.agg #[(Fl r55), (Fl r57), (Fl r59)]), (Bo (hasOk A_g x y z))]), (.agg #[(Fl r55), (Fl r57), (Fl r59)]), (Bo (hasOk A_g x y z)), (.agg #[(Fl r1), (Fl r3), (Fl r5), (Fl r7), (Iv A_g.x), (Iv A_g.y), (Iv A_g.z), (.slice p11 A_g.vals.length q12)]), (.agg #[(Fl r82), (Fl r84), (Fl r86), (Fl r88), (Iv A_g.x), (Iv A_g.y), (Iv A_g.z), (.slice p92 A_g.vals.length q93)]), Ud, Ud, Ud, Ud, Ud, Ud, Ud, Ud, Ud, Ud, Ud, Ud, Ud, Ud, Ud, Ud, Ud, Ud, Ud, Ud, Ud, Ud]) _
  refine seqn rfl rfl (does_store (n := 8) (cs := [(Fl 0), (Fl 0), (Fl 0), (Fl 0), (Iv 0), (Iv 0), (Iv 0), (.slice none 0 0)]) (u := (.agg #[(Fl r82), (Fl r84), (Fl r86), (Fl r88), (Iv A_g.x), (Iv A_g.y), (Iv A_g.z), (.slice p92 A_g.vals.length q93)])) (ev rfl) (ev rfl) Try.sizeOf32 rfl hB97 (Nat.le_of_ble_eq_true rfl) rfl) ?_; rintro _ w106 ⟨rfl, W104, hB105⟩
  change Blk _ _ [(Fl r82), (Fl r84), (Fl r86), (Fl r88), (Iv A_g.x), (Iv A_g.y), (Iv A_g.z), (.slice p92 A_g.vals.length q93)] at hB105
  have X107 := Below.wr X103 W104 g102
  refine wpList_nil (hK74 _ _ ?_)
  refine wp_seq_k fun K108 hK108 => ?_
  refine wp_region_lit ?_
  refine q_is (l' := [(.agg #[(Fl r1), (Fl r3), (Fl r5), (Fl r7), (Iv A_g.x), (Iv A_g.y), (Iv A_g.z), (.slice p11 A_g.vals.length q12)]), (Iv x), (Iv y), (Iv z), (Pt b15 0), Ud, Ud, Ud, (Bo false), (Iv i26), (Pt b62 0), (Bo (hasOk A_g x y z)), (Pt b95 0), Ud, Ud, (.agg #[(Fl r1), (Fl r3), (Fl r5), (Fl r7), (Iv A_g.x), (Iv A_g.y), (Iv A_g.z), (.slice p11 A_g.vals.length q12)]), (Iv 1048576), (Iv i26), (Iv i26), (Bo (icmp .lss i26 0)), (.tuple #[(.agg #[(Fl r55), (Fl r57), (Fl r59)]), (Bo (hasOk A_g x y z))]), (.agg #[(Fl r1), (Fl r3), (Fl r5), (Fl r7), (Iv A_g.x), (Iv A_g.y), (Iv A_g.z), (.slice p11 A_g.vals.length q12)]), (.agg #[(Fl r40), (Fl r42), (Fl r44), (Fl r46), (Iv A_g.x), (Iv A_g.y), (Iv A_g.z), (.slice p50 A_g.vals.length q51)]), (Iv x), (Iv y), (Iv z), (.tuple #[(.agg #[(Fl r55), (Fl r57), (Fl r59)]), (Bo (hasOk A_g x y z))]), (.agg #[(Fl r55), (Fl r57), (Fl r59)]), (Bo (hasOk A_g x y z)), (.agg #[(Fl r1), (Fl r3), (Fl r5), (Fl r7), (Iv A_g.x), (Iv A_g.y), (Iv A_g.z), (.slice p11 A_g.vals.length q12)]), (.agg #[(Fl r82), (Fl r84), (Fl r86), (Fl r88), (Iv A_g.x), (Iv A_g.y), (Iv A_g.z), (.slice p92 A_g.vals.length q93)]), Ud, (.agg #[(Fl r82), (Fl r84), (Fl r86), (Fl r88), (Iv A_g.x), (Iv A_g.y), (Iv A_g.z), (.slice p92 A_g.vals.length q93)]), Ud, Ud, Ud, Ud, Ud, Ud, Ud, Ud, Ud, Ud, Ud, Ud, Ud, Ud, Ud, Ud, Ud, Ud, Ud, Ud]) rfl rfl (does_loadAgg (cs := [(Fl r82), (Fl r84), (Fl r86), (Fl r88), (Iv A_g.x), (Iv A_g.y), (Iv A_g.z), (.slice p92 A_g.vals.length q93)]) (ev rfl) Try.isAgg32 Try.sizeOf32 (Blk.cells hB105) rfl) rfl ?_
  refine q_is (l' := [(.agg #[(Fl r1), (Fl r3), (Fl r5), (Fl r7), (Iv A_g.x), (Iv A_g.y), (Iv A_g.z), (.slice p11 A_g.vals.length q12)]), (Iv x), (Iv y), (Iv z), (Pt b15 0), Ud, Ud, Ud, (Bo false), (Iv i26), (Pt b62 0), (Bo (hasOk A_g x y z)), (Pt b95 0), Ud, Ud, (.agg #[(Fl r1), (Fl r3), (Fl r5), (Fl r7), (Iv A_g.x), (Iv A_g.y), (Iv A_g.z), (.slice p11 A_g.vals.length q12)]), (Iv 1048576), (Iv i26), (Iv i26), (Bo (icmp .lss i26 0)), (.tuple #[(.agg #[(Fl r55), (Fl r57), (Fl r59)]), (Bo (hasOk A_g x y z))]), (.agg #[(Fl r1), (Fl r3), (Fl r5), (Fl r7), (Iv A_g.x), (Iv A_g.y), (Iv A_g.z), (.slice p11 A_g.vals.length q12)]), (.agg #[(Fl r40), (Fl r42), (Fl r44), (Fl r46), (Iv A_g.x), (Iv A_g.y), (Iv A_g.z), (.slice p50 A_g.vals.length q51)]), (Iv x), (Iv y), (Iv z), (.tuple #[(.agg #[(Fl r55), (Fl r57), (Fl r59)]), (Bo (hasOk A_g x y z))]), (.agg #[(Fl r55), (Fl r57), (Fl r59)]), (Bo (hasOk A_g x y z)), (.agg #[(Fl r1), (Fl r3), (Fl r5), (Fl r7), (Iv A_g.x), (Iv A_g.y), (Iv A_g.z), (.slice p11 A_g.vals.length q12)]), (.agg #[(Fl r82), (Fl r84), (Fl r86), (Fl r88), (Iv A_g.x), (Iv A_g.y), (Iv A_g.z), (.slice p92 A_g.vals.length q93)]), Ud, (.agg #[(Fl r82), (Fl r84), (Fl r86), (Fl r88), (Iv A_g.x), (Iv A_g.y), (Iv A_g.z), (.slice p92 A_g.vals.length q93)]), (Iv x), Ud, Ud, Ud, Ud, Ud, Ud, Ud, Ud, Ud, Ud, Ud, Ud, Ud, Ud, Ud, Ud, Ud, Ud, Ud]) rfl rfl (does_move (u := (Iv x)) (ev rfl)) rfl ?_
  refine q_is (l' := [(.agg #[(Fl r1), (Fl r3), (Fl r5), (Fl r7), (Iv A_g.x), (Iv A_g.y), (Iv A_g.z), (.slice p11 A_g.vals.length q12)]), (Iv x), (Iv y), (Iv z), (Pt b15 0), Ud, Ud, Ud, (Bo false), (Iv i26), (Pt b62 0), (Bo (hasOk A_g x y z)), (Pt b95 0), Ud, Ud, (.agg #[(Fl r1), (Fl r3), (Fl r5), (Fl r7), (Iv A_g.x), (Iv A_g.y), (Iv A_g.z), (.slice p11 A_g.vals.length q12)]), (Iv 1048576), (Iv i26), (Iv i26), (Bo (icmp .lss i26 0)), (.tuple #[(.agg #[(Fl r55), (Fl r57), (Fl r59)]), (Bo (hasOk A_g x y z))]), (.agg #[(Fl r1), (Fl r3), (Fl r5), (Fl r7), (Iv A_g.x), (Iv A_g.y), (Iv A_g.z), (.slice p11 A_g.vals.length q12)]), (.agg #[(Fl r40), (Fl r42), (Fl r44), (Fl r46), (Iv A_g.x), (Iv A_g.y), (Iv A_g.z), (.slice p50 A_g.vals.length q51)]), (Iv x), (Iv y), (Iv z), (.tuple #[(.agg #[(Fl r55), (Fl r57), (Fl r59)]), (Bo (hasOk A_g x y z))]), (.agg #[(Fl r55), (Fl r57), (Fl r59)]), (Bo (hasOk A_g x y z)), (.agg #[(Fl r1), (Fl r3), (Fl r5), (Fl r7), (Iv A_g.x), (Iv A_g.y), (Iv A_g.z), (.slice p11 A_g.vals.length q12)]), (.agg #[(Fl r82), (Fl r84), (Fl r86), (Fl r88), (Iv A_g.x), (Iv A_g.y), (Iv A_g.z), (.slice p92 A_g.vals.length q93)]), Ud, (.agg #[(Fl r82), (Fl r84), (Fl r86), (Fl r88), (Iv A_g.x), (Iv A_g.y), (Iv A_g.z), (.slice p92 A_g.vals.length q93)]), (Iv x), (Iv y), Ud, Ud, Ud, Ud, Ud, Ud, Ud, Ud, Ud, Ud, Ud, Ud, Ud, Ud, Ud, Ud, Ud, Ud]) rfl rfl (does_move (u := (Iv y)) (ev rfl)) rfl ?_
  refine q_is (l' := [(.agg #[(Fl r1), (Fl r3), (Fl r5), (Fl r7), (Iv A_g.x), (Iv A_g.y), (Iv A_g.z), (.slice p11 A_g.vals.length q12)]), (Iv x), (Iv y), (Iv z), (Pt b15 0), Ud, Ud, Ud, (Bo false), (Iv i26), (Pt b62 0), (Bo (hasOk A_g x y z)), (Pt b95 0), Ud, Ud, (.agg #[(Fl r1), (Fl r3), (Fl r5), (Fl r7), (Iv A_g.x), (Iv A_g.y), (Iv A_g.z), (.slice p11 A_g.vals.length q12)]), (Iv 1048576), (Iv i26), (Iv i26), (Bo (icmp .lss i26 0)), (.tuple #[(.agg #[(Fl r55), (Fl r57), (Fl r59)]), (Bo (hasOk A_g x y z))]), (.agg #[(Fl r1), (Fl r3), (Fl r5), (Fl r7), (Iv A_g.x), (Iv A_g.y), (Iv A_g.z), (.slice p11 A_g.vals.length q12)]), (.agg #[(Fl r40), (Fl r42), (Fl r44), (Fl r46), (Iv A_g.x), (Iv A_g.y), (Iv A_g.z), (.slice p50 A_g.vals.length q51)]), (Iv x), (Iv y), (Iv z), (.tuple #[(.agg #[(Fl r55), (Fl r57), (Fl r59)]), (Bo (hasOk A_g x y z))]), (.agg #[(Fl r55), (Fl r57), (Fl r59)]), (Bo (hasOk A_g x y z)), (.agg #[(Fl r1), (Fl r3), (Fl r5), (Fl r7), (Iv A_g.x), (Iv A_g.y), (Iv A_g.z), (.slice p11 A_g.vals.length q12)]), (.agg #[(Fl r82), (Fl r84), (Fl r86), (Fl r88), (Iv A_g.x), (Iv A_g.y), (Iv A_g.z), (.slice p92 A_g.vals.length q93)]), Ud, (.agg #[(Fl r82), (Fl r84), (Fl r86), (Fl r88), (Iv A_g.x), (Iv A_g.y), (Iv A_g.z), (.slice p92 A_g.vals.length q93)]), (Iv x), (Iv y), (Iv z), Ud, Ud, Ud, Ud, Ud, Ud, Ud, Ud, Ud, Ud, Ud, Ud, Ud, Ud, Ud, Ud, Ud]) rfl rfl (does_move (u := (Iv z)) (ev rfl)) rfl ?_
  refine seqd rfl rfl (does_call (args := #[(.agg #[(Fl r82), (Fl r84), (Fl r86), (Fl r88), (Iv A_g.x), (Iv A_g.y), (Iv A_g.z), (.slice p92 A_g.vals.length q93)]), (Iv x), (Iv y), (Iv z)]) cal28 (evs rfl) (c_impl_GridPoint [(Fl r82), (Fl r84), (Fl r86), (Fl r88), (Iv A_g.x), (Iv A_g.y), (Iv A_g.z), (.slice p92 A_g.vals.length q93)] A_g x y z _ ⟨r82, r84, r86, r88, (.slice p92 A_g.vals.length q93), rfl, h83, h85, h87, h89, (hh94 _ (((Same.refl _ _).ext E98).wr W104 (.inr (Nat.le_trans (Below.size (Ext.refl _)) hb96))))⟩)) ?_; rintro _ w110 ⟨E109, ⟨_, rfl, ⟨r111, r113, r115, rfl, h112, h114, h116⟩⟩⟩
  have X117 := Ext.gr X107 E109
  show wpList _ _ _ _ (fr [(.agg #[(Fl r1), (Fl r3), (Fl r5), (Fl r7), (Iv A_g.x), (Iv A_g.y), (Iv A_g.z), (.slice p11 A_g.vals.length q12)]), (Iv x), (Iv y), (Iv z), (Pt b15 0), Ud, Ud, Ud, (Bo false), (Iv i26), (Pt b62 0), (Bo (hasOk A_g x y z)), (Pt b95 0), Ud, Ud, (.agg #[(Fl r1), (Fl r3), (Fl r5), (Fl r7), (Iv A_g.x), (Iv A_g.y), (Iv A_g.z), (.slice p11 A_g.vals.length q12)]), (Iv 1048576), (Iv i26), (Iv i26), (Bo (icmp .lss i26 0)), (.tuple #[(.agg #[(Fl r55), (Fl r57), (Fl r59)]), (Bo (hasOk A_g x y z))]), (.agg #[(Fl r1), (Fl r3), (Fl r5), (Fl r7), (Iv A_g.x), (Iv A_g.y), (Iv A_g.z), (.slice p11 A_g.vals.length q12)]), (.agg #[(Fl r40), (Fl r42), (Fl r44), (Fl r46), (Iv A_g.x), (Iv A_g.y), (Iv A_g.z), (.slice p50 A_g.vals.length q51)]), (Iv x), (Iv y), (Iv z), (.tuple #[(.agg #[(Fl r55), (Fl r57), (Fl r59)]), (Bo (hasOk A_g x y z))]), (.agg #[(Fl r55), (Fl r57), (Fl r59)]), (Bo (hasOk A_g x y z)), (.agg #[(Fl r1), (Fl r3), (Fl r5), (Fl r7), (Iv A_g.x), (Iv A_g.y), (Iv A_g.z), (.slice p11 A_g.vals.length q12)]), (.agg #[(Fl r82), (Fl r84), (Fl r86), (Fl r88), (Iv A_g.x), (Iv A_g.y), (Iv A_g.z), (.slice p92 A_g.vals.length q93)]), Ud, (.agg #[(Fl r82), (Fl r84), (Fl r86), (Fl r88), (Iv A_g.x), (Iv A_g.y), (Iv A_g.z), (.slice p92 A_g.vals.length q93)]), (Iv x), (Iv y), (Iv z), (.tuple #[(.agg #[(Fl r111), (Fl r113), (Fl r115)]), (Bo (hasOk A_g x y z))]), Ud, Ud, Ud, Ud, Ud, Ud, Ud, Ud, Ud, Ud, Ud, Ud, Ud, Ud, Ud, Ud]) _
  refine q_is (l' := [(.agg #[(Fl r1), (Fl r3), (Fl r5), (Fl r7), (Iv A_g.x), (Iv A_g.y), (Iv A_g.z), (.slice p11 A_g.vals.length q12)]), (Iv x), (Iv y), (Iv z), (Pt b15 0), Ud, Ud, Ud, (Bo false), (Iv i26), (Pt b62 0), (Bo (hasOk A_g x y z)), (Pt b95 0), Ud, Ud, (.agg #[(Fl r1), (Fl r3), (Fl r5), (Fl r7), (Iv A_g.x), (Iv A_g.y), (Iv A_g.z), (.slice p11 A_g.vals.length q12)]), (Iv 1048576), (Iv i26), (Iv i26), (Bo (icmp .lss i26 0)), (.tuple #[(.agg #[(Fl r55), (Fl r57), (Fl r59)]), (Bo (hasOk A_g x y z))]), (.agg #[(Fl r1), (Fl r3), (Fl r5), (Fl r7), (Iv A_g.x), (Iv A_g.y), (Iv A_g.z), (.slice p11 A_g.vals.length q12)]), (.agg #[(Fl r40), (Fl r42), (Fl r44), (Fl r46), (Iv A_g.x), (Iv A_g.y), (Iv A_g.z), (.slice p50 A_g.vals.length q51)]), (Iv x), (Iv y), (Iv z), (.tuple #[(.agg #[(Fl r55), (Fl r57), (Fl r59)]), (Bo (hasOk A_g x y z))]), (.agg #[(Fl r55), (Fl r57), (Fl r59)]), (Bo (hasOk A_g x y z)), (.agg #[(Fl r1), (Fl r3), (Fl r5), (Fl r7), (Iv A_g.x), (Iv A_g.y), (Iv A_g.z), (.slice p11 A_g.vals.length q12)]), (.agg #[(Fl r82), (Fl r84), (Fl r86), (Fl r88), (Iv A_g.x), (Iv A_g.y), (Iv A_g.z), (.slice p92 A_g.vals.length q93)]), (.tuple #[(.agg #[(Fl r111), (Fl r113), (Fl r115)]), (Bo (hasOk A_g x y z))]), (.agg #[(Fl r82), (Fl r84), (Fl r86), (Fl r88), (Iv A_g.x), (Iv A_g.y), (Iv A_g.z), (.slice p92 A_g.vals.length q93)]), (Iv x), (Iv y), (Iv z), (.tuple #[(.agg #[(Fl r111), (Fl r113), (Fl r115)]), (Bo (hasOk A_g x y z))]), Ud, Ud, Ud, Ud, Ud, Ud, Ud, Ud, Ud, Ud, Ud, Ud, Ud, Ud, Ud, Ud]) rfl rfl (does_move (u := (.tuple #[(.agg #[(Fl r111), (Fl r113), (Fl r115)]), (Bo (hasOk A_g x y z))])) (ev rfl)) rfl ?_
  refine q_is (l' := [(.agg #[(Fl r1), (Fl r3), (Fl r5), (Fl r7), (Iv A_g.x), (Iv A_g.y), (Iv A_g.z), (.slice p11 A_g.vals.length q12)]), (Iv x), (Iv y), (Iv z), (Pt b15 0), Ud, Ud, Ud, (Bo false), (Iv i26), (Pt b62 0), (Bo (hasOk A_g x y z)), (Pt b95 0), Ud, Ud, (.agg #[(Fl r1), (Fl r3), (Fl r5), (Fl r7), (Iv A_g.x), (Iv A_g.y), (Iv A_g.z), (.slice p11 A_g.vals.length q12)]), (Iv 1048576), (Iv i26), (Iv i26), (Bo (icmp .lss i26 0)), (.tuple #[(.agg #[(Fl r55), (Fl r57), (Fl r59)]), (Bo (hasOk A_g x y z))]), (.agg #[(Fl r1), (Fl r3), (Fl r5), (Fl r7), (Iv A_g.x), (Iv A_g.y), (Iv A_g.z), (.slice p11 A_g.vals.length q12)]), (.agg #[(Fl r40), (Fl r42), (Fl r44), (Fl r46), (Iv A_g.x), (Iv A_g.y), (Iv A_g.z), (.slice p50 A_g.vals.length q51)]), (Iv x), (Iv y), (Iv z), (.tuple #[(.agg #[(Fl r55), (Fl r57), (Fl r59)]), (Bo (hasOk A_g x y z))]), (.agg #[(Fl r55), (Fl r57), (Fl r59)]), (Bo (hasOk A_g x y z)), (.agg #[(Fl r1), (Fl r3), (Fl r5), (Fl r7), (Iv A_g.x), (Iv A_g.y), (Iv A_g.z), (.slice p11 A_g.vals.length q12)]), (.agg #[(Fl r82), (Fl r84), (Fl r86), (Fl r88), (Iv A_g.x), (Iv A_g.y), (Iv A_g.z), (.slice p92 A_g.vals.length q93)]), (.tuple #[(.agg #[(Fl r111), (Fl r113), (Fl r115)]), (Bo (hasOk A_g x y z))]), (.agg #[(Fl r82), (Fl r84), (Fl r86), (Fl r88), (Iv A_g.x), (Iv A_g.y), (Iv A_g.z), (.slice p92 A_g.vals.length q93)]), (Iv x), (Iv y), (Iv z), (.tuple #[(.agg #[(Fl r111), (Fl r113), (Fl r115)]), (Bo (hasOk A_g x y z))]), (.agg #[(Fl r111), (Fl r113), (Fl r115)]), Ud, Ud, Ud, Ud, Ud, Ud, Ud, Ud, Ud, Ud, Ud, Ud, Ud, Ud, Ud]) rfl rfl (does_extract (vs := #[(.agg #[(Fl r111), (Fl r113), (Fl r115)]), (Bo (hasOk A_g x y z))]) (u := (.agg #[(Fl r111), (Fl r113), (Fl r115)])) (ev rfl) rfl) rfl ?_
  refine q_is (l' := [(.agg #[(Fl r1), (Fl r3), (Fl r5), (Fl r7), (Iv A_g.x), (Iv A_g.y), (Iv A_g.z), (.slice p11 A_g.vals.length q12)]), (Iv x), (Iv y), (Iv z), (Pt b15 0), Ud, Ud, Ud, (Bo false), (Iv i26), (Pt b62 0), (Bo (hasOk A_g x y z)), (Pt b95 0), Ud, Ud, (.agg #[(Fl r1), (Fl r3), (Fl r5), (Fl r7), (Iv A_g.x), (Iv A_g.y), (Iv A_g.z), (.slice p11 A_g.vals.length q12)]), (Iv 1048576), (Iv i26), (Iv i26), (Bo (icmp .lss i26 0)), (.tuple #[(.agg #[(Fl r55), (Fl r57), (Fl r59)]), (Bo (hasOk A_g x y z))]), (.agg #[(Fl r1), (Fl r3), (Fl r5), (Fl r7), (Iv A_g.x), (Iv A_g.y), (Iv A_g.z), (.slice p11 A_g.vals.length q12)]), (.agg #[(Fl r40), (Fl r42), (Fl r44), (Fl r46), (Iv A_g.x), (Iv A_g.y), (Iv A_g.z), (.slice p50 A_g.vals.length q51)]), (Iv x), (Iv y), (Iv z), (.tuple #[(.agg #[(Fl r55), (Fl r57), (Fl r59)]), (Bo (hasOk A_g x y z))]), (.agg #[(Fl r55), (Fl r57), (Fl r59)]), (Bo (hasOk A_g x y z)), (.agg #[(Fl r1), (Fl r3), (Fl r5), (Fl r7), (Iv A_g.x), (Iv A_g.y), (Iv A_g.z), (.slice p11 A_g.vals.length q12)]), (.agg #[(Fl r82), (Fl r84), (Fl r86), (Fl r88), (Iv A_g.x), (Iv A_g.y), (Iv A_g.z), (.slice p92 A_g.vals.length q93)]), (.tuple #[(.agg #[(Fl r111), (Fl r113), (Fl r115)]), (Bo (hasOk A_g x y z))]), (.agg #[(Fl r82), (Fl r84), (Fl r86), (Fl r88), (Iv A_g.x), (Iv A_g.y), (Iv A_g.z), (.slice p92 A_g.vals.length q93)]), (Iv x), (Iv y), (Iv z), (.tuple #[(.agg #[(Fl r111), (Fl r113), (Fl r115)]), (Bo (hasOk A_g x y z))]), (.agg #[(Fl r111), (Fl r113), (Fl r115)]), (Bo (hasOk A_g x y z)), Ud, Ud, Ud, Ud, Ud, Ud, Ud, Ud, Ud, Ud, Ud, Ud, Ud, Ud]) rfl rfl (does_extract (vs := #[(.agg #[(Fl r111), (Fl r113), (Fl r115)]), (Bo (hasOk A_g x y z))]) (u := (Bo (hasOk A_g x y z))) (ev rfl) rfl) rfl ?_
  refine seqd rfl rfl (does_alloc z30) ?_; rintro _ w122 ⟨b118, rfl, hb119, hB120, E121⟩
  have n123 : b15 < b118 := Nat.lt_of_lt_of_le (Blk.lt (((((((((hB17.ext E24).ext E34).ext E53).ext E65).wr W70 (Nat.ne_of_lt n67)).ext E75).ext E98).wr W104 (Nat.ne_of_lt n100)).ext E109)) hb119
  have n124 : b62 < b118 := Nat.lt_of_lt_of_le (Blk.lt ((((hB71.ext E75).ext E98).wr W104 (Nat.ne_of_lt n101)).ext E109)) hb119
  have n125 : b95 < b118 := Nat.lt_of_lt_of_le (Blk.lt (hB105.ext E109)) hb119
  have g126 : w.heap.size ≤ b118 := Nat.le_trans (Below.size X117) hb119
  change Blk _ _ [(Fl 0), (Fl 0), (Fl 0)] at hB120
  have X127 := Ext.gr X117 E121
  show wpList _ _ _ _ (fr [(.agg #[(Fl r1), (Fl r3), (Fl r5), (Fl r7), (Iv A_g.x), (Iv A_g.y), (Iv A_g.z), (.slice p11 A_g.vals.length q12)]), (Iv x), (Iv y), (Iv z), (Pt b15 0), Ud, Ud, Ud, (Bo false), (Iv i26), (Pt b62 0), (Bo (hasOk A_g x y z)), (Pt b95 0), (Pt b118 0), Ud, (.agg #[(Fl r1), (Fl r3), (Fl r5), (Fl r7), (Iv A_g.x), (Iv A_g.y), (Iv A_g.z), (.slice p11 A_g.vals.length q12)]), (Iv 1048576), (Iv i26), (Iv i26), (Bo (icmp .lss i26 0)), (.tuple #[(.agg #[(Fl r55), (Fl r57), (Fl r59)]), (Bo (hasOk A_g x y z))]), (.agg #[(Fl r1), (Fl r3), (Fl r5), (Fl r7), (Iv A_g.x), (Iv A_g.y), (Iv A_g.z), (.slice p11 A_g.vals.length q12)]), (.agg #[(Fl r40), (Fl r42), (Fl r44), (Fl r46), (Iv A_g.x), (Iv A_g.y), (Iv A_g.z), (.slice p50 A_g.vals.length q51)]), (Iv x), (Iv y), (Iv z), (.tuple #[(.agg #[(Fl r55), (Fl r57), (Fl r59)]), (Bo (hasOk A_g x y z))]), (.agg #[(Fl r55), (Fl r57), (Fl r59)]), (Bo (hasOk A_g x y z)), (.agg #[(Fl r1), (Fl r3), (Fl r5), (Fl r7), (Iv A_g.x), (Iv A_g.y), (Iv A_g.z), (.slice p11 A_g.vals.length q12)]), (.agg #[(Fl r82), (Fl r84), (Fl r86), (Fl r88), (Iv A_g.x), (Iv A_g.y), (Iv A_g.z), (.slice p92 A_g.vals.length q93)]), (.tuple #[(.agg #[(Fl r111), (Fl r113), (Fl r115)]), (Bo (hasOk A_g x y z))]), (.agg #[(Fl r82), (Fl r84), (Fl r86), (Fl r88), (Iv A_g.x), (Iv A_g.y), (Iv A_g.z), (.slice p92 A_g.vals.length q93)]), (Iv x), (Iv y), (Iv z), (.tuple #[(.agg #[(Fl r111), (Fl r113), (Fl r115)]), (Bo (hasOk A_g x y z))]), (.agg #[(Fl r111), (Fl r113), (Fl r115)]), (Bo (hasOk A_g x y z)), Ud, Ud, Ud, Ud, Ud, Ud, Ud, Ud, Ud, Ud, Ud, Ud, Ud, Ud]) _
  refine seqn rfl rfl (does_store (n := 3) (cs := [(Fl 0), (Fl 0), (Fl 0)]) (u := (.agg #[(Fl r111), (Fl r113), (Fl r115)])) (ev rfl) (ev rfl) Try.sizeOf30 rfl hB120 (Nat.le_of_ble_eq_true rfl) rfl) ?_; rintro _ w130 ⟨rfl, W128, hB129⟩
  change Blk _ _ [(Fl r111), (Fl r113), (Fl r115)] at hB129
  have X131 := Below.wr X127 W128 g126
  refine q_is (l' := [(.agg #[(Fl r1), (Fl r3), (Fl r5), (Fl r7), (Iv A_g.x), (Iv A_g.y), (Iv A_g.z), (.slice p11 A_g.vals.length q12)]), (Iv x), (Iv y), (Iv z), (Pt b15 0), Ud, Ud, Ud, (Bo false), (Iv i26), (Pt b62 0), (Bo (hasOk A_g x y z)), (Pt b95 0), (Pt b118 0), (Bo (hasOk A_g x y z)), (.agg #[(Fl r1), (Fl r3), (Fl r5), (Fl r7), (Iv A_g.x), (Iv A_g.y), (Iv A_g.z), (.slice p11 A_g.vals.length q12)]), (Iv 1048576), (Iv i26), (Iv i26), (Bo (icmp .lss i26 0)), (.tuple #[(.agg #[(Fl r55), (Fl r57), (Fl r59)]), (Bo (hasOk A_g x y z))]), (.agg #[(Fl r1), (Fl r3), (Fl r5), (Fl r7), (Iv A_g.x), (Iv A_g.y), (Iv A_g.z), (.slice p11 A_g.vals.length q12)]), (.agg #[(Fl r40), (Fl r42), (Fl r44), (Fl r46), (Iv A_g.x), (Iv A_g.y), (Iv A_g.z), (.slice p50 A_g.vals.length q51)]), (Iv x), (Iv y), (Iv z), (.tuple #[(.agg #[(Fl r55), (Fl r57), (Fl r59)]), (Bo (hasOk A_g x y z))]), (.agg #[(Fl r55), (Fl r57), (Fl r59)]), (Bo (hasOk A_g x y z)), (.agg #[(Fl r1), (Fl r3), (Fl r5), (Fl r7), (Iv A_g.x), (Iv A_g.y), (Iv A_g.z), (.slice p11 A_g.vals.length q12)]), (.agg #[(Fl r82), (Fl r84), (Fl r86), (Fl r88), (Iv A_g.x), (Iv A_g.y), (Iv A_g.z), (.slice p92 A_g.vals.length q93)]), (.tuple #[(.agg #[(Fl r111), (Fl r113), (Fl r115)]), (Bo (hasOk A_g x y z))]), (.agg #[(Fl r82), (Fl r84), (Fl r86), (Fl r88), (Iv A_g.x), (Iv A_g.y), (Iv A_g.z), (.slice p92 A_g.vals.length q93)]), (Iv x), (Iv y), (Iv z), (.tuple #[(.agg #[(Fl r111), (Fl r113), (Fl r115)]), (Bo (hasOk A_g x y z))]), (.agg #[(Fl r111), (Fl r113), (Fl r115)]), (Bo (hasOk A_g x y z)), Ud, Ud, Ud, Ud, Ud, Ud, Ud, Ud, Ud, Ud, Ud, Ud, Ud, Ud]) rfl rfl (does_assign (u := (Bo (hasOk A_g x y z))) (ev rfl)) rfl ?_
  refine wpList_nil (hK108 _ _ ?_)
  refine wp_seq_k fun K132 hK132 => ?_
  refine wp_seq_k fun K133 hK133 => ?_
  obtain ⟨β1, hβ1⟩ : ∃ b : Bool, b = (sameV (gvV (hasOk A_g x y z) (ptG A_g.low A_g.step x y z)) (gvV (hasOk A_g x y z) (ptG A_g.low A_g.step x y z))) := ⟨_, rfl⟩
  obtain ⟨β2, hβ2⟩ : ∃ b : Bool, b = ((hasOk A_g x y z) != (hasOk A_g x y z)) := ⟨_, rfl⟩
  refine region_text (
    [Fact.pure [] (fun v => v = (.agg #[(Fl r111), (Fl r113), (Fl r115)])),
    Fact.pure [] (fun v => v = (.agg #[(Fl r55), (Fl r57), (Fl r59)])),
    Fact.pure [39, 40] (fun v => v = (Bo β1)),
    Fact.pure [41] (fun v => v = (Bo (!β1))),
    Fact.pure [42] (fun v => v = (Bo (!β1))),
    Fact.pure [43] (fun v => (!β1) = false → v = (Bo (hasOk A_g x y z))),
    Fact.pure [43] (fun v => (!β1) = false → v = (Bo (hasOk A_g x y z))),
    Fact.pure [44, 45, 43] (fun v => (!β1) = false → v = (Bo β2)),
    Fact.pure [43, 46] (fun v => v = (Bo ((!β1) || β2)))]) (by simp [Fact.pure, Fact.mem]) ?_
  refine RW_d (fun v134 => [(.agg #[(Fl r1), (Fl r3), (Fl r5), (Fl r7), (Iv A_g.x), (Iv A_g.y), (Iv A_g.z), (.slice p11 A_g.vals.length q12)]), (Iv x), (Iv y), (Iv z), (Pt b15 0), Ud, Ud, Ud, (Bo false), (Iv i26), (Pt b62 0), (Bo (hasOk A_g x y z)), (Pt b95 0), (Pt b118 0), (Bo (hasOk A_g x y z)), (.agg #[(Fl r1), (Fl r3), (Fl r5), (Fl r7), (Iv A_g.x), (Iv A_g.y), (Iv A_g.z), (.slice p11 A_g.vals.length q12)]), (Iv 1048576), (Iv i26), (Iv i26), (Bo (icmp .lss i26 0)), (.tuple #[(.agg #[(Fl r55), (Fl r57), (Fl r59)]), (Bo (hasOk A_g x y z))]), (.agg #[(Fl r1), (Fl r3), (Fl r5), (Fl r7), (Iv A_g.x), (Iv A_g.y), (Iv A_g.z), (.slice p11 A_g.vals.length q12)]), (.agg #[(Fl r40), (Fl r42), (Fl r44), (Fl r46), (Iv A_g.x), (Iv A_g.y), (Iv A_g.z), (.slice p50 A_g.vals.length q51)]), (Iv x), (Iv y), (Iv z), (.tuple #[(.agg #[(Fl r55), (Fl r57), (Fl r59)]), (Bo (hasOk A_g x y z))]), (.agg #[(Fl r55), (Fl r57), (Fl r59)]), (Bo (hasOk A_g x y z)), (.agg #[(Fl r1), (Fl r3), (Fl r5), (Fl r7), (Iv A_g.x), (Iv A_g.y), (Iv A_g.z), (.slice p11 A_g.vals.length q12)]), (.agg #[(Fl r82), (Fl r84), (Fl r86), (Fl r88), (Iv A_g.x), (Iv A_g.y), (Iv A_g.z), (.slice p92 A_g.vals.length q93)]), (.tuple #[(.agg #[(Fl r111), (Fl r113), (Fl r115)]), (Bo (hasOk A_g x y z))]), (.agg #[(Fl r82), (Fl r84), (Fl r86), (Fl r88), (Iv A_g.x), (Iv A_g.y), (Iv A_g.z), (.slice p92 A_g.vals.length q93)]), (Iv x), (Iv y), (Iv z), (.tuple #[(.agg #[(Fl r111), (Fl r113), (Fl r115)]), (Bo (hasOk A_g x y z))]), (.agg #[(Fl r111), (Fl r113), (Fl r115)]), (Bo (hasOk A_g x y z)), v134, Ud, Ud, Ud, Ud, Ud, Ud, Ud, Ud, Ud, Ud, Ud, Ud, Ud]) rfl (fun _ => rfl) (fun u hu hF => ?_) (fun v134 => ?_)
  · clear hF
    refine doesG_un rfl ?_
    refine (does_loadAgg (cs := [(Fl r111), (Fl r113), (Fl r115)]) (ev rfl) Try.isAgg30 Try.sizeOf30 (Blk.cells (hB129.ext hu)) rfl).mono ?_; rintro _ _ ⟨rfl, rfl⟩
    exact ⟨rfl, Ext.refl _⟩
  refine RW_d (fun v135 => [(.agg #[(Fl r1), (Fl r3), (Fl r5), (Fl r7), (Iv A_g.x), (Iv A_g.y), (Iv A_g.z), (.slice p11 A_g.vals.length q12)]), (Iv x), (Iv y), (Iv z), (Pt b15 0), Ud, Ud, Ud, (Bo false), (Iv i26), (Pt b62 0), (Bo (hasOk A_g x y z)), (Pt b95 0), (Pt b118 0), (Bo (hasOk A_g x y z)), (.agg #[(Fl r1), (Fl r3), (Fl r5), (Fl r7), (Iv A_g.x), (Iv A_g.y), (Iv A_g.z), (.slice p11 A_g.vals.length q12)]), (Iv 1048576), (Iv i26), (Iv i26), (Bo (icmp .lss i26 0)), (.tuple #[(.agg #[(Fl r55), (Fl r57), (Fl r59)]), (Bo (hasOk A_g x y z))]), (.agg #[(Fl r1), (Fl r3), (Fl r5), (Fl r7), (Iv A_g.x), (Iv A_g.y), (Iv A_g.z), (.slice p11 A_g.vals.length q12)]), (.agg #[(Fl r40), (Fl r42), (Fl r44), (Fl r46), (Iv A_g.x), (Iv A_g.y), (Iv A_g.z), (.slice p50 A_g.vals.length q51)]), (Iv x), (Iv y), (Iv z), (.tuple #[(.agg #[(Fl r55), (Fl r57), (Fl r59)]), (Bo (hasOk A_g x y z))]), (.agg #[(Fl r55), (Fl r57), (Fl r59)]), (Bo (hasOk A_g x y z)), (.agg #[(Fl r1), (Fl r3), (Fl r5), (Fl r7), (Iv A_g.x), (Iv A_g.y), (Iv A_g.z), (.slice p11 A_g.vals.length q12)]), (.agg #[(Fl r82), (Fl r84), (Fl r86), (Fl r88), (Iv A_g.x), (Iv A_g.y), (Iv A_g.z), (.slice p92 A_g.vals.length q93)]), (.tuple #[(.agg #[(Fl r111), (Fl r113), (Fl r115)]), (Bo (hasOk A_g x y z))]), (.agg #[(Fl r82), (Fl r84), (Fl r86), (Fl r88), (Iv A_g.x), (Iv A_g.y), (Iv A_g.z), (.slice p92 A_g.vals.length q93)]), (Iv x), (Iv y), (Iv z), (.tuple #[(.agg #[(Fl r111), (Fl r113), (Fl r115)]), (Bo (hasOk A_g x y z))]), (.agg #[(Fl r111), (Fl r113), (Fl r115)]), (Bo (hasOk A_g x y z)), v134, v135, Ud, Ud, Ud, Ud, Ud, Ud, Ud, Ud, Ud, Ud, Ud, Ud]) rfl (fun _ => rfl) (fun u hu hF => ?_) (fun v135 => ?_)
  · clear hF
    refine doesG_un rfl ?_
    refine (does_loadAgg (cs := [(Fl r55), (Fl r57), (Fl r59)]) (ev rfl) Try.isAgg30 Try.sizeOf30 (Blk.cells (((((((hB71.ext E75).ext E98).wr W104 (Nat.ne_of_lt n101)).ext E109).ext E121).wr W128 (Nat.ne_of_lt n124)).ext hu)) rfl).mono ?_; rintro _ _ ⟨rfl, rfl⟩
    exact ⟨rfl, Ext.refl _⟩
  refine RW_d (fun v136 => [(.agg #[(Fl r1), (Fl r3), (Fl r5), (Fl r7), (Iv A_g.x), (Iv A_g.y), (Iv A_g.z), (.slice p11 A_g.vals.length q12)]), (Iv x), (Iv y), (Iv z), (Pt b15 0), Ud, Ud, Ud, (Bo false), (Iv i26), (Pt b62 0), (Bo (hasOk A_g x y z)), (Pt b95 0), (Pt b118 0), (Bo (hasOk A_g x y z)), (.agg #[(Fl r1), (Fl r3), (Fl r5), (Fl r7), (Iv A_g.x), (Iv A_g.y), (Iv A_g.z), (.slice p11 A_g.vals.length q12)]), (Iv 1048576), (Iv i26), (Iv i26), (Bo (icmp .lss i26 0)), (.tuple #[(.agg #[(Fl r55), (Fl r57), (Fl r59)]), (Bo (hasOk A_g x y z))]), (.agg #[(Fl r1), (Fl r3), (Fl r5), (Fl r7), (Iv A_g.x), (Iv A_g.y), (Iv A_g.z), (.slice p11 A_g.vals.length q12)]), (.agg #[(Fl r40), (Fl r42), (Fl r44), (Fl r46), (Iv A_g.x), (Iv A_g.y), (Iv A_g.z), (.slice p50 A_g.vals.length q51)]), (Iv x), (Iv y), (Iv z), (.tuple #[(.agg #[(Fl r55), (Fl r57), (Fl r59)]), (Bo (hasOk A_g x y z))]), (.agg #[(Fl r55), (Fl r57), (Fl r59)]), (Bo (hasOk A_g x y z)), (.agg #[(Fl r1), (Fl r3), (Fl r5), (Fl r7), (Iv A_g.x), (Iv A_g.y), (Iv A_g.z), (.slice p11 A_g.vals.length q12)]), (.agg #[(Fl r82), (Fl r84), (Fl r86), (Fl r88), (Iv A_g.x), (Iv A_g.y), (Iv A_g.z), (.slice p92 A_g.vals.length q93)]), (.tuple #[(.agg #[(Fl r111), (Fl r113), (Fl r115)]), (Bo (hasOk A_g x y z))]), (.agg #[(Fl r82), (Fl r84), (Fl r86), (Fl r88), (Iv A_g.x), (Iv A_g.y), (Iv A_g.z), (.slice p92 A_g.vals.length q93)]), (Iv x), (Iv y), (Iv z), (.tuple #[(.agg #[(Fl r111), (Fl r113), (Fl r115)]), (Bo (hasOk A_g x y z))]), (.agg #[(Fl r111), (Fl r113), (Fl r115)]), (Bo (hasOk A_g x y z)), v134, v135, v136, Ud, Ud, Ud, Ud, Ud, Ud, Ud, Ud, Ud, Ud, Ud]) rfl (fun _ => rfl) (fun u hu hF => ?_) (fun v136 => ?_)
  · have h39_ : v134 = (.agg #[(Fl r111), (Fl r113), (Fl r115)]) := hF.1
    have h40_ : v135 = (.agg #[(Fl r55), (Fl r57), (Fl r59)]) := hF.2.1
    clear hF
    obtain rfl := h39_
    obtain rfl := h40_
    refine doesG_un rfl ?_
    refine (does_call (args := #[(.agg #[(Fl r111), (Fl r113), (Fl r115)]), (.agg #[(Fl r55), (Fl r57), (Fl r59)])]) cal29 (evs rfl) (c_laws_eqVector [(Fl r111), (Fl r113), (Fl r115)] (gvV (hasOk A_g x y z) (ptG A_g.low A_g.step x y z)) [(Fl r55), (Fl r57), (Fl r59)] (gvV (hasOk A_g x y z) (ptG A_g.low A_g.step x y z)) _ ⟨r111, r113, r115, rfl, h112, h114, h116⟩ ⟨r55, r57, r59, rfl, h56, h58, h60⟩)).mono ?_; rintro v u' ⟨hx, hv⟩
    exact ⟨hv.trans (by simp only [hβ1]), hx⟩
  refine RW_d (fun v137 => [(.agg #[(Fl r1), (Fl r3), (Fl r5), (Fl r7), (Iv A_g.x), (Iv A_g.y), (Iv A_g.z), (.slice p11 A_g.vals.length q12)]), (Iv x), (Iv y), (Iv z), (Pt b15 0), Ud, Ud, Ud, (Bo false), (Iv i26), (Pt b62 0), (Bo (hasOk A_g x y z)), (Pt b95 0), (Pt b118 0), (Bo (hasOk A_g x y z)), (.agg #[(Fl r1), (Fl r3), (Fl r5), (Fl r7), (Iv A_g.x), (Iv A_g.y), (Iv A_g.z), (.slice p11 A_g.vals.length q12)]), (Iv 1048576), (Iv i26), (Iv i26), (Bo (icmp .lss i26 0)), (.tuple #[(.agg #[(Fl r55), (Fl r57), (Fl r59)]), (Bo (hasOk A_g x y z))]), (.agg #[(Fl r1), (Fl r3), (Fl r5), (Fl r7), (Iv A_g.x), (Iv A_g.y), (Iv A_g.z), (.slice p11 A_g.vals.length q12)]), (.agg #[(Fl r40), (Fl r42), (Fl r44), (Fl r46), (Iv A_g.x), (Iv A_g.y), (Iv A_g.z), (.slice p50 A_g.vals.length q51)]), (Iv x), (Iv y), (Iv z), (.tuple #[(.agg #[(Fl r55), (Fl r57), (Fl r59)]), (Bo (hasOk A_g x y z))]), (.agg #[(Fl r55), (Fl r57), (Fl r59)]), (Bo (hasOk A_g x y z)), (.agg #[(Fl r1), (Fl r3), (Fl r5), (Fl r7), (Iv A_g.x), (Iv A_g.y), (Iv A_g.z), (.slice p11 A_g.vals.length q12)]), (.agg #[(Fl r82), (Fl r84), (Fl r86), (Fl r88), (Iv A_g.x), (Iv A_g.y), (Iv A_g.z), (.slice p92 A_g.vals.length q93)]), (.tuple #[(.agg #[(Fl r111), (Fl r113), (Fl r115)]), (Bo (hasOk A_g x y z))]), (.agg #[(Fl r82), (Fl r84), (Fl r86), (Fl r88), (Iv A_g.x), (Iv A_g.y), (Iv A_g.z), (.slice p92 A_g.vals.length q93)]), (Iv x), (Iv y), (Iv z), (.tuple #[(.agg #[(Fl r111), (Fl r113), (Fl r115)]), (Bo (hasOk A_g x y z))]), (.agg #[(Fl r111), (Fl r113), (Fl r115)]), (Bo (hasOk A_g x y z)), v134, v135, v136, v137, Ud, Ud, Ud, Ud, Ud, Ud, Ud, Ud, Ud, Ud]) rfl (fun _ => rfl) (fun u hu hF => ?_) (fun v137 => ?_)
  · have h41_ : v136 = (Bo β1) := hF.1
    clear hF
    obtain rfl := h41_
    refine doesG_un rfl ?_
    refine (does_not (ev rfl)).mono ?_; rintro _ _ ⟨rfl, rfl⟩
    exact ⟨rfl, Ext.refl _⟩
  refine RW_d (fun v138 => [(.agg #[(Fl r1), (Fl r3), (Fl r5), (Fl r7), (Iv A_g.x), (Iv A_g.y), (Iv A_g.z), (.slice p11 A_g.vals.length q12)]), (Iv x), (Iv y), (Iv z), (Pt b15 0), Ud, Ud, Ud, (Bo false), (Iv i26), (Pt b62 0), (Bo (hasOk A_g x y z)), (Pt b95 0), (Pt b118 0), (Bo (hasOk A_g x y z)), (.agg #[(Fl r1), (Fl r3), (Fl r5), (Fl r7), (Iv A_g.x), (Iv A_g.y), (Iv A_g.z), (.slice p11 A_g.vals.length q12)]), (Iv 1048576), (Iv i26), (Iv i26), (Bo (icmp .lss i26 0)), (.tuple #[(.agg #[(Fl r55), (Fl r57), (Fl r59)]), (Bo (hasOk A_g x y z))]), (.agg #[(Fl r1), (Fl r3), (Fl r5), (Fl r7), (Iv A_g.x), (Iv A_g.y), (Iv A_g.z), (.slice p11 A_g.vals.length q12)]), (.agg #[(Fl r40), (Fl r42), (Fl r44), (Fl r46), (Iv A_g.x), (Iv A_g.y), (Iv A_g.z), (.slice p50 A_g.vals.length q51)]), (Iv x), (Iv y), (Iv z), (.tuple #[(.agg #[(Fl r55), (Fl r57), (Fl r59)]), (Bo (hasOk A_g x y z))]), (.agg #[(Fl r55), (Fl r57), (Fl r59)]), (Bo (hasOk A_g x y z)), (.agg #[(Fl r1), (Fl r3), (Fl r5), (Fl r7), (Iv A_g.x), (Iv A_g.y), (Iv A_g.z), (.slice p11 A_g.vals.length q12)]), (.agg #[(Fl r82), (Fl r84), (Fl r86), (Fl r88), (Iv A_g.x), (Iv A_g.y), (Iv A_g.z), (.slice p92 A_g.vals.length q93)]), (.tuple #[(.agg #[(Fl r111), (Fl r113), (Fl r115)]), (Bo (hasOk A_g x y z))]), (.agg #[(Fl r82), (Fl r84), (Fl r86), (Fl r88), (Iv A_g.x), (Iv A_g.y), (Iv A_g.z), (.slice p92 A_g.vals.length q93)]), (Iv x), (Iv y), (Iv z), (.tuple #[(.agg #[(Fl r111), (Fl r113), (Fl r115)]), (Bo (hasOk A_g x y z))]), (.agg #[(Fl r111), (Fl r113), (Fl r115)]), (Bo (hasOk A_g x y z)), v134, v135, v136, v137, v138, Ud, Ud, Ud, Ud, Ud, Ud, Ud, Ud, Ud]) rfl (fun _ => rfl) (fun u hu hF => ?_) (fun v138 => ?_)
  · have h42_ : v137 = (Bo (!β1)) := hF.1
    clear hF
    obtain rfl := h42_
    refine doesG_un rfl ?_
    refine (does_move (u := (Bo (!β1))) (ev rfl)).mono ?_; rintro _ _ ⟨rfl, rfl⟩
    exact ⟨rfl, Ext.refl _⟩
  refine RW_d (fun v139 => [(.agg #[(Fl r1), (Fl r3), (Fl r5), (Fl r7), (Iv A_g.x), (Iv A_g.y), (Iv A_g.z), (.slice p11 A_g.vals.length q12)]), (Iv x), (Iv y), (Iv z), (Pt b15 0), Ud, Ud, Ud, (Bo false), (Iv i26), (Pt b62 0), (Bo (hasOk A_g x y z)), (Pt b95 0), (Pt b118 0), (Bo (hasOk A_g x y z)), (.agg #[(Fl r1), (Fl r3), (Fl r5), (Fl r7), (Iv A_g.x), (Iv A_g.y), (Iv A_g.z), (.slice p11 A_g.vals.length q12)]), (Iv 1048576), (Iv i26), (Iv i26), (Bo (icmp .lss i26 0)), (.tuple #[(.agg #[(Fl r55), (Fl r57), (Fl r59)]), (Bo (hasOk A_g x y z))]), (.agg #[(Fl r1), (Fl r3), (Fl r5), (Fl r7), (Iv A_g.x), (Iv A_g.y), (Iv A_g.z), (.slice p11 A_g.vals.length q12)]), (.agg #[(Fl r40), (Fl r42), (Fl r44), (Fl r46), (Iv A_g.x), (Iv A_g.y), (Iv A_g.z), (.slice p50 A_g.vals.length q51)]), (Iv x), (Iv y), (Iv z), (.tuple #[(.agg #[(Fl r55), (Fl r57), (Fl r59)]), (Bo (hasOk A_g x y z))]), (.agg #[(Fl r55), (Fl r57), (Fl r59)]), (Bo (hasOk A_g x y z)), (.agg #[(Fl r1), (Fl r3), (Fl r5), (Fl r7), (Iv A_g.x), (Iv A_g.y), (Iv A_g.z), (.slice p11 A_g.vals.length q12)]), (.agg #[(Fl r82), (Fl r84), (Fl r86), (Fl r88), (Iv A_g.x), (Iv A_g.y), (Iv A_g.z), (.slice p92 A_g.vals.length q93)]), (.tuple #[(.agg #[(Fl r111), (Fl r113), (Fl r115)]), (Bo (hasOk A_g x y z))]), (.agg #[(Fl r82), (Fl r84), (Fl r86), (Fl r88), (Iv A_g.x), (Iv A_g.y), (Iv A_g.z), (.slice p92 A_g.vals.length q93)]), (Iv x), (Iv y), (Iv z), (.tuple #[(.agg #[(Fl r111), (Fl r113), (Fl r115)]), (Bo (hasOk A_g x y z))]), (.agg #[(Fl r111), (Fl r113), (Fl r115)]), (Bo (hasOk A_g x y z)), v134, v135, v136, v137, v138, v139, Ud, Ud, Ud, Ud, Ud, Ud, Ud, Ud]) rfl (fun _ => rfl) (fun u hu hF => ?_) (fun v139 => ?_)
  · have h43_ : v138 = (Bo (!β1)) := hF.1
    clear hF
    obtain rfl := h43_
    refine doesG_g (b := (!β1)) rfl (yld rfl rfl) (fun hg => ?_) (fun hg => ⟨fun h => absurd h hg, Ext.refl _⟩)
    refine (does_move (u := (Bo (hasOk A_g x y z))) (ev rfl)).mono ?_; rintro _ _ ⟨rfl, rfl⟩
    exact ⟨fun _ => rfl, Ext.refl _⟩
  refine RW_d (fun v140 => [(.agg #[(Fl r1), (Fl r3), (Fl r5), (Fl r7), (Iv A_g.x), (Iv A_g.y), (Iv A_g.z), (.slice p11 A_g.vals.length q12)]), (Iv x), (Iv y), (Iv z), (Pt b15 0), Ud, Ud, Ud, (Bo false), (Iv i26), (Pt b62 0), (Bo (hasOk A_g x y z)), (Pt b95 0), (Pt b118 0), (Bo (hasOk A_g x y z)), (.agg #[(Fl r1), (Fl r3), (Fl r5), (Fl r7), (Iv A_g.x), (Iv A_g.y), (Iv A_g.z), (.slice p11 A_g.vals.length q12)]), (Iv 1048576), (Iv i26), (Iv i26), (Bo (icmp .lss i26 0)), (.tuple #[(.agg #[(Fl r55), (Fl r57), (Fl r59)]), (Bo (hasOk A_g x y z))]), (.agg #[(Fl r1), (Fl r3), (Fl r5), (Fl r7), (Iv A_g.x), (Iv A_g.y), (Iv A_g.z), (.slice p11 A_g.vals.length q12)]), (.agg #[(Fl r40), (Fl r42), (Fl r44), (Fl r46), (Iv A_g.x), (Iv A_g.y), (Iv A_g.z), (.slice p50 A_g.vals.length q51)]), (Iv x), (Iv y), (Iv z), (.tuple #[(.agg #[(Fl r55), (Fl r57), (Fl r59)]), (Bo (hasOk A_g x y z))]), (.agg #[(Fl r55), (Fl r57), (Fl r59)]), (Bo (hasOk A_g x y z)), (.agg #[(Fl r1), (Fl r3), (Fl r5), (Fl r7), (Iv A_g.x), (Iv A_g.y), (Iv A_g.z), (.slice p11 A_g.vals.length q12)]), (.agg #[(Fl r82), (Fl r84), (Fl r86), (Fl r88), (Iv A_g.x), (Iv A_g.y), (Iv A_g.z), (.slice p92 A_g.vals.length q93)]), (.tuple #[(.agg #[(Fl r111), (Fl r113), (Fl r115)]), (Bo (hasOk A_g x y z))]), (.agg #[(Fl r82), (Fl r84), (Fl r86), (Fl r88), (Iv A_g.x), (Iv A_g.y), (Iv A_g.z), (.slice p92 A_g.vals.length q93)]), (Iv x), (Iv y), (Iv z), (.tuple #[(.agg #[(Fl r111), (Fl r113), (Fl r115)]), (Bo (hasOk A_g x y z))]), (.agg #[(Fl r111), (Fl r113), (Fl r115)]), (Bo (hasOk A_g x y z)), v134, v135, v136, v137, v138, v139, v140, Ud, Ud, Ud, Ud, Ud, Ud, Ud]) rfl (fun _ => rfl) (fun u hu hF => ?_) (fun v140 => ?_)
  · have h43_ : v138 = (Bo (!β1)) := hF.1
    clear hF
    obtain rfl := h43_
    refine doesG_g (b := (!β1)) rfl (yld rfl rfl) (fun hg => ?_) (fun hg => ⟨fun h => absurd h hg, Ext.refl _⟩)
    refine (does_move (u := (Bo (hasOk A_g x y z))) (ev rfl)).mono ?_; rintro _ _ ⟨rfl, rfl⟩
    exact ⟨fun _ => rfl, Ext.refl _⟩
  refine RW_d (fun v141 => [(.agg #[(Fl r1), (Fl r3), (Fl r5), (Fl r7), (Iv A_g.x), (Iv A_g.y), (Iv A_g.z), (.slice p11 A_g.vals.length q12)]), (Iv x), (Iv y), (Iv z), (Pt b15 0), Ud, Ud, Ud, (Bo false), (Iv i26), (Pt b62 0), (Bo (hasOk A_g x y z)), (Pt b95 0), (Pt b118 0), (Bo (hasOk A_g x y z)), (.agg #[(Fl r1), (Fl r3), (Fl r5), (Fl r7), (Iv A_g.x), (Iv A_g.y), (Iv A_g.z), (.slice p11 A_g.vals.length q12)]), (Iv 1048576), (Iv i26), (Iv i26), (Bo (icmp .lss i26 0)), (.tuple #[(.agg #[(Fl r55), (Fl r57), (Fl r59)]), (Bo (hasOk A_g x y z))]), (.agg #[(Fl r1), (Fl r3), (Fl r5), (Fl r7), (Iv A_g.x), (Iv A_g.y), (Iv A_g.z), (.slice p11 A_g.vals.length q12)]), (.agg #[(Fl r40), (Fl r42), (Fl r44), (Fl r46), (Iv A_g.x), (Iv A_g.y), (Iv A_g.z), (.slice p50 A_g.vals.length q51)]), (Iv x), (Iv y), (Iv z), (.tuple #[(.agg #[(Fl r55), (Fl r57), (Fl r59)]), (Bo (hasOk A_g x y z))]), (.agg #[(Fl r55), (Fl r57), (Fl r59)]), (Bo (hasOk A_g x y z)), (.agg #[(Fl r1), (Fl r3), (Fl r5), (Fl r7), (Iv A_g.x), (Iv A_g.y), (Iv A_g.z), (.slice p11 A_g.vals.length q12)]), (.agg #[(Fl r82), (Fl r84), (Fl r86), (Fl r88), (Iv A_g.x), (Iv A_g.y), (Iv A_g.z), (.slice p92 A_g.vals.length q93)]), (.tuple #[(.agg #[(Fl r111), (Fl r113), (Fl r115)]), (Bo (hasOk A_g x y z))]), (.agg #[(Fl r82), (Fl r84), (Fl r86), (Fl r88), (Iv A_g.x), (Iv A_g.y), (Iv A_g.z), (.slice p92 A_g.vals.length q93)]), (Iv x), (Iv y), (Iv z), (.tuple #[(.agg #[(Fl r111), (Fl r113), (Fl r115)]), (Bo (hasOk A_g x y z))]), (.agg #[(Fl r111), (Fl r113), (Fl r115)]), (Bo (hasOk A_g x y z)), v134, v135, v136, v137, v138, v139, v140, v141, Ud, Ud, Ud, Ud, Ud, Ud]) rfl (fun _ => rfl) (fun u hu hF => ?_) (fun v141 => ?_)
  · have h44_ : (!β1) = false → v139 = (Bo (hasOk A_g x y z)) := hF.1
    have h45_ : (!β1) = false → v140 = (Bo (hasOk A_g x y z)) := hF.2.1
    have h43_ : v138 = (Bo (!β1)) := hF.2.2.1
    clear hF
    obtain rfl := h43_
    refine doesG_g (b := (!β1)) rfl (yld rfl rfl) (fun hg => ?_) (fun hg => ⟨fun h => absurd h hg, Ext.refl _⟩)
    obtain rfl := h44_ hg
    obtain rfl := h45_ hg
    refine (does_bne (p := (hasOk A_g x y z)) (q := (hasOk A_g x y z)) Try.underlying4 (ev rfl) (ev rfl)).mono ?_; rintro _ _ ⟨rfl, rfl⟩
    exact ⟨fun _ => (by first | rfl | (show _ = _; simp only [hβ2])), Ext.refl _⟩
  refine RW_d (fun v142 => [(.agg #[(Fl r1), (Fl r3), (Fl r5), (Fl r7), (Iv A_g.x), (Iv A_g.y), (Iv A_g.z), (.slice p11 A_g.vals.length q12)]), (Iv x), (Iv y), (Iv z), (Pt b15 0), Ud, Ud, Ud, (Bo false), (Iv i26), (Pt b62 0), (Bo (hasOk A_g x y z)), (Pt b95 0), (Pt b118 0), (Bo (hasOk A_g x y z)), (.agg #[(Fl r1), (Fl r3), (Fl r5), (Fl r7), (Iv A_g.x), (Iv A_g.y), (Iv A_g.z), (.slice p11 A_g.vals.length q12)]), (Iv 1048576), (Iv i26), (Iv i26), (Bo (icmp .lss i26 0)), (.tuple #[(.agg #[(Fl r55), (Fl r57), (Fl r59)]), (Bo (hasOk A_g x y z))]), (.agg #[(Fl r1), (Fl r3), (Fl r5), (Fl r7), (Iv A_g.x), (Iv A_g.y), (Iv A_g.z), (.slice p11 A_g.vals.length q12)]), (.agg #[(Fl r40), (Fl r42), (Fl r44), (Fl r46), (Iv A_g.x), (Iv A_g.y), (Iv A_g.z), (.slice p50 A_g.vals.length q51)]), (Iv x), (Iv y), (Iv z), (.tuple #[(.agg #[(Fl r55), (Fl r57), (Fl r59)]), (Bo (hasOk A_g x y z))]), (.agg #[(Fl r55), (Fl r57), (Fl r59)]), (Bo (hasOk A_g x y z)), (.agg #[(Fl r1), (Fl r3), (Fl r5), (Fl r7), (Iv A_g.x), (Iv A_g.y), (Iv A_g.z), (.slice p11 A_g.vals.length q12)]), (.agg #[(Fl r82), (Fl r84), (Fl r86), (Fl r88), (Iv A_g.x), (Iv A_g.y), (Iv A_g.z), (.slice p92 A_g.vals.length q93)]), (.tuple #[(.agg #[(Fl r111), (Fl r113), (Fl r115)]), (Bo (hasOk A_g x y z))]), (.agg #[(Fl r82), (Fl r84), (Fl r86), (Fl r88), (Iv A_g.x), (Iv A_g.y), (Iv A_g.z), (.slice p92 A_g.vals.length q93)]), (Iv x), (Iv y), (Iv z), (.tuple #[(.agg #[(Fl r111), (Fl r113), (Fl r115)]), (Bo (hasOk A_g x y z))]), (.agg #[(Fl r111), (Fl r113), (Fl r115)]), (Bo (hasOk A_g x y z)), v134, v135, v136, v137, v138, v139, v140, v141, v142, Ud, Ud, Ud, Ud, Ud]) rfl (fun _ => rfl) (fun u hu hF => ?_) (fun v142 => ?_)
  · have h43_ : v138 = (Bo (!β1)) := hF.1
    have h46_ : (!β1) = false → v141 = (Bo β2) := hF.2.1
    clear hF
    obtain rfl := h43_
    refine doesG_un rfl ((does_pick (b := (!β1)) (ev rfl) (ev rfl) (ev rfl)).mono ?_); rintro _ _ ⟨rfl, rfl⟩; refine ⟨?_, Ext.refl _⟩; skip
    cases hbb : (!β1) <;> simp [hbb] at h46_ ⊢
    all_goals (first | rfl | (subst h46_; rfl) | simp_all)
  refine RW_fin ?_; intro w143 E144 hP145
  obtain ⟨⟨⟨⟨⟨⟨⟨⟨⟨-, -⟩, -⟩, -⟩, -⟩, -⟩, -⟩, -⟩, -⟩, q146⟩ := hP145
  have X147 := Ext.gr X131 E144
  have q146 : v142 = (Bo ((!β1) || β2)) := q146
  obtain rfl := q146
  show wpList _ _ _ _ (fr [(.agg #[(Fl r1), (Fl r3), (Fl r5), (Fl r7), (Iv A_g.x), (Iv A_g.y), (Iv A_g.z), (.slice p11 A_g.vals.length q12)]), (Iv x), (Iv y), (Iv z), (Pt b15 0), Ud, Ud, Ud, (Bo false), (Iv i26), (Pt b62 0), (Bo (hasOk A_g x y z)), (Pt b95 0), (Pt b118 0), (Bo (hasOk A_g x y z)), (.agg #[(Fl r1), (Fl r3), (Fl r5), (Fl r7), (Iv A_g.x), (Iv A_g.y), (Iv A_g.z), (.slice p11 A_g.vals.length q12)]), (Iv 1048576), (Iv i26), (Iv i26), (Bo (icmp .lss i26 0)), (.tuple #[(.agg #[(Fl r55), (Fl r57), (Fl r59)]), (Bo (hasOk A_g x y z))]), (.agg #[(Fl r1), (Fl r3), (Fl r5), (Fl r7), (Iv A_g.x), (Iv A_g.y), (Iv A_g.z), (.slice p11 A_g.vals.length q12)]), (.agg #[(Fl r40), (Fl r42), (Fl r44), (Fl r46), (Iv A_g.x), (Iv A_g.y), (Iv A_g.z), (.slice p50 A_g.vals.length q51)]), (Iv x), (Iv y), (Iv z), (.tuple #[(.agg #[(Fl r55), (Fl r57), (Fl r59)]), (Bo (hasOk A_g x y z))]), (.agg #[(Fl r55), (Fl r57), (Fl r59)]), (Bo (hasOk A_g x y z)), (.agg #[(Fl r1), (Fl r3), (Fl r5), (Fl r7), (Iv A_g.x), (Iv A_g.y), (Iv A_g.z), (.slice p11 A_g.vals.length q12)]), (.agg #[(Fl r82), (Fl r84), (Fl r86), (Fl r88), (Iv A_g.x), (Iv A_g.y), (Iv A_g.z), (.slice p92 A_g.vals.length q93)]), (.tuple #[(.agg #[(Fl r111), (Fl r113), (Fl r115)]), (Bo (hasOk A_g x y z))]), (.agg #[(Fl r82), (Fl r84), (Fl r86), (Fl r88), (Iv A_g.x), (Iv A_g.y), (Iv A_g.z), (.slice p92 A_g.vals.length q93)]), (Iv x), (Iv y), (Iv z), (.tuple #[(.agg #[(Fl r111), (Fl r113), (Fl r115)]), (Bo (hasOk A_g x y z))]), (.agg #[(Fl r111), (Fl r113), (Fl r115)]), (Bo (hasOk A_g x y z)), v134, v135, v136, v137, v138, v139, v140, v141, (Bo ((!β1) || β2)), Ud, Ud, Ud, Ud, Ud]) _
  refine wpList_nil (hK133 _ _ ?_)
  refine wp_cond_split (t := (!β1) || β2) (ev rfl) (fun c148 => ?_) (fun c148 => ?_)
  · have c148' := c148
    (try simp only [hβ1, hβ2] at c148')
    (try simp only [icmp, Bool.and_eq_true, Bool.or_eq_true, Bool.and_eq_false_iff, Bool.or_eq_false_iff, Bool.not_eq_true', Bool.not_eq_false', decide_eq_true_eq, decide_eq_false_iff_not, beq_iff_eq, bne_iff_ne, beq_eq_false_iff_ne, bne_eq_false_iff_eq] at c148')
    refine wp_seq_k fun K149 hK149 => ?_
    refine wp_region_lit ?_
    refine q_is (l' := [(.agg #[(Fl r1), (Fl r3), (Fl r5), (Fl r7), (Iv A_g.x), (Iv A_g.y), (Iv A_g.z), (.slice p11 A_g.vals.length q12)]), (Iv x), (Iv y), (Iv z), (Pt b15 0), Ud, Ud, Ud, (Bo false), (Iv i26), (Pt b62 0), (Bo (hasOk A_g x y z)), (Pt b95 0), (Pt b118 0), (Bo (hasOk A_g x y z)), (.agg #[(Fl r1), (Fl r3), (Fl r5), (Fl r7), (Iv A_g.x), (Iv A_g.y), (Iv A_g.z), (.slice p11 A_g.vals.length q12)]), (Iv 1048576), (Iv i26), (Iv i26), (Bo (icmp .lss i26 0)), (.tuple #[(.agg #[(Fl r55), (Fl r57), (Fl r59)]), (Bo (hasOk A_g x y z))]), (.agg #[(Fl r1), (Fl r3), (Fl r5), (Fl r7), (Iv A_g.x), (Iv A_g.y), (Iv A_g.z), (.slice p11 A_g.vals.length q12)]), (.agg #[(Fl r40), (Fl r42), (Fl r44), (Fl r46), (Iv A_g.x), (Iv A_g.y), (Iv A_g.z), (.slice p50 A_g.vals.length q51)]), (Iv x), (Iv y), (Iv z), (.tuple #[(.agg #[(Fl r55), (Fl r57), (Fl r59)]), (Bo (hasOk A_g x y z))]), (.agg #[(Fl r55), (Fl r57), (Fl r59)]), (Bo (hasOk A_g x y z)), (.agg #[(Fl r1), (Fl r3), (Fl r5), (Fl r7), (Iv A_g.x), (Iv A_g.y), (Iv A_g.z), (.slice p11 A_g.vals.length q12)]), (.agg #[(Fl r82), (Fl r84), (Fl r86), (Fl r88), (Iv A_g.x), (Iv A_g.y), (Iv A_g.z), (.slice p92 A_g.vals.length q93)]), (.tuple #[(.agg #[(Fl r111), (Fl r113), (Fl r115)]), (Bo (hasOk A_g x y z))]), (.agg #[(Fl r82), (Fl r84), (Fl r86), (Fl r88), (Iv A_g.x), (Iv A_g.y), (Iv A_g.z), (.slice p92 A_g.vals.length q93)]), (Iv x), (Iv y), (Iv z), (.tuple #[(.agg #[(Fl r111), (Fl r113), (Fl r115)]), (Bo (hasOk A_g x y z))]), (.agg #[(Fl r111), (Fl r113), (Fl r115)]), (Bo (hasOk A_g x y z)), v134, v135, v136, v137, v138, v139, v140, v141, (Bo ((!β1) || β2)), Ud, Ud, Ud, Ud, Ud]) rfl rfl (does_assign (u := (Bo false)) (ev rfl)) rfl ?_
    refine wpList_nil (hK149 _ _ ?_)
    refine wp_ret ?_
    dsimp only [Exit.then, Exit.inBlock]
    refine ret_val (v := (Bo false)) (res_T rfl (slot rfl)) X147 ?_
    try simp only [h2, h4, h6, h8, h41, h43, h45, h47, h56, h58, h60, h83, h85, h87, h89, h112, h114, h116, hβ1, hβ2] at c31 c148
    have x150 : true = false := by first | rfl | (simp only [sameF_self, sameV_self, sameG_self, bne_self_eq_false, icmp, h2, h4, h6, h8, h41, h43, h45, h47, h56, h58, h60, h83, h85, h87, h89, h112, h114, h116, hβ1, hβ2, c31, c148]; done) | (simp [sameF_self, sameV_self, sameG_self, bne_self_eq_false, icmp, h2, h4, h6, h8, h41, h43, h45, h47, h56, h58, h60, h83, h85, h87, h89, h112, h114, h116, hβ1, hβ2, c31, c148]; done) | (revert c31 c148; simp +contextual [sameF_self, sameV_self, sameG_self, bne_self_eq_false, icmp, h2, h4, h6, h8, h41, h43, h45, h47, h56, h58, h60, h83, h85, h87, h89, h112, h114, h116, hβ1, hβ2]; done) | (rcases c31' with hh | hh <;> simp only [hh, sameF_self, sameV_self, sameG_self, bne_self_eq_false, icmp, h2, h4, h6, h8, h41, h43, h45, h47, h56, h58, h60, h83, h85, h87, h89, h112, h114, h116, hβ1, hβ2, c31, c148]; done) | (rcases c148' with hh | hh <;> simp only [hh, sameF_self, sameV_self, sameG_self, bne_self_eq_false, icmp, h2, h4, h6, h8, h41, h43, h45, h47, h56, h58, h60, h83, h85, h87, h89, h112, h114, h116, hβ1, hβ2, c31, c148]; done) | (rcases c148' with hh | hh <;> simp_all [sameF_self, sameV_self, sameG_self, bne_self_eq_false, icmp]; done) | (rcases c148' with hh | hh | hh <;> simp_all [sameF_self, sameV_self, sameG_self, bne_self_eq_false, icmp]; done) | (rcases c148' with hh | hh | hh | hh <;> simp_all [sameF_self, sameV_self, sameG_self, bne_self_eq_false, icmp]; done) | (simp_all [sameF_self, sameV_self, sameG_self, bne_self_eq_false, icmp]; done)
    exact (by first | rfl | rw [x150])
  have c148' := c148
  (try simp only [hβ1, hβ2] at c148')
  (try simp only [icmp, Bool.and_eq_true, Bool.or_eq_true, Bool.and_eq_false_iff, Bool.or_eq_false_iff, Bool.not_eq_true', Bool.not_eq_false', decide_eq_true_eq, decide_eq_false_iff_not, beq_iff_eq, bne_iff_ne, beq_eq_false_iff_ne, bne_eq_false_iff_eq] at c148')
  refine wp_skip (hK132 _ _ ?_)
  refine wp_seq_k fun K151 hK151 => ?_
  refine wp_seq_k fun K152 hK152 => ?_
  refine region_draw (
    [Fact.pure [] (fun v => v = (.agg #[(Fl r82), (Fl r84), (Fl r86), (Fl r88), (Iv A_g.x), (Iv A_g.y), (Iv A_g.z), (.slice p92 A_g.vals.length q93)])),
    Fact.pure [] (fun v => v = (.agg #[(Fl r1), (Fl r3), (Fl r5), (Fl r7), (Iv A_g.x), (Iv A_g.y), (Iv A_g.z), (.slice p11 A_g.vals.length q12)])),
    Fact.mem [49] (fun v w' => ∃ cs_1 : List Value, v = (.agg cs_1.toArray) ∧ Hang w143.heap.size w' (fun u => RGridT u A_g cs_1)) (by rintro v w1 w2 hx ⟨z1, rfl, k0⟩; exact ⟨z1, rfl, (k0.ext hx)⟩),
    Fact.pure [48, 50] (fun v => v = (Bo (sameG A_g A_g))),
    Fact.pure [51] (fun v => v = (Bo (!(sameG A_g A_g))))]) mixed (by kernel_rfl) (by intro _ _ d _ _ h; cases d <;> exact h) ?_
  obtain ⟨w153, hw155⟩ : ∃ w', w' = World.drew w143 := ⟨_, rfl⟩; rw [← hw155]; have E154 : Ext w143 w153 := by rw [hw155]; exact Ext.draw _
  clear hw155
  have X156 := Ext.gr X147 E154
  refine RW_d (fun v157 => [(.agg #[(Fl r1), (Fl r3), (Fl r5), (Fl r7), (Iv A_g.x), (Iv A_g.y), (Iv A_g.z), (.slice p11 A_g.vals.length q12)]), (Iv x), (Iv y), (Iv z), (Pt b15 0), Ud, Ud, Ud, (Bo false), (Iv i26), (Pt b62 0), (Bo (hasOk A_g x y z)), (Pt b95 0), (Pt b118 0), (Bo (hasOk A_g x y z)), (.agg #[(Fl r1), (Fl r3), (Fl r5), (Fl r7), (Iv A_g.x), (Iv A_g.y), (Iv A_g.z), (.slice p11 A_g.vals.length q12)]), (Iv 1048576), (Iv i26), (Iv i26), (Bo (icmp .lss i26 0)), (.tuple #[(.agg #[(Fl r55), (Fl r57), (Fl r59)]), (Bo (hasOk A_g x y z))]), (.agg #[(Fl r1), (Fl r3), (Fl r5), (Fl r7), (Iv A_g.x), (Iv A_g.y), (Iv A_g.z), (.slice p11 A_g.vals.length q12)]), (.agg #[(Fl r40), (Fl r42), (Fl r44), (Fl r46), (Iv A_g.x), (Iv A_g.y), (Iv A_g.z), (.slice p50 A_g.vals.length q51)]), (Iv x), (Iv y), (Iv z), (.tuple #[(.agg #[(Fl r55), (Fl r57), (Fl r59)]), (Bo (hasOk A_g x y z))]), (.agg #[(Fl r55), (Fl r57), (Fl r59)]), (Bo (hasOk A_g x y z)), (.agg #[(Fl r1), (Fl r3), (Fl r5), (Fl r7), (Iv A_g.x), (Iv A_g.y), (Iv A_g.z), (.slice p11 A_g.vals.length q12)]), (.agg #[(Fl r82), (Fl r84), (Fl r86), (Fl r88), (Iv A_g.x), (Iv A_g.y), (Iv A_g.z), (.slice p92 A_g.vals.length q93)]), (.tuple #[(.agg #[(Fl r111), (Fl r113), (Fl r115)]), (Bo (hasOk A_g x y z))]), (.agg #[(Fl r82), (Fl r84), (Fl r86), (Fl r88), (Iv A_g.x), (Iv A_g.y), (Iv A_g.z), (.slice p92 A_g.vals.length q93)]), (Iv x), (Iv y), (Iv z), (.tuple #[(.agg #[(Fl r111), (Fl r113), (Fl r115)]), (Bo (hasOk A_g x y z))]), (.agg #[(Fl r111), (Fl r113), (Fl r115)]), (Bo (hasOk A_g x y z)), v134, v135, v136, v137, v138, v139, v140, v141, (Bo ((!β1) || β2)), v157, Ud, Ud, Ud, Ud]) rfl (fun _ => rfl) (fun u hu hF => ?_) (fun v157 => ?_)
  · clear hF
    refine doesG_un rfl ?_
    refine (does_loadAgg (cs := [(Fl r82), (Fl r84), (Fl r86), (Fl r88), (Iv A_g.x), (Iv A_g.y), (Iv A_g.z), (.slice p92 A_g.vals.length q93)]) (ev rfl) Try.isAgg32 Try.sizeOf32 (Blk.cells ((((((hB105.ext E109).ext E121).wr W128 (Nat.ne_of_lt n125)).ext E144).ext E154).ext hu)) rfl).mono ?_; rintro _ _ ⟨rfl, rfl⟩
    exact ⟨rfl, Ext.refl _⟩
  refine RW_d (fun v158 => [(.agg #[(Fl r1), (Fl r3), (Fl r5), (Fl r7), (Iv A_g.x), (Iv A_g.y), (Iv A_g.z), (.slice p11 A_g.vals.length q12)]), (Iv x), (Iv y), (Iv z), (Pt b15 0), Ud, Ud, Ud, (Bo false), (Iv i26), (Pt b62 0), (Bo (hasOk A_g x y z)), (Pt b95 0), (Pt b118 0), (Bo (hasOk A_g x y z)), (.agg #[(Fl r1), (Fl r3), (Fl r5), (Fl r7), (Iv A_g.x), (Iv A_g.y), (Iv A_g.z), (.slice p11 A_g.vals.length q12)]), (Iv 1048576), (Iv i26), (Iv i26), (Bo (icmp .lss i26 0)), (.tuple #[(.agg #[(Fl r55), (Fl r57), (Fl r59)]), (Bo (hasOk A_g x y z))]), (.agg #[(Fl r1), (Fl r3), (Fl r5), (Fl r7), (Iv A_g.x), (Iv A_g.y), (Iv A_g.z), (.slice p11 A_g.vals.length q12)]), (.agg #[(Fl r40), (Fl r42), (Fl r44), (Fl r46), (Iv A_g.x), (Iv A_g.y), (Iv A_g.z), (.slice p50 A_g.vals.length q51)]), (Iv x), (Iv y), (Iv z), (.tuple #[(.agg #[(Fl r55), (Fl r57), (Fl r59)]), (Bo (hasOk A_g x y z))]), (.agg #[(Fl r55), (Fl r57), (Fl r59)]), (Bo (hasOk A_g x y z)), (.agg #[(Fl r1), (Fl r3), (Fl r5), (Fl r7), (Iv A_g.x), (Iv A_g.y), (Iv A_g.z), (.slice p11 A_g.vals.length q12)]), (.agg #[(Fl r82), (Fl r84), (Fl r86), (Fl r88), (Iv A_g.x), (Iv A_g.y), (Iv A_g.z), (.slice p92 A_g.vals.length q93)]), (.tuple #[(.agg #[(Fl r111), (Fl r113), (Fl r115)]), (Bo (hasOk A_g x y z))]), (.agg #[(Fl r82), (Fl r84), (Fl r86), (Fl r88), (Iv A_g.x), (Iv A_g.y), (Iv A_g.z), (.slice p92 A_g.vals.length q93)]), (Iv x), (Iv y), (Iv z), (.tuple #[(.agg #[(Fl r111), (Fl r113), (Fl r115)]), (Bo (hasOk A_g x y z))]), (.agg #[(Fl r111), (Fl r113), (Fl r115)]), (Bo (hasOk A_g x y z)), v134, v135, v136, v137, v138, v139, v140, v141, (Bo ((!β1) || β2)), v157, v158, Ud, Ud, Ud]) rfl (fun _ => rfl) (fun u hu hF => ?_) (fun v158 => ?_)
  · clear hF
    refine doesG_un rfl ?_
    refine (does_loadAgg (cs := [(Fl r1), (Fl r3), (Fl r5), (Fl r7), (Iv A_g.x), (Iv A_g.y), (Iv A_g.z), (.slice p11 A_g.vals.length q12)]) (ev rfl) Try.isAgg27 Try.sizeOf27 (Blk.cells ((((((((((((((hB17.ext E24).ext E34).ext E53).ext E65).wr W70 (Nat.ne_of_lt n67)).ext E75).ext E98).wr W104 (Nat.ne_of_lt n100)).ext E109).ext E121).wr W128 (Nat.ne_of_lt n123)).ext E144).ext E154).ext hu)) rfl).mono ?_; rintro _ _ ⟨rfl, rfl⟩
    exact ⟨rfl, Ext.refl _⟩
  refine RW_d (fun v159 => [(.agg #[(Fl r1), (Fl r3), (Fl r5), (Fl r7), (Iv A_g.x), (Iv A_g.y), (Iv A_g.z), (.slice p11 A_g.vals.length q12)]), (Iv x), (Iv y), (Iv z), (Pt b15 0), Ud, Ud, Ud, (Bo false), (Iv i26), (Pt b62 0), (Bo (hasOk A_g x y z)), (Pt b95 0), (Pt b118 0), (Bo (hasOk A_g x y z)), (.agg #[(Fl r1), (Fl r3), (Fl r5), (Fl r7), (Iv A_g.x), (Iv A_g.y), (Iv A_g.z), (.slice p11 A_g.vals.length q12)]), (Iv 1048576), (Iv i26), (Iv i26), (Bo (icmp .lss i26 0)), (.tuple #[(.agg #[(Fl r55), (Fl r57), (Fl r59)]), (Bo (hasOk A_g x y z))]), (.agg #[(Fl r1), (Fl r3), (Fl r5), (Fl r7), (Iv A_g.x), (Iv A_g.y), (Iv A_g.z), (.slice p11 A_g.vals.length q12)]), (.agg #[(Fl r40), (Fl r42), (Fl r44), (Fl r46), (Iv A_g.x), (Iv A_g.y), (Iv A_g.z), (.slice p50 A_g.vals.length q51)]), (Iv x), (Iv y), (Iv z), (.tuple #[(.agg #[(Fl r55), (Fl r57), (Fl r59)]), (Bo (hasOk A_g x y z))]), (.agg #[(Fl r55), (Fl r57), (Fl r59)]), (Bo (hasOk A_g x y z)), (.agg #[(Fl r1), (Fl r3), (Fl r5), (Fl r7), (Iv A_g.x), (Iv A_g.y), (Iv A_g.z), (.slice p11 A_g.vals.length q12)]), (.agg #[(Fl r82), (Fl r84), (Fl r86), (Fl r88), (Iv A_g.x), (Iv A_g.y), (Iv A_g.z), (.slice p92 A_g.vals.length q93)]), (.tuple #[(.agg #[(Fl r111), (Fl r113), (Fl r115)]), (Bo (hasOk A_g x y z))]), (.agg #[(Fl r82), (Fl r84), (Fl r86), (Fl r88), (Iv A_g.x), (Iv A_g.y), (Iv A_g.z), (.slice p92 A_g.vals.length q93)]), (Iv x), (Iv y), (Iv z), (.tuple #[(.agg #[(Fl r111), (Fl r113), (Fl r115)]), (Bo (hasOk A_g x y z))]), (.agg #[(Fl r111), (Fl r113), (Fl r115)]), (Bo (hasOk A_g x y z)), v134, v135, v136, v137, v138, v139, v140, v141, (Bo ((!β1) || β2)), v157, v158, v159, Ud, Ud]) rfl (fun _ => rfl) (fun u hu hF => ?_) (fun v159 => ?_)
  · have h49_ : v158 = (.agg #[(Fl r1), (Fl r3), (Fl r5), (Fl r7), (Iv A_g.x), (Iv A_g.y), (Iv A_g.z), (.slice p11 A_g.vals.length q12)]) := hF.1
    clear hF
    obtain rfl := h49_
    refine doesG_un rfl ?_
    refine (does_call (args := #[(.agg #[(Fl r1), (Fl r3), (Fl r5), (Fl r7), (Iv A_g.x), (Iv A_g.y), (Iv A_g.z), (.slice p11 A_g.vals.length q12)])]) cal19 (evs rfl) (c_laws_toGrid [(Fl r1), (Fl r3), (Fl r5), (Fl r7), (Iv A_g.x), (Iv A_g.y), (Iv A_g.z), (.slice p11 A_g.vals.length q12)] A_g _ ⟨r1, r3, r5, r7, (.slice p11 A_g.vals.length q12), rfl, h2, h4, h6, h8, (Sl.ext (Sl.ext hs13 RF.mono (Ext.gr X147 E154)) RF.mono hu)⟩ (by omega))).mono ?_; rintro v u' ⟨hx, ⟨csn1, hv, k0⟩⟩
    exact ⟨⟨csn1, hv, (Hang.le k0 (Nat.le_trans (Below.size E154) (Below.size hu)))⟩, hx⟩
  refine RW_d (fun v160 => [(.agg #[(Fl r1), (Fl r3), (Fl r5), (Fl r7), (Iv A_g.x), (Iv A_g.y), (Iv A_g.z), (.slice p11 A_g.vals.length q12)]), (Iv x), (Iv y), (Iv z), (Pt b15 0), Ud, Ud, Ud, (Bo false), (Iv i26), (Pt b62 0), (Bo (hasOk A_g x y z)), (Pt b95 0), (Pt b118 0), (Bo (hasOk A_g x y z)), (.agg #[(Fl r1), (Fl r3), (Fl r5), (Fl r7), (Iv A_g.x), (Iv A_g.y), (Iv A_g.z), (.slice p11 A_g.vals.length q12)]), (Iv 1048576), (Iv i26), (Iv i26), (Bo (icmp .lss i26 0)), (.tuple #[(.agg #[(Fl r55), (Fl r57), (Fl r59)]), (Bo (hasOk A_g x y z))]), (.agg #[(Fl r1), (Fl r3), (Fl r5), (Fl r7), (Iv A_g.x), (Iv A_g.y), (Iv A_g.z), (.slice p11 A_g.vals.length q12)]), (.agg #[(Fl r40), (Fl r42), (Fl r44), (Fl r46), (Iv A_g.x), (Iv A_g.y), (Iv A_g.z), (.slice p50 A_g.vals.length q51)]), (Iv x), (Iv y), (Iv z), (.tuple #[(.agg #[(Fl r55), (Fl r57), (Fl r59)]), (Bo (hasOk A_g x y z))]), (.agg #[(Fl r55), (Fl r57), (Fl r59)]), (Bo (hasOk A_g x y z)), (.agg #[(Fl r1), (Fl r3), (Fl r5), (Fl r7), (Iv A_g.x), (Iv A_g.y), (Iv A_g.z), (.slice p11 A_g.vals.length q12)]), (.agg #[(Fl r82), (Fl r84), (Fl r86), (Fl r88), (Iv A_g.x), (Iv A_g.y), (Iv A_g.z), (.slice p92 A_g.vals.length q93)]), (.tuple #[(.agg #[(Fl r111), (Fl r113), (Fl r115)]), (Bo (hasOk A_g x y z))]), (.agg #[(Fl r82), (Fl r84), (Fl r86), (Fl r88), (Iv A_g.x), (Iv A_g.y), (Iv A_g.z), (.slice p92 A_g.vals.length q93)]), (Iv x), (Iv y), (Iv z), (.tuple #[(.agg #[(Fl r111), (Fl r113), (Fl r115)]), (Bo (hasOk A_g x y z))]), (.agg #[(Fl r111), (Fl r113), (Fl r115)]), (Bo (hasOk A_g x y z)), v134, v135, v136, v137, v138, v139, v140, v141, (Bo ((!β1) || β2)), v157, v158, v159, v160, Ud]) rfl (fun _ => rfl) (fun u hu hF => ?_) (fun v160 => ?_)
  · have h48_ : v157 = (.agg #[(Fl r82), (Fl r84), (Fl r86), (Fl r88), (Iv A_g.x), (Iv A_g.y), (Iv A_g.z), (.slice p92 A_g.vals.length q93)]) := hF.1
    have h50_ : ∃ cs_1 : List Value, v159 = (.agg cs_1.toArray) ∧ Hang w143.heap.size u (fun u => RGridT u A_g cs_1) := hF.2.1
    clear hF
    obtain rfl := h48_
    obtain ⟨cs50_2, rfl, hh50_1⟩ := h50_
    obtain ⟨r50_3, r50_5, r50_7, r50_9, y50_11, rfl, h50_4, h50_6, h50_8, h50_10, h50_12⟩ := hh50_1.get
    have hh50_12 := h50_12; obtain ⟨p50_13, q50_14, rfl⟩ := Sl.shape h50_12
    refine doesG_un rfl ?_
    refine (does_call (args := #[(.agg #[(Fl r82), (Fl r84), (Fl r86), (Fl r88), (Iv A_g.x), (Iv A_g.y), (Iv A_g.z), (.slice p92 A_g.vals.length q93)]), (.agg #[(Fl r50_3), (Fl r50_5), (Fl r50_7), (Fl r50_9), (Iv A_g.x), (Iv A_g.y), (Iv A_g.z), (.slice p50_13 A_g.vals.length q50_14)])]) cal21 (evs rfl) (c_laws_eqGrid [(Fl r82), (Fl r84), (Fl r86), (Fl r88), (Iv A_g.x), (Iv A_g.y), (Iv A_g.z), (.slice p92 A_g.vals.length q93)] A_g [(Fl r50_3), (Fl r50_5), (Fl r50_7), (Fl r50_9), (Iv A_g.x), (Iv A_g.y), (Iv A_g.z), (.slice p50_13 A_g.vals.length q50_14)] A_g _ ⟨r82, r84, r86, r88, (.slice p92 A_g.vals.length q93), rfl, h83, h85, h87, h89, (Sl.ext (hh94 _ ((((((((Same.refl _ _).ext E98).wr W104 (.inr (Nat.le_trans (Below.size (Ext.refl _)) hb96))).ext E109).ext E121).wr W128 (.inr (Nat.le_trans (Below.size (Ext.gr (Below.wr (Ext.gr (Ext.refl _) E98) W104 (Nat.le_trans (Below.size (Ext.refl _)) hb96)) E109)) hb119))).ext E144).ext E154)) RF.mono hu)⟩ ⟨r50_3, r50_5, r50_7, r50_9, (.slice p50_13 A_g.vals.length q50_14), rfl, (by assumption), (by assumption), (by assumption), (by assumption), hh50_12⟩)).mono ?_; rintro v u' ⟨hx, hv⟩
    exact ⟨hv.trans (by simp only [h50_4, h50_6, h50_8, h50_10]), hx⟩
  refine RW_d (fun v161 => [(.agg #[(Fl r1), (Fl r3), (Fl r5), (Fl r7), (Iv A_g.x), (Iv A_g.y), (Iv A_g.z), (.slice p11 A_g.vals.length q12)]), (Iv x), (Iv y), (Iv z), (Pt b15 0), Ud, Ud, Ud, (Bo false), (Iv i26), (Pt b62 0), (Bo (hasOk A_g x y z)), (Pt b95 0), (Pt b118 0), (Bo (hasOk A_g x y z)), (.agg #[(Fl r1), (Fl r3), (Fl r5), (Fl r7), (Iv A_g.x), (Iv A_g.y), (Iv A_g.z), (.slice p11 A_g.vals.length q12)]), (Iv 1048576), (Iv i26), (Iv i26), (Bo (icmp .lss i26 0)), (.tuple #[(.agg #[(Fl r55), (Fl r57), (Fl r59)]), (Bo (hasOk A_g x y z))]), (.agg #[(Fl r1), (Fl r3), (Fl r5), (Fl r7), (Iv A_g.x), (Iv A_g.y), (Iv A_g.z), (.slice p11 A_g.vals.length q12)]), (.agg #[(Fl r40), (Fl r42), (Fl r44), (Fl r46), (Iv A_g.x), (Iv A_g.y), (Iv A_g.z), (.slice p50 A_g.vals.length q51)]), (Iv x), (Iv y), (Iv z), (.tuple #[(.agg #[(Fl r55), (Fl r57), (Fl r59)]), (Bo (hasOk A_g x y z))]), (.agg #[(Fl r55), (Fl r57), (Fl r59)]), (Bo (hasOk A_g x y z)), (.agg #[(Fl r1), (Fl r3), (Fl r5), (Fl r7), (Iv A_g.x), (Iv A_g.y), (Iv A_g.z), (.slice p11 A_g.vals.length q12)]), (.agg #[(Fl r82), (Fl r84), (Fl r86), (Fl r88), (Iv A_g.x), (Iv A_g.y), (Iv A_g.z), (.slice p92 A_g.vals.length q93)]), (.tuple #[(.agg #[(Fl r111), (Fl r113), (Fl r115)]), (Bo (hasOk A_g x y z))]), (.agg #[(Fl r82), (Fl r84), (Fl r86), (Fl r88), (Iv A_g.x), (Iv A_g.y), (Iv A_g.z), (.slice p92 A_g.vals.length q93)]), (Iv x), (Iv y), (Iv z), (.tuple #[(.agg #[(Fl r111), (Fl r113), (Fl r115)]), (Bo (hasOk A_g x y z))]), (.agg #[(Fl r111), (Fl r113), (Fl r115)]), (Bo (hasOk A_g x y z)), v134, v135, v136, v137, v138, v139, v140, v141, (Bo ((!β1) || β2)), v157, v158, v159, v160, v161]) rfl (fun _ => rfl) (fun u hu hF => ?_) (fun v161 => ?_)
  · have h51_ : v160 = (Bo (sameG A_g A_g)) := hF.1
    clear hF
    obtain rfl := h51_
    refine doesG_un rfl ?_
    refine (does_not (ev rfl)).mono ?_; rintro _ _ ⟨rfl, rfl⟩
    exact ⟨rfl, Ext.refl _⟩
  refine RW_fin ?_; intro w162 E163 hP164
  obtain ⟨⟨⟨⟨⟨-, -⟩, -⟩, -⟩, -⟩, q165⟩ := hP164
  have X166 := Ext.gr X156 E163
  have q165 : v161 = (Bo (!(sameG A_g A_g))) := q165
  obtain rfl := q165
  show wpList _ _ _ _ (fr [(.agg #[(Fl r1), (Fl r3), (Fl r5), (Fl r7), (Iv A_g.x), (Iv A_g.y), (Iv A_g.z), (.slice p11 A_g.vals.length q12)]), (Iv x), (Iv y), (Iv z), (Pt b15 0), Ud, Ud, Ud, (Bo false), (Iv i26), (Pt b62 0), (Bo (hasOk A_g x y z)), (Pt b95 0), (Pt b118 0), (Bo (hasOk A_g x y z)), (.agg #[(Fl r1), (Fl r3), (Fl r5), (Fl r7), (Iv A_g.x), (Iv A_g.y), (Iv A_g.z), (.slice p11 A_g.vals.length q12)]), (Iv 1048576), (Iv i26), (Iv i26), (Bo (icmp .lss i26 0)), (.tuple #[(.agg #[(Fl r55), (Fl r57), (Fl r59)]), (Bo (hasOk A_g x y z))]), (.agg #[(Fl r1), (Fl r3), (Fl r5), (Fl r7), (Iv A_g.x), (Iv A_g.y), (Iv A_g.z), (.slice p11 A_g.vals.length q12)]), (.agg #[(Fl r40), (Fl r42), (Fl r44), (Fl r46), (Iv A_g.x), (Iv A_g.y), (Iv A_g.z), (.slice p50 A_g.vals.length q51)]), (Iv x), (Iv y), (Iv z), (.tuple #[(.agg #[(Fl r55), (Fl r57), (Fl r59)]), (Bo (hasOk A_g x y z))]), (.agg #[(Fl r55), (Fl r57), (Fl r59)]), (Bo (hasOk A_g x y z)), (.agg #[(Fl r1), (Fl r3), (Fl r5), (Fl r7), (Iv A_g.x), (Iv A_g.y), (Iv A_g.z), (.slice p11 A_g.vals.length q12)]), (.agg #[(Fl r82), (Fl r84), (Fl r86), (Fl r88), (Iv A_g.x), (Iv A_g.y), (Iv A_g.z), (.slice p92 A_g.vals.length q93)]), (.tuple #[(.agg #[(Fl r111), (Fl r113), (Fl r115)]), (Bo (hasOk A_g x y z))]), (.agg #[(Fl r82), (Fl r84), (Fl r86), (Fl r88), (Iv A_g.x), (Iv A_g.y), (Iv A_g.z), (.slice p92 A_g.vals.length q93)]), (Iv x), (Iv y), (Iv z), (.tuple #[(.agg #[(Fl r111), (Fl r113), (Fl r115)]), (Bo (hasOk A_g x y z))]), (.agg #[(Fl r111), (Fl r113), (Fl r115)]), (Bo (hasOk A_g x y z)), v134, v135, v136, v137, v138, v139, v140, v141, (Bo ((!β1) || β2)), v157, v158, v159, v160, (Bo (!(sameG A_g A_g)))]) _
  refine wpList_nil (hK152 _ _ ?_)
  refine wp_cond_split (t := !(sameG A_g A_g)) (ev rfl) (fun c167 => ?_) (fun c167 => ?_)
  · rw [Bool.not_eq_true'] at c167
    have c167' := c167
    (try simp only [hβ1, hβ2] at c167')
    (try simp only [icmp, Bool.and_eq_true, Bool.or_eq_true, Bool.and_eq_false_iff, Bool.or_eq_false_iff, Bool.not_eq_true', Bool.not_eq_false', decide_eq_true_eq, decide_eq_false_iff_not, beq_iff_eq, bne_iff_ne, beq_eq_false_iff_ne, bne_eq_false_iff_eq] at c167')
    refine wp_seq_k fun K168 hK168 => ?_
    refine wp_region_lit ?_
    refine q_is (l' := [(.agg #[(Fl r1), (Fl r3), (Fl r5), (Fl r7), (Iv A_g.x), (Iv A_g.y), (Iv A_g.z), (.slice p11 A_g.vals.length q12)]), (Iv x), (Iv y), (Iv z), (Pt b15 0), Ud, Ud, Ud, (Bo false), (Iv i26), (Pt b62 0), (Bo (hasOk A_g x y z)), (Pt b95 0), (Pt b118 0), (Bo (hasOk A_g x y z)), (.agg #[(Fl r1), (Fl r3), (Fl r5), (Fl r7), (Iv A_g.x), (Iv A_g.y), (Iv A_g.z), (.slice p11 A_g.vals.length q12)]), (Iv 1048576), (Iv i26), (Iv i26), (Bo (icmp .lss i26 0)), (.tuple #[(.agg #[(Fl r55), (Fl r57), (Fl r59)]), (Bo (hasOk A_g x y z))]), (.agg #[(Fl r1), (Fl r3), (Fl r5), (Fl r7), (Iv A_g.x), (Iv A_g.y), (Iv A_g.z), (.slice p11 A_g.vals.length q12)]), (.agg #[(Fl r40), (Fl r42), (Fl r44), (Fl r46), (Iv A_g.x), (Iv A_g.y), (Iv A_g.z), (.slice p50 A_g.vals.length q51)]), (Iv x), (Iv y), (Iv z), (.tuple #[(.agg #[(Fl r55), (Fl r57), (Fl r59)]), (Bo (hasOk A_g x y z))]), (.agg #[(Fl r55), (Fl r57), (Fl r59)]), (Bo (hasOk A_g x y z)), (.agg #[(Fl r1), (Fl r3), (Fl r5), (Fl r7), (Iv A_g.x), (Iv A_g.y), (Iv A_g.z), (.slice p11 A_g.vals.length q12)]), (.agg #[(Fl r82), (Fl r84), (Fl r86), (Fl r88), (Iv A_g.x), (Iv A_g.y), (Iv A_g.z), (.slice p92 A_g.vals.length q93)]), (.tuple #[(.agg #[(Fl r111), (Fl r113), (Fl r115)]), (Bo (hasOk A_g x y z))]), (.agg #[(Fl r82), (Fl r84), (Fl r86), (Fl r88), (Iv A_g.x), (Iv A_g.y), (Iv A_g.z), (.slice p92 A_g.vals.length q93)]), (Iv x), (Iv y), (Iv z), (.tuple #[(.agg #[(Fl r111), (Fl r113), (Fl r115)]), (Bo (hasOk A_g x y z))]), (.agg #[(Fl r111), (Fl r113), (Fl r115)]), (Bo (hasOk A_g x y z)), v134, v135, v136, v137, v138, v139, v140, v141, (Bo ((!β1) || β2)), v157, v158, v159, v160, (Bo (!(sameG A_g A_g)))]) rfl rfl (does_assign (u := (Bo false)) (ev rfl)) rfl ?_
    refine wpList_nil (hK168 _ _ ?_)
    refine wp_ret ?_
    dsimp only [Exit.then, Exit.inBlock]
    refine ret_val (v := (Bo false)) (res_T rfl (slot rfl)) X166 ?_
    try simp only [h2, h4, h6, h8, h41, h43, h45, h47, h56, h58, h60, h83, h85, h87, h89, h112, h114, h116, hβ1, hβ2] at c31 c148 c167
    have x169 : true = false := by first | rfl | (simp only [sameF_self, sameV_self, sameG_self, bne_self_eq_false, icmp, h2, h4, h6, h8, h41, h43, h45, h47, h56, h58, h60, h83, h85, h87, h89, h112, h114, h116, hβ1, hβ2, c31, c148, c167]; done) | (simp [sameF_self, sameV_self, sameG_self, bne_self_eq_false, icmp, h2, h4, h6, h8, h41, h43, h45, h47, h56, h58, h60, h83, h85, h87, h89, h112, h114, h116, hβ1, hβ2, c31, c148, c167]; done) | (revert c31 c148 c167; simp +contextual [sameF_self, sameV_self, sameG_self, bne_self_eq_false, icmp, h2, h4, h6, h8, h41, h43, h45, h47, h56, h58, h60, h83, h85, h87, h89, h112, h114, h116, hβ1, hβ2]; done) | (rcases c31' with hh | hh <;> simp only [hh, sameF_self, sameV_self, sameG_self, bne_self_eq_false, icmp, h2, h4, h6, h8, h41, h43, h45, h47, h56, h58, h60, h83, h85, h87, h89, h112, h114, h116, hβ1, hβ2, c31, c148, c167]; done) | (rcases c148' with hh | hh <;> simp only [hh, sameF_self, sameV_self, sameG_self, bne_self_eq_false, icmp, h2, h4, h6, h8, h41, h43, h45, h47, h56, h58, h60, h83, h85, h87, h89, h112, h114, h116, hβ1, hβ2, c31, c148, c167]; done) | (rcases c167' with hh | hh <;> simp only [hh, sameF_self, sameV_self, sameG_self, bne_self_eq_false, icmp, h2, h4, h6, h8, h41, h43, h45, h47, h56, h58, h60, h83, h85, h87, h89, h112, h114, h116, hβ1, hβ2, c31, c148, c167]; done) | (rcases c167' with hh | hh <;> simp_all [sameF_self, sameV_self, sameG_self, bne_self_eq_false, icmp]; done) | (rcases c167' with hh | hh | hh <;> simp_all [sameF_self, sameV_self, sameG_self, bne_self_eq_false, icmp]; done) | (rcases c167' with hh | hh | hh | hh <;> simp_all [sameF_self, sameV_self, sameG_self, bne_self_eq_false, icmp]; done) | (simp_all [sameF_self, sameV_self, sameG_self, bne_self_eq_false, icmp]; done)
    exact (by first | rfl | rw [x169])
  rw [Bool.not_eq_false'] at c167
  have c167' := c167
  (try simp only [hβ1, hβ2] at c167')
  (try simp only [icmp, Bool.and_eq_true, Bool.or_eq_true, Bool.and_eq_false_iff, Bool.or_eq_false_iff, Bool.not_eq_true', Bool.not_eq_false', decide_eq_true_eq, decide_eq_false_iff_not, beq_iff_eq, bne_iff_ne, beq_eq_false_iff_ne, bne_eq_false_iff_eq] at c167')
  refine wp_skip (hK151 _ _ ?_)
  refine wp_seq_k fun K170 hK170 => ?_
  refine wp_region_lit ?_
  refine q_is (l' := [(.agg #[(Fl r1), (Fl r3), (Fl r5), (Fl r7), (Iv A_g.x), (Iv A_g.y), (Iv A_g.z), (.slice p11 A_g.vals.length q12)]), (Iv x), (Iv y), (Iv z), (Pt b15 0), Ud, Ud, Ud, (Bo true), (Iv i26), (Pt b62 0), (Bo (hasOk A_g x y z)), (Pt b95 0), (Pt b118 0), (Bo (hasOk A_g x y z)), (.agg #[(Fl r1), (Fl r3), (Fl r5), (Fl r7), (Iv A_g.x), (Iv A_g.y), (Iv A_g.z), (.slice p11 A_g.vals.length q12)]), (Iv 1048576), (Iv i26), (Iv i26), (Bo (icmp .lss i26 0)), (.tuple #[(.agg #[(Fl r55), (Fl r57), (Fl r59)]), (Bo (hasOk A_g x y z))]), (.agg #[(Fl r1), (Fl r3), (Fl r5), (Fl r7), (Iv A_g.x), (Iv A_g.y), (Iv A_g.z), (.slice p11 A_g.vals.length q12)]), (.agg #[(Fl r40), (Fl r42), (Fl r44), (Fl r46), (Iv A_g.x), (Iv A_g.y), (Iv A_g.z), (.slice p50 A_g.vals.length q51)]), (Iv x), (Iv y), (Iv z), (.tuple #[(.agg #[(Fl r55), (Fl r57), (Fl r59)]), (Bo (hasOk A_g x y z))]), (.agg #[(Fl r55), (Fl r57), (Fl r59)]), (Bo (hasOk A_g x y z)), (.agg #[(Fl r1), (Fl r3), (Fl r5), (Fl r7), (Iv A_g.x), (Iv A_g.y), (Iv A_g.z), (.slice p11 A_g.vals.length q12)]), (.agg #[(Fl r82), (Fl r84), (Fl r86), (Fl r88), (Iv A_g.x), (Iv A_g.y), (Iv A_g.z), (.slice p92 A_g.vals.length q93)]), (.tuple #[(.agg #[(Fl r111), (Fl r113), (Fl r115)]), (Bo (hasOk A_g x y z))]), (.agg #[(Fl r82), (Fl r84), (Fl r86), (Fl r88), (Iv A_g.x), (Iv A_g.y), (Iv A_g.z), (.slice p92 A_g.vals.length q93)]), (Iv x), (Iv y), (Iv z), (.tuple #[(.agg #[(Fl r111), (Fl r113), (Fl r115)]), (Bo (hasOk A_g x y z))]), (.agg #[(Fl r111), (Fl r113), (Fl r115)]), (Bo (hasOk A_g x y z)), v134, v135, v136, v137, v138, v139, v140, v141, (Bo ((!β1) || β2)), v157, v158, v159, v160, (Bo (!(sameG A_g A_g)))]) rfl rfl (does_assign (u := (Bo true)) (ev rfl)) rfl ?_
  refine wpList_nil (hK170 _ _ ?_)
  refine wp_ret ?_
  refine ret_val (v := (Bo true)) (res_T rfl (slot rfl)) X166 ?_
  try simp only [h2, h4, h6, h8, h41, h43, h45, h47, h56, h58, h60, h83, h85, h87, h89, h112, h114, h116, hβ1, hβ2] at c31 c148 c167
  exact rfl

end Go.Proofs.Ytibfpalicagadaa
